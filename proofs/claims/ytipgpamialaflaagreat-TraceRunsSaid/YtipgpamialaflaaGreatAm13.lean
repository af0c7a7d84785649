/-
  AM, PART 13: aggregates and literals built.
-/
import Derived.Test.YtipgpamialaflaaGreatAm12
import Derived.Laws.Tables
set_option linter.unusedVariables false
set_option linter.unusedSimpArgs false
namespace Go.Am
open Go Go.RowKit

theorem put_nil {α : Type} (l : List α) (off : Nat) : put l off [] = l := by simp [put]
theorem set_put {α : Type} (l : List α) (off : Nat) (v : α) (rest : List α) (h : off + (rest.length + 1) ≤ l.length) : put (l.set off v) (off + 1) rest = put l off (v :: rest) := by
  apply List.ext_getElem?
  intro m
  rw [put_get _ _ _ (by rw [List.length_set]; omega), put_get _ _ _ (by simpa using h)]
  by_cases h1 : off + 1 ≤ m ∧ m < off + 1 + rest.length
  · rw [if_pos h1, if_pos (by simp; omega)]
    obtain ⟨q, rfl⟩ : ∃ q, m = off + 1 + q := ⟨m - (off + 1), by omega⟩
    have e1 : off + 1 + q - (off + 1) = q := by omega
    have e2 : off + 1 + q - off = q + 1 := by omega
    rw [e1, e2, List.getElem?_cons_succ]
  · rw [if_neg h1]
    by_cases h2 : m = off
    · subst h2
      rw [if_pos (by simp), List.getElem?_set_self (by omega)]
      simp
    · rw [if_neg (by simp; omega), List.getElem?_set_ne (by omega)]
theorem foldl_put (off : Nat) : ∀ (vs : List Value) (j : Nat) (cells : Array Value), off + j + vs.length ≤ cells.size → (((vs.zipIdx j).foldl (fun (cs : Array Value) x => cs.setIfInBounds (off + x.2) x.1) cells)).toList = put cells.toList (off + j) vs
  | [], j, cells, _ => by simp [put_nil]
  | v :: vs, j, cells, h => by
    simp only [List.zipIdx_cons, List.foldl_cons]
    rw [foldl_put off vs (j + 1) _ (by simp at h ⊢; omega)]
    rw [Array.toList_setIfInBounds, ← Nat.add_assoc]
    exact set_put _ _ _ _ (by simp at h ⊢; omega)
theorem RepCs.single {w : World} {cx : Cx} (place : Nat → Option (Nat × Nat)) : ∀ (parts : List (Nat × AV)) (vals : List (Nat × Value)) (cells : List CV) (cs : Array Value) (l : List CV), RepCs w cx cells cs.toList → parts.length = vals.length →
    (∀ (i : Nat) (x : Nat × AV) (y : Nat × Value), parts[i]? = some x → vals[i]? = some y → x.1 = y.1 ∧ RepA w cx x.2 y.2) → fillA place cells parts = some l → ∃ cs', Instr.fill place cs vals = some cs' ∧ RepCs w cx l cs'.toList
  | [], [], cells, cs, l, h, _, _, hf => by
    simp [fillA] at hf
    subst hf
    exact ⟨cs, rfl, h⟩
  | (i, x) :: parts, (i', v) :: vals, cells, cs, l, h, hlen, hp, hf => by
    obtain ⟨h1, h2⟩ := hp 0 (i, x) (i', v) rfl rfl
    simp only at h1 h2
    subst h1
    simp only [fillA] at hf
    cases hpl : place i with
    | none => rw [hpl] at hf; simp at hf
    | some ps =>
      obtain ⟨off, size⟩ := ps
      cases hc : x.cells? with
      | none => rw [hpl, hc] at hf; simp at hf
      | some vs =>
        rw [hpl, hc] at hf
        simp only at hf
        cases hb : (Nat.beq vs.length size && Nat.ble (off + size) cells.length) with
        | false => rw [hb] at hf; cases hf
        | true =>
          rw [hb] at hf
          rw [Bool.and_eq_true] at hb
          have e1 := Nat.eq_of_beq_eq_true hb.1
          have e2 := Nat.le_of_ble_eq_true hb.2
          obtain ⟨us, hus, hru⟩ := h2.cells hc
          have hul : us.length = size := by rw [← hru.len, e1]
          have hcs : cs.toList.length = cells.length := h.len.symm
          have hfit : off + 0 + us.length ≤ cs.size := by rw [hul]; rw [Array.length_toList] at hcs; omega
          have hfold : (v.cells.zipIdx.foldl (fun cs (x : Value × Nat) => cs.setIfInBounds (off + x.2) x.1) cs).toList = Am.put cs.toList off us := by
            rw [hus]
            have := foldl_put off us 0 cs hfit
            rw [← Array.foldl_toList]
            simpa using this
          have hput : RepCs w cx (Am.put cells off vs) (v.cells.zipIdx.foldl (fun cs (x : Value × Nat) => cs.setIfInBounds (off + x.2) x.1) cs).toList := by
            rw [hfold]
            exact h.put hru (by rw [e1]; exact e2)
          obtain ⟨cs', hf1, hf2⟩ := RepCs.single place parts vals _ _ l hput (by simpa using hlen) (fun j x y hx hy => hp (j + 1) x y (by simpa using hx) (by simpa using hy)) (by simpa using hf)
          refine ⟨cs', ?_, hf2⟩
          simp only [Instr.fill, hpl]
          rw [if_neg]
          · exact hf1
          · rw [hus]
            simp only [List.size_toArray, hul, ne_eq, not_true_eq_false, decide_false, Bool.false_or, decide_eq_true_eq]
            rw [Array.length_toList] at hcs
            omega
  | [], _ :: _, _, _, _, _, hlen, _, _ => by simp at hlen
  | _ :: _, [], _, _, _, _, hlen, _, _ => by simp at hlen
theorem places_get (P : Program) (fs : List Field) (places : List (Nat × Nat)) (h : fs.mapM (fun f => (P.info? f.type).map fun i => (f.offset, i.size)) = some places) (i : Nat) : places[i]? = (fs[i]?).bind fun f => (P.info? f.type).map fun i => (f.offset, i.size) := by
  induction fs generalizing places i with
  | nil => simp at h; subst h; simp
  | cons f fs ih =>
    simp only [List.mapM_cons, Option.bind_eq_bind, Option.pure_def] at h
    cases hi : P.info? f.type with
    | none => simp [hi] at h
    | some q =>
      cases hr : fs.mapM (fun f => (P.info? f.type).map fun i => (f.offset, i.size)) with
      | none => simp [hi, hr] at h
      | some rest =>
        simp [hi, hr] at h
        subst h
        cases i with
        | zero => simp [hi]
        | succ i => simpa using ih rest hr i

theorem placeOf_get {P : Program} {t : TypeId} {fs : Array Field} (hu : P.underlying t = some (.struct fs)) {places : List (Nat × Nat)} (hp : fs.toList.mapM (fun f => (P.info? f.type).map fun i => (f.offset, i.size)) = some places) {i : Nat} {q : Nat × Nat} (h : placeOf P t i = some q) : (places.toArray)[i]? = some q := by
  unfold placeOf at h
  split at h
  · rename_i f hf
    obtain ⟨fs', hu', hfs⟩ := fieldOf_some hf
    rw [hu] at hu'
    injection hu' with hu'
    injection hu' with hu'
    subst hu'
    cases hs : sizeB P f.type with
    | none => rw [hs] at h; cases h
    | some s =>
      rw [hs] at h
      simp only [Option.map_some, Option.some.injEq] at h
      subst h
      obtain ⟨inf, hi, his⟩ := underlying_of_info hs
      have := places_get P _ _ hp i
      simp only [List.getElem?_toArray]
      rw [this, Array.getElem?_toList, hfs]
      simp [hi, his]
  · cases h
theorem fill_mono {p q : Nat → Option (Nat × Nat)} (hpq : ∀ i x, p i = some x → q i = some x) : ∀ (vals : List (Nat × Value)) (cs cs' : Array Value), Instr.fill p cs vals = some cs' → Instr.fill q cs vals = some cs'
  | [], cs, cs', h => h
  | (i, v) :: rest, cs, cs', h => by
    simp only [Instr.fill] at h ⊢
    cases hp : p i with
    | none => rw [hp] at h; cases h
    | some x =>
      obtain ⟨off, size⟩ := x
      rw [hp] at h
      rw [hpq i _ hp]
      simp only at h ⊢
      split at h
      · cases h
      · rename_i hc
        rw [if_neg hc]
        exact fill_mono hpq rest _ _ h
theorem places_some (P : Program) : ∀ (fs : List Field), fs.all (fun f => (P.info? f.type).isSome) = true → ∃ places, fs.mapM (fun f => (P.info? f.type).map fun i => (f.offset, i.size)) = some places
  | [], _ => ⟨[], rfl⟩
  | f :: fs, h => by
    simp only [List.all_cons, Bool.and_eq_true] at h
    obtain ⟨i, hi⟩ := Option.isSome_iff_exists.1 h.1
    obtain ⟨ps, hps⟩ := places_some P fs h.2
    exact ⟨(f.offset, i.size) :: ps, by simp [List.mapM_cons, hi, hps]⟩
theorem build_OK {P : Program} {o : Oper} {E : Env} {S : St} {a : Act} {w : World} {cx : Cx} (h : Sim E S a w cx) (hd : ∀ d, o.dst = some d → d < E.n) {t : TypeId} {parts : Array (Nat × Operand)} (ho : o.op = .build t parts) {fs : Array Field} (hu : P.underlying t = some (.struct fs)) {z : List CV} (hz : zeroB P t = some z)
    (hall : fs.toList.all (fun f => (P.info? f.type).isSome) = true) {l : List CV} (hf : fillA (placeOf P t) z (parts.toList.map fun x => (x.1, Am.ov S.sl x.2)) = some l) : OK P o E (applyD S o.dst { val := .agg l }) a w := by
  obtain ⟨places, hpl⟩ := places_some P _ hall
  unfold zeroB at hz
  cases hi : P.info? t with
  | none => rw [hi] at hz; simp at hz
  | some it =>
    cases hzz : it.zero with
    | none => rw [hi] at hz; simp [hzz] at hz
    | some zv =>
      rw [hi] at hz
      simp only [Option.bind_some, hzz] at hz
      split at hz
      · rename_i hone
        injection hz with hz
        have hz0 : RepCs w cx z zv.cells.toList := by
          subst hz
          refine ⟨by simp, fun u hu => ?_, fun i x u hx hu => ?_⟩
          · rw [← oneB_eq]; exact List.all_eq_true.1 hone u hu
          · rw [List.getElem?_map, hu] at hx
            injection hx with hx
            subst hx
            exact cConst_rep w cx u
        obtain ⟨cs', h1, h2⟩ := RepCs.single (w := w) (cx := cx) (placeOf P t) (parts.toList.map fun x => (x.1, Am.ov S.sl x.2)) (parts.toList.map fun x => (x.1, a.eval x.2)) z zv.cells l hz0 (by simp) (fun i x y hx hy => by
          simp only [List.getElem?_map] at hx hy
          cases hp : parts.toList[i]? with
          | none => rw [hp] at hx; cases hx
          | some q =>
            rw [hp] at hx hy
            injection hx with hx
            injection hy with hy
            subst hx
            subst hy
            exact ⟨rfl, h.ov q.2⟩) hf
        have h3 := fill_mono (q := (places.toArray[·]?)) (fun i x hx => placeOf_get hu hpl hx) _ _ _ h1
        have hb : P.built t ((parts.map fun x => (x.1, a.eval x.2)).toList) = some cs' := by
          unfold Program.built
          simp only [hi, hu, hzz, hpl, Array.toList_map]
          exact h3
        refine .pure h hd (v := .agg cs') ?_ ?_
        · simp only [execOp, ho, Sem.run_bind]
          have := run_build (P := P) w t (parts.map fun x => (x.1, a.eval x.2)) cs' hb
          rw [this]
          rfl
        · have := RepA.agg (w := w) (cx := cx) l cs'.toList h2.len h2.one h2.rep
          simpa using this
      · cases hz

/-! ### A slice literal -/
theorem put_put {α : Type} (l : List α) (off : Nat) (x y : List α) (h : off + (x.length + y.length) ≤ l.length) : put (put l off x) (off + x.length) y = put l off (x ++ y) := by
  apply List.ext_getElem?
  intro m
  have hx : off + x.length ≤ l.length := by omega
  rw [put_get _ _ _ (by rw [put_length _ _ _ hx]; omega), put_get _ _ _ hx, put_get _ _ _ (by rw [List.length_append]; exact h)]
  rw [List.length_append]
  by_cases a : off ≤ m ∧ m < off + x.length
  · rw [if_neg (by omega), if_pos a, if_pos (by omega), List.getElem?_append_left (by omega)]
  · by_cases b : off + x.length ≤ m ∧ m < off + x.length + y.length
    · rw [if_pos b, if_pos (by omega), List.getElem?_append_right (by omega)]
      congr 1
      omega
    · rw [if_neg b, if_neg a, if_neg (by omega)]
theorem fill_row (k : Nat) : ∀ (vals : List (Nat × Value)) (us : List (List Value)) (j : Nat) (cs : Array Value), vals.length = us.length → (∀ (i : Nat) (x : Nat × Value) (u : List Value), vals[i]? = some x → us[i]? = some u → x.1 = j + i ∧ x.2.cells = u.toArray ∧ u.length = k) →
    (j + vals.length) * k ≤ cs.size → ∃ cs', Instr.fill (fun i => some (i * k, k)) cs vals = some cs' ∧ cs'.toList = put cs.toList (j * k) us.flatten
  | [], [], j, cs, _, _, _ => ⟨cs, rfl, by simp [put_nil]⟩
  | (i, v) :: vals, u :: us, j, cs, hl, hp, hs => by
    obtain ⟨h1, h2, h3⟩ := hp 0 (i, v) u rfl rfl
    simp only [Nat.add_zero] at h1 h2
    subst h1
    have hfit : i * k + 0 + u.length ≤ cs.size := by
      rw [h3, Nat.add_zero]
      refine Nat.le_trans ?_ hs
      simp only [List.length_cons]
      rw [← Nat.succ_mul]
      exact Nat.mul_le_mul_right k (by omega)
    have hfold : (v.cells.zipIdx.foldl (fun cs (x : Value × Nat) => cs.setIfInBounds (i * k + x.2) x.1) cs).toList = put cs.toList (i * k) u := by
      rw [h2]
      have := foldl_put (i * k) u 0 cs hfit
      rw [← Array.foldl_toList]
      simpa using this
    have hsz : (v.cells.zipIdx.foldl (fun cs (x : Value × Nat) => cs.setIfInBounds (i * k + x.2) x.1) cs).size = cs.size := by
      rw [← Array.length_toList, hfold, put_length _ _ _ (by simpa using hfit), Array.length_toList]
    obtain ⟨cs', hf1, hf2⟩ := fill_row k vals us (i + 1) _ (by simpa using hl) (fun q x y hx hy => by
      obtain ⟨a1, a2, a3⟩ := hp (q + 1) x y (by simpa using hx) (by simpa using hy)
      exact ⟨by omega, a2, a3⟩) (by rw [hsz]; simp only [List.length_cons] at hs; rw [show i + 1 + vals.length = i + (vals.length + 1) by omega]; exact hs)
    refine ⟨cs', ?_, ?_⟩
    · simp only [Instr.fill]
      rw [if_neg]
      · exact hf1
      · rw [h2]
        simp only [List.size_toArray, h3, ne_eq, not_true_eq_false, decide_false, Bool.false_or, decide_eq_true_eq]
        rw [h3] at hfit
        omega
    · have hus : us.flatten.length = us.length * k := by
        have : ∀ (us : List (List Value)), (∀ u ∈ us, u.length = k) → us.flatten.length = us.length * k := by
          intro us
          induction us with
          | nil => simp
          | cons a l ih => intro h; simp only [List.flatten_cons, List.length_append, List.length_cons]; rw [h a (by simp), ih (fun u hu => h u (by simp [hu])), Nat.succ_mul]; omega
        refine this us fun x hx => ?_
        obtain ⟨q, hq⟩ := List.getElem?_of_mem hx
        have hql : q < us.length := (List.getElem?_eq_some_iff.1 hq).1
        have hql' : q < vals.length := by simp at hl; omega
        exact (hp (q + 1) vals[q] x (by simp [List.getElem?_eq_getElem hql']) (by simpa using hq)).2.2
      rw [hf2, hfold, List.flatten_cons, Nat.succ_mul]
      conv => lhs; rw [show i * k + k = i * k + u.length by rw [h3]]
      refine put_put _ _ _ _ ?_
      rw [hus, h3, show cs.toList.length = cs.size from Array.length_toList]
      refine Nat.le_trans ?_ hs
      simp only [List.length_cons] at hl ⊢
      have : us.length = vals.length := by omega
      rw [this, show i + (vals.length + 1) = i + 1 + vals.length by omega, Nat.add_mul, Nat.succ_mul]
      omega
  | [], _ :: _, _, _, hl, _, _ => by simp at hl
  | _ :: _, [], _, _, hl, _, _ => by simp at hl
theorem put_all {α : Type} (l new : List α) (h : new.length = l.length) : put l 0 new = new := by
  simp [put, h]

end Go.Am
