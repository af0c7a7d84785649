/-
  AM, PART 18: maps.
-/
import Derived.Test.YtipgpamialaflaaGreatAm17
set_option linter.unusedVariables false
set_option linter.unusedSimpArgs false
namespace Go.Am
open Go Go.RowKit

theorem beqB_eq {a b : Bool} (h : beqB a b = true) : a = b := by cases a <;> cases b <;> simp_all [beqB]
theorem keyA_run {P : Program} {w : World} {pr : Nat → Nat → Prop} (em : Bool) : ∀ (d : Nat) (t : TypeId) (xs : List PV), keyA P d t xs = true → ∀ (D : Nat), d ≤ D → ∀ (vs : List Value), RepPs w pr xs vs → (Instr.checkKey em D t (valT P t vs)).run P w = .ok () w := by
  intro d
  induction d with
  | zero => intro t xs h; simp [keyA] at h
  | succ d ih =>
    intro t xs h D hD vs hx
    obtain ⟨D, rfl⟩ : ∃ m, D = m + 1 := ⟨D - 1, by omega⟩
    unfold keyA at h
    cases hu : P.underlying t with
    | none => rw [hu] at h; cases h
    | some dd =>
      rw [hu] at h
      unfold Instr.checkKey
      simp only [Sem.run_bind, run_underlying hu, Result.andThen_ok]
      cases dd <;> simp only at h <;> try (cases h; done)
      case bool => simp
      case int k => simp
      case string => simp
      case struct fs =>
        have hagg : aggB P t = true := by unfold aggB; rw [hu]
        unfold valT
        simp only [hagg, if_true]
        rw [← Array.forIn_toList]
        generalize fs.toList = l at h
        induction l with
        | nil => simp
        | cons f l ihl =>
          simp only [keyFs] at h
          split at h
          · cases h
          · rename_i s hs
            split at h
            · rename_i x hcx
              simp only [Bool.and_eq_true] at h
              obtain ⟨⟨⟨h1, h2⟩, h3⟩, h4⟩ := h
              have hs0 : 0 < s := by simpa [Nat.blt_eq] using h1
              obtain ⟨dd, hud⟩ := underlying_of_size hs
              have h2' : aggB P f.type = true ∨ s = 1 := by
                rcases Bool.or_eq_true _ _ ▸ h2 with h2 | h2
                · exact .inl h2
                · exact .inr (Nat.eq_of_beq_eq_true h2)
              have fit : f.offset + s ≤ vs.length := by
                rcases cut_some hcx with ⟨_, _, h5⟩ | ⟨h5, _⟩
                · rw [← hx.1]; exact h5
                · omega
              have hrest := ihl h4
              rw [List.forIn_cons]
              by_cases hn : f.name = "_"
              · simp only [hn, ne_eq, not_true_eq_false, if_false, Sem.run_bind, Sem.run_pure, Result.andThen_ok]
                simpa only [Sem.run_bind, Sem.run_pure, ne_eq] using hrest
              · simp only [ne_eq, hn, not_false_eq_true, if_true, Sem.run_bind, run_part hud hs _ _ fit h2', Result.andThen_ok, ih f.type x h3 D (by omega) _ (hx.cut hcx), Sem.run_pure]
                simpa only [Sem.run_bind, Sem.run_pure, ne_eq] using hrest
            · cases h
theorem RepL.pvs {w : World} {pr : Nat → Nat → Prop} {ag : Bool} {l : List PV} {v : Value} (h : RepL w pr ag l v) : ∃ vs : List Value, RepPs w pr l vs ∧ v = (if ag then .agg vs.toArray else vs.headD undef) ∧ v.cells = vs.toArray := by
  unfold RepL at h
  cases ag with
  | true =>
    simp only [if_true] at h ⊢
    obtain ⟨vs, h1, h2, h3, h4⟩ := h
    exact ⟨vs, ⟨h2.symm, h3, h4⟩, h1, by rw [h1]; rfl⟩
  | false =>
    simp only [Bool.false_eq_true, if_false] at h ⊢
    obtain ⟨x, h1, h2, h3⟩ := h
    subst h1
    refine ⟨[v], ⟨rfl, by simpa using h2, fun i y u hy hu => ?_⟩, rfl, by cases v <;> simp_all [Value.cells, Value.oneCell']⟩
    cases i with
    | zero => simp at hy hu; subst hy; subst hu; exact h3
    | succ i => simp at hy
theorem RepL.val {P : Program} {w : World} {pr : Nat → Nat → Prop} {t : TypeId} {ag : Bool} (ha : ag = aggB P t) {l : List PV} {v : Value} (h : RepL w pr ag l v) : ∃ vs, RepPs w pr l vs ∧ v = valT P t vs := by
  obtain ⟨vs, h1, h2, _⟩ := h.pvs
  subst ha
  exact ⟨vs, h1, h2⟩

/-! ### Finding a key -/
/-- What was found, there and here. -/
def Found (i : Nat) (es : List (List PV × List PV)) (ents : List MapEntry) (f : Option (Nat × (List PV × List PV))) (g : Option (Nat × Value)) : Prop :=
  (f = none ∧ g = none) ∨ ∃ j e en, f = some (i + j, e) ∧ es[j]? = some e ∧ ents[j]? = some en ∧ g = some (i + j, en.val)
theorem Found.step {i : Nat} {es : List (List PV × List PV)} {ents : List MapEntry} {f : Option (Nat × (List PV × List PV))} {g : Option (Nat × Value)} (h : Found (i + 1) es ents f g) (e : List PV × List PV) (en : MapEntry) : Found i (e :: es) (en :: ents) f g := by
  rcases h with h | ⟨j, e', en', h1, h2, h3, h4⟩
  · exact .inl h
  · exact .inr ⟨j + 1, e', en', by rw [h1]; congr 2; omega, by simpa using h2, by simpa using h3, by rw [h4]; congr 2; omega⟩
theorem find_leaf {P : Program} {w : World} {pr : Nat → Nat → Prop} {kt : TypeId} {dd : TypeDesc} (hu : P.underlying kt = some dd) (hd : dd = .bool ∨ (∃ k, dd = .int k) ∨ dd = .string) {kv : List PV} {key : Value} (hk : RepL w pr false kv key) :
    ∀ (es : List (List PV × List PV)) (ents : List MapEntry) (i : Nat) (f : Option (Nat × (List PV × List PV))), es.length = ents.length → (∀ (j : Nat) (e : List PV × List PV) (en : MapEntry), es[j]? = some e → ents[j]? = some en → RepL w pr false e.1 en.key) → mapFind P kt kv es i = some f → ∃ g, Instr.findNow dd key ents i = some g ∧ Found i es ents f g
  | [], [], i, f, _, _, hf => by
    simp only [mapFind, Option.some.injEq] at hf
    exact ⟨none, rfl, .inl ⟨hf.symm, rfl⟩⟩
  | (k, v) :: es, en :: ents, i, f, hl, hr, hf => by
    simp only [mapFind] at hf
    cases he : eqA P 12 kt kv k with
    | none => rw [he] at hf; cases hf
    | some b =>
      rw [he] at hf
      simp only at hf
      have hsame : Instr.sameNow dd key en.key = some b := by
        have h1 := hr 0 (k, v) en rfl rfl
        generalize en.key = K at h1 ⊢
        unfold RepL at hk h1
        simp only [Bool.false_eq_true, if_false] at hk h1
        obtain ⟨x, rfl, _, hx⟩ := hk
        obtain ⟨y, hy, _, hy'⟩ := h1
        subst hy
        unfold eqA at he
        rw [hu] at he
        rcases hd with rfl | ⟨kk, rfl⟩ | rfl
        · simp only at he
          split at he
          · rename_i a c h5 h6
            injection h5 with h5 _
            injection h6 with h6 _
            subst h5
            subst h6
            cases hx
            cases hy'
            simpa [Instr.sameNow] using he
          · cases he
        · simp only at he
          split at he
          · rename_i k1 a k2 c h5 h6
            injection h5 with h5 _
            injection h6 with h6 _
            subst h5
            subst h6
            split at he
            · rename_i hkk
              subst hkk
              cases hx
              cases hy'
              simpa [Instr.sameNow] using he
            · cases he
          · cases he
        · simp only at he
          split at he
          · rename_i a c h5 h6
            injection h5 with h5 _
            injection h6 with h6 _
            subst h5
            subst h6
            cases hx
            cases hy'
            simpa [Instr.sameNow] using he
          · cases he
      cases b with
      | true =>
        simp only [if_true, Option.some.injEq] at hf
        refine ⟨some (i, en.val), by simp [Instr.findNow, hsame], .inr ⟨0, (k, v), en, hf.symm, rfl, rfl, rfl⟩⟩
      | false =>
        simp only [Bool.false_eq_true, if_false] at hf
        obtain ⟨g, h1, h2⟩ := find_leaf hu hd hk es ents (i + 1) f (by simpa using hl) (fun j e en' h1 h2 => hr (j + 1) e en' (by simpa using h1) (by simpa using h2)) hf
        exact ⟨g, by simp [Instr.findNow, hsame, h1], h2.step _ _⟩
  | [], _ :: _, _, _, hl, _, _ => by simp at hl
  | _ :: _, [], _, _, hl, _, _ => by simp at hl
theorem find_ask {P : Program} {w : World} {pr : Nat → Nat → Prop} {kt : TypeId} {ka : Bool} (ha : ka = aggB P kt) {kv : List PV} {key : Value} (hk : RepL w pr ka kv key) :
    ∀ (es : List (List PV × List PV)) (ents : List MapEntry) (i : Nat) (f : Option (Nat × (List PV × List PV))), es.length = ents.length → (∀ (j : Nat) (e : List PV × List PV) (en : MapEntry), es[j]? = some e → ents[j]? = some en → RepL w pr ka e.1 en.key) → mapFind P kt kv es i = some f → ∃ g, (Instr.findAsking kt key ents i).run P w = .ok g w ∧ Found i es ents f g
  | [], [], i, f, _, _, hf => by
    simp only [mapFind, Option.some.injEq] at hf
    exact ⟨none, by simp [Instr.findAsking], .inl ⟨hf.symm, rfl⟩⟩
  | (k, v) :: es, en :: ents, i, f, hl, hr, hf => by
    simp only [mapFind] at hf
    cases he : eqA P 12 kt kv k with
    | none => rw [he] at hf; cases hf
    | some b =>
      rw [he] at hf
      simp only at hf
      obtain ⟨vk, q1, q2⟩ := hk.val ha
      obtain ⟨ve, q3, q4⟩ := (hr 0 (k, v) en rfl rfl).val ha
      have heq := eqA_run 12 kt kv k b he (9999 + 1) (by omega) vk ve q1 q3
      rw [← equal_depth, ← q2, ← q4] at heq
      cases b with
      | true =>
        simp only [if_true, Option.some.injEq] at hf
        refine ⟨some (i, en.val), by simp [Instr.findAsking, heq], .inr ⟨0, (k, v), en, hf.symm, rfl, rfl, rfl⟩⟩
      | false =>
        simp only [Bool.false_eq_true, if_false] at hf
        obtain ⟨g, h1, h2⟩ := find_ask ha hk es ents (i + 1) f (by simpa using hl) (fun j e en' h1 h2 => hr (j + 1) e en' (by simpa using h1) (by simpa using h2)) hf
        exact ⟨g, by simp [Instr.findAsking, heq, h1], h2.step _ _⟩
  | [], _ :: _, _, _, hl, _, _ => by simp at hl
  | _ :: _, [], _, _, hl, _, _ => by simp at hl
theorem find_run {P : Program} {w : World} {pr : Nat → Nat → Prop} {kt : TypeId} {ka : Bool} (ha : ka = aggB P kt) {kv : List PV} {key : Value} (hk : RepL w pr ka kv key) (hka : keyA P 12 kt kv = true) {es : List (List PV × List PV)} {ents : List MapEntry} {f : Option (Nat × (List PV × List PV))} (hl : es.length = ents.length)
    (hr : ∀ (j : Nat) (e : List PV × List PV) (en : MapEntry), es[j]? = some e → ents[j]? = some en → RepL w pr ka e.1 en.key) (hf : mapFind P kt kv es 0 = some f) : ∃ g, (Instr.findKey kt key ents).run P w = .ok g w ∧ Found 0 es ents f g := by
  unfold keyA at hka
  cases hu : P.underlying kt with
  | none => rw [hu] at hka; cases hka
  | some dd =>
    rw [hu] at hka
    have leaf : (dd = .bool ∨ (∃ k, dd = .int k) ∨ dd = .string) → ∃ g, (Instr.findKey kt key ents).run P w = .ok g w ∧ Found 0 es ents f g := by
      intro hd
      have hagg : aggB P kt = false := by unfold aggB; rw [hu]; rcases hd with rfl | ⟨k, rfl⟩ | rfl <;> rfl
      rw [hagg] at ha
      subst ha
      obtain ⟨g, h1, h2⟩ := find_leaf hu hd hk es ents 0 f hl hr hf
      exact ⟨g, by simp [Instr.findKey, run_underlying hu, h1], h2⟩
    cases dd <;> simp only at hka <;> try (cases hka; done)
    case bool => exact leaf (.inl rfl)
    case int k => exact leaf (.inr (.inl ⟨k, rfl⟩))
    case string => exact leaf (.inr (.inr rfl))
    case struct fs =>
      cases ents with
      | nil =>
        have : es = [] := List.eq_nil_of_length_eq_zero (by simpa using hl)
        subst this
        simp only [mapFind, Option.some.injEq] at hf
        exact ⟨none, by simp [Instr.findKey, run_underlying hu, Instr.findNow], .inl ⟨hf.symm, rfl⟩⟩
      | cons en ents =>
        obtain ⟨g, h1, h2⟩ := find_ask ha hk es (en :: ents) 0 f hl hr hf
        exact ⟨g, by simp [Instr.findKey, run_underlying hu, Instr.findNow, Instr.sameNow, h1], h2⟩

/-! ### Keys, values -/
theorem key_RepL {w : World} {cx : Cx} {x : AV} {v : Value} (h : RepA w cx x v) {l : List PV} (hl : pureA x = some l) {ag : Bool} (ha : isAggA x = ag) : RepL w cx.pr ag l v := by
  obtain ⟨vs, h1, h2, h3, h4, h5⟩ := pureA_rep h hl
  unfold RepL
  rcases h4 with ⟨y, rfl, rfl⟩ | ⟨cs, rfl, rfl⟩
  · have : ag = false := by rw [← ha]; rfl
    subst this
    simp only [Bool.false_eq_true, if_false]
    exact ⟨y, rfl, oneCell_of_pv h.p_inv, h.p_inv⟩
  · have : ag = true := by rw [← ha]; rfl
    subst this
    simp only [if_true]
    exact ⟨vs, rfl, h2, h3, h5⟩
theorem RepL.mk {w : World} {cx : Cx} {ag : Bool} {l : List PV} {v : Value} (h : RepL w cx.pr ag l v) {X : AV} (hx : mkAV ag (l.map .p) = some X) : RepA w cx X v := by
  unfold RepL at h
  cases ag with
  | true =>
    simp only [if_true] at h
    obtain ⟨vs, rfl, h2, h3, h4⟩ := h
    simp only [mkAV, if_true, Option.some.injEq] at hx
    subst hx
    refine .agg _ vs (by simp [h2]) h3 fun i x u hx hu => ?_
    rw [List.getElem?_map] at hx
    cases hp : l[i]? with
    | none => rw [hp] at hx; cases hx
    | some y =>
      rw [hp] at hx
      injection hx with hx
      subst hx
      exact .p _ _ (h4 i y u hp hu)
  | false =>
    simp only [Bool.false_eq_true, if_false] at h
    obtain ⟨y, rfl, h2, h3⟩ := h
    simp [mkAV] at hx
    subst hx
    exact .c _ _ h2 (.p _ _ h3)
theorem val_RepL {w : World} {cx : Cx} {pr' : Nat → Nat → Prop} {x : AV} {v : Value} {l : List CV} {l' : List PV} (h : RepA w cx x v) (hl : x.cells? = some l) (hp : ∀ vs : List Value, RepCs w cx l vs → RepPs w pr' l' vs) {ag : Bool} (ha : isAggA x = ag) : RepL w pr' ag l' v := by
  cases h with
  | un => simp [AV.cells?] at hl
  | c y v ho h =>
    have hag : ag = false := by rw [← ha]; rfl
    subst hag
    obtain ⟨vs, h1, h2⟩ := (RepA.c y v ho h).cells hl
    have hl1 : l = [y] := by cases y <;> simp_all [AV.cells?]
    subst hl1
    have h3 : vs = [v] := by
      have : v.cells = #[v] := by cases v <;> simp_all [Value.cells, Value.oneCell']
      rw [this] at h1
      have := congrArg Array.toList h1
      simpa using this.symm
    subst h3
    obtain ⟨q1, q2, q3⟩ := hp _ h2
    unfold RepL
    simp only [Bool.false_eq_true, if_false]
    match l', q1 with
    | [z], _ => exact ⟨z, rfl, ho, q3 0 z v rfl rfl⟩
  | agg cs vs hl' ho h =>
    have hag : ag = true := by rw [← ha]; rfl
    subst hag
    simp [AV.cells?] at hl
    subst hl
    obtain ⟨q1, q2, q3⟩ := hp vs ⟨hl', ho, h⟩
    unfold RepL
    simp only [if_true]
    exact ⟨vs, rfl, q1.symm, ho, q3⟩
  | tup => simp [AV.cells?] at hl
theorem zero_RepL {P : Program} {look : Root → Option Ob} {t : TypeId} {z : List CV} (hz : zeroB P t = some z) {va : Bool} (ha : va = zeroAgg P t) {z' : List PV} (hz' : pureCs look (kinds P t) z = some z') : ∃ v, (∀ w, (zeroValue t).run P w = .ok v w) ∧ ∀ w pr, RepL w pr va z' v := by
  obtain ⟨i, v, hi, hv, hrep⟩ := zeroB_info hz
  refine ⟨v, fun w => by simp [zeroValue, typeInfo, hi, hv], fun w pr => ?_⟩
  have hone : (zeroAgg P t = true → ∃ cs, v = .agg cs) ∧ (zeroAgg P t = false → ∀ cs, v ≠ .agg cs) := by
    unfold zeroAgg
    rw [hi]
    simp only [Option.bind_some, hv]
    cases v <;> simp
  have hp := pureCs_rep (look := look) (w := w) (cx := ⟨fun _ => none, pr⟩) (pr' := pr) (ss := []) (fun r hr => by cases hr) (Lasts.refl w pr) (fun r hr => by rw [zeroB_arrs hz] at hr; cases hr) (hrep w ⟨fun _ => none, pr⟩) hz'
  subst ha
  unfold RepL
  cases hzz : zeroAgg P t with
  | true =>
    obtain ⟨cs, rfl⟩ := hone.1 hzz
    simp only [if_true]
    exact ⟨cs.toList, by simp, hp.1.symm, hp.2.1, hp.2.2⟩
  | false =>
    simp only [Bool.false_eq_true, if_false]
    have hcells : v.oneCell' = true → v.cells = #[v] := fun h => by cases v <;> simp_all [Value.cells, Value.oneCell']
    have hoc : v.oneCell' = true ∨ ∃ l, v = .tuple l := by
      have := hone.2 hzz
      cases v <;> simp_all [Value.oneCell']
    rcases hoc with hoc | ⟨l, rfl⟩
    · rw [hcells hoc] at hp
      match z', hp.1 with
      | [x], _ => exact ⟨x, rfl, hoc, hp.2.2 0 x v rfl rfl⟩
    · exfalso
      have h1 := (hrep w ⟨fun _ => none, pr⟩).one (.tuple l) (by simp [Value.cells])
      simp [Value.oneCell'] at h1
theorem bytesBeq (a b : ByteArray) (h : (a == b) = true) : a = b := by
  obtain ⟨x⟩ := a
  obtain ⟨y⟩ := b
  have e : x = y := by simpa using (show (x == y) = true from h)
  rw [e]
theorem sameSc_eq {w : World} {pr : Nat → Nat → Prop} {x y : PV} {u v : Value} (h : sameSc x y = true) (hx : RepP w pr x u) (hy : RepP w pr y v) : x = y ∧ u = v ∧ ∀ n, Instr.sameBits n u v = true := by
  unfold sameSc at h
  split at h
  · cases hx; cases hy
    simp at h
    subst h
    exact ⟨rfl, rfl, fun n => by cases n <;> simp [Instr.sameBits]⟩
  · cases hx; cases hy
    simp at h
    obtain ⟨h1, h2⟩ := h
    subst h1
    subst h2
    exact ⟨rfl, rfl, fun n => by cases n <;> simp [Instr.sameBits]⟩
  · rename_i a b
    have : a = b := bytesBeq a b h
    subst this
    cases hx; cases hy
    exact ⟨rfl, rfl, fun n => by cases n <;> simpa [Instr.sameBits] using h⟩
  · cases h
theorem sameAll_eq {w : World} {pr : Nat → Nat → Prop} : ∀ {l m : List PV} {us vs : List Value}, sameAll l m = true → RepPs w pr l us → RepPs w pr m vs → l = m ∧ us = vs ∧ ∀ n, (us.zip vs).all (fun x => Instr.sameBits n x.1 x.2) = true
  | [], [], us, vs, _, hx, hy => by
    have h1 : us = [] := List.eq_nil_of_length_eq_zero hx.1.symm
    have h2 : vs = [] := List.eq_nil_of_length_eq_zero hy.1.symm
    subst h1
    subst h2
    exact ⟨rfl, rfl, fun _ => rfl⟩
  | x :: l, y :: m, us, vs, h, hx, hy => by
    simp only [sameAll, Bool.and_eq_true] at h
    match us, vs, hx, hy with
    | u :: us, v :: vs, hx, hy =>
      obtain ⟨h1, h2, h3⟩ := sameSc_eq h.1 (hx.2.2 0 x u rfl rfl) (hy.2.2 0 y v rfl rfl)
      obtain ⟨q1, q2, q3⟩ := sameAll_eq h.2 (us := us) (vs := vs) ⟨by simpa using hx.1, fun u hu => hx.2.1 u (by simp [hu]), fun i z u hz hu => hx.2.2 (i + 1) z u (by simpa using hz) (by simpa using hu)⟩ ⟨by simpa using hy.1, fun u hu => hy.2.1 u (by simp [hu]), fun i z u hz hu => hy.2.2 (i + 1) z u (by simpa using hz) (by simpa using hu)⟩
      subst h1
      subst h2
      subst q1
      subst q2
      exact ⟨rfl, rfl, fun n => by simp only [List.zip_cons_cons, List.all_cons, h3 n, q3 n, Bool.and_self]⟩
    | [], _, hx, _ => exact absurd hx.1 (by simp)
    | _ :: _, [], _, hy => exact absurd hy.1 (by simp)
  | [], _ :: _, _, _, h, _, _ => by simp [sameAll] at h
  | _ :: _, [], _, _, h, _, _ => by simp [sameAll] at h
theorem stays_run {P : Program} {w : World} {pr : Nat → Nat → Prop} {ka : Bool} {l m : List PV} {new old : Value} (h : sameAll l m = true) (hn : RepL w pr ka l new) (ho : RepL w pr ka m old) : l = m ∧ (Instr.keyThatStays old new).run P w = .ok new w := by
  unfold RepL at hn ho
  cases ka with
  | true =>
    simp only [if_true] at hn ho
    obtain ⟨vs, rfl, a2, a3, a4⟩ := hn
    obtain ⟨us, rfl, b2, b3, b4⟩ := ho
    obtain ⟨q1, q2, q3⟩ := sameAll_eq h ⟨a2.symm, a3, a4⟩ ⟨b2.symm, b3, b4⟩
    subst q1
    subst q2
    refine ⟨rfl, ?_⟩
    have : Instr.sameBits 10000 (.agg vs.toArray) (.agg vs.toArray) = true := by
      have h9 := q3 9999
      show Instr.sameBits (9999 + 1) _ _ = true
      simpa [Instr.sameBits] using h9
    simp [Instr.keyThatStays, this]
  | false =>
    simp only [Bool.false_eq_true, if_false] at hn ho
    obtain ⟨x, rfl, _, hx⟩ := hn
    obtain ⟨y, rfl, _, hy⟩ := ho
    simp only [sameAll, Bool.and_eq_true] at h
    obtain ⟨h1, h2, h3⟩ := sameSc_eq h.1 hx hy
    subst h1
    subst h2
    exact ⟨rfl, by simp [Instr.keyThatStays, h3]⟩

end Go.Am
