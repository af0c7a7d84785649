/-
  AM, PART 11: values without references out of sealed rows; stores.
-/
import Derived.Test.YtipgpamialaflaaGreatAm10
set_option linter.unusedVariables false
set_option linter.unusedSimpArgs false
namespace Go.Am
open Go Go.RowKit

theorem Sim.sealed_row {E : Env} {S : St} {a : Act} {w : World} {cx : Cx} (h : Sim E S a w cx) {ss : List Root} {r : Root} (hm : r ∈ ss) {e k : Nat} {xs : List (List PV)} {s : Bool} (hr : S.hp r = some (.arr e k xs s)) {v : Value} (hv : cx.β r = some (.row v)) :
    RepP w (sealPr S cx ss) (.sl k xs) v := by
  have h1 := h.sealed ss
  have h2 : (sealS ss S).hp r = some (.arr e k xs true) := by simp only [sealS, hr, rmem_iff.2 hm, cond_true, sealO]
  exact RepP.of_row (cx := sealCx S cx ss) (h1.good.rep r _ h2) hv fun g o hg ho => .inr ⟨r, e, k, xs, s, v, hm, hr, hv, hg, ho⟩
/-- What sealing gives: each row in the list reads as a slice. -/
def RowsRead (look : Root → Option Ob) (w : World) (cx : Cx) (pr' : Nat → Nat → Prop) (ss : List Root) : Prop :=
  ∀ r ∈ ss, ∀ e k xs s v, look r = some (.arr e k xs s) → cx.β r = some (.row v) → RepP w pr' (.sl k xs) v
theorem Sim.rows_read {E : Env} {S : St} {a : Act} {w : World} {cx : Cx} (h : Sim E S a w cx) {look : Root → Option Ob} (hl : Sub look S.hp) (ss : List Root) : RowsRead look w cx (sealPr S cx ss) ss :=
  fun r hm e k xs s v hr hv => h.sealed_row hm (hl r _ hr) hv
theorem pureC_rep {look : Root → Option Ob} {w : World} {cx : Cx} {pr' : Nat → Nat → Prop} {ss : List Root} (H : RowsRead look w cx pr' ss) (k : Lasts w cx.pr w pr') {kd : Kd} {x : CV} {y : PV} {v : Value} (hs : ∀ r ∈ arrsC x, r ∈ ss) (h : RepC w cx x v) (hy : pureC look kd x = some y) : RepP w pr' y v := by
  unfold pureC at hy
  split at hy
  · injection hy with hy; subst hy; exact h.p_inv.lasts k
  · split at hy
    · injection hy with hy; subst hy
      cases h
      exact .sl0 _ none 0
    · cases hy
  · injection hy with hy; subst hy
    cases h with
    | ra _ _ g o h => exact h.lasts k
  · rename_i r k'
    split at hy
    · rename_i e k'' xs s hlk
      cases hb : Nat.beq k' k'' with
      | false => rw [hb] at hy; cases hy
      | true =>
        rw [hb] at hy
        injection hy with hy; subst hy
        have := Nat.eq_of_beq_eq_true hb
        subst this
        cases h with
        | arr _ _ _ hβ => exact H r (hs r (by simp [arrsC])) e k' xs s v hlk hβ
    · cases hy
  · cases hy
theorem pureCs_rep {look : Root → Option Ob} {w : World} {cx : Cx} {pr' : Nat → Nat → Prop} {ss : List Root} (H : RowsRead look w cx pr' ss) (k : Lasts w cx.pr w pr') : ∀ {ks : List Kd} {l : List CV} {l' : List PV} {vs : List Value}, (∀ r ∈ arrsCs l, r ∈ ss) → RepCs w cx l vs → pureCs look ks l = some l' → RepPs w pr' l' vs := by
  intro ks
  induction ks with
  | nil =>
    intro l l' vs hs h hy
    cases l with
    | nil => simp [pureCs] at hy; subst hy; exact ⟨by simpa using h.len, h.one, fun i x u hx => by simp at hx⟩
    | cons => simp [pureCs] at hy
  | cons kd ks ih =>
    intro l l' vs hs h hy
    cases l with
    | nil => simp [pureCs] at hy
    | cons x l =>
      simp only [pureCs] at hy
      cases h1 : pureC look kd x with
      | none => rw [h1] at hy; simp at hy
      | some y =>
        cases h2 : pureCs look ks l with
        | none => rw [h1, h2] at hy; simp at hy
        | some r =>
          rw [h1, h2] at hy
          simp at hy
          subst hy
          have hlen := h.len
          cases vs with
          | nil => simp at hlen
          | cons v vs =>
            have hr := ih (fun r hr => hs r (by simp [arrsCs, hr])) (⟨by simpa using hlen, fun u hu => h.one u (by simp [hu]), fun i x u hx hu => h.rep (i + 1) x u (by simpa using hx) (by simpa using hu)⟩ : RepCs w cx l vs) h2
            refine ⟨by simp [hr.1], h.one, fun i z u hz hu => ?_⟩
            cases i with
            | zero =>
              simp at hz hu; subst hz; subst hu
              exact pureC_rep H k (fun r hr => hs r (by simp [arrsCs, hr])) (h.rep 0 x v rfl rfl) h1
            | succ i => exact hr.2.2 i z u (by simpa using hz) (by simpa using hu)

/-! ### Lists -/
theorem put_length {α : Type} (l : List α) (off : Nat) (new : List α) (h : off + new.length ≤ l.length) : (put l off new).length = l.length := by
  simp only [put, List.length_append, List.length_take, List.length_drop]
  omega
theorem put_get {α : Type} (l : List α) (off : Nat) (new : List α) (h : off + new.length ≤ l.length) (i : Nat) : (put l off new)[i]? = if off ≤ i ∧ i < off + new.length then new[i - off]? else l[i]? := by
  unfold put
  have h1 : (l.take off).length = off := by rw [List.length_take]; omega
  by_cases a : i < off
  · rw [List.append_assoc, List.getElem?_append_left (by rw [h1]; exact a), List.getElem?_take, if_pos a, if_neg (by omega)]
  · by_cases b : i < off + new.length
    · rw [if_pos ⟨by omega, b⟩, List.getElem?_append_left (by rw [List.length_append, h1]; exact b), List.getElem?_append_right (by rw [h1]; omega), h1]
    · rw [if_neg (by omega), List.getElem?_append_right (by rw [List.length_append, h1]; omega), List.length_append, h1, List.getElem?_drop]
      congr 1
      omega
theorem RepCs.put {w : World} {cx : Cx} {l m : List CV} {vs us : List Value} (h : RepCs w cx l vs) (k : RepCs w cx m us) {off : Nat} (ho : off + m.length ≤ l.length) : RepCs w cx (Am.put l off m) (Am.put vs off us) := by
  have ho' : off + us.length ≤ vs.length := by rw [← h.len, ← k.len]; exact ho
  refine ⟨by rw [put_length _ _ _ ho, put_length _ _ _ ho', h.len], fun u hu => ?_, fun i x u hx hu => ?_⟩
  · simp only [Am.put, List.mem_append] at hu
    rcases hu with (hu | hu) | hu
    · exact h.one u (List.mem_of_mem_take hu)
    · exact k.one u hu
    · exact h.one u (List.mem_of_mem_drop hu)
  · rw [put_get _ _ _ ho] at hx
    rw [put_get _ _ _ ho', ← k.len] at hu
    split at hx
    · rename_i hc; rw [if_pos hc] at hu; exact k.rep _ x u hx hu
    · rename_i hc; rw [if_neg hc] at hu; exact h.rep _ x u hx hu
theorem RepCs.of_cells {w : World} {cx : Cx} {l : List CV} {cs : Array Value} (h3 : cs.size = l.length) (h4 : ∀ (i : Nat) (x : CV) (v : Value), l[i]? = some x → cs[i]? = some v → v.oneCell' = true ∧ RepC w cx x v) : RepCs w cx l cs.toList :=
  ⟨by simpa using h3.symm, fun u hu => by
      obtain ⟨i, hi⟩ := List.getElem?_of_mem hu
      have hil : i < l.length := by have := (List.getElem?_eq_some_iff.1 hi).1; rw [Array.length_toList] at this; omega
      exact (h4 i _ u (List.getElem?_eq_getElem hil) (by simpa using hi)).1,
    fun i x u hx hu => (h4 i x u hx (by simpa using hu)).2⟩

/-! ### A row of cells written -/
theorem Moves.setRow {E : Env} {S : St} {a : Act} {w : World} {cx : Cx} (h : Sim E S a w cx) {q : Root} {g : Nat} (hq : blkOf cx q = some g) (hp : ∀ o, ¬ cx.pr g o) (cs : Array Value) : Moves E cx w (w.setRow g cs) q (some g) where
  os := rfl
  tape := rfl
  output := rfl
  size := by simp
  blk b _ hb := setRow_other w g b cs (fun e => hb (by rw [e]))
  apart r g' hr hg' e := by
    injection e with e
    subst e
    exact hr (h.good.inj r q g hg' hq)
  free g' e := by
    injection e with e
    subst e
    exact h.good.free q g hq
  last := ⟨fun _ _ h => h, fun g' o hpr => cell_setRow_other w g cs _ (fun e => hp o (by rw [← e]; exact hpr))⟩
theorem storeAt_run {P : Program} {w : World} {t : TypeId} {s : Nat} (hs : sizeB P t = some s) {g o : Nat} {t' : TypeId} {cur : Array Value} (hg : w.heap[g]? = some (.cells cur t' (0, 0))) {v : Value} {vs : List Value} (hc : v.cells = vs.toArray) (hl : vs.length = s)
    (ho : ∀ u ∈ vs, u.oneCell' = true) (hfit : o + vs.length ≤ cur.size) : (Instr.storeAt t (.pointer (some ⟨g, o, none⟩)) v).run P w = .ok () (w.setRow g (put cur.toList o vs).toArray) := by
  have := run_storeCells_at P g o t' vs 0 cur w hg (by simpa using hfit) ho
  simp only [Nat.add_zero] at this
  simp only [Instr.storeAt, Instr.sureAddr, storeVar, Sem.run_bind, Sem.run_pure, Result.andThen_ok, hc, List.size_toArray, hl, run_sizeB hs, ne_eq, not_true_eq_false, Sem.run_ite, if_false, this]
  simp only [put, hl]
theorem applyD_up (S : St) (dst : Option Nat) (x : AV) (q : Root) (o : Ob) (ss : List Root) : applyD S dst { val := x, ups := [(q, some o)], seals := ss } = setSl { sealS ss S with hp := updH (sealS ss S).hp q (some o) } dst x := by
  rw [applyD_eq]
  simp only
  have : killS [] (sealS ss S) = sealS ss S := by
    have : ∀ T : St, killS [] T = T := by
      rintro ⟨sl, hp⟩
      simp only [killS, rmem, Bool.false_eq_true, if_false]
      congr 1
      · funext j; exact renA_id killM_nil _
      · funext r; cases hp r with
        | none => rfl
        | some o => simp [renO_id killM_nil]
    exact this _
  rw [this, upS_one]
theorem sealS_nil (S : St) : sealS [] S = S := by
  obtain ⟨sl, hp⟩ := S
  simp only [sealS, rmem, cond_false]
  congr 1
  funext r
  cases hp r <;> rfl
theorem updB_noop {cx : Cx} {q : Root} {b : RB} (h : cx.β q = some b) : updB cx q b = cx := by
  unfold updB
  obtain ⟨β, pr⟩ := cx
  simp only at h ⊢
  congr 1
  funext r
  cases hr : rbeq r q with
  | false => rfl
  | true => rw [rbeq_eq.1 hr]; exact h.symm
theorem store_cells_OK {P : Program} {o : Oper} {E : Env} {S : St} {a : Act} {w : World} {cx : Cx} (h : Sim E S a w cx) (hd : ∀ d, o.dst = some d → d < E.n) {look : Root → Option Ob} (hl : Sub look S.hp) {t : TypeId} {x y : Operand} (ho : o.op = .store t x y) {s : Nat} (hs : sizeB P t = some s)
    {r : Root} {off : Nat} (hx : Am.ov S.sl x = .c (.ptr r off)) {l : List CV} (hy : (Am.ov S.sl y).cells? = some l) {u : TypeId} {cs : List CV} (hr : look r = some (.cells u cs)) (h1 : l.length = s) (h2 : off + s ≤ cs.length) :
    OK P o E (applyD S o.dst { val := .c .un, puts := [(r, off, l)] }) a w := by
  have happ : applyD S o.dst { val := .c .un, puts := [(r, off, l)] } = setSl { S with hp := updH S.hp r (some (.cells u (put cs off l))) } o.dst (.c .un) := by
    rw [applyD_puts]
    have h0 : upS [] (killS [] (sealS [] S)) = S := by
      rw [sealS_nil]
      obtain ⟨sl, hp⟩ := S
      simp only [upS, lookU, killS, rmem, Bool.false_eq_true, if_false]
      congr 1
      · funext j; exact renA_id killM_nil _
      · funext q; cases hp q with
        | none => rfl
        | some o => simp [renO_id killM_nil]
    simp only
    rw [h0]
    congr 1
    simp only [putS, putO]
    congr 1
    funext q
    unfold updH
    cases hq : rbeq q r with
    | false => rfl
    | true => rw [rbeq_eq.1 hq, hl r _ hr]
  rw [happ]
  have hpx := h.ov x
  rw [hx] at hpx
  have hpc := hpx.c_inv.1
  obtain ⟨vs, hc, hrv⟩ := (h.ov y).cells hy
  obtain ⟨g, cur, hb, hh, hsz, hrep, hpr⟩ := h.good.rep r _ (hl r _ hr)
  have hval : a.eval x = .pointer (some ⟨g, off, none⟩) := by
    generalize a.eval x = v at hpc
    cases hpc with
    | ptr _ _ g' hb' =>
      rw [hb] at hb'
      injection hb' with hb'
      injection hb' with hb'
      subst hb'
      rfl
  have hvl : vs.length = s := by rw [← hrv.len, h1]
  have hold := RepCs.of_cells hsz hrep
  have hnew := hold.put hrv (off := off) (by rw [h1]; exact h2)
  have hrun := storeAt_run (P := P) hs hh hc hvl hrv.one (o := off) (by rw [hvl, hsz]; exact h2)
  have hq : blkOf cx r = some g := by simp [blkOf, hb, RB.block]
  have hmv := Moves.setRow h hq hpr (put cur.toList off vs).toArray
  have hsim := h.update r (.blk g) (.cells u (put cs off l)) hmv (fun b hb' => by rw [hb] at hb'; injection hb' with hb'; exact hb'.symm) (by
    rw [updB_noop hb]
    refine ⟨g, _, hb, setRow_heap w g cur _ u (0, 0) hh, by simpa using hnew.len.symm, fun i z v hz hv => ?_, hpr⟩
    have hv' : (put cur.toList off vs)[i]? = some v := by simpa using hv
    exact ⟨hnew.one v (List.mem_of_getElem? hv'), (hnew.rep i z v hz hv').keep (fun _ _ h => h) hmv.last⟩) (fun g' hg' => by
    simp only [RB.block, Option.some.injEq] at hg'
    subst hg'
    exact ⟨h.good.free r g hq, fun r' hr' e => hr' (h.good.inj r' r g e hq)⟩) (.inr hb)
  refine OK.skip (w' := w.setRow g (put cur.toList off vs).toArray) ?_ (hsim.put o.dst hd (.un _))
  simp only [execOp, ho, Sem.run_bind, hval, hrun, Result.andThen_ok, Sem.run_pure]

end Go.Am
