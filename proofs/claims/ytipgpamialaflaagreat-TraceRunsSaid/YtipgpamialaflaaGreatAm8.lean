/-
  AM, PART 8: reading memory, places, aggregates.
-/
import Derived.Test.YtipgpamialaflaaGreatAm7
set_option linter.unusedVariables false
set_option linter.unusedSimpArgs false
namespace Go.Am
open Go Go.RowKit

def Sub (look hp : Root → Option Ob) : Prop := ∀ r o, look r = some o → hp r = some o

theorem RepP.pv_inv {w : World} {pr : Nat → Nat → Prop} {l : List PV} {v : Value} (h : RepP w pr (.pv l) v) : ∃ g o vs, v = .pointer (some ⟨g, o, none⟩) ∧ RepPs w pr l vs ∧ ∀ (i : Nat) (u : Value), vs[i]? = some u → w.cell? ⟨g, o + i, none⟩ = some u := by
  cases h with
  | pv _ g o val hc hp hr =>
    refine ⟨g, o, (List.range l.length).map val, rfl, ⟨by simp, fun u hu => ?_, fun i x u hx hu => ?_⟩, fun i u hu => ?_⟩
    · simp only [List.mem_map, List.mem_range] at hu
      obtain ⟨j, hj, rfl⟩ := hu
      exact oneCell_of_pv (hr j _ (List.getElem?_eq_getElem hj))
    · have hi := (List.getElem?_eq_some_iff.1 hx).1
      simp [List.getElem?_range hi] at hu
      subst hu
      exact hr i x hx
    · have hi : i < l.length := by have := (List.getElem?_eq_some_iff.1 hu).1; simpa using this
      simp [List.getElem?_range hi] at hu
      subst hu
      exact hc i _ (List.getElem?_eq_getElem hi)
theorem RepPs.map_p {w : World} {cx : Cx} {l : List PV} {vs : List Value} (h : RepPs w cx.pr l vs) : RepCs w cx (l.map .p) vs := by
  refine ⟨by simpa using h.1, h.2.1, fun i x u hx hu => ?_⟩
  rw [List.getElem?_map] at hx
  cases hy : l[i]? with
  | none => rw [hy] at hx; cases hx
  | some y =>
    rw [hy] at hx
    injection hx with hx
    subst hx
    exact .p y u (h.2.2 i y u hy hu)
theorem RepCs.cut {w : World} {cx : Cx} {l m : List CV} {vs : List Value} (h : RepCs w cx l vs) {off s : Nat} (hc : Am.cut l off s = some m) : RepCs w cx m ((vs.drop off).take s) := by
  have hml := cut_length hc
  refine ⟨?_, fun u hu => h.one u (List.mem_of_mem_drop (List.mem_of_mem_take hu)), fun i x u hx hu => ?_⟩
  · rcases cut_some hc with ⟨_, h1, h2⟩ | ⟨rfl, rfl⟩
    · rw [h1, List.length_take, List.length_drop, ← h.len]; omega
    · simp
  · have hi : i < s := by rw [← hml]; exact (List.getElem?_eq_some_iff.1 hx).1
    rw [cut_get hc i hi] at hx
    rw [List.getElem?_take, if_pos hi, List.getElem?_drop] at hu
    exact h.rep _ x u hx hu
theorem take_drop_get {α : Type} {l : List α} {off s i : Nat} {u : α} (h : ((l.drop off).take s)[i]? = some u) : i < s ∧ l[off + i]? = some u := by
  rw [List.getElem?_take] at h
  split at h
  · rename_i hi; rw [List.getElem?_drop] at h; exact ⟨hi, h⟩
  · cases h
theorem row_cell {w : World} {cx : Cx} {hp : Root → Option Ob} {free : Nat → Prop} (hg : Good hp w cx free) {r : Root} {e k i : Nat} {xs : List (List PV)} {s : Bool} {el : List PV} (hr : hp r = some (.arr e k xs s)) {g n c : Nat}
    (hb : cx.β r = some (.row (.slice (some ⟨g, 0, none⟩) n c))) (he : xs[i]? = some el) : ∃ vs, RepPs w cx.pr el vs ∧ ∀ (j : Nat) (u : Value), vs[j]? = some u → w.cell? ⟨g, i * k + j, none⟩ = some u := by
  obtain ⟨v, ys, h1, h2, h3, h4, h5, h6⟩ := hg.rep r _ hr
  rw [hb] at h1
  injection h1 with h1
  injection h1 with h1
  subst h1
  have hlen := h4 i el he
  have hil : i < xs.length := (List.getElem?_eq_some_iff.1 he).1
  have hbd : ∀ j, j < k → i * k + j < ys.length := by
    intro j hj
    rw [h2.1]
    calc i * k + j < i * k + k := by omega
      _ = (i + 1) * k := by rw [Nat.succ_mul]
      _ ≤ xs.length * k := Nat.mul_le_mul_right k hil
  have hget : ∀ j, j < k → ((ys.drop (i * k)).take k)[j]? = ys[i * k + j]? := by
    intro j hj
    rw [List.getElem?_take, if_pos hj, List.getElem?_drop]
  have hl2 : ((ys.drop (i * k)).take k).length = k := by
    rw [List.length_take, List.length_drop]
    by_cases hk : k = 0
    · omega
    · have := hbd (k - 1) (by omega)
      omega
  refine ⟨(ys.drop (i * k)).take k, ⟨by rw [hl2, hlen], fun u hu => ?_, fun j x u hx hu => ?_⟩, fun j u hu => ?_⟩
  · obtain ⟨j, hj⟩ := List.getElem?_of_mem hu
    have hjk : j < k := by rw [← hl2]; exact (List.getElem?_eq_some_iff.1 hj).1
    obtain ⟨u', hu', hone, _⟩ := h5 i el j _ he (List.getElem?_eq_getElem (by rw [hlen]; exact hjk))
    rw [hget j hjk, hu'] at hj
    injection hj with hj
    subst hj
    exact hone
  · have hjk : j < k := by rw [← hlen]; exact (List.getElem?_eq_some_iff.1 hx).1
    obtain ⟨u', hu', _, hrep⟩ := h5 i el j x he hx
    rw [hget j hjk, hu'] at hu
    injection hu with hu
    subst hu
    exact hrep
  · obtain ⟨hjk, hu⟩ := take_drop_get hu
    have := h2.cells (g := g) rfl (i * k + j) u hu
    rwa [add_lit, Nat.zero_add] at this
theorem readAt_rep {w : World} {cx : Cx} {look hp : Root → Option Ob} {free : Nat → Prop} (hg : Good hp w cx free) (hl : Sub look hp) {s : Nat} {x : CV} {v : Value} (h : RepC w cx x v) {l : List CV} (hr : readAt look s x = some l) :
    l.length = s ∧ ∃ g o vs, v = .pointer (some ⟨g, o, none⟩) ∧ RepCs w cx l vs ∧ ∀ (i : Nat) (u : Value), vs[i]? = some u → w.cell? ⟨g, o + i, none⟩ = some u := by
  unfold readAt at hr
  split at hr
  · rename_i l'
    obtain ⟨g, o, vs, rfl, h1, h2⟩ := h.p_inv.pv_inv
    cases hc : cut l' 0 s with
    | none => rw [hc] at hr; cases hr
    | some m =>
      rw [hc] at hr
      injection hr with hr
      subst hr
      refine ⟨by simpa using cut_length hc, g, o, (vs.drop 0).take s, rfl, (h1.cut hc).map_p, fun i u hu => ?_⟩
      obtain ⟨_, hu⟩ := take_drop_get hu
      exact h2 i u (by simpa using hu)
  · rename_i l' off
    cases h with
    | ra _ _ g o hp' =>
      obtain ⟨g', o', vs, he, h1, h2⟩ := hp'.pv_inv
      injection he with he
      injection he with he
      injection he with he1 he2
      subst he1
      subst he2
      cases hc : cut l' off s with
      | none => rw [hc] at hr; cases hr
      | some m =>
        rw [hc] at hr
        injection hr with hr
        subst hr
        refine ⟨by simpa using cut_length hc, g, o + off, (vs.drop off).take s, rfl, (h1.cut hc).map_p, fun i u hu => ?_⟩
        obtain ⟨_, hu⟩ := take_drop_get hu
        have := h2 (off + i) u hu
        rwa [← Nat.add_assoc] at this
  · rename_i r off
    split at hr
    · rename_i t l' hlk
      cases h with
      | ptr _ _ g hb =>
        obtain ⟨g', cs, h1, h2, h3, h4, h5⟩ := hg.rep r _ (hl r _ hlk)
        rw [hb] at h1
        injection h1 with h1
        injection h1 with h1
        subst h1
        have hcs : RepCs w cx l' cs.toList := ⟨by simpa using h3.symm, fun u hu => by
            obtain ⟨i, hi⟩ := List.getElem?_of_mem hu
            have hil : i < l'.length := by have := (List.getElem?_eq_some_iff.1 hi).1; rw [Array.length_toList] at this; omega
            exact (h4 i _ u (List.getElem?_eq_getElem hil) (by simpa using hi)).1,
          fun i x u hx hu => (h4 i x u hx (by simpa using hu)).2⟩
        refine ⟨cut_length hr, g, off, (cs.toList.drop off).take s, rfl, hcs.cut hr, fun i u hu => ?_⟩
        obtain ⟨_, hu⟩ := take_drop_get hu
        rw [cell_of_row w g _ cs t (0, 0) h2]
        simpa using hu
    · cases hr
  · rename_i r k i j
    split at hr
    · rename_i e k' xs se hlk
      cases hk : Nat.beq k k' with
      | false => rw [hk] at hr; cases hr
      | true =>
        rw [hk] at hr
        have hk' := Nat.eq_of_beq_eq_true hk
        subst hk'
        cases he : xs[i]? with
        | none => rw [he] at hr; cases hr
        | some el =>
          rw [he] at hr
          simp only [cond_true] at hr
          cases hc : cut el j s with
          | none => rw [hc] at hr; cases hr
          | some m =>
            rw [hc] at hr
            injection hr with hr
            subst hr
            cases h with
            | ep _ _ _ _ g n c hb =>
              obtain ⟨vs, h1, h2⟩ := row_cell hg (hl r _ hlk) hb he
              refine ⟨by simpa using cut_length hc, g, i * k + j, (vs.drop j).take s, rfl, (h1.cut hc).map_p, fun q u hu => ?_⟩
              obtain ⟨_, hu⟩ := take_drop_get hu
              have := h2 (j + q) u hu
              rwa [← Nat.add_assoc] at this
    · cases hr
  · cases hr
theorem mkAV_rep {w : World} {cx : Cx} {l : List CV} {vs : List Value} (h : RepCs w cx l vs) {ag : Bool} {X : AV} (hx : mkAV ag l = some X) : (ag = true ∧ RepA w cx X (.agg vs.toArray)) ∨ (ag = false ∧ ∃ u, vs = [u] ∧ RepA w cx X u) := by
  unfold mkAV at hx
  split at hx
  · rename_i ha
    injection hx with hx
    subst hx
    exact .inl ⟨ha, .agg l vs h.len h.one h.rep⟩
  · rename_i ha
    simp only at hx
    split at hx
    · rename_i x
      injection hx with hx
      subst hx
      have hl := h.len
      match vs, hl with
      | [u], _ => exact .inr ⟨by simpa using ha, u, rfl, .c x u (h.one u (by simp)) (h.rep 0 x u rfl rfl)⟩
    · cases hx
theorem load_run {P : Program} {w : World} {cx : Cx} {look hp : Root → Option Ob} {free : Nat → Prop} (hg : Good hp w cx free) (hl : Sub look hp) {t : TypeId} {s : Nat} (hs : sizeB P t = some s) {x : CV} {v : Value} (h : RepC w cx x v) {l : List CV} (hr : readAt look s x = some l)
    {d : TypeDesc} (hu : P.underlying t = some d) {X : AV} (hx : mkAV (aggB P t) l = some X) : ∃ u, (Instr.loadAt t v).run P w = .ok u w ∧ RepA w cx X u := by
  obtain ⟨hlen, g, o, vs, rfl, h1, h2⟩ := readAt_rep hg hl h hr
  have hvl : vs.length = s := by rw [← h1.len, hlen]
  rcases mkAV_rep h1 hx with ⟨ha, hrep⟩ | ⟨ha, u, hvs, hrep⟩
  · refine ⟨_, ?_, hrep⟩
    have hload := run_loadCells_list (P := P) (w := w) ⟨g, o, none⟩ vs (fun j u hu => by rw [add_lit]; exact h2 j u hu)
    simp only [Instr.loadAt, Instr.sureAddr, loadVar, Sem.run_bind, Sem.run_pure, Result.andThen_ok, run_isAgg P hu, ha, if_true, run_sizeB hs, Sem.run_ite]
    rw [← hvl, hload]
    rfl
  · subst hvs
    refine ⟨u, ?_, hrep⟩
    have := h2 0 u rfl
    simp only [Instr.loadAt, Instr.sureAddr, loadVar, Sem.run_bind, Sem.run_pure, Result.andThen_ok, run_isAgg P hu, ha, Sem.run_ite, Bool.false_eq_true, if_false]
    rw [run_load]
    rw [Nat.add_zero] at this
    rw [this]

end Go.Am
