/-
  AM, PART 25: one step of a region.
-/
import Derived.Test.YtipgpamialaflaaGreatAm24
set_option linter.unusedVariables false
set_option linter.unusedSimpArgs false
set_option linter.unnecessarySimpa false
namespace Go.Am
open Go Go.RowKit

section
variable {P : Program} {o : Oper} {E : Env} {S : St} {a : Act} {w : World} {cx : Cx} {look : Root → Option Ob} {hints : Nat → Hint} {call : Nat → List AV → List Ob → Option Ret}

theorem site_ne {i : Nat} {n : Nat} (hn : n ≤ PAR) (hd : ∀ d, o.dst = some d → d < n) : site i o ≠ PAR := by
  unfold site
  cases h : o.dst with
  | none => simp only [Option.getD_none, PAR]; omega
  | some d =>
    have := hd d h
    simp only [Option.getD_some, PAR] at hn ⊢
    intro e
    subst e
    exact absurd (Nat.lt_of_lt_of_le this hn) (Nat.lt_irrefl _)
theorem lookAt_sub (S : St) (fp : List Root) : Sub (lookAt S fp) S.hp := by
  intro r ob hr
  unfold lookAt at hr
  cases hb : rmem r fp with
  | true => rw [hb] at hr; exact hr
  | false => rw [hb] at hr; cases hr
theorem collect_acc (look : Root → Option Ob) : ∀ (n : Nat) (todo acc : List Root) (r : Root), r ∈ acc → r ∈ collect look n todo acc
  | 0, _, acc, r, h => by simpa [collect] using h
  | n + 1, [], acc, r, h => by simpa [collect] using h
  | n + 1, q :: todo, acc, r, h => by
    simp only [collect]
    split
    · exact collect_acc look n todo acc r h
    · split
      · exact collect_acc look n _ _ r (List.mem_cons_of_mem _ h)
      · exact collect_acc look n _ _ r (List.mem_cons_of_mem _ h)
theorem dstOk_lt {n : Nat} (h : dstOk n o = true) : ∀ d, o.dst = some d → d < n := by
  intro d hd
  unfold dstOk at h
  rw [hd] at h
  simpa [Nat.blt_eq] using h
theorem dvalAt_OK (hN : NoNum P) (hC : CallOK P call) (hn : E.n ≤ PAR) (h : Sim E S a w cx) {i : Nat} (hl : Sub look S.hp) (hs : ∀ j, j < 4 → look (site i o, j) = S.hp (site i o, j)) {δ : Delta} (hδ : dval P hints call look (site i o) S.sl o = some δ) (hd : dstOk E.n o = true) : OK P o E (applyD S o.dst δ) a w := by
  have hd := dstOk_lt hd
  refine dval_OK h hd hl ⟨site_ne hn hd, hs 0 (by omega)⟩ (fun c f g caps δ' ho hc' hf hv => ?_) hδ
  exact callA_OK hN hC h hd hl (site_ne hn hd) hs ho hc' hf hv
theorem skip_sim (h : Sim E S a w cx) (hd : ∀ d, o.dst = some d → d < E.n) : Sim E (applyD S o.dst { val := .tup [] }) (a.put o.dst undef) w cx := by
  have e : applyD S o.dst { val := .tup [] } = setSl S o.dst (.tup []) := applyD_pure S o.dst _
  rw [e]
  exact h.put o.dst hd (.tup [] [] rfl fun i x v hx => by simp at hx)
theorem wanted_of (h : Sim E S a w cx) {ops : Array Oper} {j g : Nat} {want b : Bool} (hg : o.guard = some (j, want)) (hj : (ops[j]?).bind (·.dst) = some g) (hb : wantA (S.sl g) want = some b) : Region.wanted o (yielded ops a.tmps) = b := by
  unfold Region.wanted
  rw [hg]
  simp only
  unfold yielded
  rw [hj]
  simp only [Option.bind_some]
  unfold wantA at hb
  cases ht : a.tmps[g]? with
  | none =>
    have : E.n ≤ g := by rw [← h.size]; exact Array.getElem?_eq_none_iff.1 ht
    rw [h.high g this] at hb
    simp at hb
  | some v =>
    have hr := h.slots g v ht
    split at hb
    · rename_i b' hsl
      have := asBoolA_rep hr (show asBoolA (S.sl g) = some b' by rw [hsl]; rfl)
      subst this
      injection hb with hb
      subst hb
      cases b' <;> cases want <;> rfl
    · rename_i hsl
      injection hb with hb
      subst hb
      rw [hsl] at hr
      cases hr with
      | tup l vs hl _ =>
        have : vs = [] := List.length_eq_zero_iff.1 (by simpa using hl.symm)
        subst this
        rfl
    · cases hb
theorem stepT_wp (hN : NoNum P) (hC : CallOK P call) (hn : E.n ≤ PAR) (h : Sim E S a w cx) {ops : Array Oper} {i : Nat} {S' : St} (ho : ops[i]? = some o) (hs : stepT P hints call E.n ops S i o = some S') {K : Act → World → Prop} {Q : Exit → Act → World → Prop} (hK : ∀ a' w' cx', Sim E S' a' w' cx' → K a' w') : wpOp P ops Q i K a w := by
  have main : ∀ (hw : Region.wanted o (yielded ops a.tmps) = true), (match dval P hints call S.hp (site i o) S.sl o with
          | some δ => bif dstOk E.n o then some (applyD S o.dst δ) else none
          | none => none) = some S' → wpOp P ops Q i K a w := by
    intro hw hs
    split at hs
    · rename_i δ hδ
      cases hd : dstOk E.n o with
      | false => rw [hd] at hs; cases hs
      | true =>
        rw [hd] at hs
        injection hs with hs
        subst hs
        unfold wpOp
        rw [ho]
        simp only
        rw [if_pos hw]
        exact .inl (dvalAt_OK hN hC hn h (fun _ _ e => e) (fun _ _ => rfl) hδ hd K Q fun v w' cx' hsim => hK _ _ _ hsim)
    · cases hs
  unfold stepT at hs
  split at hs
  · rename_i hg
    exact main (by unfold Region.wanted; rw [hg]) hs
  · rename_i j want hg
    split at hs
    · cases hs
    · rename_i g hj
      split at hs
      · cases hs
      · rename_i b hb
        have hw := wanted_of (ops := ops) h hg hj hb
        cases b with
        | true =>
          simp only [if_true] at hs
          exact main hw hs
        | false =>
          simp only [Bool.false_eq_true, if_false] at hs
          cases hd : dstOk E.n o with
          | false => rw [hd] at hs; cases hs
          | true =>
            rw [hd] at hs
            injection hs with hs
            subst hs
            unfold wpOp
            rw [ho]
            simp only
            rw [if_neg (by rw [hw]; simp)]
            exact hK _ _ _ (skip_sim h (dstOk_lt hd))
theorem runText_wp (hN : NoNum P) (hC : CallOK P call) (hn : E.n ≤ PAR) {ops : Array Oper} {Q : Exit → Act → World → Prop} : ∀ (l : List Oper) (i : Nat) {S S' : St} {a : Act} {w : World} {cx : Cx}, (∀ k : Nat, ops[i + k]? = l[k]?) → Sim E S a w cx → runText P hints call E.n ops l i S = some S' → (∀ a' w' cx', Sim E S' a' w' cx' → Q .normal a' w') → wpOps P ops Q (List.range' i l.length) a w
  | [], i, S, S', a, w, cx, hl, h, hr, hQ => by
    simp only [runText, Option.some.injEq] at hr
    subst hr
    exact hQ a w cx h
  | o :: l, i, S, S', a, w, cx, hl, h, hr, hQ => by
    simp only [runText] at hr
    split at hr
    · cases hr
    · rename_i S1 hs
      rw [List.length_cons, List.range'_succ, wpOps_cons]
      refine stepT_wp (o := o) hN hC hn h (by have := hl 0; simpa using this) hs fun a' w' cx' hsim => ?_
      exact runText_wp hN hC hn l (i + 1) (fun k => by rw [show i + 1 + k = i + (k + 1) by omega]; simpa using hl (k + 1)) hsim hr hQ
theorem runText_all (hN : NoNum P) (hC : CallOK P call) (hn : E.n ≤ PAR) {ops : Array Oper} {Q : Exit → Act → World → Prop} {S' : St} (h : Sim E S a w cx) (hr : runText P hints call E.n ops ops.toList 0 S = some S') (hQ : ∀ a' w' cx', Sim E S' a' w' cx' → Q .normal a' w') : wpOps P ops Q (List.range ops.size) a w := by
  have := runText_wp hN hC hn ops.toList 0 (fun k => by simp) h hr hQ
  rwa [← List.range_eq_range', Array.length_toList] at this
end
end Go.Am
