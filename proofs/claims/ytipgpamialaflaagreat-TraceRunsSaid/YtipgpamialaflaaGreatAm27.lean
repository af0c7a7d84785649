/-
  AM, PART 27: code. 
-/
import Derived.Test.YtipgpamialaflaaGreatAm26
import Derived.LoopN
import Derived.Scope
set_option linter.unusedVariables false
set_option linter.unusedSimpArgs false
set_option linter.unnecessarySimpa false
namespace Go.Am
open Go Go.RowKit

theorem keepM_only (ks : List Root) : keepM ks = onlyM (fun r => rmem r ks) := by
  funext r
  unfold keepM onlyM
  cases h : rmem r ks <;> simp [h]
theorem canonSl_get (rs : List Root) (S : St) : ∀ (l : List Nat) (i : Nat), ofSlots (canonSl rs S l) i = .c .un ∨ ofSlots (canonSl rs S l) i = renA (keepM rs) (S.sl i)
  | [], i => .inl rfl
  | k :: l, i => by
    simp only [canonSl, ofSlots]
    cases hb : Nat.beq i k with
    | true => rw [Nat.eq_of_beq_eq_true hb]; exact .inr rfl
    | false => exact canonSl_get rs S l i
theorem canonHp_get (rs : List Root) (S : St) : ∀ (l : List Root) (r : Root), ofRoots (canonHp rs S l) r = if rmem r l = true then (S.hp r).map (renO (keepM rs)) else none
  | [], r => by simp [canonHp, ofRoots, rmem]
  | q :: l, r => by
    simp only [canonHp, ofRoots]
    rw [cond_eq_if]
    by_cases hb : rbeq r q = true
    · have := rbeq_eq.1 hb
      subst this
      rw [if_pos hb, if_pos (show rmem r (r :: l) = true by rw [rmem_iff]; simp)]
      cases S.hp r <;> rfl
    · rw [if_neg hb]
      rw [Bool.not_eq_true] at hb
      have e : rmem r (q :: l) = rmem r l := by simp [rmem, hb]
      rw [e]
      exact canonHp_get rs S l r
section
variable {P : Program} {E : Env} {S : St} {a : Act} {w : World} {cx : Cx} {hints : Nat → Hint} {call : Nat → List AV → List Ob → Option Ret}
theorem canonAt_sim (h : Sim E S a w cx) (hint : Hint) (k : Nat) : ∃ cx', Sim E (canonAt hint k S) a w cx' := by
  unfold canonAt
  split
  · rename_i ks _
    refine ⟨_, h.only (fun r => rmem r ks.2) (fun i => ?_) ?_⟩
    · rw [← keepM_only]
      exact canonSl_get ks.2 S ks.1 i
    · rw [← keepM_only]
      funext r
      exact canonHp_get ks.2 S ks.2 r
  · exact ⟨cx, h⟩
def toExit : Ex → Exit
  | .normal => .normal
  | .exit id => .exit id
  | .ret => .ret
theorem dropS_sim (h : Sim E S a w cx) (ks : List Root) : ∃ cx', Sim E (dropS ks S) a w cx' := by
  refine ⟨_, h.only (fun r => !rmem r ks) (fun i => ?_) ?_⟩
  · rw [← killM_only]
    exact .inr rfl
  · rw [← killM_only]
    funext r
    simp only [dropS]
    cases rmem r ks <;> rfl
theorem prep_sim (h : Sim E S a w cx) (ops : Array Oper) : ∃ cx', Sim E (prep ops S) a w cx' := by
  unfold prep
  split
  · exact ⟨cx, h⟩
  · exact dropS_sim h _
theorem tryDraw_wp (hN : NoNum P) (hC : CallOK P call) (hm : P.follows .mixedOrders = true) (hn : E.n ≤ PAR) (h : Sim E S a w cx) {id : Nat} {ops : Array Oper} {S' : St} {Q : Exit → Act → World → Prop} (hr : tryDraw P hints call E.n ops S = some S') (hQ : ∀ a' w' cx', Sim E S' a' w' cx' → Q .normal a' w') : (Code.region id ops true).wp P Q a w := by
  unfold tryDraw at hr
  split at hr
  · rename_i S1 ts h1
    rw [cond_eq_if] at hr
    split at hr
    · rename_i hi
      injection hr with hr
      subst hr
      rw [Bool.and_eq_true] at hi
      exact draw_wp hN hm hC hn h h1 hi.1 hi.2 hQ
    · cases hr
  · cases hr
theorem exec_wp (hN : NoNum P) (hC : CallOK P call) (hm : P.follows .mixedOrders = true) (hn : E.n ≤ PAR) (hint : Hint) (n : Nat) : ∀ (c : Code) (k : Nat) {S S' : St} {e : Ex} {a : Act} {w : World} {cx : Cx} {Q : Exit → Act → World → Prop}, Sim E S a w cx → exec P hints call E.n hint n c k S = some (e, S') →
    (∀ a' w' cx', Sim E S' a' w' cx' → Q (toExit e) a' w') → c.wp P Q a w := by
  intro c
  induction c with
  | skip =>
    intro k S S' e a w cx Q h he hQ
    simp only [exec, Option.some.injEq, Prod.mk.injEq] at he
    obtain ⟨rfl, rfl⟩ := he
    exact wp_skip (hQ _ _ _ h)
  | label l =>
    intro k S S' e a w cx Q h he hQ
    simp only [exec, Option.some.injEq, Prod.mk.injEq] at he
    obtain ⟨rfl, rfl⟩ := he
    exact wp_label (hQ _ _ _ h)
  | scope c ih =>
    intro k S S' e a w cx Q h he hQ
    simp only [exec] at he
    refine wp_scope_straight (ih k h he fun a' w' cx' hs => ?_)
    have := hQ a' w' cx' hs
    cases e <;> exact this
  | seq x y ihx ihy =>
    intro k S S' e a w cx Q h he hQ
    simp only [exec] at he
    refine wp_seq ?_
    split at he
    · rename_i S1 hx
      exact ihx k h hx fun a' w' cx' hs => ihy k hs he hQ
    · rename_i hx
      refine ihx k h he fun a' w' cx' hs => ?_
      cases e with
      | normal => exact absurd he (hx S')
      | exit id => exact hQ _ _ _ hs
      | ret => exact hQ _ _ _ hs
  | cond c x y ihx ihy =>
    intro k S S' e a w cx Q h he hQ
    simp only [exec] at he
    split at he
    · rename_i t ht
      have hv := asBoolA_rep (h.ov c) ht
      refine wp_cond hv ?_
      cases t with
      | true => exact ihx k h he hQ
      | false => exact ihy k h he hQ
    · cases he
  | block id c ih =>
    intro k S S' e a w cx Q h he hQ
    simp only [exec] at he
    refine wp_block ?_
    split at he
    · rename_i S1 hx
      simp only [Option.some.injEq, Prod.mk.injEq] at he
      obtain ⟨rfl, rfl⟩ := he
      exact ih id h hx fun a' w' cx' hs => by
        obtain ⟨cx2, h2⟩ := canonAt_sim hs hint (2 * id + 1)
        exact hQ _ _ _ h2
    · rename_i i S1 hx
      split at he
      · rename_i hi
        simp only [Option.some.injEq, Prod.mk.injEq] at he
        obtain ⟨rfl, rfl⟩ := he
        exact ih id h hx fun a' w' cx' hs => by
          obtain ⟨cx2, h2⟩ := canonAt_sim hs hint (2 * id + 1)
          simp only [toExit, Exit.inBlock, hi, if_true]
          exact hQ _ _ _ h2
      · rename_i hi
        simp only [Option.some.injEq, Prod.mk.injEq] at he
        obtain ⟨rfl, rfl⟩ := he
        exact ih id h hx fun a' w' cx' hs => by
          simp only [toExit, Exit.inBlock, hi, if_false]
          exact hQ _ _ _ hs
    · rename_i h1 h2
      exact ih id h he fun a' w' cx' hs => by
        cases e with
        | normal => exact absurd he (h1 S')
        | exit i => exact absurd he (h2 i S')
        | ret => exact hQ _ _ _ hs
  | exit id =>
    intro k S S' e a w cx Q h he hQ
    simp only [exec, Option.some.injEq, Prod.mk.injEq] at he
    obtain ⟨rfl, rfl⟩ := he
    exact wp_exit (hQ _ _ _ h)
  | ret =>
    intro k S S' e a w cx Q h he hQ
    simp only [exec, Option.some.injEq, Prod.mk.injEq] at he
    obtain ⟨rfl, rfl⟩ := he
    obtain ⟨cx2, h2⟩ := canonAt_sim h hint 2000001
    exact wp_ret (hQ _ _ _ h2)
  | region id ops draw =>
    intro k S S' e a w cx Q h he hQ
    simp only [exec] at he
    cases draw with
    | false =>
      simp only [Bool.false_eq_true, if_false] at he
      split at he
      · rename_i S1 hr
        simp only [Option.some.injEq, Prod.mk.injEq] at he
        obtain ⟨rfl, rfl⟩ := he
        exact wp_region (runText_all hN hC hn h hr hQ)
      · cases he
    | true =>
      simp only [if_true] at he
      split at he
      · rename_i S1 hr
        simp only [Option.some.injEq, Prod.mk.injEq] at he
        obtain ⟨rfl, rfl⟩ := he
        obtain ⟨cx2, h2⟩ := prep_sim h ops
        exact tryDraw_wp hN hC hm hn h2 hr hQ
      · cases he
  | loop c ih =>
    intro k S S' e a w cx Q h he hQ
    simp only [exec] at he
    refine wp_loop_rounds n ?_
    have key : ∀ (m : Nat) {S : St} {a : Act} {w : World} {cx : Cx}, Sim E S a w cx → execLoop (exec P hints call E.n hint n c k) (canonAt hint (2 * k)) m S = some (e, S') → Code.rounds P c Q m a w := by
      intro m
      induction m with
      | zero => intro S a w cx h he; simp [execLoop] at he
      | succ m ihm =>
        intro S a w cx h he
        obtain ⟨cx2, h2⟩ := canonAt_sim h hint (2 * k)
        simp only [execLoop] at he
        split at he
        · rename_i S1 hx
          exact ih k h2 hx fun a' w' cx' hs => ihm hs he
        · rename_i hx
          refine ih k h2 he fun a' w' cx' hs => ?_
          cases e with
          | normal => exact absurd he (hx S')
          | exit id => exact hQ _ _ _ hs
          | ret => exact hQ _ _ _ hs
    exact key n h he
  | _ =>
    intro k S S' e a w cx Q h he hQ
    simp [exec] at he
end
end Go.Am
