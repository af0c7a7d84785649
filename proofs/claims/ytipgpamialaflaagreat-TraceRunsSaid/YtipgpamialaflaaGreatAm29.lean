/-
  AM, PART 29: tables of what is known of functions; a call by a table.
-/
import Derived.Test.YtipgpamialaflaaGreatAm28
set_option linter.unusedVariables false
set_option linter.unusedSimpArgs false
namespace Go.Am
open Go Go.RowKit

/-! ### Comparing abstract values -/
def beqI : Int → Int → Bool
  | .ofNat m, .ofNat n => Nat.beq m n
  | .negSucc m, .negSucc n => Nat.beq m n
  | _, _ => false
def beqBs : List UInt8 → List UInt8 → Bool
  | [], [] => true
  | a :: l, b :: m => Nat.beq a.toNat b.toNat && beqBs l m
  | _, _ => false
def beqV : Value → Value → Bool
  | .bool a, .bool b => beqB a b
  | .int k a, .int k' b => decide (k = k') && beqI a b
  | .string a, .string b => beqBs a.data.toList b.data.toList
  | .pointer none, .pointer none => true
  | .map none, .map none => true
  | .nilFunc, .nilFunc => true
  | .nilIface, .nilIface => true
  | _, _ => false
mutual
def beqP : PV → PV → Bool
  | .sc a, .sc b => beqV a b
  | .sl k xs, .sl k' ys => Nat.beq k k' && beqPss xs ys
  | .pv l, .pv m => beqPs l m
  | _, _ => false
def beqPs : List PV → List PV → Bool
  | [], [] => true
  | x :: l, y :: m => beqP x y && beqPs l m
  | _, _ => false
def beqPss : List (List PV) → List (List PV) → Bool
  | [], [] => true
  | x :: l, y :: m => beqPs x y && beqPss l m
  | _, _ => false
end
mutual
def beqC : CV → CV → Bool
  | .un, .un => true
  | .nl, .nl => true
  | .p x, .p y => beqP x y
  | .ra l o, .ra m o' => Nat.beq o o' && beqPs l m
  | .ptr r o, .ptr r' o' => rbeq r r' && Nat.beq o o'
  | .arr r k, .arr r' k' => rbeq r r' && Nat.beq k k'
  | .ep r k i j, .ep r' k' i' j' => rbeq r r' && (Nat.beq k k' && (Nat.beq i i' && Nat.beq j j'))
  | .mp r, .mp r' => rbeq r r'
  | .clo f cs, .clo f' cs' => Nat.beq f f' && beqCs cs cs'
  | _, _ => false
def beqCs : List CV → List CV → Bool
  | [], [] => true
  | x :: l, y :: m => beqC x y && beqCs l m
  | _, _ => false
end
mutual
def beqA : AV → AV → Bool
  | .c x, .c y => beqC x y
  | .agg l, .agg m => beqCs l m
  | .tup l, .tup m => beqAs l m
  | _, _ => false
def beqAs : List AV → List AV → Bool
  | [], [] => true
  | x :: l, y :: m => beqA x y && beqAs l m
  | _, _ => false
end
def beqEs : List (List PV × List PV) → List (List PV × List PV) → Bool
  | [], [] => true
  | x :: l, y :: m => beqPs x.1 y.1 && beqPs x.2 y.2 && beqEs l m
  | _, _ => false
def beqO : Ob → Ob → Bool
  | .cells t l, .cells t' m => Nat.beq t t' && beqCs l m
  | .arr e k xs s, .arr e' k' ys s' => Nat.beq e e' && (Nat.beq k k' && (beqPss xs ys && beqB s s'))
  | .map ka va es, .map ka' va' es' => beqB ka ka' && (beqB va va' && beqEs es es')
  | _, _ => false
def beqOs : List Ob → List Ob → Bool
  | [], [] => true
  | x :: l, y :: m => beqO x y && beqOs l m
  | _, _ => false

theorem beqI_eq : ∀ {a b : Int}, beqI a b = true → a = b
  | .ofNat m, .ofNat n, h => by rw [Nat.eq_of_beq_eq_true h]
  | .negSucc m, .negSucc n, h => by rw [Nat.eq_of_beq_eq_true h]
  | .ofNat _, .negSucc _, h => by cases h
  | .negSucc _, .ofNat _, h => by cases h
theorem beqBs_eq : ∀ {a b : List UInt8}, beqBs a b = true → a = b
  | [], [], _ => rfl
  | x :: l, y :: m, h => by
    simp only [beqBs, Bool.and_eq_true] at h
    rw [UInt8.toNat_inj.1 (Nat.eq_of_beq_eq_true h.1), beqBs_eq h.2]
  | [], _ :: _, h => by cases h
  | _ :: _, [], h => by cases h
theorem beqV_eq {a b : Value} (h : beqV a b = true) : a = b := by
  unfold beqV at h
  split at h
  · rw [beqB_eq h]
  · rw [Bool.and_eq_true] at h
    rw [of_decide_eq_true h.1, beqI_eq h.2]
  · rename_i a b
    have := beqBs_eq h
    have h2 : a.data = b.data := Array.toList_inj.1 this
    obtain ⟨a⟩ := a
    obtain ⟨b⟩ := b
    simp only at h2
    rw [h2]
  · rfl
  · rfl
  · rfl
  · rfl
  · cases h
mutual
theorem beqP_eq : ∀ {a b : PV}, beqP a b = true → a = b
  | .sc a, .sc b, h => by
    simp only [beqP] at h
    rw [beqV_eq h]
  | .sl k xs, .sl k' ys, h => by
    simp only [beqP, Bool.and_eq_true] at h
    rw [Nat.eq_of_beq_eq_true h.1, beqPss_eq h.2]
  | .pv l, .pv m, h => by
    simp only [beqP] at h
    rw [beqPs_eq h]
  | .sc _, .sl .., h => by simp [beqP] at h
  | .sc _, .pv _, h => by simp [beqP] at h
  | .sl .., .sc _, h => by simp [beqP] at h
  | .sl .., .pv _, h => by simp [beqP] at h
  | .pv _, .sc _, h => by simp [beqP] at h
  | .pv _, .sl .., h => by simp [beqP] at h
theorem beqPs_eq : ∀ {a b : List PV}, beqPs a b = true → a = b
  | [], [], _ => rfl
  | x :: l, y :: m, h => by
    simp only [beqPs, Bool.and_eq_true] at h
    rw [beqP_eq h.1, beqPs_eq h.2]
  | [], _ :: _, h => by simp [beqPs] at h
  | _ :: _, [], h => by simp [beqPs] at h
theorem beqPss_eq : ∀ {a b : List (List PV)}, beqPss a b = true → a = b
  | [], [], _ => rfl
  | x :: l, y :: m, h => by
    simp only [beqPss, Bool.and_eq_true] at h
    rw [beqPs_eq h.1, beqPss_eq h.2]
  | [], _ :: _, h => by simp [beqPss] at h
  | _ :: _, [], h => by simp [beqPss] at h
end
mutual
theorem beqC_eq : ∀ {a b : CV}, beqC a b = true → a = b := by
  intro a b h
  cases a <;> cases b <;> simp only [beqC, Bool.and_eq_true, Bool.false_eq_true] at h
  · rfl
  · rfl
  · rw [beqP_eq h]
  · rw [Nat.eq_of_beq_eq_true h.1, beqPs_eq h.2]
  · rw [rbeq_eq.1 h.1, Nat.eq_of_beq_eq_true h.2]
  · rw [rbeq_eq.1 h.1, Nat.eq_of_beq_eq_true h.2]
  · rw [rbeq_eq.1 h.1, Nat.eq_of_beq_eq_true h.2.1, Nat.eq_of_beq_eq_true h.2.2.1, Nat.eq_of_beq_eq_true h.2.2.2]
  · rw [rbeq_eq.1 h]
  · rw [Nat.eq_of_beq_eq_true h.1, beqCs_eq h.2]
theorem beqCs_eq : ∀ {a b : List CV}, beqCs a b = true → a = b
  | [], [], _ => rfl
  | x :: l, y :: m, h => by
    simp only [beqCs, Bool.and_eq_true] at h
    rw [beqC_eq h.1, beqCs_eq h.2]
  | [], _ :: _, h => by simp [beqCs] at h
  | _ :: _, [], h => by simp [beqCs] at h
end
mutual
theorem beqA_eq : ∀ {a b : AV}, beqA a b = true → a = b
  | .c x, .c y, h => by
    simp only [beqA] at h
    rw [beqC_eq h]
  | .agg x, .agg y, h => by
    simp only [beqA] at h
    rw [beqCs_eq h]
  | .tup x, .tup y, h => by
    simp only [beqA] at h
    rw [beqAs_eq h]
  | .c _, .agg _, h => by simp [beqA] at h
  | .c _, .tup _, h => by simp [beqA] at h
  | .agg _, .c _, h => by simp [beqA] at h
  | .agg _, .tup _, h => by simp [beqA] at h
  | .tup _, .c _, h => by simp [beqA] at h
  | .tup _, .agg _, h => by simp [beqA] at h
theorem beqAs_eq : ∀ {a b : List AV}, beqAs a b = true → a = b
  | [], [], _ => rfl
  | x :: l, y :: m, h => by
    simp only [beqAs, Bool.and_eq_true] at h
    rw [beqA_eq h.1, beqAs_eq h.2]
  | [], _ :: _, h => by simp [beqAs] at h
  | _ :: _, [], h => by simp [beqAs] at h
end
theorem beqEs_eq : ∀ {a b : List (List PV × List PV)}, beqEs a b = true → a = b
  | [], [], _ => rfl
  | x :: l, y :: m, h => by
    simp only [beqEs, Bool.and_eq_true] at h
    rw [Prod.ext (beqPs_eq h.1.1) (beqPs_eq h.1.2), beqEs_eq h.2]
  | [], _ :: _, h => by simp [beqEs] at h
  | _ :: _, [], h => by simp [beqEs] at h
theorem beqO_eq {a b : Ob} (h : beqO a b = true) : a = b := by
  cases a <;> cases b <;> simp only [beqO, Bool.and_eq_true, Bool.false_eq_true] at h
  · rw [Nat.eq_of_beq_eq_true h.1, beqCs_eq h.2]
  · rw [Nat.eq_of_beq_eq_true h.1, Nat.eq_of_beq_eq_true h.2.1, beqPss_eq h.2.2.1, beqB_eq h.2.2.2]
  · rw [beqB_eq h.1, beqB_eq h.2.1, beqEs_eq h.2.2]
theorem beqOs_eq : ∀ {a b : List Ob}, beqOs a b = true → a = b
  | [], [], _ => rfl
  | x :: l, y :: m, h => by
    simp only [beqOs, Bool.and_eq_true] at h
    rw [beqO_eq h.1, beqOs_eq h.2]
  | [], _ :: _, h => by simp [beqOs] at h
  | _ :: _, [], h => by simp [beqOs] at h

/-! ### Tables -/
abbrev Fn := List AV → List Ob → Option Ret
/-- what a call at these arguments answers is so -/
def EnOK (P : Program) (f : Nat) (as : List AV) (objs : List Ob) (ret : Ret) : Prop :=
  ∀ (w : World) (cx : Cx) (mu : Nat → Prop) (vs : List Value), as.length = vs.length → (∀ (i : Nat) (x : AV) (v : Value), as[i]? = some x → vs[i]? = some v → RepA w cx x v) →
    Good (startHp objs) w cx (fun g => mu g ∨ w.heap.size ≤ g) → Calls P f vs.toArray w fun e w' => match e with | .returned v => ∃ cx', Returns w cx.pr mu cx.β ret v w' cx' | _ => False
/-- a function answers as F says, where F says something -/
def FnOK (P : Program) (f : Nat) (F : Fn) : Prop := ∀ as objs ret, F as objs = some ret → EnOK P f as objs ret
def tbl : List (Nat × Fn) → Nat → List AV → List Ob → Option Ret
  | [], _, _, _ => none
  | (f, F) :: T, g, as, os => bif Nat.beq f g then (match F as os with | some r => some r | none => tbl T g as os) else tbl T g as os
def TblOK (P : Program) (T : List (Nat × Fn)) : Prop := ∀ x ∈ T, FnOK P x.1 x.2
theorem TblOK.nil (P : Program) : TblOK P [] := fun x h => by simp at h
theorem TblOK.cons {P : Program} {f : Nat} {F : Fn} {T : List (Nat × Fn)} (h : FnOK P f F) (k : TblOK P T) : TblOK P ((f, F) :: T) := fun x hx => by
  rcases List.mem_cons.1 hx with rfl | hx
  · exact h
  · exact k x hx
theorem TblOK.call {P : Program} : ∀ {T : List (Nat × Fn)}, TblOK P T → CallOK P (tbl T)
  | [], _ => fun g as objs ret h => by simp [tbl] at h
  | (f, F) :: T, hT => fun g as objs ret h => by
    simp only [tbl] at h
    have ih := TblOK.call (T := T) (fun x hx => hT x (List.mem_cons_of_mem _ hx)) g as objs ret
    cases hb : Nat.beq f g with
    | false => rw [hb] at h; exact ih h
    | true =>
      rw [hb] at h
      have := Nat.eq_of_beq_eq_true hb
      subst this
      simp only [cond_true] at h
      split at h
      · rename_i r hr
        injection h with h
        subst h
        exact hT (f, F) (by simp) as objs r hr
      · exact ih h
/-- one call alone -/
def once (as : List AV) (os : List Ob) (r : Ret) : Fn := fun as' os' => bif beqAs as as' && beqOs os os' then some r else none
theorem once_OK {P : Program} {f : Nat} {as : List AV} {os : List Ob} {r : Ret} (h : EnOK P f as os r) : FnOK P f (once as os r) := by
  intro as' os' r' hr
  unfold once at hr
  cases hb : (beqAs as as' && beqOs os os') with
  | false => rw [hb] at hr; cases hr
  | true =>
    rw [hb] at hr
    rw [Bool.and_eq_true] at hb
    injection hr with hr
    subst hr
    rw [← beqAs_eq hb.1, ← beqOs_eq hb.2]
    exact h
/-- a call run by the functions' code, the callees by a table -/
theorem run_En {P : Program} {hints : Nat → Hint} (hN : NoNum P) (hm : P.follows .mixedOrders = true) {T : List (Nat × Fn)} (hT : TblOK P T) {n f : Nat} {as : List AV} {objs : List Ob} {ret : Ret} (hr : runFn P hints (tbl T) n f as objs = some ret) : EnOK P f as objs ret :=
  fun w cx mu vs hl hrep hg => runFn_OK hN hm hT.call hr w cx mu vs hl hrep hg
end Go.Am
