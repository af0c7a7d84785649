/-
  AM, PART 30: a law's call: from a table's word to the row's own words.
-/
import Derived.Test.YtipgpamialaflaaGreatAm29
import Derived.Below
import Derived.ChangeSame
import Derived.WalkKit
import Derived.ProofKit
import Derived.OpenShut
set_option linter.unusedVariables false
set_option linter.unusedSimpArgs false
namespace Go.Am
open Go Go.RowKit Go.WideShapes Go.ChangeShapes

theorem noNum_of {P : Program} (h : P.funcs.toList.all (fun fn => !(fn.name == "runtime.NumGoroutine")) = true) : NoNum P := by
  intro f fn hf
  have hm : fn ∈ P.funcs.toList := by
    rw [← Array.getElem?_toList] at hf
    exact List.mem_of_getElem? hf
  have := List.all_eq_true.1 h fn hm
  simpa using this
theorem EnOK.law {P : Program} {f : Nat} {as : List AV} (h : EnOK P f as [] ⟨scB true, [], []⟩) {w : World} {pr : Nat → Nat → Prop} (hlt : ∀ b o, pr b o → b < w.heap.size) {vs : List Value} (hl : as.length = vs.length)
    (hr : ∀ (i : Nat) (x : AV) (v : Value), as[i]? = some x → vs[i]? = some v → RepA w ⟨fun _ => none, pr⟩ x v) : Calls P f vs.toArray w fun e w' => e = .returned (.bool true) ∧ Below w.heap.size w w' := by
  have hg : Good (startHp []) w ⟨fun _ => none, pr⟩ (fun g => False ∨ w.heap.size ≤ g) :=
    { rep := fun r o hr => by
        obtain ⟨i, _, hi⟩ := startHp_some hr
        simp at hi
      inj := fun r r' g hr => by simp [blkOf] at hr
      lt := hlt
      dom := fun r b hb => by simp at hb
      free := fun r g hr => by simp [blkOf] at hr }
  refine (h w ⟨fun _ => none, pr⟩ (fun _ => False) vs hl hr hg).mono fun e w' he => ?_
  cases e with
  | panicked => exact he.elim
  | outgrown => exact he.elim
  | returned v =>
    obtain ⟨cx', R⟩ := he
    have hv := R.res.sc_inv.1
    exact ⟨by rw [hv], R.fr.os, R.fr.tape, R.fr.output, R.fr.size, fun k hk => R.fr.blk k hk (fun h => h)⟩
theorem EnOK.closed {P : Program} {f : Nat} (h : EnOK P f [] [] ⟨scB true, [], []⟩) (w : World) : Calls P f #[] w fun e w' => e = .returned (.bool true) ∧ Below w.heap.size w w' :=
  h.law (pr := fun _ _ => False) (fun _ _ h => h.elim) (vs := []) rfl fun i x v hx => by simp at hx

section
variable {H : Type} {enc : TypeId × Value → H} {P : Program}
/-- what a call leaves that wrote nothing that was there -/
theorem post_kept {fn : Func} {s : ChangeSpec} {a1 a2 a3 a4 : Bool} {w w' : World} {args : Array Value} {v : Value} {ds gs : List (DataW H)} {places : List MemPlace}
    (hW : DataW.Whole enc P fn.params.toList s.vars a1 w args.toList ds gs places) (hb : Below w.heap.size w w')
    (hres : ∀ (b : Nat) (sp : Nat → Bool) (hd : Bool), DataW.TrodAll enc P w' b sp hd fn.resultTypes.toList (v.resultList fn.resultTypes.size) (s.fn H (ds ++ gs)).results [])
    (hargs : ∀ sp : Nat → Bool, (∀ p ∈ places, sp p.block = true) → DataW.TrodAll enc P w' 0 sp true fn.params.toList args.toList (s.fn H (ds ++ gs)).args places)
    (hvars : ∀ sp : Nat → Bool, (∀ p ∈ places, sp p.block = true) → DataW.TrodVars enc P w' sp s.vars (s.fn H (ds ++ gs)).vars [])
    (hok : ∀ (j : Nat) (t : TypeId) (r : Value), fn.resultTypes[j]? = some t → (v.resultList fn.resultTypes.size)[j]? = some r → Value.okWide P w' .any 0 t r) : s.post enc P fn a1 a2 a3 a4 w args v w' := by
  have old : ∀ p ∈ places, p.block < w.heap.size := fun p hp => hW.lt p hp
  have sp0 : ∀ p ∈ places, (fun b => decide (b < w.heap.size)) p.block = true := fun p hp => decide_eq_true (old p hp)
  refine ⟨ds, gs, places, [], places, [], hW, hres _ _ _, hargs _ sp0, hvars _ sp0, World.keptBut_mono (fun p hp => ⟨hp, .inr (by simpa using hp)⟩) (hb.frame (· ∈ places)), fun _ => ?_⟩
  obtain ⟨_, _, _, _, _, hz, hn⟩ := hW
  refine ⟨hok, _, _, [] ++ places ++ [], ⟨[] ++ places, [], trodAll_append (hargs _ fun _ _ => rfl) (hres _ _ _), hvars _ fun _ _ => rfl, rfl, fun b off hp => ?_, fun ha => ?_⟩, fun p hp _ => by simpa using hp⟩
  · have hin : MemPlace.cell b off ∈ places := by simpa using hp
    rw [hb.frozen (old _ hin)]
    exact hz b off hin
  · simpa using hn ha
end
end Go.Am
