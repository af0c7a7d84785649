/-
  AM, PART 5: THE STATE STANDS FOR THE FRAME AND THE WORLD, and what keeps it so: forgetting, sealing, an object new or changed.
-/
import Derived.Test.YtipgpamialaflaaGreatAm4
set_option linter.unusedVariables false
set_option linter.unusedSimpArgs false
namespace Go.Am
open Go Go.RowKit

structure Fr (w0 : World) (pr0 : Nat → Nat → Prop) (mu : Nat → Prop) (w : World) (pr : Nat → Nat → Prop) : Prop where
  os : w.os = w0.os
  tape : w.tape = w0.tape
  output : w.output = w0.output
  size : w0.heap.size ≤ w.heap.size
  blk : ∀ b, b < w0.heap.size → ¬ mu b → w.heap[b]? = w0.heap[b]?
  last : Lasts w0 pr0 w pr
  new : ∀ b o, pr b o → pr0 b o ∨ mu b ∨ w0.heap.size ≤ b
def blkOf (cx : Cx) (r : Root) : Option Nat := (cx.β r).bind RB.block
structure Good (hp : Root → Option Ob) (w : World) (cx : Cx) (free : Nat → Prop) : Prop where
  rep : ∀ r o, hp r = some o → RepO w cx r o
  inj : ∀ r r' g, blkOf cx r = some g → blkOf cx r' = some g → r = r'
  lt : ∀ b o, cx.pr b o → b < w.heap.size
  dom : ∀ r b, cx.β r = some b → ∃ o, hp r = some o
  free : ∀ r g, blkOf cx r = some g → free g
structure Env where
  w : World
  pr : Nat → Nat → Prop
  mu : Nat → Prop
  n : Nat
  β0 : Root → Option RB
def Env.free (E : Env) (g : Nat) : Prop := E.mu g ∨ E.w.heap.size ≤ g
structure Sim (E : Env) (S : St) (a : Act) (w : World) (cx : Cx) : Prop where
  fr : Fr E.w E.pr E.mu w cx.pr
  good : Good S.hp w cx E.free
  defers : a.defers = []
  size : a.tmps.size = E.n
  slots : ∀ (i : Nat) (v : Value), a.tmps[i]? = some v → RepA w cx (S.sl i) v
  high : ∀ i, E.n ≤ i → S.sl i = .c .un
  par : ∀ i b, cx.β (PAR, i) = some b → E.β0 (PAR, i) = some b

/-! ### Roots -/
theorem rbeq_eq {a b : Root} : rbeq a b = true ↔ a = b := by
  obtain ⟨a1, a2⟩ := a
  obtain ⟨b1, b2⟩ := b
  simp [rbeq]
theorem rbeq_ne {a b : Root} : rbeq a b = false ↔ a ≠ b := by
  rw [← Bool.not_eq_true, rbeq_eq]
theorem rmem_iff {r : Root} : ∀ {l : List Root}, rmem r l = true ↔ r ∈ l
  | [] => by simp [rmem]
  | x :: l => by simp [rmem, rmem_iff (l := l), rbeq_eq]
theorem rmem_false {r : Root} {l : List Root} : rmem r l = false ↔ r ∉ l := by rw [← Bool.not_eq_true, rmem_iff]

theorem oneCell_of_pv {w : World} {pr : Nat → Nat → Prop} {x : PV} {v : Value} (h : RepP w pr x v) : v.oneCell' = true := by
  cases h with
  | sc v h => cases v <;> simp_all [plainV, Value.oneCell']
  | sl0 => rfl
  | sl => rfl
  | pv => rfl

/-! ### An object seen from another state -/
theorem RepO.block_lt {w : World} {cx : Cx} {r : Root} {o : Ob} (h : RepO w cx r o) {g : Nat} (hg : blkOf cx r = some g) : g < w.heap.size := by
  cases o with
  | cells t l =>
    obtain ⟨g', cs, hb, hh, _⟩ := h
    simp [blkOf, hb, RB.block] at hg
    subst hg
    exact (Array.getElem?_eq_some_iff.1 hh).1
  | arr e k xs s =>
    obtain ⟨v, ys, hb, ho, _⟩ := h
    simp [blkOf, hb, RB.block] at hg
    exact (ho.lt g hg).2
  | map ka va es =>
    obtain ⟨g', cs, hb, hh, _⟩ := h
    simp [blkOf, hb, RB.block] at hg
    subst hg
    exact (Array.getElem?_eq_some_iff.1 hh).1
theorem ownsRow_same {w w' : World} {e : TypeId} {k n : Nat} {v : Value} {ys : List Value} (h : w.ownsRow 0 e k v n ys) (hh : ∀ g, v.ownBlock = some g → w'.heap[g]? = w.heap[g]?) : w'.ownsRow 0 e k v n ys := by
  refine ⟨h.1, ?_⟩
  rcases h.2 with h0 | ⟨g, cap, cur, rfl, hb, hg, rest⟩
  · exact .inl h0
  · exact .inr ⟨g, cap, cur, rfl, hb, (hh g rfl).trans hg, rest⟩
theorem RepO.move {w w' : World} {cx cx' : Cx} {m : Root → Option Root} {r r' : Root} {o : Ob} (hm : Names cx cx' m) (k : Lasts w cx.pr w' cx'.pr)
    (hb : ∀ b, cx.β r = some b → cx'.β r' = some b) (hh : ∀ g, blkOf cx r = some g → w'.heap[g]? = w.heap[g]?)
    (hp : ∀ g o, blkOf cx r = some g → cx'.pr g o → cx.pr g o) (h : RepO w cx r o) : RepO w' cx' r' (renO m o) := by
  cases o with
  | cells t l =>
    obtain ⟨g, cs, h1, h2, h3, h4, h5⟩ := h
    have hg : blkOf cx r = some g := by simp [blkOf, h1, RB.block]
    refine ⟨g, cs, hb _ h1, (hh g hg).trans h2, by simpa [renCs_length] using h3, fun i x v hx hv => ?_, fun o ho => h5 o (hp g o hg ho)⟩
    rw [renCs_get] at hx
    cases hc : l[i]? with
    | none => rw [hc] at hx; cases hx
    | some y =>
      rw [hc] at hx
      injection hx with hx
      subst hx
      exact ⟨(h4 i y v hc hv).1, (h4 i y v hc hv).2.ren hm k⟩
  | arr e kk xs s =>
    obtain ⟨v, ys, h1, h2, h3, h4, h5, h6⟩ := h
    refine ⟨v, ys, hb _ h1, ownsRow_same h2 fun g hg => hh g (by simp [blkOf, h1, RB.block, hg]), h3, h4, fun i el j x he hx => ?_, fun g o hg ho => h6 g o hg (hp g o (by simp [blkOf, h1, RB.block, hg]) ho)⟩
    obtain ⟨u, hu, hou, hr⟩ := h5 i el j x he hx
    exact ⟨u, hu, hou, hr.lasts k⟩
  | map ka va es =>
    obtain ⟨g, ents, h1, h2, h3, h4, h5⟩ := h
    have hg : blkOf cx r = some g := by simp [blkOf, h1, RB.block]
    refine ⟨g, ents, hb _ h1, (hh g hg).trans h2, h3, fun i ks vs en he hn => ?_, fun o ho => h5 o (hp g o hg ho)⟩
    obtain ⟨a, b, c⟩ := h4 i ks vs en he hn
    exact ⟨a.lasts k, b.lasts k, c⟩
theorem renO_id {m : Root → Option Root} (hm : ∀ r, m r = some r) (o : Ob) : renO m o = o := by
  cases o <;> simp [renO, renCs_id hm]
theorem RepO.keep {w w' : World} {cx cx' : Cx} {r : Root} {o : Ob} (hm : ∀ r b, cx.β r = some b → cx'.β r = some b) (k : Lasts w cx.pr w' cx'.pr)
    (hh : ∀ g, blkOf cx r = some g → w'.heap[g]? = w.heap[g]?) (hp : ∀ g o, blkOf cx r = some g → cx'.pr g o → cx.pr g o) (h : RepO w cx r o) : RepO w' cx' r o := by
  have := RepO.move (m := some) (r' := r) (fun r r' b h1 h2 => by injection h1 with h1; subst h1; exact hm r b h2) k (hm r) hh hp h
  rwa [renO_id (fun _ => rfl)] at this

/-! ### Forgetting -/
def Cx.only (cx : Cx) (keep : Root → Bool) : Cx := { β := fun r => if keep r then cx.β r else none, pr := cx.pr }
def onlyM (keep : Root → Bool) (r : Root) : Option Root := if keep r then some r else none
theorem only_names (cx : Cx) (keep : Root → Bool) : Names cx (cx.only keep) (onlyM keep) := by
  intro r r' b h1 h2
  unfold onlyM at h1
  split at h1
  · rename_i hk
    injection h1 with h1
    subst h1
    simp [Cx.only, hk, h2]
  · cases h1
theorem blkOf_only {cx : Cx} {keep : Root → Bool} {r : Root} {g : Nat} (h : blkOf (cx.only keep) r = some g) : blkOf cx r = some g ∧ keep r = true := by
  unfold blkOf Cx.only at h
  by_cases hk : keep r = true
  · exact ⟨by simp only [hk, if_true] at h; exact h, hk⟩
  · simp [hk] at h
theorem Good.only {hp : Root → Option Ob} {w : World} {cx : Cx} {free : Nat → Prop} (h : Good hp w cx free) (keep : Root → Bool) :
    Good (fun r => if keep r then (hp r).map (renO (onlyM keep)) else none) w (cx.only keep) free where
  rep r o hr := by
    by_cases hk : keep r = true
    · simp only [hk, if_true] at hr
      cases ho : hp r with
      | none => rw [ho] at hr; cases hr
      | some o' =>
        rw [ho] at hr
        injection hr with hr
        subst hr
        exact RepO.move (only_names cx keep) (Lasts.refl w cx.pr) (fun b hb => by simp [Cx.only, hk, hb]) (fun _ _ => rfl) (fun _ _ _ h => h) (h.rep r o' ho)
    · simp [hk] at hr
  inj r r' g h1 h2 := h.inj r r' g (blkOf_only h1).1 (blkOf_only h2).1
  lt := h.lt
  dom r b hb := by
    unfold Cx.only at hb
    by_cases hk : keep r = true
    · simp only [hk, if_true] at hb
      obtain ⟨o, ho⟩ := h.dom r b hb
      exact ⟨renO (onlyM keep) o, by simp only [hk, if_true, ho, Option.map_some]⟩
    · simp [hk] at hb
  free r g hg := h.free r g (blkOf_only hg).1
theorem Sim.only {E : Env} {S : St} {a : Act} {w : World} {cx : Cx} (h : Sim E S a w cx) (keep : Root → Bool) {S' : St}
    (hs : ∀ i, S'.sl i = .c .un ∨ S'.sl i = renA (onlyM keep) (S.sl i)) (hh : S'.hp = fun r => if keep r then (S.hp r).map (renO (onlyM keep)) else none) : Sim E S' a w (cx.only keep) where
  fr := h.fr
  good := by rw [hh]; exact h.good.only keep
  defers := h.defers
  size := h.size
  slots i v hv := by
    rcases hs i with hi | hi
    · rw [hi]; exact .un v
    · rw [hi]; exact (h.slots i v hv).ren (only_names cx keep) (Lasts.refl w cx.pr)
  high i hi := by
    rcases hs i with h1 | h1
    · exact h1
    · rw [h1, h.high i hi]; rfl
  par i b hb := by
    unfold Cx.only at hb
    by_cases hk : keep (PAR, i) = true
    · simp only [hk, if_true] at hb; exact h.par i b hb
    · simp [hk] at hb

/-! ### A slot -/
def setSl (S : St) (dst : Option Nat) (v : AV) : St := { S with sl := match dst with | some d => fun j => bif Nat.beq j d then v else S.sl j | none => S.sl }
theorem Sim.put {E : Env} {S : St} {a : Act} {w : World} {cx : Cx} (h : Sim E S a w cx) (dst : Option Nat) (hd : ∀ d, dst = some d → d < E.n) {x : AV} {v : Value} (hv : RepA w cx x v) : Sim E (setSl S dst x) (a.put dst v) w cx where
  fr := h.fr
  good := h.good
  defers := by cases dst <;> simp [Act.put, h.defers]
  size := by cases dst <;> simp [Act.put, h.size]
  slots i u hu := by
    cases dst with
    | none => exact h.slots i u hu
    | some d =>
      simp only [Act.put, Array.getElem?_setIfInBounds] at hu
      simp only [setSl]
      by_cases hd' : d = i
      · subst hd'
        simp only [if_true] at hu
        split at hu
        · injection hu with hu
          subst hu
          simpa using hv
        · cases hu
      · have hb : Nat.beq i d = false := by
          rw [← Bool.not_eq_true, Nat.beq_eq]
          exact fun e => hd' e.symm
        simp only [hd', if_false] at hu
        rw [hb]
        exact h.slots i u hu
  high i hi := by
    cases dst with
    | none => exact h.high i hi
    | some d =>
      have hlt := hd d rfl
      have hb : Nat.beq i d = false := by
        rw [← Bool.not_eq_true, Nat.beq_eq]
        omega
      simp only [setSl]
      rw [hb]
      exact h.high i hi
  par := h.par

/-! ### An object, new or changed -/
def updH (hp : Root → Option Ob) (q : Root) (o : Option Ob) (r : Root) : Option Ob := bif rbeq r q then o else hp r
def updB (cx : Cx) (q : Root) (b : RB) : Cx := { β := fun r => bif rbeq r q then some b else cx.β r, pr := cx.pr }
theorem updB_same (cx : Cx) (q : Root) (b : RB) : (updB cx q b).β q = some b := by simp [updB, rbeq_eq.2 rfl]
theorem updB_other (cx : Cx) {q r : Root} (b : RB) (h : r ≠ q) : (updB cx q b).β r = cx.β r := by simp [updB, rbeq_ne.2 h]
structure Moves (E : Env) (cx : Cx) (w w' : World) (q : Root) (tb : Option Nat) : Prop where
  os : w'.os = w.os
  tape : w'.tape = w.tape
  output : w'.output = w.output
  size : w.heap.size ≤ w'.heap.size
  blk : ∀ b, b < w.heap.size → tb ≠ some b → w'.heap[b]? = w.heap[b]?
  apart : ∀ r g, r ≠ q → blkOf cx r = some g → tb ≠ some g
  free : ∀ g, tb = some g → E.free g
  last : Lasts w cx.pr w' cx.pr
theorem Fr.moves {E : Env} {w w' : World} {cx : Cx} {q : Root} {tb : Option Nat} (h : Fr E.w E.pr E.mu w cx.pr) (k : Moves E cx w w' q tb) : Fr E.w E.pr E.mu w' cx.pr where
  os := k.os.trans h.os
  tape := k.tape.trans h.tape
  output := k.output.trans h.output
  size := Nat.le_trans h.size k.size
  blk b hb hm := by
    refine (k.blk b (Nat.lt_of_lt_of_le hb h.size) fun ht => ?_).trans (h.blk b hb hm)
    rcases k.free b ht with hf | hf
    · exact hm hf
    · omega
  last := h.last.trans k.last
  new := h.new
theorem Sim.update {E : Env} {S : St} {a : Act} {w : World} {cx : Cx} (h : Sim E S a w cx) {w' : World} (q : Root) (rb : RB) (o : Ob) {tb : Option Nat} (k : Moves E cx w w' q tb)
    (hrb : ∀ b, cx.β q = some b → b = rb) (hq : RepO w' (updB cx q rb) q o) (hn : ∀ g, rb.block = some g → E.free g ∧ ∀ r, r ≠ q → blkOf cx r ≠ some g) (hpar : q.1 ≠ PAR ∨ cx.β q = some rb) :
    Sim E { S with hp := updH S.hp q (some o) } a w' (updB cx q rb) := by
  have hnm : ∀ r b, cx.β r = some b → (updB cx q rb).β r = some b := by
    intro r b hb
    by_cases e : r = q
    · subst e
      rw [updB_same, hrb b hb]
    · rw [updB_other cx rb e, hb]
  have hbk : ∀ r g, blkOf (updB cx q rb) r = some g → (r = q ∧ rb.block = some g) ∨ (r ≠ q ∧ blkOf cx r = some g) := by
    intro r g hg
    by_cases e : r = q
    · subst e
      unfold blkOf at hg
      rw [updB_same] at hg
      exact .inl ⟨rfl, hg⟩
    · unfold blkOf at hg
      rw [updB_other cx rb e] at hg
      exact .inr ⟨e, hg⟩
  exact {
    fr := h.fr.moves k
    good := {
      rep := fun r o' hr => by
        by_cases e : r = q
        · subst e
          simp only [updH, rbeq_eq.2 rfl, cond_true] at hr
          injection hr with hr
          subst hr
          exact hq
        · simp only [updH, rbeq_ne.2 e, cond_false] at hr
          have h0 := h.good.rep r o' hr
          exact h0.keep hnm k.last (fun g hg => k.blk g (h0.block_lt hg) (k.apart r g e hg)) (fun _ _ _ hp => hp)
      inj := fun r r' g h1 h2 => by
        rcases hbk r g h1 with ⟨e1, h1⟩ | ⟨e1, h1⟩ <;> rcases hbk r' g h2 with ⟨e2, h2⟩ | ⟨e2, h2⟩
        · exact e1.trans e2.symm
        · exact absurd h2 ((hn g h1).2 r' e2)
        · exact absurd h1 ((hn g h2).2 r e1)
        · exact h.good.inj r r' g h1 h2
      lt := fun b o' hb => Nat.lt_of_lt_of_le (h.good.lt b o' hb) k.size
      dom := fun r b hb => by
        by_cases e : r = q
        · subst e
          exact ⟨o, by simp [updH, rbeq_eq.2 rfl]⟩
        · rw [updB_other cx rb e] at hb
          obtain ⟨o', ho⟩ := h.good.dom r b hb
          exact ⟨o', by simp [updH, rbeq_ne.2 e, ho]⟩
      free := fun r g hg => by
        rcases hbk r g hg with ⟨_, h1⟩ | ⟨_, h1⟩
        · exact (hn g h1).1
        · exact h.good.free r g h1 }
    defers := h.defers
    size := h.size
    slots := fun i v hv => (h.slots i v hv).keep hnm k.last
    high := h.high
    par := fun i b hb => by
      by_cases e : (PAR, i) = q
      · subst e
        rcases hpar with hp | hp
        · exact absurd rfl hp
        · rw [updB_same] at hb
          exact h.par i b (hp.trans hb)
      · rw [updB_other cx rb e] at hb
        exact h.par i b hb }

/-! ### Sealing -/
def sealS (ss : List Root) (S : St) : St := { S with hp := fun r => match S.hp r with | none => none | some o => some (bif rmem r ss then sealO o else o) }
def sealPr (S : St) (cx : Cx) (ss : List Root) (g o : Nat) : Prop :=
  cx.pr g o ∨ ∃ r e k xs s v, r ∈ ss ∧ S.hp r = some (.arr e k xs s) ∧ cx.β r = some (.row v) ∧ v.ownBlock = some g ∧ o < xs.length * k
def sealCx (S : St) (cx : Cx) (ss : List Root) : Cx := { β := cx.β, pr := sealPr S cx ss }
theorem Sim.sealed {E : Env} {S : St} {a : Act} {w : World} {cx : Cx} (h : Sim E S a w cx) (ss : List Root) : Sim E (sealS ss S) a w (sealCx S cx ss) := by
  have hl : Lasts w cx.pr w (sealCx S cx ss).pr := ⟨fun g o hp => .inl hp, fun _ _ _ => rfl⟩
  have hb : ∀ r, blkOf (sealCx S cx ss) r = blkOf cx r := fun _ => rfl
  exact {
    fr := { os := h.fr.os, tape := h.fr.tape, output := h.fr.output, size := h.fr.size, blk := h.fr.blk, last := h.fr.last.trans hl,
            new := fun b o hp => by
              rcases hp with hp | ⟨r, e, k, xs, s, v, _, _, hβ, hv, _⟩
              · exact h.fr.new b o hp
              · have := h.good.free r b (by simp [blkOf, hβ, RB.block, hv])
                rcases this with h1 | h1
                · exact .inr (.inl h1)
                · exact .inr (.inr h1) }
    good := {
      rep := fun r o hr => by
        simp only [sealS] at hr
        cases ho : S.hp r with
        | none => rw [ho] at hr; cases hr
        | some o' =>
          rw [ho] at hr
          injection hr with hr
          have h0 := h.good.rep r o' ho
          have hpr : ∀ g q, blkOf cx r = some g → (sealCx S cx ss).pr g q → cx.pr g q ∨ ∃ e k xs s, r ∈ ss ∧ o' = .arr e k xs s ∧ q < xs.length * k := by
            intro g q hg hp
            rcases hp with hp | ⟨r', e, k, xs, s, v, hm, hr', hβ, hv, hq⟩
            · exact .inl hp
            · have : r' = r := h.good.inj r' r g (by simp [blkOf, hβ, RB.block, hv]) hg
              subst this
              rw [ho] at hr'
              injection hr' with hr'
              exact .inr ⟨e, k, xs, s, hm, hr', hq⟩
          cases o' with
          | cells t l =>
            have : o = .cells t l := by rw [← hr]; cases rmem r ss <;> rfl
            subst this
            exact RepO.keep (cx := cx) (fun _ _ hb => hb) hl (fun _ _ => rfl) (h := h0) fun g q hg hp => by
              rcases hpr g q hg hp with h1 | ⟨_, _, _, _, _, h1, _⟩
              · exact h1
              · cases h1
          | map ka va es =>
            have : o = .map ka va es := by rw [← hr]; cases rmem r ss <;> rfl
            subst this
            exact RepO.keep (cx := cx) (fun _ _ hb => hb) hl (fun _ _ => rfl) (h := h0) fun g q hg hp => by
              rcases hpr g q hg hp with h1 | ⟨_, _, _, _, _, h1, _⟩
              · exact h1
              · cases h1
          | arr e k xs s =>
            obtain ⟨v, ys, h1, h2, h3, h4, h5, h6⟩ := h0
            have hrep : ∀ s', (r ∈ ss → s' = true) → (s = true → s' = true) → RepO w (sealCx S cx ss) r (.arr e k xs s') := by
              intro s' hs1 hs2
              refine ⟨v, ys, h1, h2, h3, h4, fun i el j x he hx => ?_, fun g q hg hp => ?_⟩
              · obtain ⟨u, hu, hou, hr⟩ := h5 i el j x he hx
                exact ⟨u, hu, hou, hr.lasts hl⟩
              · rcases hpr g q (by simp [blkOf, h1, RB.block, hg]) hp with h7 | ⟨e', k', xs', s'', hm, he, hq⟩
                · exact ⟨hs2 (h6 g q hg h7).1, (h6 g q hg h7).2⟩
                · injection he with _ hk hx _
                  subst hk
                  subst hx
                  exact ⟨hs1 hm, hq⟩
            cases hm : rmem r ss with
            | true => rw [hm] at hr; subst hr; exact hrep true (fun _ => rfl) (fun _ => rfl)
            | false => rw [hm] at hr; subst hr; exact hrep s (fun hmm => absurd hmm (rmem_false.1 hm)) (fun hs => hs)
      inj := h.good.inj
      lt := fun b o hp => by
        rcases hp with hp | ⟨r, e, k, xs, s, v, _, hr, hβ, hv, _⟩
        · exact h.good.lt b o hp
        · exact (h.good.rep r _ hr).block_lt (by simp [blkOf, hβ, RB.block, hv])
      dom := fun r b hb => by
        obtain ⟨o, ho⟩ := h.good.dom r b hb
        exact ⟨bif rmem r ss then sealO o else o, by simp only [sealS, ho]⟩
      free := h.good.free }
    defers := h.defers
    size := h.size
    slots := fun i v hv => by
      have := RepA.keep (cx := cx) (cx' := sealCx S cx ss) (fun _ _ hb => hb) hl (h.slots i v hv)
      exact this
    high := h.high
    par := h.par }
theorem add_lit (g o n : Nat) : (⟨g, o, none⟩ : Addr).add n = ⟨g, o + n, none⟩ := by
  unfold Addr.add
  split
  · rename_i h; rw [h, Nat.add_zero]
  · rfl
/-- A sealed row reads as a slice without references. -/
theorem RepP.of_row {w : World} {cx : Cx} {r : Root} {e k : Nat} {xs : List (List PV)} {s : Bool} {v : Value} (h : RepO w cx r (.arr e k xs s)) (hv : cx.β r = some (.row v))
    (hp : ∀ g o, v.ownBlock = some g → o < xs.length * k → cx.pr g o) : RepP w cx.pr (.sl k xs) v := by
  obtain ⟨v', ys, h1, h2, h3, h4, h5, h6⟩ := h
  rw [h1] at hv
  injection hv with hv
  injection hv with hv
  subst hv
  rcases h2.2 with ⟨rfl, hx⟩ | ⟨g, cap, cur, rfl, _, hg, hn, _⟩
  · have : xs = [] := List.eq_nil_of_length_eq_zero hx
    subst this
    exact .sl0 k none 0
  · by_cases hx : xs = []
    · subst hx
      exact .sl0 k _ cap
    · have hidx : ∀ (i : Nat) (el : List PV) (j : Nat) (p : PV), xs[i]? = some el → el[j]? = some p → i * k + j < xs.length * k := by
        intro i el j p he hj
        have hi : i < xs.length := (List.getElem?_eq_some_iff.1 he).1
        have hjl : j < k := by rw [← h4 i el he]; exact (List.getElem?_eq_some_iff.1 hj).1
        calc i * k + j < i * k + k := by omega
          _ = (i + 1) * k := by rw [Nat.succ_mul]
          _ ≤ xs.length * k := Nat.mul_le_mul_right k hi
      have hval : ∀ (i : Nat) (el : List PV) (j : Nat) (p : PV), xs[i]? = some el → el[j]? = some p → ys[i * k + j]? = some (ys.getD (i * k + j) undef) ∧ RepP w cx.pr p (ys.getD (i * k + j) undef) := by
        intro i el j p he hj
        obtain ⟨u, hu, _, hr⟩ := h5 i el j p he hj
        have : ys.getD (i * k + j) undef = u := by rw [List.getD_eq_getElem?_getD, hu]; rfl
        rw [this]
        exact ⟨hu, hr⟩
      refine .sl k xs g 0 cap (fun i j => ys.getD (i * k + j) undef) hx hn h4 (fun i el j p he hj => ?_) (fun i el j p he hj => ?_) fun i el j p he hj => (hval i el j p he hj).2
      · have hc := h2.cells (g := g) rfl (i * k + j) _ (hval i el j p he hj).1
        have ha : (⟨g, 0, none⟩ : Addr).add (i * k + j) = ⟨g, 0 + (i * k + j), none⟩ := add_lit g 0 (i * k + j)
        rwa [ha] at hc
      · rw [Nat.zero_add]
        exact hp g _ rfl (hidx i el j p he hj)

end Go.Am
