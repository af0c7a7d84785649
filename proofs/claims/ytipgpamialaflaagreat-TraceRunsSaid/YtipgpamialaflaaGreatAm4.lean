/-
  AM, PART 4: WHAT THE ABSTRACT STANDS FOR in a world, and how that lasts. Definitions and transport lemmas.
-/
import Derived.Test.YtipgpamialaflaaGreatAm3
import Derived.Below
set_option linter.unusedVariables false
set_option linter.unusedSimpArgs false
namespace Go.Am
open Go Go.RowKit

/-- What a root stands for: a block, or a row of the frame's own by its slice. -/
inductive RB where
  | blk (g : Nat)
  | row (v : Value)
def RB.block : RB → Option Nat
  | .blk g => some g
  | .row v => v.ownBlock
structure Cx where
  β : Root → Option RB
  pr : Nat → Nat → Prop

inductive RepP (w : World) (pr : Nat → Nat → Prop) : PV → Value → Prop
  | sc (v : Value) (h : plainV v = true) : RepP w pr (.sc v) v
  | sl0 (k : Nat) (A : Option Addr) (cap : Nat) : RepP w pr (.sl k []) (.slice A 0 cap)
  | sl (k : Nat) (xs : List (List PV)) (g o cap : Nat) (val : Nat → Nat → Value) (h0 : xs ≠ []) (hcap : xs.length ≤ cap)
      (hk : ∀ (i : Nat) (e : List PV), xs[i]? = some e → e.length = k)
      (hc : ∀ (i : Nat) (e : List PV) (j : Nat) (p : PV), xs[i]? = some e → e[j]? = some p → w.cell? ⟨g, o + (i * k + j), none⟩ = some (val i j))
      (hp : ∀ (i : Nat) (e : List PV) (j : Nat) (p : PV), xs[i]? = some e → e[j]? = some p → pr g (o + (i * k + j)))
      (hr : ∀ (i : Nat) (e : List PV) (j : Nat) (p : PV), xs[i]? = some e → e[j]? = some p → RepP w pr p (val i j)) :
      RepP w pr (.sl k xs) (.slice (some ⟨g, o, none⟩) xs.length cap)
  | pv (l : List PV) (g o : Nat) (val : Nat → Value)
      (hc : ∀ (j : Nat) (p : PV), l[j]? = some p → w.cell? ⟨g, o + j, none⟩ = some (val j))
      (hp : ∀ (j : Nat) (p : PV), l[j]? = some p → pr g (o + j))
      (hr : ∀ (j : Nat) (p : PV), l[j]? = some p → RepP w pr p (val j)) :
      RepP w pr (.pv l) (.pointer (some ⟨g, o, none⟩))

inductive RepC (w : World) (cx : Cx) : CV → Value → Prop
  | un (v : Value) : RepC w cx .un v
  | nl : RepC w cx .nl (.slice none 0 0)
  | p (x : PV) (v : Value) (h : RepP w cx.pr x v) : RepC w cx (.p x) v
  | ra (l : List PV) (off g o : Nat) (h : RepP w cx.pr (.pv l) (.pointer (some ⟨g, o, none⟩))) : RepC w cx (.ra l off) (.pointer (some ⟨g, o + off, none⟩))
  | ptr (r : Root) (off g : Nat) (h : cx.β r = some (.blk g)) : RepC w cx (.ptr r off) (.pointer (some ⟨g, off, none⟩))
  | arr (r : Root) (k : Nat) (v : Value) (h : cx.β r = some (.row v)) : RepC w cx (.arr r k) v
  | ep (r : Root) (k i j g n c : Nat) (h : cx.β r = some (.row (.slice (some ⟨g, 0, none⟩) n c))) : RepC w cx (.ep r k i j) (.pointer (some ⟨g, i * k + j, none⟩))
  | mp (r : Root) (g : Nat) (h : cx.β r = some (.blk g)) : RepC w cx (.mp r) (.map (some g))
  | clo (f : Nat) (cs : List CV) (vs : List Value) (hl : cs.length = vs.length) (h : ∀ (i : Nat) (x : CV) (v : Value), cs[i]? = some x → vs[i]? = some v → RepC w cx x v) :
      RepC w cx (.clo f cs) (.func (.func f) #[] vs.toArray)
inductive RepA (w : World) (cx : Cx) : AV → Value → Prop
  | un (v : Value) : RepA w cx (.c .un) v
  | c (x : CV) (v : Value) (ho : v.oneCell' = true) (h : RepC w cx x v) : RepA w cx (.c x) v
  | agg (l : List CV) (vs : List Value) (hl : l.length = vs.length) (ho : ∀ v ∈ vs, v.oneCell' = true) (h : ∀ (i : Nat) (x : CV) (v : Value), l[i]? = some x → vs[i]? = some v → RepC w cx x v) : RepA w cx (.agg l) (.agg vs.toArray)
  | tup (l : List AV) (vs : List Value) (hl : l.length = vs.length) (h : ∀ (i : Nat) (x : AV) (v : Value), l[i]? = some x → vs[i]? = some v → RepA w cx x v) : RepA w cx (.tup l) (.tuple vs.toArray)

/-- cells without references as one value -/
def RepL (w : World) (pr : Nat → Nat → Prop) (agg : Bool) (l : List PV) (v : Value) : Prop :=
  if agg then ∃ vs : List Value, v = .agg vs.toArray ∧ vs.length = l.length ∧ (∀ u ∈ vs, u.oneCell' = true) ∧ ∀ (i : Nat) (x : PV) (u : Value), l[i]? = some x → vs[i]? = some u → RepP w pr x u
  else ∃ x, l = [x] ∧ v.oneCell' = true ∧ RepP w pr x v

def RepO (w : World) (cx : Cx) (r : Root) : Ob → Prop
  | .cells t l => ∃ g cs, cx.β r = some (.blk g) ∧ w.heap[g]? = some (.cells cs t (0, 0)) ∧ cs.size = l.length ∧
      (∀ (i : Nat) (x : CV) (v : Value), l[i]? = some x → cs[i]? = some v → v.oneCell' = true ∧ RepC w cx x v) ∧ ∀ o, ¬ cx.pr g o
  | .arr e k xs sealed => ∃ v ys, cx.β r = some (.row v) ∧ w.ownsRow 0 e k v xs.length ys ∧ 0 < k ∧ (∀ (i : Nat) (el : List PV), xs[i]? = some el → el.length = k) ∧
      (∀ (i : Nat) (el : List PV) (j : Nat) (x : PV), xs[i]? = some el → el[j]? = some x → ∃ u, ys[i * k + j]? = some u ∧ u.oneCell' = true ∧ RepP w cx.pr x u) ∧
      (∀ g o, v.ownBlock = some g → cx.pr g o → sealed = true ∧ o < xs.length * k)
  | .map ka va es => ∃ g ents, cx.β r = some (.blk g) ∧ w.heap[g]? = some (.map ents es.length) ∧ ents.size = es.length ∧
      (∀ (i : Nat) (ks vs : List PV) (en : MapEntry), es[i]? = some (ks, vs) → ents[i]? = some en → RepL w cx.pr ka ks en.key ∧ RepL w cx.pr va vs en.val ∧ en.born = i) ∧ ∀ o, ¬ cx.pr g o

/-! ### Lasting -/
/-- What was protected is protected and reads as it did. -/
structure Lasts (w : World) (pr : Nat → Nat → Prop) (w' : World) (pr' : Nat → Nat → Prop) : Prop where
  prot : ∀ g o, pr g o → pr' g o
  cell : ∀ g o, pr g o → w'.cell? ⟨g, o, none⟩ = w.cell? ⟨g, o, none⟩
theorem Lasts.refl (w : World) (pr : Nat → Nat → Prop) : Lasts w pr w pr := ⟨fun _ _ h => h, fun _ _ _ => rfl⟩
theorem Lasts.trans {w w' w'' : World} {pr pr' pr'' : Nat → Nat → Prop} (h : Lasts w pr w' pr') (k : Lasts w' pr' w'' pr'') : Lasts w pr w'' pr'' :=
  ⟨fun g o hp => k.prot g o (h.prot g o hp), fun g o hp => (k.cell g o (h.prot g o hp)).trans (h.cell g o hp)⟩
theorem RepP.lasts {w w' : World} {pr pr' : Nat → Nat → Prop} {x : PV} {v : Value} (h : RepP w pr x v) (k : Lasts w pr w' pr') : RepP w' pr' x v := by
  induction h with
  | sc v h => exact .sc v h
  | sl0 k A cap => exact .sl0 k A cap
  | sl kk xs g o cap val h0 hcap hk hc hp hr ih =>
    exact .sl kk xs g o cap val h0 hcap hk (fun i e j p h1 h2 => (k.cell _ _ (hp i e j p h1 h2)).trans (hc i e j p h1 h2)) (fun i e j p h1 h2 => k.prot _ _ (hp i e j p h1 h2)) ih
  | pv l g o val hc hp hr ih =>
    exact .pv l g o val (fun j p h1 => (k.cell _ _ (hp j p h1)).trans (hc j p h1)) (fun j p h1 => k.prot _ _ (hp j p h1)) ih
theorem RepL.lasts {w w' : World} {pr pr' : Nat → Nat → Prop} {agg : Bool} {l : List PV} {v : Value} (h : RepL w pr agg l v) (k : Lasts w pr w' pr') : RepL w' pr' agg l v := by
  unfold RepL at *
  split
  · rename_i hb
    rw [if_pos hb] at h
    obtain ⟨vs, h1, h2, ho, h3⟩ := h
    exact ⟨vs, h1, h2, ho, fun i x u hx hu => (h3 i x u hx hu).lasts k⟩
  · rename_i hb
    rw [if_neg hb] at h
    obtain ⟨x, h1, ho, h2⟩ := h
    exact ⟨x, h1, ho, h2.lasts k⟩

/-! a change of names, seen from the roots -/
def Names (cx cx' : Cx) (m : Root → Option Root) : Prop := ∀ r r' b, m r = some r' → cx.β r = some b → cx'.β r' = some b
theorem renCs_length (m : Root → Option Root) : ∀ l : List CV, (renCs m l).length = l.length
  | [] => by simp [renCs]
  | x :: l => by simp [renCs, renCs_length m l]
theorem renCs_get (m : Root → Option Root) : ∀ (l : List CV) (i : Nat), (renCs m l)[i]? = (l[i]?).map (renC m)
  | [], i => by simp [renCs]
  | x :: l, 0 => by simp [renCs]
  | x :: l, i + 1 => by simp [renCs, renCs_get m l i]
theorem renAs_length (m : Root → Option Root) : ∀ l : List AV, (renAs m l).length = l.length
  | [] => by simp [renAs]
  | x :: l => by simp [renAs, renAs_length m l]
theorem renAs_get (m : Root → Option Root) : ∀ (l : List AV) (i : Nat), (renAs m l)[i]? = (l[i]?).map (renA m)
  | [], i => by simp [renAs]
  | x :: l, 0 => by simp [renAs]
  | x :: l, i + 1 => by simp [renAs, renAs_get m l i]
theorem RepC.ren {w w' : World} {cx cx' : Cx} {m : Root → Option Root} (hm : Names cx cx' m) (k : Lasts w cx.pr w' cx'.pr) {x : CV} {v : Value} (h : RepC w cx x v) : RepC w' cx' (renC m x) v := by
  induction h with
  | un v => simp only [renC]; exact .un v
  | nl => simp only [renC]; exact .nl
  | p x v h => simp only [renC]; exact .p x v (h.lasts k)
  | ra l off g o h => simp only [renC]; exact .ra l off g o (h.lasts k)
  | ptr r off g h =>
    simp only [renC]
    cases hr : m r with
    | none => exact .un _
    | some r' => exact .ptr r' off g (hm r r' _ hr h)
  | arr r kk v h =>
    simp only [renC]
    cases hr : m r with
    | none => exact .un _
    | some r' => exact .arr r' kk v (hm r r' _ hr h)
  | ep r kk i j g n c h =>
    simp only [renC]
    cases hr : m r with
    | none => exact .un _
    | some r' => exact .ep r' kk i j g n c (hm r r' _ hr h)
  | mp r g h =>
    simp only [renC]
    cases hr : m r with
    | none => exact .un _
    | some r' => exact .mp r' g (hm r r' _ hr h)
  | clo f cs vs hl h ih =>
    simp only [renC]
    refine .clo f _ vs (by rw [renCs_length]; exact hl) fun i x v hx hv => ?_
    rw [renCs_get] at hx
    cases hc : cs[i]? with
    | none => rw [hc] at hx; cases hx
    | some y =>
      rw [hc] at hx
      injection hx with hx
      subst hx
      exact ih i y v hc hv
theorem RepA.ren {w w' : World} {cx cx' : Cx} {m : Root → Option Root} (hm : Names cx cx' m) (k : Lasts w cx.pr w' cx'.pr) {x : AV} {v : Value} (h : RepA w cx x v) : RepA w' cx' (renA m x) v := by
  induction h with
  | un v => simp only [renA, renC]; exact .un v
  | c x v ho h => simp only [renA]; exact .c _ v ho (h.ren hm k)
  | agg l vs hl ho h =>
    simp only [renA]
    refine .agg _ vs (by rw [renCs_length]; exact hl) ho fun i x v hx hv => ?_
    rw [renCs_get] at hx
    cases hc : l[i]? with
    | none => rw [hc] at hx; cases hx
    | some y =>
      rw [hc] at hx
      injection hx with hx
      subst hx
      exact (h i y v hc hv).ren hm k
  | tup l vs hl h ih =>
    simp only [renA]
    refine .tup _ vs (by rw [renAs_length]; exact hl) fun i x v hx hv => ?_
    rw [renAs_get] at hx
    cases hc : l[i]? with
    | none => rw [hc] at hx; cases hx
    | some y =>
      rw [hc] at hx
      injection hx with hx
      subst hx
      exact ih i y v hc hv

/-! identity as a change of names -/
mutual
theorem renC_id {m : Root → Option Root} (hm : ∀ r, m r = some r) : ∀ x : CV, renC m x = x
  | .un => rfl
  | .nl => rfl
  | .p _ => rfl
  | .ra .. => rfl
  | .ptr r o => by simp [renC, hm]
  | .arr r k => by simp [renC, hm]
  | .ep r k i j => by simp [renC, hm]
  | .mp r => by simp [renC, hm]
  | .clo f cs => by simp [renC, renCs_id hm cs]
theorem renCs_id {m : Root → Option Root} (hm : ∀ r, m r = some r) : ∀ l : List CV, renCs m l = l
  | [] => rfl
  | x :: l => by simp [renCs, renC_id hm x, renCs_id hm l]
end
mutual
theorem renA_id {m : Root → Option Root} (hm : ∀ r, m r = some r) : ∀ x : AV, renA m x = x
  | .c x => by simp [renA, renC_id hm x]
  | .agg l => by simp [renA, renCs_id hm l]
  | .tup l => by simp [renA, renAs_id hm l]
theorem renAs_id {m : Root → Option Root} (hm : ∀ r, m r = some r) : ∀ l : List AV, renAs m l = l
  | [] => rfl
  | x :: l => by simp [renAs, renA_id hm x, renAs_id hm l]
end
theorem RepC.keep {w w' : World} {cx cx' : Cx} (hm : ∀ r b, cx.β r = some b → cx'.β r = some b) (k : Lasts w cx.pr w' cx'.pr) {x : CV} {v : Value} (h : RepC w cx x v) : RepC w' cx' x v := by
  have := h.ren (m := some) (cx' := cx') (fun r r' b h1 h2 => by injection h1 with h1; subst h1; exact hm r b h2) k
  rwa [renC_id (fun _ => rfl)] at this
theorem RepA.keep {w w' : World} {cx cx' : Cx} (hm : ∀ r b, cx.β r = some b → cx'.β r = some b) (k : Lasts w cx.pr w' cx'.pr) {x : AV} {v : Value} (h : RepA w cx x v) : RepA w' cx' x v := by
  have := h.ren (m := some) (cx' := cx') (fun r r' b h1 h2 => by injection h1 with h1; subst h1; exact hm r b h2) k
  rwa [renA_id (fun _ => rfl)] at this

end Go.Am
