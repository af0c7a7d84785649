/-
  AM, PART 26: a region whose order is drawn: two operations that do not touch each other change places.
-/
import Derived.Test.YtipgpamialaflaaGreatAm25
set_option linter.unusedVariables false
set_option linter.unusedSimpArgs false
set_option linter.unnecessarySimpa false
namespace Go.Am
open Go Go.RowKit

/-! ### An operation looks at its operands alone -/
theorem map_ov_congr {S S' : Nat → AV} : ∀ (l : List Operand), (∀ x ∈ l, ov S x = ov S' x) → l.map (ov S) = l.map (ov S')
  | [], _ => rfl
  | x :: l, h => by rw [List.map_cons, List.map_cons, h x (by simp), map_ov_congr l fun y hy => h y (by simp [hy])]
theorem parts_ov_congr {S S' : Nat → AV} : ∀ (l : List (Nat × Operand)), (∀ x ∈ l.map (·.2), ov S x = ov S' x) → (l.map fun x => (x.1, ov S x.2)) = l.map fun x => (x.1, ov S' x.2)
  | [], _ => rfl
  | x :: l, h => by
    rw [List.map_cons, List.map_cons, h x.2 (by simp), parts_ov_congr l fun y hy => h y (by simp at hy ⊢; exact .inr hy)]
theorem parts2_ov_congr {S S' : Nat → AV} : ∀ (l : List (Nat × Operand)), (∀ x ∈ l.map (·.2), ov S x = ov S' x) → (l.map fun x => ov S x.2) = l.map fun x => ov S' x.2
  | [], _ => rfl
  | x :: l, h => by
    rw [List.map_cons, List.map_cons, h x.2 (by simp), parts2_ov_congr l fun y hy => h y (by simp at hy ⊢; exact .inr hy)]
theorem parts3_ov_congr {S S' : Nat → AV} : ∀ (l : List (Nat × Operand)), (∀ x ∈ l.map (·.2), ov S x = ov S' x) → (l.flatMap fun x => arrsA (ov S x.2)) = l.flatMap fun x => arrsA (ov S' x.2)
  | [], _ => rfl
  | x :: l, h => by
    rw [List.flatMap_cons, List.flatMap_cons, h x.2 (by simp), parts3_ov_congr l fun y hy => h y (by simp at hy ⊢; exact .inr hy)]
set_option maxHeartbeats 1000000 in
theorem dval_congr {P : Program} {hints : Nat → Hint} {call : Nat → List AV → List Ob → Option Ret} {look : Root → Option Ob} {d : Nat} {S S' : Nat → AV} {o : Oper} (h : ∀ x ∈ o.op.operands.toList, ov S x = ov S' x) : dval P hints call look d S o = dval P hints call look d S' o := by
  generalize hq : o.op = q at h
  cases q <;> simp only [dval, hq] <;> simp only [Op.operands, Call.operands] at h
  case call c =>
    obtain ⟨callee, args, ts⟩ := c
    simp only at h ⊢
    cases callee with
    | builtin b => simp only; rw [map_ov_congr args.toList fun x hx => h x (by simpa using hx)]
    | invoke => rfl
    | value f => simp only; rw [map_ov_congr args.toList fun x hx => h x (by simp at hx ⊢; exact .inr hx), h f (by simp)]
  case build t ps => rw [parts_ov_congr ps.toList fun x hx => h x (by simpa using hx)]
  case buildSlice t n ps => rw [parts2_ov_congr ps.toList fun x hx => h x (by simpa using hx), parts3_ov_congr ps.toList fun x hx => h x (by simpa using hx)]
  case makeFunc f a c => cases f <;> first | rfl | (simp only [map_ov_congr c.toList fun x hx => h x (by simp at hx ⊢; exact .inr hx)])
  case makeMap t r => cases r <;> rfl
  case slice t x lo hi mx =>
    have h1 := h x (by simp)
    cases mx with
    | some m => rfl
    | none => cases lo with
      | none => cases hi with
        | none => simp only [h1, Option.map_none]
        | some b => simp only [h1, h b (by simp), Option.map_none, Option.map_some]
      | some a => cases hi with
        | none => simp only [h1, h a (by simp), Option.map_none, Option.map_some]
        | some b => simp only [h1, h a (by simp), h b (by simp), Option.map_none, Option.map_some]
  all_goals first | rfl | (simp at h; simp only [h]) | skip

/-! ### What a step does to a slot and to an object -/
def stepH (δ : Delta) (r : Root) (h : Option Ob) : Option Ob :=
  putO r δ.puts (match lookU r δ.ups with
    | some o => o
    | none => if rmem r δ.kills = true then none else (match h with | none => none | some o => some (bif rmem r δ.seals then sealO o else o)).map (renO (killM δ.kills)))
theorem applyD_hp_eq (S : St) (dst : Option Nat) (δ : Delta) (r : Root) : (applyD S dst δ).hp r = stepH δ r (S.hp r) := by
  rw [applyD_puts]
  simp only [setSl, putS, upS, killS, sealS, stepH]
  congr 1
theorem applyD_sl_eq (S : St) (dst : Option Nat) (δ : Delta) (j : Nat) : (applyD S dst δ).sl j = if dst = some j then δ.val else renA (killM δ.kills) (S.sl j) := by
  rw [applyD_puts]
  cases dst with
  | none => simp [setSl, putS, upS, killS, sealS]
  | some d =>
    simp only [setSl, putS, upS, killS, sealS]
    cases hb : Nat.beq j d with
    | true => have := Nat.eq_of_beq_eq_true hb; subst this; simp
    | false =>
      have : d ≠ j := by intro e; subst e; rw [Nat.beq_refl] at hb; cases hb
      simp [this]
theorem lookU_mem {r : Root} {o : Option Ob} : ∀ {us : List (Root × Option Ob)}, lookU r us = some o → (r, o) ∈ us
  | [], h => by cases h
  | (q, o') :: us, h => by
    simp only [lookU] at h
    cases hb : rbeq r q with
    | true => rw [hb] at h; rw [rbeq_eq.1 hb]; injection h with h; subst h; simp
    | false => rw [hb] at h; exact List.mem_cons_of_mem _ (lookU_mem h)
theorem putO_none {r : Root} : ∀ {ps : List (Root × Nat × List CV)} {h : Option Ob}, (∀ q ∈ ps, q.1 ≠ r) → putO r ps h = h
  | [], h, _ => rfl
  | (q, off, l) :: ps, h, hp => by
    simp only [putO]
    rw [rbeq_ne.2 (fun e => hp (q, off, l) (by simp) e.symm), cond_false]
    exact putO_none fun x hx => hp x (by simp [hx])

/-! ### Clean values -/
mutual
theorem cleanC_ren {m : Root → Option Root} : ∀ {x : CV}, cleanC (renC m x) = true → renC m x = x
  | .un, h => by simp [renC, cleanC] at h
  | .nl, h => rfl
  | .p _, h => rfl
  | .ra .., h => rfl
  | .ptr r o, h => by simp only [renC] at h; split at h <;> simp [cleanC] at h
  | .arr r k, h => by simp only [renC] at h; split at h <;> simp [cleanC] at h
  | .ep r k i j, h => by simp only [renC] at h; split at h <;> simp [cleanC] at h
  | .mp r, h => by simp only [renC] at h; split at h <;> simp [cleanC] at h
  | .clo f cs, h => by
    simp only [renC, cleanC] at h ⊢
    rw [cleanCs_ren h]
theorem cleanCs_ren {m : Root → Option Root} : ∀ {l : List CV}, cleanCs (renCs m l) = true → renCs m l = l
  | [], h => rfl
  | x :: l, h => by
    simp only [renCs, cleanCs, Bool.and_eq_true] at h ⊢
    rw [cleanC_ren h.1, cleanCs_ren h.2]
end
mutual
theorem cleanA_ren {m : Root → Option Root} : ∀ {x : AV}, cleanA (renA m x) = true → renA m x = x
  | .c x, h => by simp only [renA, cleanA] at h ⊢; rw [cleanC_ren h]
  | .agg l, h => by simp only [renA, cleanA] at h ⊢; rw [cleanCs_ren h]
  | .tup l, h => by simp only [renA, cleanA] at h ⊢; rw [cleanAs_ren h]
theorem cleanAs_ren {m : Root → Option Root} : ∀ {l : List AV}, cleanAs (renAs m l) = true → renAs m l = l
  | [], h => rfl
  | x :: l, h => by
    simp only [renAs, cleanAs, Bool.and_eq_true] at h ⊢
    rw [cleanA_ren h.1, cleanAs_ren h.2]
end
mutual
theorem cleanC_fix {m : Root → Option Root} : ∀ {x : CV}, cleanC x = true → renC m x = x
  | .un, h => by simp [cleanC] at h
  | .nl, h => rfl
  | .p _, h => rfl
  | .ra .., h => rfl
  | .ptr r o, h => by simp [cleanC] at h
  | .arr r k, h => by simp [cleanC] at h
  | .ep r k i j, h => by simp [cleanC] at h
  | .mp r, h => by simp [cleanC] at h
  | .clo f cs, h => by
    simp only [cleanC] at h
    simp only [renC]
    rw [cleanCs_fix h]
theorem cleanCs_fix {m : Root → Option Root} : ∀ {l : List CV}, cleanCs l = true → renCs m l = l
  | [], h => rfl
  | x :: l, h => by
    simp only [renCs, cleanCs, Bool.and_eq_true] at h ⊢
    rw [cleanC_fix h.1, cleanCs_fix h.2]
end
mutual
theorem cleanA_fix {m : Root → Option Root} : ∀ {x : AV}, cleanA x = true → renA m x = x
  | .c x, h => by simp only [renA, cleanA] at h ⊢; rw [cleanC_fix h]
  | .agg l, h => by simp only [renA, cleanA] at h ⊢; rw [cleanCs_fix h]
  | .tup l, h => by simp only [renA, cleanA] at h ⊢; rw [cleanAs_fix h]
theorem cleanAs_fix {m : Root → Option Root} : ∀ {l : List AV}, cleanAs l = true → renAs m l = l
  | [], h => rfl
  | x :: l, h => by
    simp only [renAs, cleanAs, Bool.and_eq_true] at h ⊢
    rw [cleanA_fix h.1, cleanAs_fix h.2]
end
/-! references that a renaming leaves alone -/
mutual
theorem renC_refs {m : Root → Option Root} : ∀ {x : CV}, (∀ r ∈ refsC x, m r = some r) → renC m x = x
  | .un, h => rfl
  | .nl, h => rfl
  | .p _, h => rfl
  | .ra .., h => rfl
  | .ptr r o, h => by simp [renC, h r (by simp [refsC])]
  | .arr r k, h => by simp [renC, h r (by simp [refsC])]
  | .ep r k i j, h => by simp [renC, h r (by simp [refsC])]
  | .mp r, h => by simp [renC, h r (by simp [refsC])]
  | .clo f cs, h => by simp only [renC]; rw [renCs_refs fun r hr => h r (by simpa [refsC] using hr)]
theorem renCs_refs {m : Root → Option Root} : ∀ {l : List CV}, (∀ r ∈ refsCs l, m r = some r) → renCs m l = l
  | [], h => rfl
  | x :: l, h => by
    simp only [renCs]
    rw [renC_refs fun r hr => h r (by simp [refsCs, hr]), renCs_refs fun r hr => h r (by simp [refsCs, hr])]
end
mutual
theorem renA_refs {m : Root → Option Root} : ∀ {x : AV}, (∀ r ∈ refsA x, m r = some r) → renA m x = x
  | .c x, h => by simp only [renA]; rw [renC_refs fun r hr => h r (by simpa [refsA] using hr)]
  | .agg l, h => by simp only [renA]; rw [renCs_refs fun r hr => h r (by simpa [refsA] using hr)]
  | .tup l, h => by simp only [renA]; rw [renAs_refs fun r hr => h r (by simpa [refsA] using hr)]
theorem renAs_refs {m : Root → Option Root} : ∀ {l : List AV}, (∀ r ∈ refsAs l, m r = some r) → renAs m l = l
  | [], h => rfl
  | x :: l, h => by
    simp only [renAs]
    rw [renA_refs fun r hr => h r (by simp [refsAs, hr]), renAs_refs fun r hr => h r (by simp [refsAs, hr])]
end
theorem renO_refs {m : Root → Option Root} {o : Ob} (h : ∀ r ∈ refsO o, m r = some r) : renO m o = o := by
  cases o with
  | cells t l => simp only [renO]; rw [renCs_refs h]
  | arr => rfl
  | map => rfl

/-! ### A step's record -/
structure TrOK (S : St) (t : Tr) (δ : Delta) : Prop where
  hot : ∀ r ∈ t.hot, r ∈ t.tw
  ups : ∀ q ∈ δ.ups, q.1 ∈ t.tw ∧ q.1 ∈ t.hot
  kills : ∀ r ∈ δ.kills, r ∈ t.tw ∧ r ∈ t.hot
  puts : ∀ q ∈ δ.puts, q.1 ∈ t.tw ∧ q.1 ∈ t.hot
  seals : ∀ r ∈ δ.seals, r ∈ t.tw ∧ (r ∈ t.hot ∨ ∃ e k xs, S.hp r = some (.arr e k xs true))
  kl : t.kl = false → δ.kills = []
  easy : t.easy = true → t.fp = [] ∧ δ.kills = [] ∧ δ.seals = [] ∧ δ.puts = [] ∧ (∀ r ∈ refsA δ.val, r.1 = t.d) ∧ (∀ q ∈ δ.ups, q.1.1 = t.d ∧ ∀ o, q.2 = some o → ∀ r ∈ refsO o, r.1 = t.d) ∧ ∀ s ∈ t.reads, cleanA (S.sl s) = true
theorem trOf_OK (S : St) (d : Nat) (dst : Option Nat) (reads : List Nat) (fp : List Root) (δ : Delta) (mq : Option (Bool × TypeId × List PV × Root)) : TrOK S (trOf S d dst reads fp δ mq) δ where
  hot r hr := by
    simp only [trOf, List.mem_append] at hr ⊢
    rcases hr with hr | hr
    · exact .inl hr
    · exact .inr (List.mem_filter.1 hr).1
  ups q hq := by
    have : q.1 ∈ δ.ups.map (·.1) := List.mem_map_of_mem hq
    simp only [trOf, List.mem_append]
    exact ⟨.inl (.inl this), .inl (.inl this)⟩
  kills r hr := by
    simp only [trOf, List.mem_append]
    exact ⟨.inl (.inr (.inl hr)), .inl (.inr (.inl hr))⟩
  puts q hq := by
    have : q.1 ∈ δ.puts.map (·.1) := List.mem_map_of_mem hq
    simp only [trOf, List.mem_append]
    exact ⟨.inl (.inr (.inr this)), .inl (.inr (.inr this))⟩
  seals r hr := by
    simp only [trOf, List.mem_append]
    refine ⟨.inr hr, ?_⟩
    cases hs : isSealed (lookAt S fp) r with
    | false => exact .inl (.inr (List.mem_filter.2 ⟨hr, by simp [hs]⟩))
    | true =>
      right
      unfold isSealed at hs
      split at hs
      · rename_i e k xs hl
        exact ⟨e, k, xs, lookAt_sub S fp _ _ hl⟩
      · cases hs
  kl h := by
    simp only [trOf] at h
    cases hk : δ.kills with
    | nil => rfl
    | cons => rw [hk] at h; cases h
  easy h := by
    simp only [trOf, easyD, Bool.and_eq_true, List.isEmpty_iff, List.all_eq_true] at h ⊢
    obtain ⟨⟨h1, ⟨⟨⟨h2, h3⟩, h4⟩, h5⟩, h6⟩, h7⟩ := h
    refine ⟨h1, h2, h3, h4, fun r hr => Nat.eq_of_beq_eq_true (h5 r hr), fun q hq => ?_, h7⟩
    have := h6 q hq
    refine ⟨Nat.eq_of_beq_eq_true this.1, fun o ho r hr => ?_⟩
    have h8 := this.2
    rw [ho] at h8
    simp only [List.all_eq_true] at h8
    exact Nat.eq_of_beq_eq_true (h8 r hr)
theorem all_mem_congr {α : Type} {p q : α → Bool} : ∀ (l : List α), (∀ x ∈ l, p x = q x) → l.all p = l.all q
  | [], _ => rfl
  | x :: l, h => by rw [List.all_cons, List.all_cons, h x (by simp), all_mem_congr l fun y hy => h y (by simp [hy])]
structure Agree (t : Tr) (S S' : St) : Prop where
  sl : ∀ s ∈ t.reads, S'.sl s = S.sl s
  fp : ∀ r ∈ t.fp, S'.hp r = S.hp r
  st : ∀ j, j < 4 → (S'.hp (t.d, j)).isSome = (S.hp (t.d, j)).isSome
theorem Agree.rfl (t : Tr) (S : St) : Agree t S S := ⟨fun _ _ => Eq.refl _, fun _ _ => Eq.refl _, fun _ _ => Eq.refl _⟩
theorem collect_congr {look look' : Root → Option Ob} : ∀ (n : Nat) (todo acc : List Root), (∀ r ∈ collect look n todo acc, look' r = look r) → collect look' n todo acc = collect look n todo acc
  | 0, _, _, _ => by simp [collect]
  | n + 1, [], _, _ => by simp [collect]
  | n + 1, q :: todo, acc, h => by
    simp only [collect] at h ⊢
    split
    · rename_i hq
      rw [if_pos hq] at h
      exact collect_congr n todo acc h
    · rename_i hq
      rw [if_neg hq] at h
      have hq' : look' q = look q := by
        apply h
        cases look q with
        | none => exact collect_acc look n _ _ q (by simp)
        | some o => exact collect_acc look n _ _ q (by simp)
      rw [hq']
      cases hl : look q with
      | none => rw [hl] at h; exact collect_congr n _ _ h
      | some o => rw [hl] at h; exact collect_congr n _ _ h
section
variable {P : Program} {hints : Nat → Hint} {call : Nat → List AV → List Ob → Option Ret} {nt : Nat}
theorem fpOf_congr {S S' : St} {d : Nat} {o : Oper} (hov : ∀ x ∈ o.op.operands.toList, ov S'.sl x = ov S.sl x) (hst : ∀ j, j < 4 → (S'.hp (d, j)).isSome = (S.hp (d, j)).isSome) (hfp : ∀ r ∈ fpOf S d o, S'.hp r = S.hp r) : fpOf S' d o = fpOf S d o := by
  have e1 : o.op.operands.toList.flatMap (fun x => refsA (ov S'.sl x)) = o.op.operands.toList.flatMap (fun x => refsA (ov S.sl x)) := by
    generalize o.op.operands.toList = l at hov
    induction l with
    | nil => rfl
    | cons x l ih => rw [List.flatMap_cons, List.flatMap_cons, hov x (by simp), ih fun y hy => hov y (by simp [hy])]
  have e2 : (sites d).filter (fun r => (S'.hp r).isSome) = (sites d).filter fun r => (S.hp r).isSome := by
    simp only [sites, List.filter, hst 0 (by omega), hst 1 (by omega), hst 2 (by omega), hst 3 (by omega)]
  unfold fpOf at hfp ⊢
  simp only [e1, e2] at hfp ⊢
  split
  · rename_i hc
    rw [if_pos hc] at hfp
    rw [collect_congr 60 _ _ fun r hr => hfp r (List.mem_append_right _ hr)]
  · rfl
theorem mem_tmpsOf {o : Oper} {t : Nat} (h : Operand.tmp t ∈ o.op.operands.toList) : t ∈ tmpsOf o := by
  unfold tmpsOf
  rw [List.mem_filterMap]
  exact ⟨.tmp t, h, rfl⟩
theorem ov_congr {S S' : St} {o : Oper} (h : ∀ s ∈ tmpsOf o, S'.sl s = S.sl s) : ∀ x ∈ o.op.operands.toList, ov S'.sl x = ov S.sl x := by
  intro x hx
  cases x with
  | tmp t => exact h t (mem_tmpsOf hx)
  | _ => rfl
theorem mkOf_congr {S S' : St} {o : Oper} (h : ∀ x ∈ o.op.operands.toList, ov S'.sl x = ov S.sl x) : mkOf S'.sl o.op = mkOf S.sl o.op := by
  generalize o.op = q at h
  cases q <;> simp only [mkOf] <;> simp only [Op.operands] at h
  case lookup t m key ok => cases ok <;> simp only [mkOf, h m (by simp), h key (by simp)]
  case mapEntry t m key => rw [h m (by simp), h key (by simp)]
theorem perform_agree {S S' S1 : St} {i : Nat} {o : Oper} {extra : List Nat} {t : Tr} (hp : perform P hints call nt S i o extra = some (S1, t)) (hA : Agree t S S') :
    ∃ δ, TrOK S t δ ∧ TrOK S' t δ ∧ S1 = applyD S t.dst δ ∧ perform P hints call nt S' i o extra = some (applyD S' t.dst δ, t) := by
  unfold perform at hp ⊢
  simp only at hp ⊢
  split at hp
  · cases hp
  · rename_i δ hδ
    cases hd : dstOk nt o with
    | false => rw [hd] at hp; cases hp
    | true =>
      rw [hd] at hp
      simp only [cond_true, Option.some.injEq, Prod.mk.injEq] at hp
      obtain ⟨h1, h2⟩ := hp
      have hsl : ∀ s ∈ tmpsOf o ++ extra, S'.sl s = S.sl s := by rw [← h2] at hA; exact hA.sl
      have hfp : ∀ r ∈ fpOf S (site i o) o, S'.hp r = S.hp r := by rw [← h2] at hA; exact hA.fp
      have hst : ∀ j, j < 4 → (S'.hp (site i o, j)).isSome = (S.hp (site i o, j)).isSome := by rw [← h2] at hA; exact hA.st
      have hov := ov_congr (o := o) fun s hs => hsl s (List.mem_append_left _ hs)
      have ef := fpOf_congr hov hst hfp
      have el : lookAt S' (fpOf S (site i o) o) = lookAt S (fpOf S (site i o) o) := by
        funext r
        unfold lookAt
        cases hm : rmem r (fpOf S (site i o) o) with
        | false => rfl
        | true => exact hfp r (rmem_iff.1 hm)
      have em : mkOf S'.sl o.op = mkOf S.sl o.op := mkOf_congr hov
      have et : trOf S' (site i o) o.dst (tmpsOf o ++ extra) (fpOf S (site i o) o) δ (mkOf S'.sl o.op) = t := by
        rw [em]
        rw [← h2]
        unfold trOf
        simp only [el]
        congr 2
        exact all_mem_congr _ fun s hs => by rw [hsl s hs]
      refine ⟨δ, ?_, ?_, ?_, ?_⟩
      · rw [← h2]; exact trOf_OK ..
      · rw [← et]; exact trOf_OK ..
      · rw [← h1, ← h2]; rfl
      · rw [ef, dval_congr hov, el, hδ]
        simp only [cond_true, Option.some.injEq, Prod.mk.injEq]
        exact ⟨by rw [← h2]; rfl, et⟩
theorem skip_agree {S S' : St} {i : Nat} {o : Oper} {g : Nat} (hA : Agree (skipOp S i o [g]).2 S S') :
    ∃ δ, TrOK S (skipOp S i o [g]).2 δ ∧ TrOK S' (skipOp S i o [g]).2 δ ∧ (skipOp S i o [g]).1 = applyD S (skipOp S i o [g]).2.dst δ ∧ skipOp S' i o [g] = (applyD S' (skipOp S i o [g]).2.dst δ, (skipOp S i o [g]).2) := by
  have hg : S'.sl g = S.sl g := hA.sl g (by simp [skipOp])
  have hOK : ∀ S : St, TrOK S (skipOp S i o [g]).2 { val := .tup [] } := fun S =>
    { hot := by intro q hq; simp [skipOp] at hq
      ups := by intro q hq; simp at hq
      kills := by intro q hq; simp at hq
      puts := by intro q hq; simp at hq
      seals := by intro q hq; simp at hq
      kl := fun _ => rfl
      easy := fun h => ⟨rfl, rfl, rfl, rfl, by simp [refsA, refsAs], by simp, fun s hs => by
        simp only [skipOp, List.all_eq_true] at h hs
        exact h s hs⟩ }
  have e : (skipOp S' i o [g]).2 = (skipOp S i o [g]).2 := by simp [skipOp, hg]
  exact ⟨{ val := .tup [] }, hOK S, by rw [← e]; exact hOK S', rfl, by rw [← e]; rfl⟩
theorem perform_reads {S S1 : St} {i : Nat} {o : Oper} {g : Nat} {t : Tr} (hs : perform P hints call nt S i o [g] = some (S1, t)) : g ∈ t.reads := by
  unfold perform at hs
  simp only at hs
  split at hs
  · cases hs
  · cases hd : dstOk nt o with
    | false => rw [hd] at hs; cases hs
    | true =>
      rw [hd] at hs
      simp only [cond_true, Option.some.injEq, Prod.mk.injEq] at hs
      rw [← hs.2]
      simp [trOf]
theorem step_agree {ops : Array Oper} {S S' S1 : St} {i : Nat} {t : Tr} (hs : stepOp P hints call nt ops S i = some (S1, t)) (hA : Agree t S S') :
    ∃ δ, TrOK S t δ ∧ TrOK S' t δ ∧ S1 = applyD S t.dst δ ∧ stepOp P hints call nt ops S' i = some (applyD S' t.dst δ, t) := by
  unfold stepOp at hs ⊢
  cases ho : ops[i]? with
  | none => rw [ho] at hs; cases hs
  | some o =>
    rw [ho] at hs
    simp only at hs ⊢
    cases hg : o.guard with
    | none =>
      rw [hg] at hs
      simp only at hs ⊢
      exact perform_agree hs hA
    | some gw =>
      obtain ⟨j, want⟩ := gw
      rw [hg] at hs
      simp only at hs ⊢
      cases hj : (ops[j]?).bind (·.dst) with
      | none => rw [hj] at hs; cases hs
      | some g =>
        rw [hj] at hs
        simp only at hs ⊢
        cases hb : wantA (S.sl g) want with
        | none => rw [hb] at hs; cases hs
        | some b =>
          rw [hb] at hs
          simp only at hs
          by_cases hbw : b = true
          · rw [if_pos hbw] at hs
            rw [hA.sl g (perform_reads hs), hb]
            simp only
            rw [if_pos hbw]
            exact perform_agree hs hA
          · rw [if_neg hbw] at hs
            cases hd : dstOk nt o with
            | false => rw [hd] at hs; cases hs
            | true =>
              rw [hd] at hs
              simp only [cond_true, Option.some.injEq] at hs
              have ht : t = (skipOp S i o [g]).2 := by rw [hs]
              subst ht
              have hgr : g ∈ (skipOp S i o [g]).2.reads := by simp [skipOp]
              rw [hA.sl g hgr, hb]
              simp only
              rw [if_neg hbw]
              obtain ⟨δ, h1, h2, h3, h4⟩ := skip_agree hA
              refine ⟨δ, h1, h2, ?_, ?_⟩
              · rw [← h3, hs]
              · simp only [cond_true, Option.some.injEq]
                exact h4

/-! ### Two steps that do not touch each other -/
theorem natMem_iff {n : Nat} : ∀ {l : List Nat}, natMem n l = true ↔ n ∈ l
  | [] => by simp [natMem]
  | x :: l => by simp [natMem, natMem_iff (l := l)]
structure Apart (x y : Tr) : Prop where
  xy : ∀ d, x.dst = some d → d ∉ y.reads
  yx : ∀ d, y.dst = some d → d ∉ x.reads
  ne : ∀ d, x.dst = some d → y.dst ≠ some d
  hx : ∀ r ∈ x.hot, r ∉ y.tw ∧ r.1 ≠ y.d
  hy : ∀ r ∈ y.hot, r ∉ x.tw ∧ r.1 ≠ x.d
  kx : x.kl = true → y.easy = true
  ky : y.kl = true → x.easy = true
theorem Apart.symm {x y : Tr} (h : Apart x y) : Apart y x := ⟨h.yx, h.xy, fun d hd e => h.ne d e hd, h.hy, h.hx, h.ky, h.kx⟩
theorem dstIn_false {l : List Nat} {x : Option Nat} (h : dstIn l x = false) : ∀ d, x = some d → d ∉ l := by
  rintro d rfl hm
  simp only [dstIn] at h
  rw [natMem_iff.2 hm] at h
  cases h
theorem hits_false {x y : Tr} (h : hits x y = false) : (∀ r ∈ x.hot, r ∉ y.tw ∧ r.1 ≠ y.d) ∧ ∀ r ∈ x.hot, r ∉ y.fp := by
  have key : ∀ r ∈ x.hot, r ∉ y.fp ∧ r ∉ y.tw ∧ r.1 ≠ y.d := by
    intro r hr
    unfold hits at h
    rw [List.any_eq_false] at h
    have := h r hr
    simp only [Bool.or_eq_true, not_or, Bool.not_eq_true] at this
    refine ⟨rmem_false.1 this.1.1, rmem_false.1 this.1.2, fun e => ?_⟩
    have h2 := this.2
    rw [e, Nat.beq_refl] at h2
    cases h2
  exact ⟨fun r hr => (key r hr).2, fun r hr => (key r hr).1⟩
structure SoftPair (P : Program) (x y : Tr) : Prop where
  mq : ∃ t kv kv' r, x.mq = some (false, t, kv, r) ∧ y.mq = some (true, t, kv', r) ∧ (∀ kt et, P.underlying t = some (.map kt et) → ∃ b, eqA P 12 kt kv kv' = some b) ∧ ∀ q ∈ y.hot, q = r
  hy : ∀ r ∈ y.hot, r ∉ x.tw ∧ r.1 ≠ x.d
  hx : x.hot = []
  kx : x.kl = false
  ky : y.kl = false
theorem softPair_of {x y : Tr} (h : softPair P x y = true) : SoftPair P x y := by
  unfold softPair at h
  split at h
  · rename_i t kv r t' kv' r' h1 h2
    simp only [Bool.and_eq_true, List.all_eq_true, Bool.not_eq_true', List.isEmpty_iff] at h
    obtain ⟨⟨⟨⟨⟨⟨a1, a2⟩, a3⟩, a4⟩, a5⟩, a6⟩, a7⟩ := h
    have e1 := Nat.eq_of_beq_eq_true a1
    have e2 := rbeq_eq.1 a2
    subst e1
    subst e2
    refine ⟨⟨t, kv, kv', r, h1, h2, fun kt et hu => ?_, fun q hq => rbeq_eq.1 (a4 q hq).1.1⟩, fun q hq => ⟨rmem_false.1 (a4 q hq).1.2, fun e => ?_⟩, a5, a6, a7⟩
    · rw [hu] at a3
      simp only at a3
      exact Option.isSome_iff_exists.1 a3
    · have := (a4 q hq).2
      rw [e, Nat.beq_refl] at this
      cases this
  · cases h
theorem apart_of {x y : Tr} (h : conf P x y = false) : Apart x y ∧ (∀ r ∈ x.hot, r ∉ y.fp) ∧ ((∀ r ∈ y.hot, r ∉ x.fp) ∨ SoftPair P x y) := by
  unfold conf at h
  simp only [Bool.or_eq_false_iff, Bool.and_eq_false_iff, Bool.not_eq_false'] at h
  obtain ⟨⟨⟨⟨⟨⟨h1, h2⟩, h3⟩, h4⟩, h5⟩, h6⟩, h7⟩ := h
  have hk : (x.kl = true → y.easy = true) ∧ (y.kl = true → x.easy = true) := by
    refine ⟨fun hk => ?_, fun hk => ?_⟩
    · rcases h6 with h6 | h6
      · rw [h6] at hk; cases hk
      · exact h6
    · rcases h7 with h7 | h7
      · rw [h7] at hk; cases hk
      · exact h7
  have hne : ∀ d, x.dst = some d → y.dst ≠ some d := by
    intro d hd he
    rw [hd, he] at h3
    simp [dstSame] at h3
  rcases h5 with h5 | h5
  · exact ⟨⟨dstIn_false h1, dstIn_false h2, hne, (hits_false h4).1, (hits_false h5).1, hk.1, hk.2⟩, (hits_false h4).2, .inl (hits_false h5).2⟩
  · have hs := softPair_of h5
    exact ⟨⟨dstIn_false h1, dstIn_false h2, hne, (hits_false h4).1, hs.hy, hk.1, hk.2⟩, (hits_false h4).2, .inr hs⟩
theorem stepH_calm {S : St} {t : Tr} {δ : Delta} (hT : TrOK S t δ) {r : Root} (h : Option Ob) (h1 : r ∉ t.hot) : stepH δ r h = if rmem r δ.kills = true then none else (match h with | none => none | some o => some (bif rmem r δ.seals then sealO o else o)).map (renO (killM δ.kills)) := by
  unfold stepH
  rw [putO_none fun q hq e => h1 (by rw [← e]; exact (hT.puts q hq).2)]
  cases hl : lookU r δ.ups with
  | none => rfl
  | some o => exact absurd (hT.ups _ (lookU_mem hl)).2 h1
theorem stepH_off {S : St} {t : Tr} {δ : Delta} (hT : TrOK S t δ) (hk : δ.kills = []) {r : Root} (h : Option Ob) (h1 : r ∉ t.hot) (h2 : r ∉ δ.seals) : stepH δ r h = h := by
  rw [stepH_calm hT h h1, hk, rmem_false.2 h2]
  simp only [rmem, Bool.false_eq_true, if_false, cond_false]
  cases h with
  | none => rfl
  | some o => simp only [Option.map_some]; rw [renO_id killM_nil]
theorem stepH_away {S : St} {t : Tr} {δ : Delta} (hT : TrOK S t δ) (hk : δ.kills = []) {r : Root} (h : Option Ob) (h1 : r ∉ t.tw) (h3 : r ∉ t.hot) : stepH δ r h = h := stepH_off hT hk h h3 fun hs => h1 (hT.seals r hs).1
theorem agree_of {S : St} {x y : Tr} {δ : Delta} (hT : TrOK S x δ) (hA : Apart x y) (hF : ∀ r ∈ x.hot, r ∉ y.fp) (hE : x.kl = true → y.fp = [] ∧ ((∀ s ∈ y.reads, cleanA (S.sl s) = true) ∨ ∀ s ∈ y.reads, cleanA ((applyD S x.dst δ).sl s) = true)) : Agree y S (applyD S x.dst δ) where
  sl s hs := by
    have hne : x.dst ≠ some s := fun e => hA.xy s e hs
    have e := applyD_sl_eq S x.dst δ s
    rw [if_neg hne] at e
    cases hk : x.kl with
    | false => rw [e, hT.kl hk, renA_id killM_nil]
    | true =>
      rcases (hE hk).2 with hc | hc
      · rw [e, cleanA_fix (hc s hs)]
      · have := hc s hs
        rw [e] at this ⊢
        generalize hv : S.sl s = v at this
        exact cleanA_ren this
  fp r hr := by
    cases hk : x.kl with
    | true => rw [(hE hk).1] at hr; simp at hr
    | false =>
      have h1 : r ∉ x.hot := fun h => hF r h hr
      rw [applyD_hp_eq]
      by_cases hs : r ∈ δ.seals
      · obtain ⟨e, k, xs, h⟩ := (hT.seals r hs).2.resolve_left h1
        rw [stepH_calm hT _ h1, hT.kl hk, h]
        simp [rmem, rmem_iff.2 hs, sealO, renO]
      · exact stepH_off hT (hT.kl hk) _ h1 hs
  st j hj := by
    have h1 : (y.d, j) ∉ x.hot := fun h => (hA.hx _ h).2 rfl
    rw [applyD_hp_eq, stepH_calm hT _ h1, rmem_false.2 (fun h => h1 (hT.kills _ h).2)]
    cases S.hp (y.d, j) <;> simp
theorem sealO_idem (o : Ob) : sealO (sealO o) = sealO o := by cases o <;> rfl
theorem St_ext {A B : St} (h1 : ∀ j, A.sl j = B.sl j) (h2 : ∀ r, A.hp r = B.hp r) : A = B := by
  obtain ⟨a, b⟩ := A
  obtain ⟨c, d⟩ := B
  simp only at h1 h2
  rw [funext h1, funext h2]
theorem killM_out {ks : List Root} {r : Root} (h : r ∉ ks) : killM ks r = some r := by unfold killM; rw [rmem_false.2 h]; rfl
/-- a step that kills names beside an easy one -/
theorem comm_kill {Sx Sy S : St} {x y : Tr} {δx δy : Delta} (hX : TrOK Sx x δx) (hY : TrOK Sy y δy) (hA : Apart x y) (he : y.easy = true) :
    applyD (applyD S x.dst δx) y.dst δy = applyD (applyD S y.dst δy) x.dst δx := by
  obtain ⟨_, k1, k2, k3, k4, k5, _⟩ := hY.easy he
  have hkx : ∀ r : Root, r.1 = y.d → killM δx.kills r = some r := fun r hr => killM_out fun hm => (hA.hx r (hX.kills r hm).2).2 hr
  refine St_ext (fun j => ?_) fun r => ?_
  · rw [applyD_sl_eq, applyD_sl_eq, applyD_sl_eq, applyD_sl_eq, k1]
    by_cases hy : y.dst = some j
    · have hx : x.dst ≠ some j := fun e => hA.ne j e hy
      rw [if_pos hy, if_neg hx, if_pos hy, renA_refs fun r hr => hkx r (k4 r hr)]
    · rw [if_neg hy, if_neg hy, renA_id killM_nil, renA_id killM_nil]
  · rw [applyD_hp_eq, applyD_hp_eq, applyD_hp_eq, applyD_hp_eq]
    cases hl : lookU r δy.ups with
    | none =>
      have hid : ∀ h, stepH δy r h = h := fun h => by
        unfold stepH
        rw [k1, k2, k3, hl]
        simp only [putO, rmem, Bool.false_eq_true, if_false, cond_false]
        cases h with
        | none => rfl
        | some o => simp only [Option.map_some]; rw [renO_id killM_nil]
      rw [hid, hid]
    | some o =>
      have hm := lookU_mem hl
      have hc : ∀ h, stepH δy r h = o := fun h => by
        unfold stepH
        rw [k3, hl]
        rfl
      rw [hc, hc]
      have hyd : r.1 = y.d := (k5 _ hm).1
      have hnx : r ∉ x.hot := fun h => (hA.hx r h).2 hyd
      have hns : r ∉ δx.seals := fun h => (hA.hy r (hY.ups _ hm).2).1 (hX.seals r h).1
      rw [stepH_calm hX _ hnx, rmem_false.2 hns, rmem_false.2 fun h => hnx (hX.kills r h).2]
      cases o with
      | none => simp
      | some ob =>
        simp only [Bool.false_eq_true, if_false, cond_false, Option.map_some]
        rw [renO_refs fun q hq => hkx q ((k5 _ hm).2 ob rfl q hq)]
theorem comm {Sx Sy S : St} {x y : Tr} {δx δy : Delta} (hX : TrOK Sx x δx) (hY : TrOK Sy y δy) (hA : Apart x y) :
    applyD (applyD S x.dst δx) y.dst δy = applyD (applyD S y.dst δy) x.dst δx := by
  cases hkx : x.kl with
  | true => exact comm_kill hX hY hA (hA.kx hkx)
  | false =>
    cases hky : y.kl with
    | true => exact (comm_kill hY hX hA.symm (hA.ky hky)).symm
    | false =>
      have kx := hX.kl hkx
      have ky := hY.kl hky
      refine St_ext (fun j => ?_) fun r => ?_
      · rw [applyD_sl_eq, applyD_sl_eq, applyD_sl_eq, applyD_sl_eq, kx, ky]
        by_cases hy : y.dst = some j
        · have hx : x.dst ≠ some j := fun e => hA.ne j e hy
          rw [if_pos hy, if_neg hx, if_pos hy, renA_id killM_nil]
        · rw [if_neg hy, if_neg hy]
          by_cases hx : x.dst = some j
          · rw [if_pos hx, if_pos hx, renA_id killM_nil]
          · rw [if_neg hx, if_neg hx]
      · rw [applyD_hp_eq, applyD_hp_eq, applyD_hp_eq, applyD_hp_eq]
        by_cases h1 : r ∈ x.hot
        · have h2 : r ∉ y.tw := (hA.hx r h1).1
          have h3 : r ∉ y.hot := fun h => by
            have := hA.hy r h
            exact this.1 (hX.hot r h1)
          rw [stepH_away hY ky _ h2 h3, stepH_away hY ky _ h2 h3]
        · by_cases h2 : r ∈ y.hot
          · have h3 : r ∉ x.tw := (hA.hy r h2).1
            rw [stepH_away hX kx _ h3 h1, stepH_away hX kx _ h3 h1]
          · rw [stepH_calm hY _ h2, stepH_calm hX _ h1, stepH_calm hX _ h1, stepH_calm hY _ h2, kx, ky]
            simp only [rmem, Bool.false_eq_true, if_false]
            cases S.hp r with
            | none => rfl
            | some o =>
              simp only [Option.map_some]
              rw [renO_id killM_nil, renO_id killM_nil, renO_id killM_nil, renO_id killM_nil]
              cases rmem r δx.seals <;> cases rmem r δy.seals <;> simp only [cond_true, cond_false, sealO_idem]
theorem perform_mq {S S1 : St} {i : Nat} {o : Oper} {extra : List Nat} {t : Tr} (hp : perform P hints call nt S i o extra = some (S1, t)) :
    ∃ δ, dval P hints call (lookAt S (fpOf S (site i o) o)) (site i o) S.sl o = some δ ∧ dstOk nt o = true ∧ S1 = applyD S o.dst δ ∧ t = trOf S (site i o) o.dst (tmpsOf o ++ extra) (fpOf S (site i o) o) δ (mkOf S.sl o.op) := by
  unfold perform at hp
  simp only at hp
  split at hp
  · cases hp
  · rename_i δ hδ
    cases hd : dstOk nt o with
    | false => rw [hd] at hp; cases hp
    | true =>
      rw [hd] at hp
      simp only [cond_true, Option.some.injEq, Prod.mk.injEq] at hp
      exact ⟨δ, hδ, rfl, hp.1.symm, hp.2.symm⟩
theorem step_mq {ops : Array Oper} {S S1 : St} {i : Nat} {t : Tr} (hs : stepOp P hints call nt ops S i = some (S1, t)) (hm : t.mq ≠ none) :
    ∃ o extra, perform P hints call nt S i o extra = some (S1, t) ∧ ∀ S' : St, (∀ s ∈ t.reads, S'.sl s = S.sl s) → stepOp P hints call nt ops S' i = perform P hints call nt S' i o extra := by
  unfold stepOp at hs
  cases ho : ops[i]? with
  | none => rw [ho] at hs; cases hs
  | some o =>
    rw [ho] at hs
    simp only at hs
    cases hg : o.guard with
    | none =>
      rw [hg] at hs
      refine ⟨o, [], hs, fun S' h => ?_⟩
      unfold stepOp
      rw [ho]
      simp only
      rw [hg]
    | some gw =>
      obtain ⟨j, want⟩ := gw
      rw [hg] at hs
      simp only at hs
      cases hj : (ops[j]?).bind (·.dst) with
      | none => rw [hj] at hs; cases hs
      | some g =>
        rw [hj] at hs
        simp only at hs
        cases hb : wantA (S.sl g) want with
        | none => rw [hb] at hs; cases hs
        | some b =>
          rw [hb] at hs
          simp only at hs
          by_cases hbw : b = true
          · rw [if_pos hbw] at hs
            refine ⟨o, [g], hs, fun S' h => ?_⟩
            unfold stepOp
            rw [ho]
            simp only
            rw [hg]
            simp only
            rw [hj]
            simp only
            rw [h g (perform_reads hs), hb]
            simp only
            rw [if_pos hbw]
          · rw [if_neg hbw] at hs
            cases hd : dstOk nt o with
            | false => rw [hd] at hs; cases hs
            | true =>
              rw [hd] at hs
              simp only [cond_true, Option.some.injEq] at hs
              exfalso
              apply hm
              have : t = (skipOp S i o [g]).2 := by rw [hs]
              rw [this]
              rfl
theorem mapFind_append {kt : TypeId} {kv : List PV} (e : List PV × List PV) : ∀ (es : List (List PV × List PV)) (n : Nat), mapFind P kt kv (es ++ [e]) n = match mapFind P kt kv es n with
    | none => none
    | some (some q) => some (some q)
    | some none => match eqA P 12 kt kv e.1 with | some b => if b then some (some (n + es.length, e)) else some none | none => none
  | [], n => by
    obtain ⟨k, v⟩ := e
    simp only [List.nil_append, mapFind, List.length_nil, Nat.add_zero]
    cases eqA P 12 kt kv k <;> rfl
  | (k, v) :: es, n => by
    simp only [List.cons_append, mapFind]
    cases eqA P 12 kt kv k with
    | none => rfl
    | some b =>
      cases b with
      | true => rfl
      | false =>
        simp only [Bool.false_eq_true, if_false]
        rw [mapFind_append e es (n + 1), List.length_cons, show n + 1 + es.length = n + (es.length + 1) by omega]
theorem pureC_const (look look' : Root → Option Ob) (kd : Kd) (v : Value) : pureC look kd (cConst v) = pureC look' kd (cConst v) := by
  unfold cConst
  split
  · rfl
  · split <;> rfl
theorem pureCs_const (look look' : Root → Option Ob) : ∀ (ks : List Kd) (vs : List Value), pureCs look ks (vs.map cConst) = pureCs look' ks (vs.map cConst)
  | [], [] => rfl
  | [], _ :: _ => rfl
  | _ :: _, [] => rfl
  | kd :: ks, v :: vs => by
    simp only [List.map_cons, pureCs]
    rw [pureC_const look look' kd v, pureCs_const look look' ks vs]
theorem zeroB_const {t : TypeId} {z : List CV} (h : zeroB P t = some z) (look look' : Root → Option Ob) (ks : List Kd) : pureCs look ks z = pureCs look' ks z := by
  unfold zeroB at h
  split at h
  · split at h
    · injection h with h
      rw [← h]
      exact pureCs_const look look' ks _
    · cases h
  · cases h
theorem mkOf_look {S : Nat → AV} {q : Op} {t : TypeId} {kv : List PV} {r : Root} (h : mkOf S q = some (false, t, kv, r)) : ∃ m key, q = .lookup t m key false ∧ ov S m = .c (.mp r) ∧ pureA (ov S key) = some kv := by
  unfold mkOf at h
  split at h
  · split at h
    · rename_i h1 h2
      injection h with h
      injection h with _ h
      injection h with h3 h
      injection h with h4 h5
      subst h3
      subst h4
      subst h5
      exact ⟨_, _, rfl, h1, h2⟩
    · cases h
  · split at h
    · injection h with h; injection h with h; cases h
    · cases h
  · cases h
theorem mkOf_entry {S : Nat → AV} {q : Op} {t : TypeId} {kv : List PV} {r : Root} (h : mkOf S q = some (true, t, kv, r)) : ∃ m key, q = .mapEntry t m key ∧ ov S m = .c (.mp r) ∧ pureA (ov S key) = some kv := by
  unfold mkOf at h
  split at h
  · split at h
    · injection h with h; injection h with h; cases h
    · cases h
  · split at h
    · rename_i h1 h2
      injection h with h
      injection h with _ h
      injection h with h3 h
      injection h with h4 h5
      subst h3
      subst h4
      subst h5
      exact ⟨_, _, rfl, h1, h2⟩
    · cases h
  · cases h
theorem lookAt_some {S : St} {fp : List Root} {r : Root} {o : Ob} (h : lookAt S fp r = some o) : S.hp r = some o := lookAt_sub S fp r o h
/-- what a place made in a map does to the state -/
theorem entry_state {S S2 : St} {j : Nat} {o : Oper} {extra : List Nat} {y : Tr} {t : TypeId} {kv : List PV} {r : Root} (hp : perform P hints call nt S j o extra = some (S2, y)) (hm : y.mq = some (true, t, kv, r)) :
    (∃ v, S2 = applyD S o.dst { val := v }) ∨ ∃ kt et ka va es z z' v, P.underlying t = some (.map kt et) ∧ S.hp r = some (.map ka va es) ∧ zeroB P et = some z ∧ (∀ look, pureCs look (kinds P et) z = some z') ∧ S2 = applyD S o.dst { val := v, ups := [(r, some (.map ka va (es ++ [(kv, z')])))] } := by
  obtain ⟨δ, hδ, hd, e1, e2⟩ := perform_mq hp
  rw [e2] at hm
  simp only [trOf] at hm
  obtain ⟨m, key, hq, h1, h2⟩ := mkOf_entry hm
  unfold dval at hδ
  rw [hq] at hδ
  simp only at hδ
  rw [h1, h2] at hδ
  split at hδ
  · rename_i kt et r' kv' hu hr' hkv'
    injection hr' with hr'
    injection hr' with hr'
    injection hkv' with hkv'
    subst hr'
    subst hkv'
    split at hδ
    · rename_i ka va es z hl hz
      rw [cond_eq_if] at hδ
      split at hδ
      · split at hδ
        · rename_i i e _
          rw [cond_eq_if] at hδ
          split at hδ
          · simp only [Option.map_eq_some_iff] at hδ
            obtain ⟨v, _, rfl⟩ := hδ
            exact .inl ⟨_, e1⟩
          · cases hδ
        · split at hδ
          · rename_i z' hz'
            simp only [Option.map_eq_some_iff] at hδ
            obtain ⟨v, _, rfl⟩ := hδ
            exact .inr ⟨kt, et, ka, va, es, z, z', _, hu, lookAt_some hl, hz, fun look => by rw [zeroB_const hz look]; exact hz', e1⟩
          · cases hδ
        · cases hδ
      · cases hδ
    · cases hδ
  · cases hδ
theorem soft_step {ops : Array Oper} {S S1 : St} {i j : Nat} {x y : Tr} {δy : Delta} (hs : SoftPair P x y) (hA : Apart x y) (h1 : stepOp P hints call nt ops S i = some (S1, x)) (h3 : stepOp P hints call nt ops S j = some (applyD S y.dst δy, y)) :
    ∃ δx, TrOK S x δx ∧ S1 = applyD S x.dst δx ∧ stepOp P hints call nt ops (applyD S y.dst δy) i = some (applyD (applyD S y.dst δy) x.dst δx, x) := by
  obtain ⟨⟨t, kv, kv', r, hx, hy, heq, hhot⟩, hhy, hxh, hxk, hyk⟩ := hs
  obtain ⟨ox, exx, hpx, hstep⟩ := step_mq h1 (by rw [hx]; simp)
  obtain ⟨oy, exy, hpy, _⟩ := step_mq h3 (by rw [hy]; simp)
  obtain ⟨δ0, hδ0, hd0, e01, e02⟩ := perform_mq hpy
  have hydst : y.dst = oy.dst := by rw [e02]; rfl
  generalize hS' : applyD S y.dst δy = S' at *
  have hTy : TrOK S y δ0 := by rw [e02]; exact trOf_OK ..
  have hk0 : δ0.kills = [] := hTy.kl hyk
  have hsl : ∀ s ∈ x.reads, S'.sl s = S.sl s := by
    intro s hs
    have hne : oy.dst ≠ some s := fun e => hA.yx s (by rw [hydst]; exact e) hs
    rw [e01, applyD_sl_eq, if_neg hne, hk0, renA_id killM_nil]
  rw [hstep S' hsl]
  rcases entry_state hpy hy with ⟨v, hv⟩ | ⟨kt, et, ka, va, es, z, z', v, hu, hr, hz, hz', hv⟩
  · -- the place was there
    have hhp : ∀ q, S'.hp q = S.hp q := by
      intro q
      rw [hv, applyD_hp_eq]
      simp only [stepH, putO, lookU, rmem, Bool.false_eq_true, if_false, cond_false]
      cases S.hp q with
      | none => rfl
      | some o => simp only [Option.map_some]; rw [renO_id killM_nil]
    obtain ⟨δ, a1, a2, a3, a4⟩ := perform_agree hpx ⟨hsl, fun q _ => hhp q, fun k _ => by rw [hhp]⟩
    exact ⟨δ, a1, a3, a4⟩
  · have hhp : ∀ q, S'.hp q = if q = r then some (.map ka va (es ++ [(kv', z')])) else S.hp q := by
      intro q
      rw [hv, applyD_hp_eq]
      simp only [stepH, putO, lookU, rmem, Bool.false_eq_true, if_false, cond_false]
      by_cases hq : q = r
      · subst hq
        rw [if_pos rfl, rbeq_eq.2 rfl]
        rfl
      · rw [if_neg hq, rbeq_ne.2 hq]
        simp only [cond_false]
        cases S.hp q with
        | none => rfl
        | some o => simp only [Option.map_some]; rw [renO_id killM_nil]
    obtain ⟨δ, hδ, hd, f1, f2⟩ := perform_mq hpx
    have hmx := hx
    rw [f2] at hmx
    simp only [trOf] at hmx
    obtain ⟨m, key, hq, g1, g2⟩ := mkOf_look hmx
    have hreads : ∀ s ∈ tmpsOf ox, S'.sl s = S.sl s := fun s hs' => hsl s (by rw [f2]; simp [trOf, hs'])
    have hov := ov_congr (S := S) (S' := S') (o := ox) hreads
    have hrd : r.1 ≠ site i ox := by
      by_cases hh : r ∈ y.hot
      · have := (hhy r hh).2
        rw [f2] at this
        exact this
      · exfalso
        -- the place is new: it is hot
        have : (applyD S oy.dst δ0).hp r = S.hp r := by
          rw [applyD_hp_eq, stepH_calm hTy _ hh, hk0, hr]
          simp only [rmem, Bool.false_eq_true, if_false, Option.map_some]
          rw [renO_id killM_nil]
          cases rmem r δ0.seals <;> rfl
        rw [← e01, hhp r, if_pos rfl, hr] at this
        simp at this
    have hfp : fpOf S' (site i ox) ox = fpOf S (site i ox) ox := by
      have e1 : ox.op.operands.toList.flatMap (fun x => refsA (ov S'.sl x)) = ox.op.operands.toList.flatMap (fun x => refsA (ov S.sl x)) := by
        generalize ox.op.operands.toList = l at hov
        induction l with
        | nil => rfl
        | cons x l ih => rw [List.flatMap_cons, List.flatMap_cons, hov x (by simp), ih fun y hy => hov y (by simp [hy])]
      have e2 : (sites (site i ox)).filter (fun q => (S'.hp q).isSome) = (sites (site i ox)).filter fun q => (S.hp q).isSome := by
        apply List.filter_congr
        intro q hq
        have : q ≠ r := by
          rintro rfl
          apply hrd
          simp only [sites, List.mem_cons, List.not_mem_nil, or_false] at hq
          rcases hq with rfl | rfl | rfl | rfl <;> rfl
        rw [hhp q, if_neg this]
      unfold fpOf
      simp only [e1, e2]
      have hc : isCall ox.op = false := by rw [hq]; rfl
      simp only [hc, Bool.false_eq_true, if_false]
    have hrfp : r ∈ fpOf S (site i ox) ox := by
      unfold fpOf
      simp only [hq, isCall, Bool.false_eq_true, if_false]
      simp only [looks, if_true]
      refine List.mem_append_left _ (List.mem_flatMap.2 ⟨m, by simp [Op.operands], ?_⟩)
      rw [g1]
      simp [refsA, refsC]
    have hval : dval P hints call (lookAt S' (fpOf S (site i ox) ox)) (site i ox) S'.sl ox = some δ ∧ δ = { val := δ.val } := by
      rw [dval_congr hov]
      unfold dval at hδ ⊢
      rw [hq] at hδ ⊢
      simp only at hδ ⊢
      rw [g1, g2] at hδ ⊢
      simp only [hu] at hδ ⊢
      have l1 : lookAt S (fpOf S (site i ox) ox) r = some (.map ka va es) := by unfold lookAt; rw [rmem_iff.2 hrfp]; exact hr
      have l2 : lookAt S' (fpOf S (site i ox) ox) r = some (.map ka va (es ++ [(kv', z')])) := by unfold lookAt; rw [rmem_iff.2 hrfp, hhp r, if_pos rfl]; rfl
      rw [l1, hz] at hδ
      rw [l2, hz]
      simp only at hδ ⊢
      rw [cond_eq_if] at hδ ⊢
      split at hδ
      · rename_i hok
        rw [if_pos hok]
        rw [mapFind_append (kv', z') es 0]
        obtain ⟨b, hb⟩ := heq kt et hu
        cases hf : mapFind P kt kv es 0 with
        | none => rw [hf] at hδ; cases hδ
        | some q =>
          rw [hf] at hδ
          cases q with
          | some q =>
            obtain ⟨k, e⟩ := q
            simp only at hδ ⊢
            refine ⟨hδ, ?_⟩
            simp only [Option.map_eq_some_iff] at hδ
            obtain ⟨u, _, rfl⟩ := hδ
            rfl
          | none =>
            simp only [hz'] at hδ
            simp only [hb]
            have hres : δ = { val := δ.val } := by
              simp only [Option.map_eq_some_iff] at hδ
              obtain ⟨u, _, rfl⟩ := hδ
              rfl
            cases b with
            | true => simp only [if_true]; exact ⟨hδ, hres⟩
            | false => simp only [Bool.false_eq_true, if_false, hz']; exact ⟨hδ, hres⟩
      · cases hδ
    have hne : (fpOf S (site i ox) ox).isEmpty = false := by
      cases hl : fpOf S (site i ox) ox with
      | nil => rw [hl] at hrfp; simp at hrfp
      | cons => rfl
    refine ⟨δ, by rw [f2]; exact trOf_OK .., by rw [f1, f2]; rfl, ?_⟩
    unfold perform
    simp only
    rw [hfp, hval.1, hd]
    simp only [cond_true, Option.some.injEq, Prod.mk.injEq]
    refine ⟨by rw [f2]; rfl, ?_⟩
    rw [f2, mkOf_congr hov, hval.2]
    unfold trOf
    simp [hne]
theorem swap {ops : Array Oper} {S S1 S2 : St} {i j : Nat} {x y : Tr} (h1 : stepOp P hints call nt ops S i = some (S1, x)) (h2 : stepOp P hints call nt ops S1 j = some (S2, y)) (hc : conf P x y = false) :
    ∃ S1', stepOp P hints call nt ops S j = some (S1', y) ∧ stepOp P hints call nt ops S1' i = some (S2, x) := by
  obtain ⟨hA, hF1, hF2⟩ := apart_of hc
  obtain ⟨δx, hX, _, e1, _⟩ := step_agree h1 (Agree.rfl x S)
  obtain ⟨δy0, hY0, _, _, _⟩ := step_agree h2 (Agree.rfl y S1)
  have hAg : Agree y S S1 := by
    rw [e1]
    refine agree_of hX hA hF1 fun hk => ⟨(hY0.easy (hA.kx hk)).1, .inr ?_⟩
    rw [← e1]
    exact (hY0.easy (hA.kx hk)).2.2.2.2.2.2
  obtain ⟨δy, hY1, hY, e2, h3⟩ := step_agree h2 ⟨fun s hs => (hAg.sl s hs).symm, fun r hr => (hAg.fp r hr).symm, fun k hk => (hAg.st k hk).symm⟩
  rcases hF2 with hF2 | hsoft
  · have hAg2 : Agree x S (applyD S y.dst δy) := agree_of hY hA.symm hF2 fun hk => ⟨(hX.easy (hA.ky hk)).1, .inl (hX.easy (hA.ky hk)).2.2.2.2.2.2⟩
    obtain ⟨δx', hX', _, e3, h4⟩ := step_agree h1 hAg2
    refine ⟨_, h3, ?_⟩
    rw [h4, e2, e3]
    rw [comm hX' hY hA]
  · obtain ⟨δx', hX', e3, h4⟩ := soft_step hsoft hA h1 h3
    refine ⟨_, h3, ?_⟩
    rw [h4, e2, e3]
    rw [comm hX' hY hA]

/-! ### Bubbling an operation to the front -/
theorem run_names {ops : Array Oper} : ∀ (l : List Nat) {S Sf : St} {ts : List (Nat × Tr)}, runOps P hints call nt ops l S = some (Sf, ts) → ts.map (·.1) = l
  | [], S, Sf, ts, h => by
    simp only [runOps, Option.some.injEq, Prod.mk.injEq] at h
    rw [← h.2]
    rfl
  | k :: l, S, Sf, ts, h => by
    simp only [runOps] at h
    cases hs : stepOp P hints call nt ops S k with
    | none => rw [hs] at h; cases h
    | some q =>
      obtain ⟨S1, u⟩ := q
      rw [hs] at h
      simp only at h
      cases hr : runOps P hints call nt ops l S1 with
      | none => rw [hr] at h; cases h
      | some q2 =>
        obtain ⟨S2, ts'⟩ := q2
        rw [hr] at h
        simp only [Option.some.injEq, Prod.mk.injEq] at h
        obtain ⟨rfl, rfl⟩ := h
        rw [List.map_cons, run_names l hr]
theorem bubble {ops : Array Oper} {i : Nat} {l2 : List Nat} {Sf : St} : ∀ (l1 : List Nat) {S : St} {ts : List (Nat × Tr)}, runOps P hints call nt ops (l1 ++ i :: l2) S = some (Sf, ts) →
    ∃ ts1 t ts2, ts = ts1 ++ (i, t) :: ts2 ∧ ts1.map (·.1) = l1 ∧ ts2.map (·.1) = l2 ∧ ((∀ u ∈ ts1, conf P u.2 t = false) → ∃ S1, stepOp P hints call nt ops S i = some (S1, t) ∧ runOps P hints call nt ops (l1 ++ l2) S1 = some (Sf, ts1 ++ ts2))
  | [], S, ts, h => by
    simp only [List.nil_append, runOps] at h
    cases hs : stepOp P hints call nt ops S i with
    | none => rw [hs] at h; cases h
    | some q =>
      obtain ⟨S1, t⟩ := q
      rw [hs] at h
      simp only at h
      cases hr : runOps P hints call nt ops l2 S1 with
      | none => rw [hr] at h; cases h
      | some q2 =>
        obtain ⟨S2, ts2⟩ := q2
        rw [hr] at h
        simp only [Option.some.injEq, Prod.mk.injEq] at h
        obtain ⟨rfl, rfl⟩ := h
        exact ⟨[], t, ts2, rfl, rfl, run_names l2 hr, fun _ => ⟨S1, rfl, hr⟩⟩
  | k :: l1, S, ts, h => by
    simp only [List.cons_append, runOps] at h
    cases hs : stepOp P hints call nt ops S k with
    | none => rw [hs] at h; cases h
    | some q =>
      obtain ⟨S1, u⟩ := q
      rw [hs] at h
      simp only at h
      cases hr : runOps P hints call nt ops (l1 ++ i :: l2) S1 with
      | none => rw [hr] at h; cases h
      | some q2 =>
        obtain ⟨S2, ts'⟩ := q2
        rw [hr] at h
        simp only [Option.some.injEq, Prod.mk.injEq] at h
        obtain ⟨rfl, rfl⟩ := h
        obtain ⟨ts1, t, ts2, rfl, hn1, hn2, hb⟩ := bubble l1 hr
        refine ⟨(k, u) :: ts1, t, ts2, rfl, by simp [hn1], hn2, fun hc => ?_⟩
        obtain ⟨S3, h3, h4⟩ := hb fun v hv => hc v (List.mem_cons_of_mem _ hv)
        obtain ⟨S1', h5, h6⟩ := swap hs h3 (hc (k, u) (by simp))
        refine ⟨S1', h5, ?_⟩
        simp only [List.cons_append, runOps, h6, h4]

/-! ### Any order -/
theorem stepOp_wp {E : Env} {S : St} {a : Act} {w : World} {cx : Cx} (hN : NoNum P) (hC : CallOK P call) (hn : E.n ≤ PAR) (h : Sim E S a w cx) {ops : Array Oper} {i : Nat} {S' : St} {t : Tr} (hs : stepOp P hints call E.n ops S i = some (S', t)) {K : Act → World → Prop} {Q : Exit → Act → World → Prop} (hK : ∀ a' w' cx', Sim E S' a' w' cx' → K a' w') : wpOp P ops Q i K a w := by
  unfold stepOp at hs
  cases ho : ops[i]? with
  | none => rw [ho] at hs; cases hs
  | some o =>
    rw [ho] at hs
    simp only at hs
    have main : ∀ (extra : List Nat) (hw : Region.wanted o (yielded ops a.tmps) = true), perform P hints call E.n S i o extra = some (S', t) → wpOp P ops Q i K a w := by
      intro extra hw hp
      unfold perform at hp
      simp only at hp
      split at hp
      · cases hp
      · rename_i δ hδ
        cases hd : dstOk E.n o with
        | false => rw [hd] at hp; cases hp
        | true =>
          rw [hd] at hp
          simp only [cond_true, Option.some.injEq, Prod.mk.injEq] at hp
          obtain ⟨rfl, _⟩ := hp
          unfold wpOp
          rw [ho]
          simp only
          rw [if_pos hw]
          refine .inl (dvalAt_OK hN hC hn h (lookAt_sub S _) (fun j hj => ?_) hδ hd K Q fun v w' cx' hsim => hK _ _ _ hsim)
          unfold lookAt
          cases hh : S.hp (site i o, j) with
          | none => cases rmem (site i o, j) (fpOf S (site i o) o) <;> rfl
          | some ob =>
            have hm : (site i o, j) ∈ ((if looks o.op then o.op.operands.toList.flatMap (fun x => refsA (ov S.sl x)) else []) ++ (sites (site i o)).filter fun r => (S.hp r).isSome) := by
              refine List.mem_append_right _ (List.mem_filter.2 ⟨?_, by rw [hh]; rfl⟩)
              simp only [sites, List.mem_cons, Prod.mk.injEq, true_and]
              omega
            have : (site i o, j) ∈ fpOf S (site i o) o := by
              unfold fpOf
              simp only
              split
              · exact List.mem_append_left _ hm
              · exact hm
            rw [rmem_iff.2 this]
            rfl
    cases hg : o.guard with
    | none =>
      rw [hg] at hs
      exact main [] (by unfold Region.wanted; rw [hg]) hs
    | some gw =>
      obtain ⟨j, want⟩ := gw
      rw [hg] at hs
      simp only at hs
      cases hj : (ops[j]?).bind (·.dst) with
      | none => rw [hj] at hs; cases hs
      | some g =>
        rw [hj] at hs
        simp only at hs
        cases hb : wantA (S.sl g) want with
        | none => rw [hb] at hs; cases hs
        | some b =>
          rw [hb] at hs
          simp only at hs
          have hw := wanted_of (ops := ops) h hg hj hb
          by_cases hbw : b = true
          · rw [if_pos hbw] at hs
            exact main [g] (by rw [hw, hbw]) hs
          · rw [if_neg hbw] at hs
            cases hd : dstOk E.n o with
            | false => rw [hd] at hs; cases hs
            | true =>
              rw [hd] at hs
              simp only [cond_true, Option.some.injEq] at hs
              unfold wpOp
              rw [ho]
              simp only
              rw [if_neg (by rw [hw]; exact hbw)]
              refine hK _ _ cx ?_
              have := skip_sim (o := o) h (dstOk_lt hd)
              unfold skipOp at hs
              injection hs with h1 h2
              rw [← h1]
              exact this
theorem edges_get {b : Array Nat} : ∀ (l : List Oper) (n : Nat), edgesOk b l n = true → ∀ (i : Nat) (o : Oper), l[i]? = some o → (∀ e ∈ o.after.toList, Region.binds .any e = true → e.on < n + i) ∧ b.getD (n + i) 0 = o.after.toList.foldl (fun s e => if Region.binds .any e then s ||| 2 ^ e.on ||| b.getD e.on 0 else s) 0
  | [], n, _, i, o, h => by simp at h
  | x :: l, n, hb, 0, o, h => by
    simp only [edgesOk, Bool.and_eq_true, List.all_eq_true] at hb
    simp only [List.getElem?_cons_zero, Option.some.injEq] at h
    subst h
    refine ⟨fun e he hbd => ?_, Nat.eq_of_beq_eq_true hb.1.2⟩
    have := hb.1.1 e he
    rw [hbd] at this
    simpa [Nat.blt_eq] using this
  | x :: l, n, hb, i + 1, o, h => by
    simp only [edgesOk, Bool.and_eq_true] at hb
    have := edges_get l (n + 1) hb.2 i o (by simpa using h)
    rw [show n + (i + 1) = n + 1 + i by omega]
    exact this
theorem fold_bit {b : Array Nat} {j : Nat} : ∀ (l : List Edge) (s : Nat), (l.foldl (fun s e => if Region.binds .any e then s ||| 2 ^ e.on ||| b.getD e.on 0 else s) s).testBit j = true →
    s.testBit j = true ∨ ∃ e ∈ l, Region.binds .any e = true ∧ (e.on = j ∨ (b.getD e.on 0).testBit j = true)
  | [], s, h => .inl h
  | e :: l, s, h => by
    rw [List.foldl_cons] at h
    rcases fold_bit l _ h with h1 | ⟨e', h2, h3⟩
    · split at h1
      · rename_i hb
        simp only [Nat.testBit_or, Bool.or_eq_true] at h1
        rcases h1 with (h1 | h1) | h1
        · exact .inl h1
        · rw [Nat.testBit_two_pow] at h1
          exact .inr ⟨e, by simp, hb, .inl (of_decide_eq_true h1)⟩
        · exact .inr ⟨e, by simp, hb, .inr h1⟩
      · exact .inl h1
    · exact .inr ⟨e', List.mem_cons_of_mem _ h2, h3⟩
def Closed (ops : Array Oper) (listed : Array Bool) : Prop := ∀ (k : Nat) (o : Oper), ops[k]? = some o → listed.getD k false = true → ∀ e ∈ o.after.toList, Region.binds .any e = true → listed.getD e.on false = true
theorem ahead_listed {ops : Array Oper} {listed : Array Bool} {b : Array Nat} (hb : edgesOk b ops.toList 0 = true) (hc : Closed ops listed) : ∀ (n i : Nat), i < n → ∀ o, ops[i]? = some o → (∀ e ∈ o.after.toList, Region.binds .any e = true → listed.getD e.on false = true) → ∀ j, (b.getD i 0).testBit j = true → listed.getD j false = true
  | 0, i, hi, _, _, _, _, _ => by omega
  | n + 1, i, hi, o, ho, hp, j, hj => by
    obtain ⟨h1, h2⟩ := edges_get ops.toList 0 hb i o (by simpa using ho)
    rw [Nat.zero_add] at h1 h2
    rw [h2] at hj
    rcases fold_bit _ _ hj with h | ⟨e, he, hbd, h | h⟩
    · simp at h
    · rw [← h]; exact hp e he hbd
    · have hlt := h1 e he hbd
      have hsz : i < ops.size := (Array.getElem?_eq_some_iff.1 ho).1
      have hoe : ops[e.on]? = some (ops[e.on]'(by omega)) := Array.getElem?_eq_getElem (by omega)
      exact ahead_listed hb hc n e.on (by omega) _ hoe (hc e.on _ hoe (hp e he hbd)) j h
theorem indepOne_mem {b : Array Nat} {x : Nat × Tr} : ∀ {l : List (Nat × Tr)}, indepOne P b x l = true → ∀ y ∈ l, (orderedB b x.1 y.1 || !conf P x.2 y.2) = true
  | [], _, y, hy => by simp at hy
  | z :: l, h, y, hy => by
    simp only [indepOne, Bool.and_eq_true] at h
    rcases List.mem_cons.1 hy with rfl | hy
    · exact h.1
    · exact indepOne_mem h.2 y hy
theorem indepOne_drop {b : Array Nat} {x y : Nat × Tr} {l2 : List (Nat × Tr)} : ∀ (l1 : List (Nat × Tr)), indepOne P b x (l1 ++ y :: l2) = true → indepOne P b x (l1 ++ l2) = true
  | [], h => by simp only [List.nil_append, indepOne, Bool.and_eq_true] at h ⊢; exact h.2
  | z :: l1, h => by
    simp only [List.cons_append, indepOne, Bool.and_eq_true] at h ⊢
    exact ⟨h.1, indepOne_drop l1 h.2⟩
theorem indepAll_drop {b : Array Nat} {y : Nat × Tr} {l2 : List (Nat × Tr)} : ∀ (l1 : List (Nat × Tr)), indepAll P b (l1 ++ y :: l2) = true → indepAll P b (l1 ++ l2) = true ∧ ∀ u ∈ l1, (orderedB b u.1 y.1 || !conf P u.2 y.2) = true
  | [], h => by simp only [List.nil_append, indepAll, Bool.and_eq_true] at h ⊢; exact ⟨h.2, by simp⟩
  | z :: l1, h => by
    simp only [List.cons_append, indepAll, Bool.and_eq_true] at h ⊢
    obtain ⟨h1, h2⟩ := indepAll_drop l1 h.2
    refine ⟨⟨indepOne_drop l1 h.1, h1⟩, fun u hu => ?_⟩
    rcases List.mem_cons.1 hu with rfl | hu
    · exact indepOne_mem h.1 y (by simp)
    · exact h2 u hu
theorem beq_off {k i : Nat} (h : k ≠ i) : Nat.beq k i = false := by
  cases hb : Nat.beq k i with
  | true => exact absurd (Nat.eq_of_beq_eq_true hb) h
  | false => rfl
theorem filter_out {i : Nat} {l1 l2 : List Nat} (h : (l1 ++ i :: l2).Nodup) : (l1 ++ i :: l2).filter (fun k => !Nat.beq k i) = l1 ++ l2 := by
  rw [List.nodup_append] at h
  obtain ⟨_, h2, h3⟩ := h
  rw [List.nodup_cons] at h2
  have e : ∀ l : List Nat, i ∉ l → l.filter (fun k => !Nat.beq k i) = l := fun l hl => List.filter_eq_self.2 fun k hk => by
    have : k ≠ i := fun e => hl (e ▸ hk)
    rw [beq_off this]
    rfl
  rw [List.filter_append, e l1 (fun hm => h3 i hm i (by simp) rfl), List.filter_cons]
  simp [e l2 h2.1]
def left (ops : Array Oper) (listed : Array Bool) : List Nat := (List.range ops.size).filter fun i => !listed.getD i true
theorem left_set {ops : Array Oper} {listed : Array Bool} {i : Nat} (hsz : listed.size = ops.size) {l1 l2 : List Nat} (h : left ops listed = l1 ++ i :: l2) : left ops (listed.setIfInBounds i true) = l1 ++ l2 := by
  have hnd : (left ops listed).Nodup := List.Pairwise.filter _ List.nodup_range
  rw [h] at hnd
  rw [← filter_out hnd, ← h]
  unfold left
  rw [List.filter_filter]
  apply List.filter_congr
  intro k hk
  have hk' := List.mem_range.1 hk
  by_cases e : k = i
  · subst e
    simp [Array.getD, hsz, hk']
  · have e' : ¬ i = k := fun h => e h.symm
    simp [Array.getD, hsz, hk', e, Array.getElem_setIfInBounds, e', beq_off e]
theorem draw_any {E : Env} (hN : NoNum P) (hC : CallOK P call) (hn : E.n ≤ PAR) {ops : Array Oper} (hb : drawOk ops = true) {Q : Exit → Act → World → Prop} {Sf : St} (hQ : ∀ a' w' cx', Sim E Sf a' w' cx' → Q .normal a' w') :
    ∀ (fuel : Nat) (listed : Array Bool) {S : St} {ts : List (Nat × Tr)} {a : Act} {w : World} {cx : Cx}, listed.size = ops.size → Closed ops listed → (left ops listed).length ≤ fuel → Sim E S a w cx →
      runOps P hints call E.n ops (left ops listed) S = some (Sf, ts) → indepAll P (CheckFast.beforeF ops) ts = true → wpAny P .any ops Q fuel listed a w := by
  have hdone : ∀ (listed : Array Bool) {S : St} {ts : List (Nat × Tr)} {a : Act} {w : World} {cx : Cx}, left ops listed = [] → Sim E S a w cx → runOps P hints call E.n ops (left ops listed) S = some (Sf, ts) → Q .normal a w := by
    intro listed S ts a w cx hl h hr
    rw [hl] at hr
    simp only [runOps, Option.some.injEq, Prod.mk.injEq] at hr
    rw [← hr.1] at hQ
    exact hQ _ _ _ h
  have hsub : ∀ (listed : Array Bool) (i : Nat), i ∈ Region.ready .any ops listed → i ∈ left ops listed ∧ ∀ o, ops[i]? = some o → ∀ e ∈ o.after.toList, Region.binds .any e = true → listed.getD e.on false = true := by
    intro listed i hi
    obtain ⟨h1, h2⟩ := List.mem_filter.1 hi
    rw [Bool.and_eq_true] at h2
    refine ⟨List.mem_filter.2 ⟨h1, h2.1⟩, fun o ho e he hbd => ?_⟩
    have h3 := h2.2
    rw [ho] at h3
    simp only [Option.map_some, Option.getD_some] at h3
    rw [← Array.all_toList, List.all_eq_true] at h3
    have := h3 e he
    rw [hbd] at this
    simpa using this
  have hready : ∀ (listed : Array Bool), listed.size = ops.size → left ops listed ≠ [] → Region.ready .any ops listed ≠ [] := by
    intro listed hsz hne hr
    obtain ⟨i, l, hl⟩ : ∃ i l, left ops listed = i :: l := by
      cases h : left ops listed with
      | nil => exact absurd h hne
      | cons i l => exact ⟨i, l, rfl⟩
    have hi : i ∈ left ops listed := by rw [hl]; simp
    obtain ⟨h1, h2⟩ := List.mem_filter.1 hi
    have hi' := List.mem_range.1 h1
    have hmin : ∀ k, k < i → listed.getD k false = true := by
      intro k hk
      cases hv : listed.getD k false with
      | true => rfl
      | false =>
        exfalso
        have hkl : k ∈ left ops listed := by
          refine List.mem_filter.2 ⟨List.mem_range.2 (by omega), ?_⟩
          have hks : k < listed.size := by omega
          simp [Array.getD, hks] at hv ⊢
          exact hv
        rw [hl] at hkl
        have hsorted : (left ops listed).Pairwise (· < ·) := List.Pairwise.filter _ List.pairwise_lt_range
        rw [hl, List.pairwise_cons] at hsorted
        rcases List.mem_cons.1 hkl with e | e
        · omega
        · have := hsorted.1 k e
          omega
    have : i ∈ Region.ready .any ops listed := by
      refine List.mem_filter.2 ⟨h1, ?_⟩
      rw [Bool.and_eq_true]
      refine ⟨h2, ?_⟩
      have hoe : ops[i]? = some (ops[i]'hi') := Array.getElem?_eq_getElem hi'
      rw [hoe]
      simp only [Option.map_some, Option.getD_some]
      rw [← Array.all_toList, List.all_eq_true]
      intro e he
      cases hbd : Region.binds .any e with
      | false => rfl
      | true =>
        have := (edges_get ops.toList 0 hb i _ (by simpa using hoe)).1 e he hbd
        rw [Nat.zero_add] at this
        simp [hmin e.on this]
    rw [hr] at this
    simp at this
  intro fuel
  induction fuel with
  | zero =>
    intro listed S ts a w cx hsz hcl hlen h hr hi
    have hl : left ops listed = [] := List.length_eq_zero_iff.1 (by omega)
    refine ⟨?_, hdone listed hl h hr⟩
    cases hrd : Region.ready .any ops listed with
    | nil => rfl
    | cons i l =>
      have := (hsub listed i (by rw [hrd]; simp)).1
      rw [hl] at this
      simp at this
  | succ fuel ih =>
    intro listed S ts a w cx hsz hcl hlen h hr hi
    refine ⟨fun hrd => ?_, fun i hird => ?_⟩
    · refine hdone listed ?_ h hr
      cases hl : left ops listed with
      | nil => rfl
      | cons i l => exact absurd hrd (hready listed hsz (by rw [hl]; simp))
    · obtain ⟨hil, hpre⟩ := hsub listed i hird
      obtain ⟨l1, l2, hl⟩ := List.append_of_mem hil
      rw [hl] at hr
      obtain ⟨ts1, t, ts2, rfl, hn1, hn2, hbub⟩ := bubble l1 hr
      obtain ⟨hi2, hconf⟩ := indepAll_drop ts1 hi
      have hisz : i < ops.size := List.mem_range.1 (List.mem_filter.1 hil).1
      have hoe : ops[i]? = some (ops[i]'hisz) := Array.getElem?_eq_getElem hisz
      obtain ⟨S1, hs1, hr1⟩ := hbub fun u hu => by
        have := hconf u hu
        rw [Bool.or_eq_true] at this
        rcases this with h1 | h1
        · exfalso
          have hul : u.1 ∈ left ops listed := by
            rw [hl]
            refine List.mem_append_left _ ?_
            rw [← hn1]
            exact List.mem_map_of_mem hu
          have hlisted := ahead_listed hb hcl (i + 1) i (by omega) _ hoe (hpre _ hoe) u.1 h1
          have h2 := (List.mem_filter.1 hul).2
          have hlt : u.1 < listed.size := by rw [hsz]; exact List.mem_range.1 (List.mem_filter.1 hul).1
          simp [Array.getD, hlt] at hlisted h2
          rw [hlisted] at h2
          cases h2
        · simpa using h1
      refine stepOp_wp hN hC hn h hs1 fun a' w' cx' hsim => ?_
      have hset := left_set hsz hl
      refine ih (listed.setIfInBounds i true) (by simp [hsz]) ?_ ?_ hsim (by rw [hset]; exact hr1) hi2
      · intro k o ho hk e he hbd
        have hgoal : listed.getD e.on false = true → (listed.setIfInBounds i true).getD e.on false = true := by
          intro hg
          by_cases hlt : e.on < listed.size
          · simp [Array.getD, hlt, Array.getElem_setIfInBounds] at hg ⊢
            exact .inr hg
          · simp [Array.getD, hlt] at hg
        apply hgoal
        by_cases hki : k = i
        · subst hki
          exact hpre o ho e he hbd
        · refine hcl k o ho ?_ e he hbd
          by_cases hlt : k < listed.size
          · have hki' : ¬ i = k := fun h => hki h.symm
            simp [Array.getD, hlt, Array.getElem_setIfInBounds, hki'] at hk ⊢
            exact hk
          · simp [Array.getD, hlt] at hk
      · rw [hset]
        rw [hl] at hlen
        simp at hlen ⊢
        omega
theorem Sim.drew {E : Env} {S : St} {a : Act} {w : World} {cx : Cx} (h : Sim E S a w cx) (n : Nat) : Sim E S a { w with drawn := n } cx := by
  have hl : Lasts w cx.pr { w with drawn := n } cx.pr := ⟨fun _ _ h => h, fun _ _ _ => rfl⟩
  exact
  { fr := ⟨h.fr.os, h.fr.tape, h.fr.output, h.fr.size, h.fr.blk, h.fr.last.trans hl, h.fr.new⟩
    good := ⟨fun r o hr => (h.good.rep r o hr).keep (fun _ _ e => e) hl (fun _ _ => rfl) fun _ _ _ e => e, h.good.inj, h.good.lt, h.good.dom, h.good.free⟩
    defers := h.defers
    size := h.size
    slots := fun i v hv => (h.slots i v hv).keep (fun _ _ e => e) hl
    high := h.high
    par := h.par }
/-- a drawn region is sound -/
theorem draw_wp {E : Env} (hN : NoNum P) (hm : P.follows .mixedOrders = true) (hC : CallOK P call) (hn : E.n ≤ PAR) {id : Nat} {ops : Array Oper} {S S' : St} {ts : List (Nat × Tr)} {a : Act} {w : World} {cx : Cx} {Q : Exit → Act → World → Prop} (h : Sim E S a w cx)
    (hr : runOps P hints call E.n ops (List.range ops.size) S = some (S', ts)) (hb : drawOk ops = true) (hi : indepAll P (CheckFast.beforeF ops) ts = true) (hQ : ∀ a' w' cx', Sim E S' a' w' cx' → Q .normal a' w') : (Code.region id ops true).wp P Q a w := by
  refine wp_region_any hm ?_
  have hl : left ops (Array.replicate ops.size false) = List.range ops.size := by
    unfold left
    rw [List.filter_eq_self]
    intro k hk
    have := List.mem_range.1 hk
    simp [Array.getD, this]
  refine draw_any hN hC hn hb hQ ops.size _ (by simp) ?_ ?_ (h.drew _) (by rw [hl]; exact hr) hi
  · intro k o ho hk
    by_cases hlt : k < ops.size
    · simp [Array.getD, hlt] at hk
    · simp [Array.getD, hlt] at hk
  · rw [hl]; simp
end
end Go.Am
