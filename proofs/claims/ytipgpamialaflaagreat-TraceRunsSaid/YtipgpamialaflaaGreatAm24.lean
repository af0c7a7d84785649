/-
  AM, PART 24: a call, its end.
-/
import Derived.Test.YtipgpamialaflaaGreatAm23
set_option linter.unusedVariables false
set_option linter.unusedSimpArgs false
set_option linter.unnecessarySimpa false
namespace Go.Am
open Go Go.RowKit

section
variable {P : Program} {o : Oper} {E : Env} {S : St} {a : Act} {w : World} {cx : Cx} {look : Root → Option Ob} {d : Nat} {δ : Delta} {hints : Nat → Hint} {call : Nat → List AV → List Ob → Option Ret}

def cxBack (L : List Root) (d : Nat) (ret : Ret) (ks : List Root) (cx cx' : Cx) : Cx where
  β r := if r.1 = d ∧ r.2 < ret.news.length then cx'.β (NEW, r.2) else match idxOf r L 0 with
    | some i => (match ret.outs[i]? with | some (some _) => cx'.β (PAR, i) | _ => none)
    | none => if rmem r ks = true then none else cx.β r
  pr := cx'.pr
theorem backOf_par (L : List Root) (d i : Nat) : backOf L d (PAR, i) = L[i]? := by
  unfold backOf
  simp only
  rw [Nat.beq_refl]
  rfl
theorem par_ne_new : Nat.beq NEW PAR = false := by decide
theorem backOf_new (L : List Root) (d j : Nat) : backOf L d (NEW, j) = some (d, j) := by
  unfold backOf
  simp only
  rw [par_ne_new, Nat.beq_refl]
  rfl
theorem retHp_some {ret : Ret} {r : Root} {o : Ob} (h : retHp ret r = some o) : (∃ i, r = (PAR, i) ∧ ret.outs[i]? = some (some o)) ∨ ∃ j, r = (NEW, j) ∧ ret.news[j]? = some o := by
  unfold retHp at h
  cases hb : Nat.beq r.1 PAR with
  | true =>
    rw [hb] at h
    simp only [cond_true] at h
    have e := Nat.eq_of_beq_eq_true hb
    split at h
    · rename_i o' ho
      subst h
      exact .inl ⟨r.2, by rw [← e], ho⟩
    · cases h
  | false =>
    rw [hb] at h
    simp only [cond_false] at h
    cases hn : Nat.beq r.1 NEW with
    | true =>
      rw [hn] at h
      exact .inr ⟨r.2, by rw [← Nat.eq_of_beq_eq_true hn], h⟩
    | false => rw [hn] at h; cases h
theorem cond_eq_if {α : Type} (b : Bool) (x y : α) : (bif b then x else y) = if b = true then x else y := by cases b <;> rfl
set_option maxHeartbeats 1000000 in
theorem callEnd (h : Sim E S a w cx) {L : List Root} (hn : nodupB L = true) {ret : Ret} {v : Value} {w' : World} {cx' : Cx} (R : Returns w cx.pr (fun g => ∃ r ∈ L, blkOf cx r = some g) (cxCall L cx).β ret v w' cx') (hlen : ret.outs.length = L.length) (hc : noClash d ret.news L ret.outs = true) {ks : List Root}
    (hnew : ∀ j b, j < ret.news.length → cx.β (d, j) = some b → (d, j) ∈ ks) (hout : ∀ (i : Nat) (r : Root), L[i]? = some r → ret.outs[i]? = some none → r ∈ ks) (hdP : d ≠ PAR) :
    Sim E (upS (newUps (backOf L d) d 0 ret.news ++ outUps (backOf L d) L ret.outs) (killS ks S)) a w' (cxBack L d ret ks cx cx') ∧ RepA w' (cxBack L d ret ks cx cx') (renA (backOf L d) ret.res) v := by
  -- what stands for what
  have hcls : ∀ r b, (cxBack L d ret ks cx cx').β r = some b → (∃ q, cx'.β q = some b ∧ backOf L d q = some r) ∨ (cx.β r = some b ∧ r ∉ L ∧ r ∉ ks ∧ ¬ (r.1 = d ∧ r.2 < ret.news.length)) := by
    intro r b hb
    unfold cxBack at hb
    simp only at hb
    split at hb
    · rename_i hr
      refine .inl ⟨(NEW, r.2), hb, ?_⟩
      rw [backOf_new, ← hr.1]
    · rename_i hr
      split at hb
      · rename_i i hi
        split at hb
        · refine .inl ⟨(PAR, i), hb, ?_⟩
          rw [backOf_par]
          simpa using (idxOf_some hi).2
        · cases hb
      · rename_i hi
        split at hb
        · cases hb
        · rename_i hk
          exact .inr ⟨hb, idxOf_none hi, fun hm => hk (rmem_iff.2 hm), hr⟩
  have hback : Names cx' (cxBack L d ret ks cx cx') (backOf L d) := by
    intro q r b h1 h2
    obtain ⟨ob, hob⟩ := R.good.dom q b h2
    rcases retHp_some hob with ⟨i, rfl, hi⟩ | ⟨j, rfl, hj⟩
    · rw [backOf_par] at h1
      unfold cxBack
      simp only
      have hnr : ¬ (r.1 = d ∧ r.2 < ret.news.length) := by
        rintro ⟨e1, e2⟩
        have := noClash_get hc h1 hi e1
        rw [this] at e2
        simp at e2
      rw [if_neg hnr, idxOf_nodup (n := 0) hn h1]
      simp only [Nat.zero_add, hi]
      exact h2
    · rw [backOf_new] at h1
      injection h1 with h1
      subst h1
      have hjl : j < ret.news.length := (List.getElem?_eq_some_iff.1 hj).1
      unfold cxBack
      simp only
      rw [if_pos ⟨trivial, hjl⟩]
      exact h2
  have hpar : ∀ i q b, L[i]? = some q → cx'.β (PAR, i) = some b → cx.β q = some b := by
    intro i q b h1 h2
    have := R.par i b h2
    rw [cxCall_par, h1] at this
    exact this
  have hold : Names cx (cxBack L d ret ks cx cx') (killM ks) := by
    intro r r' b h1 h2
    unfold killM at h1
    cases hm : rmem r ks with
    | true => rw [hm] at h1; cases h1
    | false =>
      rw [hm] at h1
      injection h1 with h1
      subst h1
      have hnk := rmem_false.1 hm
      unfold cxBack
      simp only
      have hnr : ¬ (r.1 = d ∧ r.2 < ret.news.length) := by
        rintro ⟨e1, e2⟩
        refine hnk ?_
        have e : r = (d, r.2) := Prod.ext e1 rfl
        rw [e] at h2 ⊢
        exact hnew _ b e2 h2
      rw [if_neg hnr]
      cases hi : idxOf r L 0 with
      | none =>
        simp only [hm, Bool.false_eq_true, if_false]
        exact h2
      | some i =>
        simp only
        have hLi : L[i]? = some r := by simpa using (idxOf_some hi).2
        have hil : i < ret.outs.length := by rw [hlen]; exact (List.getElem?_eq_some_iff.1 hLi).1
        cases ho : ret.outs[i] with
        | none => exact absurd (hout i r hLi (by rw [List.getElem?_eq_getElem hil, ho])) hnk
        | some ob =>
          have hoi : ret.outs[i]? = some (some ob) := by rw [List.getElem?_eq_getElem hil, ho]
          rw [hoi]
          simp only
          have hrep := R.good.rep (PAR, i) ob (by
            unfold retHp
            simp only
            rw [Nat.beq_refl]
            simp only [cond_true, hoi])
          have hex : ∃ b', cx'.β (PAR, i) = some b' := by
            cases ob with
            | cells => obtain ⟨g, _, hb, _⟩ := hrep; exact ⟨_, hb⟩
            | arr => obtain ⟨g, _, hb, _⟩ := hrep; exact ⟨_, hb⟩
            | map => obtain ⟨g, _, hb, _⟩ := hrep; exact ⟨_, hb⟩
          obtain ⟨b', hb'⟩ := hex
          have := hpar i r b' hLi hb'
          rw [h2] at this
          rw [hb', this]
  have hlast : Lasts w cx.pr w' (cxBack L d ret ks cx cx').pr := R.fr.last
  have hblk : ∀ r g, blkOf (cxBack L d ret ks cx cx') r = some g → (∃ q, blkOf cx' q = some g ∧ backOf L d q = some r) ∨ (blkOf cx r = some g ∧ r ∉ L) := by
    intro r g hg
    unfold blkOf at hg
    cases hb : (cxBack L d ret ks cx cx').β r with
    | none => rw [hb] at hg; cases hg
    | some b =>
      rw [hb] at hg
      rcases hcls r b hb with ⟨q, h1, h2⟩ | ⟨h1, h2, _, _⟩
      · exact .inl ⟨q, by unfold blkOf; rw [h1]; exact hg, h2⟩
      · exact .inr ⟨by unfold blkOf; rw [h1]; exact hg, h2⟩
  have hnmu : ∀ r g, blkOf cx r = some g → r ∉ L → ¬ ∃ q ∈ L, blkOf cx q = some g := by
    rintro r g h1 h2 ⟨q, hq, h3⟩
    exact h2 (h.good.inj r q g h1 h3 ▸ hq)
  have hhp : ∀ r, (upS (newUps (backOf L d) d 0 ret.news ++ outUps (backOf L d) L ret.outs) (killS ks S)).hp r =
      if r.1 = d ∧ r.2 < ret.news.length then (ret.news[r.2]?).map (renO (backOf L d)) else match idxOf r L 0 with
        | some i => (match ret.outs[i]? with | some (some ob) => some (renO (backOf L d) ob) | _ => none)
        | none => if rmem r ks = true then none else (S.hp r).map (renO (killM ks)) := by
    intro r
    simp only [upS, killS]
    rw [lookU_append, lookU_new, lookU_out L ret.outs 0 hlen]
    by_cases hr : r.1 = d ∧ r.2 < ret.news.length
    · rw [if_pos ⟨hr.1, Nat.zero_le _, by omega⟩, if_pos hr, Nat.sub_zero, List.getElem?_eq_getElem hr.2]
      rfl
    · rw [if_neg (fun hh => hr ⟨hh.1, by omega⟩), if_neg hr]
      simp only
      cases hi : idxOf r L 0 with
      | none => rfl
      | some i =>
        have hLi : L[i]? = some r := by simpa using (idxOf_some hi).2
        have hil : i < ret.outs.length := by rw [hlen]; exact (List.getElem?_eq_some_iff.1 hLi).1
        simp only [Nat.sub_zero, List.getElem?_eq_getElem hil, Option.map_some]
        cases ret.outs[i] <;> rfl
  refine ⟨?_, R.res.ren hback ⟨fun _ _ h => h, fun _ _ _ => rfl⟩⟩
  exact {
    fr := {
      os := R.fr.os.trans h.fr.os
      tape := R.fr.tape.trans h.fr.tape
      output := R.fr.output.trans h.fr.output
      size := Nat.le_trans h.fr.size R.fr.size
      blk := fun b hb hm => (R.fr.blk b (Nat.lt_of_lt_of_le hb h.fr.size) (fun ⟨q, _, hq⟩ => by
        rcases h.good.free q b hq with h1 | h1
        · exact hm h1
        · omega)).trans (h.fr.blk b hb hm)
      last := h.fr.last.trans R.fr.last
      new := fun b q hp => by
        rcases R.fr.new b q hp with h1 | ⟨x, _, hx⟩ | h1
        · exact h.fr.new b q h1
        · rcases h.good.free x b hx with h2 | h2
          · exact .inr (.inl h2)
          · exact .inr (.inr h2)
        · exact .inr (.inr (Nat.le_trans h.fr.size h1)) }
    good := {
      rep := fun r ob hr => by
        rw [hhp] at hr
        split at hr
        · rename_i hrn
          rw [List.getElem?_eq_getElem hrn.2] at hr
          injection hr with hr
          subst hr
          refine RepO.move hback ⟨fun _ _ h => h, fun _ _ _ => rfl⟩ (fun b hb => hback (NEW, r.2) r b (by rw [backOf_new, ← hrn.1]) hb) (fun _ _ => rfl) (fun _ _ _ hp => hp) (R.good.rep (NEW, r.2) _ ?_)
          unfold retHp
          simp only
          rw [par_ne_new, Nat.beq_refl]
          exact List.getElem?_eq_getElem hrn.2
        · split at hr
          · rename_i i hi
            have hLi : L[i]? = some r := by simpa using (idxOf_some hi).2
            split at hr
            · rename_i o' ho
              injection hr with hr
              subst hr
              refine RepO.move hback ⟨fun _ _ h => h, fun _ _ _ => rfl⟩ (fun b hb => hback (PAR, i) r b (by rw [backOf_par]; exact hLi) hb) (fun _ _ => rfl) (fun _ _ _ hp => hp) (R.good.rep (PAR, i) _ ?_)
              unfold retHp
              simp only
              rw [Nat.beq_refl]
              simp only [cond_true, ho]
            · cases hr
          · rename_i hi
            split at hr
            · cases hr
            · rename_i hk
              cases hS : S.hp r with
              | none => rw [hS] at hr; cases hr
              | some o' =>
                rw [hS] at hr
                injection hr with hr
                subst hr
                have hrep := h.good.rep r o' hS
                have hrL := idxOf_none hi
                refine RepO.move hold hlast (fun b hb => hold r r b (by unfold killM; rw [Bool.not_eq_true] at hk; rw [hk]; rfl) hb) (fun g hg => R.fr.blk g (hrep.block_lt hg) (hnmu r g hg hrL)) (fun g q hg hp => ?_) hrep
                rcases R.fr.new g q hp with h1 | h1 | h1
                · exact h1
                · exact absurd h1 (hnmu r g hg hrL)
                · have := hrep.block_lt hg
                  omega
      inj := fun r r' g h1 h2 => by
        have apart : ∀ {q r g}, blkOf cx' q = some g → blkOf cx r = some g → r ∉ L → False := by
          intro q r g hq hr hrL
          rcases R.good.free q g hq with h3 | h3
          · exact hnmu r g hr hrL h3
          · have := h.good.block_lt hr
            omega
        rcases hblk r g h1 with ⟨q, a1, a2⟩ | ⟨a1, a2⟩ <;> rcases hblk r' g h2 with ⟨q', b1, b2⟩ | ⟨b1, b2⟩
        · have := R.good.inj q q' g a1 b1
          subst this
          rw [a2] at b2
          injection b2
        · exact (apart a1 b1 b2).elim
        · exact (apart b1 a1 a2).elim
        · exact h.good.inj r r' g a1 b1
      lt := R.good.lt
      dom := fun r b hb => by
        rw [hhp]
        unfold cxBack at hb
        simp only at hb
        split at hb
        · rename_i hrn
          rw [if_pos hrn, List.getElem?_eq_getElem hrn.2]
          exact ⟨_, rfl⟩
        · rename_i hrn
          rw [if_neg hrn]
          split at hb
          · rename_i i hi
            split at hb
            · rename_i ob ho
              exact ⟨_, rfl⟩
            · cases hb
          · rename_i hi
            split at hb
            · cases hb
            · rename_i hk
              rw [if_neg hk]
              obtain ⟨ob, hob⟩ := h.good.dom r b hb
              rw [hob]
              exact ⟨_, rfl⟩
      free := fun r g hg => by
        rcases hblk r g hg with ⟨q, a1, _⟩ | ⟨a1, _⟩
        · rcases R.good.free q g a1 with ⟨x, _, hx⟩ | h1
          · exact h.good.free x g hx
          · exact .inr (Nat.le_trans h.fr.size h1)
        · exact h.good.free r g a1 }
    defers := h.defers
    size := h.size
    slots := fun i u hu => (h.slots i u hu).ren hold hlast
    high := fun i hi => by
      show renA (killM ks) (S.sl i) = .c .un
      rw [h.high i hi]
      rfl
    par := fun i b hb => by
      rcases hcls _ b hb with ⟨q, h1, h2⟩ | ⟨h1, _⟩
      · obtain ⟨ob, hob⟩ := R.good.dom q b h1
        rcases retHp_some hob with ⟨j, rfl, hj⟩ | ⟨j, rfl, hj⟩
        · rw [backOf_par] at h2
          exact h.par i b (hpar j _ b h2 h1)
        · rw [backOf_new] at h2
          injection h2 with h2
          injection h2 with h2 _
          exact absurd h2 hdP
      · exact h.par i b h1 }

/-- no function of the runtime's own name -/
def NoNum (P : Program) : Prop := ∀ (f : FuncId) (fn : Func), P.funcs[f]? = some fn → (fn.name == "runtime.NumGoroutine") = false
theorem call_run (hN : NoNum P) {c : Call} (ho : o.op = .call c) {f : Operand} (hc : c.callee = .value f) {g : Nat} {caps : List Value} (hf : a.eval f = .func (.func g) #[] caps.toArray) {fn : Func} (hfn : P.funcs[g]? = some fn) {b : Code} (hb : fn.body = some b) : (execOp a.eval o).run P w = .ok (.enter g (c.args.toList.map a.eval ++ caps).toArray) w := by
  have e : (c.args.map a.eval) ++ caps.toArray = (c.args.toList.map a.eval ++ caps).toArray := by
    apply Array.ext'
    simp
  have hsome : fn.body.isNone = false := by rw [hb]; rfl
  simp only [execOp, ho, resolve, hc, hf, Deferred.ofValue, invoke, callFunc, Sem.run_bind, Sem.run_pure, Result.andThen_ok, run_program, hfn, hN g fn hfn, Bool.false_eq_true, if_false, hsome]
  rw [← e]
  simp
theorem RepC.one_of_good {hp : Root → Option Ob} {free : Nat → Prop} (hg : Good hp w cx free) {x : CV} {v : Value} (h : RepC w cx x v) (hu : x ≠ .un) : v.oneCell' = true := by
  cases h with
  | un => exact absurd rfl hu
  | nl => rfl
  | p x v h => exact oneCell_of_pv h
  | ra => rfl
  | ptr => rfl
  | ep => rfl
  | mp => rfl
  | clo => rfl
  | arr r k v hb =>
    obtain ⟨ob, hob⟩ := hg.dom r _ hb
    have hr := hg.rep r ob hob
    cases ob with
    | cells => obtain ⟨g, _, hb', _⟩ := hr; rw [hb] at hb'; injection hb' with hb'; cases hb'
    | map => obtain ⟨g, _, hb', _⟩ := hr; rw [hb] at hb'; injection hb' with hb'; cases hb'
    | arr => rcases row_slice hr hb with ⟨rfl, _⟩ | ⟨_, _, rfl, _⟩ <;> rfl
set_option maxHeartbeats 1000000 in
theorem callA_OK (hN : NoNum P) (hC : CallOK P call) (h : Sim E S a w cx) (hd : ∀ d, o.dst = some d → d < E.n) (hl : Sub look S.hp) (hdP : d ≠ PAR) (hld : ∀ j, j < 4 → look (d, j) = S.hp (d, j)) {c : Call} {f : Operand} {g : Nat} {caps : List CV} (ho : o.op = .call c) (hc : c.callee = .value f) (hf : Am.ov S.sl f = .c (.clo g caps))
    (hv : callA P hints call look d g (c.args.toList.map (Am.ov S.sl) ++ caps.map .c) = some δ) : OK P o E (applyD S o.dst δ) a w := by
  unfold callA at hv
  split at hv
  · cases hv
  · rename_i fn hfn
    split at hv
    · cases hv
    · rename_i b hb
      simp only at hv
      generalize hargs : c.args.toList.map (Am.ov S.sl) ++ caps.map AV.c = args at hv
      generalize hsa : softArrs (hints g).own 0 fn.params.toList args = sa at hv
      generalize has : softArgs P look (hints g).own 0 fn.params.toList args = as at hv
      generalize hL : collect look 60 (refsAs as) [] = L at hv
      cases hnd : (nodupB L && sa.all (fun r => !rmem r L)) with
      | false => rw [hnd] at hv; cases hv
      | true =>
        rw [hnd] at hv
        simp only [cond_true] at hv
        rw [Bool.and_eq_true] at hnd
        obtain ⟨hn, hsaL⟩ := hnd
        split at hv
        · cases hv
        · rename_i objs hobjs
          split at hv
          · cases hv
          · rename_i ret hret
            cases hcl : (Nat.beq ret.outs.length L.length && noClash d ret.news L ret.outs && Nat.ble ret.news.length 4) with
            | false => rw [hcl] at hv; cases hv
            | true =>
              rw [hcl] at hv
              injection hv with hv
              subst hv
              rw [Bool.and_eq_true] at hcl
              obtain ⟨hcl, h4⟩ := hcl
              rw [Bool.and_eq_true] at hcl
              have h4 := Nat.le_of_ble_eq_true h4
              have hlen := Nat.eq_of_beq_eq_true hcl.1
              -- the callee
              have hfv := h.ov f
              rw [hf] at hfv
              have hfc := hfv.c_inv.1
              generalize hV : a.eval f = V at hfc
              cases hfc with
              | clo _ _ vs hcl2 hcr =>
                have hrun := call_run (w := w) hN ho hc hV hfn hb
                -- the arguments
                have hargR : args.length = (c.args.toList.map a.eval ++ vs).length ∧ ∀ (i : Nat) (x : AV) (v : Value), args[i]? = some x → (c.args.toList.map a.eval ++ vs)[i]? = some v → RepA w cx x v := by
                  subst hargs
                  refine ⟨by simp [hcl2], fun i x v hx hv => ?_⟩
                  by_cases hi : i < c.args.toList.length
                  · rw [List.getElem?_append_left (by simpa using hi)] at hx hv
                    rw [List.getElem?_map] at hx hv
                    rw [List.getElem?_eq_getElem hi] at hx hv
                    injection hx with hx
                    injection hv with hv
                    subst hx
                    subst hv
                    exact h.ov _
                  · rw [List.getElem?_append_right (by simpa using hi)] at hx hv
                    simp only [List.length_map] at hx hv
                    rw [List.getElem?_map] at hx
                    cases hcq : caps[i - c.args.toList.length]? with
                    | none => rw [hcq] at hx; cases hx
                    | some cv =>
                      rw [hcq] at hx
                      injection hx with hx
                      subst hx
                      have hrc := hcr _ cv v hcq hv
                      by_cases hu : cv = .un
                      · subst hu; exact .un v
                      · exact .c _ _ (hrc.one_of_good h.good hu) hrc
                have hsaS : ∀ r ∈ softArrs (hints g).own 0 fn.params.toList args, r ∈ sa := fun r hr => by rw [← hsa]; exact hr
                obtain ⟨hal, harep⟩ := softArgs_rep (P := P) (h.rows_read hl sa) (hints g).own fn.params.toList 0 args _ hsaS hargR.1 hargR.2
                rw [has] at hal harep
                have hS := h.sealed sa
                have hlook : ∀ r ob, r ∈ L → look r = some ob → (sealS sa S).hp r = some ob := by
                  intro r ob hr hlr
                  have hns : rmem r sa = false := by
                    rw [rmem_false]
                    intro hm
                    have := List.all_eq_true.1 hsaL r hm
                    rw [rmem_iff.2 hr] at this
                    cases this
                  simp only [sealS, hl r ob hlr, hns, cond_false]
                have hgood := callStart (look := look) hn hS.good hobjs hlook
                have hcallee := hC g (renAs (parOf L) as) objs ret hret w (cxCall L (sealCx S cx sa)) (fun q => ∃ r ∈ L, blkOf (sealCx S cx sa) r = some q) (c.args.toList.map a.eval ++ vs) (by rw [renAs_length]; exact hal) (fun i x v hx hv => by
                  rw [renAs_get] at hx
                  cases hy : as[i]? with
                  | none => rw [hy] at hx; cases hx
                  | some y =>
                    rw [hy] at hx
                    injection hx with hx
                    subst hx
                    exact (harep i y v hy hv).ren (cxCall_names L _) (Lasts.refl w _)) hgood
                intro K Q hK
                unfold Oper.wp
                rw [hrun, Oper.upon_enter]
                refine hcallee.mono fun e w' he => ?_
                cases e with
                | panicked => exact he.elim
                | outgrown => exact he.elim
                | returned v =>
                  obtain ⟨cx', R⟩ := he
                  obtain ⟨e1, e2⟩ := callEnd (d := d) hS hn R hlen hcl.2 (ks := outKills L ret.outs ++ newKills look d 0 ret.news) (fun j b hj hb => by
                    obtain ⟨ob, hob⟩ := hS.good.dom (d, j) b hb
                    have hob' : ∃ ob', S.hp (d, j) = some ob' := by
                      simp only [sealS] at hob
                      cases hh : S.hp (d, j) with
                      | none => rw [hh] at hob; cases hob
                      | some ob' => exact ⟨ob', rfl⟩
                    obtain ⟨ob', hob'⟩ := hob'
                    rw [← hld j (Nat.lt_of_lt_of_le hj h4)] at hob'
                    have := mem_newKills (look := look) (d := d) (news := ret.news) (n := 0) (j := j) hj (o := ob') (by rw [Nat.zero_add]; exact hob')
                    rw [Nat.zero_add] at this
                    exact List.mem_append_right _ this) (fun i r h1 h2 => List.mem_append_left _ (mem_outKills h1 h2)) hdP
                  have hput := e1.put o.dst hd e2
                  rw [applyD_eq] at hK
                  exact hK v w' _ hput
end

end Go.Am
