/-
  AM, PART 12: rows of the frame's own: an element written, a literal, make, append.
-/
import Derived.Test.YtipgpamialaflaaGreatAm11
import Derived.Laws.MakeOwn
set_option linter.unusedVariables false
set_option linter.unusedSimpArgs false
namespace Go.Am
open Go Go.RowKit

theorem applyD_up1 (S : St) (dst : Option Nat) (x : AV) (q : Root) (o : Ob) (ss : List Root) (S1 : St) (h : S1 = sealS ss S) : applyD S dst { val := x, ups := [(q, some o)], seals := ss } = setSl { S1 with hp := updH S1.hp q (some o) } dst x := by
  rw [applyD_up, h]
theorem idx_lt {i j k n : Nat} (hi : i < n) (hj : j < k) : i * k + j < n * k := by
  calc i * k + j < i * k + k := by omega
    _ = (i + 1) * k := by rw [Nat.succ_mul]
    _ ≤ n * k := Nat.mul_le_mul_right k hi
theorem idx_inj {i j i' j' k : Nat} (hj : j < k) (hj' : j' < k) (h : i * k + j = i' * k + j') : i = i' ∧ j = j' := by
  have hk : 0 < k := by omega
  have h1 : (i * k + j) / k = i := by rw [Nat.mul_comm, Nat.mul_add_div hk, Nat.div_eq_of_lt hj, Nat.add_zero]
  have h2 : (i' * k + j') / k = i' := by rw [Nat.mul_comm, Nat.mul_add_div hk, Nat.div_eq_of_lt hj', Nat.add_zero]
  have : i = i' := by rw [← h1, ← h2, h]
  subst this
  exact ⟨rfl, by omega⟩
/-- A row known, as an object. -/
theorem RepO.of_own {w : World} {cx : Cx} {r : Root} {e k : Nat} {xs : List (List PV)} {s : Bool} {v : Value} {news : List Value} (hb : cx.β r = some (.row v)) (ho : w.ownsRow 0 e k v xs.length news) (hk : 0 < k) (hel : ∀ (i : Nat) (el : List PV), xs[i]? = some el → el.length = k)
    (hone : ∀ u ∈ news, u.oneCell' = true) (hrep : ∀ (i : Nat) (el : List PV) (j : Nat) (x : PV), xs[i]? = some el → el[j]? = some x → ∃ u, news[i * k + j]? = some u ∧ RepP w cx.pr x u)
    (hp : ∀ g o, v.ownBlock = some g → cx.pr g o → s = true ∧ o < xs.length * k) : RepO w cx r (.arr e k xs s) :=
  ⟨v, news, hb, ho, hk, hel, fun i el j x he hx => by
    obtain ⟨u, hu, hr⟩ := hrep i el j x he hx
    exact ⟨u, hu, hone u (List.mem_of_getElem? hu), hr⟩, hp⟩
theorem Good.row_no_pr {hp : Root → Option Ob} {w : World} {cx : Cx} {free : Nat → Prop} (h : Good hp w cx free) {r : Root} {e k : Nat} {xs : List (List PV)} (hr : hp r = some (.arr e k xs false)) {v : Value} (hv : cx.β r = some (.row v)) : ∀ g o, v.ownBlock = some g → ¬ cx.pr g o := by
  intro g o hg hp
  obtain ⟨v', ys, h1, _, _, _, _, h6⟩ := h.rep r _ hr
  rw [hv] at h1
  injection h1 with h1
  injection h1 with h1
  subst h1
  have := (h6 g o hg hp).1
  cases this

set_option maxHeartbeats 1000000 in
theorem store_elem_OK {P : Program} {o : Oper} {E : Env} {S : St} {a : Act} {w : World} {cx : Cx} (h : Sim E S a w cx) (hd : ∀ d, o.dst = some d → d < E.n) {look : Root → Option Ob} (hl : Sub look S.hp) {t : TypeId} {x y : Operand} (ho : o.op = .store t x y) {s : Nat} (hs : sizeB P t = some s)
    {r : Root} {k i j : Nat} (hx : Am.ov S.sl x = .c (.ep r k i j)) {l : List CV} (hy : (Am.ov S.sl y).cells? = some l) {e : Nat} {xs : List (List PV)} (hr : look r = some (.arr e k xs false)) {ks : List Kd} {el l' : List PV} (he : xs[i]? = some el) (hp : pureCs look ks l = some l')
    (h1 : l'.length = s) (h2 : el.length = k) (h3 : j + s ≤ el.length) (h4 : r ∉ arrsCs l) :
    OK P o E (applyD S o.dst { val := .c .un, ups := [(r, some (.arr e k (xs.set i (put el j l')) false))], seals := arrsCs l }) a w := by
  rw [applyD_up]
  have hpx := h.ov x
  rw [hx] at hpx
  have hpc := hpx.c_inv.1
  obtain ⟨vs, hc, hrv⟩ := (h.ov y).cells hy
  have hS := h.sealed (arrsCs l)
  have hpure := pureCs_rep (h.rows_read hl (arrsCs l)) ⟨fun g o hp => .inl hp, fun _ _ _ => rfl⟩ (fun r hr => hr) hrv hp
  have hr1 : (sealS (arrsCs l) S).hp r = some (.arr e k xs false) := by
    simp only [sealS, hl r _ hr, rmem_false.2 h4, cond_false]
  generalize hcx1 : sealCx S cx (arrsCs l) = cx1 at hS
  have hpr1 : cx1.pr = sealPr S cx (arrsCs l) := by rw [← hcx1]; rfl
  have hβ1 : cx1.β = cx.β := by rw [← hcx1]; rfl
  rw [← hpr1] at hpure
  clear hcx1
  generalize sealS (arrsCs l) S = S1 at hS hr1
  generalize hav : a.eval x = v at hpc
  cases hpc with
  | ep _ _ _ _ g n c hb =>
    have hb1 : cx1.β r = some (.row (.slice (some ⟨g, 0, none⟩) n c)) := by rw [hβ1]; exact hb
    obtain ⟨v', ys, q1, q2, q3, q4, q5, q6⟩ := hS.good.rep r _ hr1
    rw [hb1] at q1
    injection q1 with q1
    injection q1 with q1
    subst q1
    have hnp : ∀ o, ¬ cx1.pr g o := fun o hp => by have := (q6 g o rfl hp).1; cases this
    rcases q2.2 with ⟨hv0, _⟩ | ⟨g', cap, cur, hv1, hb0, hg, hnc, hcm, hcs, htake⟩
    · cases hv0
    · injection hv1 with e1 e2 e3
      injection e1 with e1
      injection e1 with e1
      subst e1
      subst e2
      have hil : i < xs.length := (List.getElem?_eq_some_iff.1 he).1
      have hvl : vs.length = s := by rw [← hpure.1, h1]
      have hbase : i * k + j + s ≤ xs.length * k := by
        calc i * k + j + s ≤ i * k + k := by omega
          _ = (i + 1) * k := by rw [Nat.succ_mul]
          _ ≤ xs.length * k := Nat.mul_le_mul_right k hil
      have hcapk : xs.length * k ≤ cap * k := Nat.mul_le_mul_right k hnc
      have hfit : i * k + j + vs.length ≤ cur.size := by rw [hvl, hcs]; omega
      have hrun := storeAt_run (P := P) hs hg hc hvl hrv.one hfit
      have hq : blkOf cx1 r = some g := by simp [blkOf, hb1, RB.block, Value.ownBlock]
      have hmv := Moves.setRow hS hq hnp (put cur.toList (i * k + j) vs).toArray
      have hyl : ys.length = xs.length * k := q2.1
      have htk : (put cur.toList (i * k + j) vs).take (xs.length * k) = put ys (i * k + j) vs := by
        apply List.ext_getElem?
        intro m
        have hcl : i * k + j + vs.length ≤ cur.toList.length := by simpa using hfit
        rw [List.getElem?_take, put_get _ _ _ hcl, put_get _ _ _ (by rw [hyl, hvl]; exact hbase)]
        by_cases hm : m < xs.length * k
        · rw [if_pos hm, ← htake, List.getElem?_take, if_pos hm]
        · rw [if_neg hm]
          symm
          rw [if_neg (by rw [hvl]; omega)]
          exact List.getElem?_eq_none (by omega)
      have hown : (w.setRow g (put cur.toList (i * k + j) vs).toArray).ownsRow 0 e k (.slice (some ⟨g, 0, none⟩) xs.length c) xs.length (put ys (i * k + j) vs) := by
        refine ⟨by rw [put_length _ _ _ (by rw [hyl, hvl]; exact hbase)]; exact hyl, .inr ⟨g, cap, _, by rw [e3], Nat.zero_le _, setRow_heap w g cur _ e (0, 0) hg, hnc, hcm, ?_, ?_⟩⟩
        · simp only [List.size_toArray]
          rw [put_length _ _ _ (by simpa using hfit)]
          simpa using hcs
        · simpa using htk
      have hyone : ∀ u ∈ ys, u.oneCell' = true := by
        obtain ⟨ys', hw1, hw2⟩ := row_el (hS.good.rep r _ hr1) hb1
        have : ys' = ys := by
          have a1 := hw2.2
          rcases a1 with ⟨hv0, _⟩ | ⟨g2, cap2, cur2, hv2, _, hg2, _, _, _, ht2⟩
          · cases hv0
          · injection hv2 with b1 _ _
            injection b1 with b1
            injection b1 with b1
            subst b1
            rw [hg] at hg2
            injection hg2 with hg2
            injection hg2 with hg2
            subst hg2
            rw [← ht2, htake]
        rw [← this]
        exact hw1.one
      have hsim := hS.update r (.row (.slice (some ⟨g, 0, none⟩) xs.length c)) (.arr e k (xs.set i (put el j l')) false) hmv (fun b hb' => by rw [hb1] at hb'; injection hb' with hb'; exact hb'.symm) (by
        rw [updB_noop hb1]
        refine RepO.of_own hb1 (by rw [List.length_set]; exact hown) q3 (fun i' el' he' => ?_) (fun u hu => ?_) (fun i' el' j' x' he' hx' => ?_) (fun g' o' hg' hp' => ?_)
        · rw [List.getElem?_set] at he'
          by_cases hii : i = i'
          · subst hii
            rw [if_pos rfl, if_pos hil] at he'
            injection he' with he'
            subst he'
            rw [put_length _ _ _ (by rw [h1]; exact h3)]
            exact h2
          · rw [if_neg hii] at he'
            exact q4 i' el' he'
        · simp only [put, List.mem_append] at hu
          rcases hu with (hu | hu) | hu
          · exact hyone u (List.mem_of_mem_take hu)
          · exact hrv.one u hu
          · exact hyone u (List.mem_of_mem_drop hu)
        · have hkeep : ∀ {x : PV} {u : Value}, RepP w cx1.pr x u → RepP (w.setRow g (put cur.toList (i * k + j) vs).toArray) cx1.pr x u := fun hr => hr.lasts hmv.last
          rw [put_get _ _ _ (by rw [hyl, hvl]; exact hbase)]
          rw [List.getElem?_set] at he'
          by_cases hii : i = i'
          · subst hii
            rw [if_pos rfl, if_pos hil] at he'
            injection he' with he'
            subst he'
            rw [put_get _ _ _ (by rw [h1]; exact h3)] at hx'
            by_cases hjj : j ≤ j' ∧ j' < j + l'.length
            · rw [if_pos hjj] at hx'
              rw [if_pos (by rw [hvl]; omega)]
              have e1 : i * k + j' - (i * k + j) = j' - j := by omega
              rw [e1]
              have hlt : j' - j < vs.length := by rw [hvl]; omega
              exact ⟨vs[j' - j], List.getElem?_eq_getElem hlt, hkeep (hpure.2.2 _ x' _ hx' (List.getElem?_eq_getElem hlt))⟩
            · rw [if_neg hjj] at hx'
              rw [if_neg (by rw [hvl]; omega)]
              obtain ⟨u, hu, _, hr⟩ := q5 i el j' x' he hx'
              exact ⟨u, hu, hkeep hr⟩
          · rw [if_neg hii] at he'
            obtain ⟨u, hu, _, hr⟩ := q5 i' el' j' x' he' hx'
            have hj' : j' < k := by rw [← q4 i' el' he']; exact (List.getElem?_eq_some_iff.1 hx').1
            rw [if_neg]
            · exact ⟨u, hu, hkeep hr⟩
            · rintro ⟨a1, a2⟩
              rw [hvl] at a2
              have : ∃ q, q < s ∧ i' * k + j' = i * k + (j + q) := ⟨i' * k + j' - (i * k + j), by omega, by omega⟩
              obtain ⟨q, hq1, hq2⟩ := this
              exact hii (idx_inj hj' (by omega : j + q < k) hq2).1.symm
        · simp only [Value.ownBlock, Option.some.injEq] at hg'
          subst hg'
          exact absurd hp' (hnp o')) (fun g' hg' => by
        simp only [RB.block, Value.ownBlock, Option.some.injEq] at hg'
        subst hg'
        exact ⟨hS.good.free r g hq, fun r' hr' e' => hr' (hS.good.inj r' r g e' hq)⟩) (.inr (by rw [e3] at hb1 ⊢; exact hb1))
      refine OK.skip (w' := w.setRow g (put cur.toList (i * k + j) vs).toArray) ?_ (hsim.put o.dst hd (.un _))
      simp only [execOp, ho, Sem.run_bind, hav, hrun, Result.andThen_ok, Sem.run_pure]

/-! ### A new row -/
theorem Sim.new_row {E : Env} {S : St} {a : Act} {w : World} {cx : Cx} (h : Sim E S a w cx) {q : Root} (hq : q.1 ≠ PAR ∧ S.hp q = none) {w' : World} (hos : w'.os = w.os ∧ w'.tape = w.tape ∧ w'.output = w.output) (hsz : w.heap.size ≤ w'.heap.size) (hw : ∀ b, b < w.heap.size → w'.heap[b]? = w.heap[b]?)
    {e k : Nat} {xs : List (List PV)} {v : Value} {news : List Value} (ho : w'.ownsRow 0 e k v xs.length news) (hb : ∀ g, v.ownBlock = some g → w.heap.size ≤ g) (hk : 0 < k) (hel : ∀ (i : Nat) (el : List PV), xs[i]? = some el → el.length = k) (hone : ∀ u ∈ news, u.oneCell' = true)
    (hrep : ∀ (i : Nat) (el : List PV) (j : Nat) (x : PV), xs[i]? = some el → el[j]? = some x → ∃ u, news[i * k + j]? = some u ∧ RepP w cx.pr x u) :
    Sim E { S with hp := updH S.hp q (some (.arr e k xs false)) } a w' (updB cx q (.row v)) ∧ RepA w' (updB cx q (.row v)) (.c (.arr q k)) v := by
  have hlast : Lasts w cx.pr w' cx.pr := ⟨fun _ _ h => h, fun g o hp => World.cell?_of_block (w := w) (hw g (h.good.lt g o hp))⟩
  refine ⟨h.new hq (.row v) (.arr e k xs false) hos hsz hw ?_ hb, .c _ v ?_ (.arr q k v (updB_same cx q _))⟩
  · refine RepO.of_own (updB_same cx q _) ho hk hel hone (fun i el j x he hx => ?_) (fun g o hg hp => ?_)
    · obtain ⟨u, hu, hr⟩ := hrep i el j x he hx
      exact ⟨u, hu, hr.lasts hlast⟩
    · have h1 := h.good.lt g o hp
      have h2 := hb g hg
      omega
  · rcases ho.2 with ⟨rfl, _⟩ | ⟨g, cap, cur, rfl, _⟩ <;> rfl

end Go.Am
