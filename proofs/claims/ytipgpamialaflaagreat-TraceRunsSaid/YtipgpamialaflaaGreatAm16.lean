/-
  AM, PART 16: make, maps made, parts of slices and strings, conversions, lengths.
-/
import Derived.Test.YtipgpamialaflaaGreatAm15
set_option linter.unusedVariables false
set_option linter.unusedSimpArgs false
namespace Go.Am
open Go Go.RowKit

theorem applyD_seal (S : St) (dst : Option Nat) (x : AV) (ss : List Root) : applyD S dst { val := x, seals := ss } = setSl (sealS ss S) dst x := by
  rw [applyD_eq]
  have h1 : ∀ T : St, killS [] T = T := by
    rintro ⟨sl, hp⟩
    simp only [killS, rmem, Bool.false_eq_true, if_false]
    congr 1
    · funext j; exact renA_id killM_nil _
    · funext r; cases hp r with
      | none => rfl
      | some o => simp [renO_id killM_nil]
  have h2 : ∀ T : St, upS [] T = T := fun T => rfl
  simp only [h1, h2]
theorem makeMap_OK {P : Program} {o : Oper} {E : Env} {S : St} {a : Act} {w : World} {cx : Cx} (h : Sim E S a w cx) (hd : ∀ d, o.dst = some d → d < E.n) {look : Root → Option Ob} {d : Nat} (hl : d ≠ PAR ∧ look (d, 0) = S.hp (d, 0)) {t : TypeId} (ho : o.op = .makeMap t none) (ka va : Bool) :
    OK P o E (applyD S o.dst (new1 look d (.c (.mp (d, 0))) (.map ka va []))) a w := by
  rw [new1_seals]
  refine .new h hd hl [] _ _ fun S' cx' hs hn _ _ _ _ => ?_
  refine ⟨.map (some w.heap.size), w.alloc (.map #[] 0), _, ?_, hs.new hn (.blk w.heap.size) (.map ka va []) ⟨rfl, rfl, rfl⟩ (by simp) (alloc_same w _) ?_ (fun g hg => by simp [RB.block] at hg; omega), .c _ _ rfl (.mp _ _ (updB_same _ _ _))⟩
  · simp only [execOp, ho, Instr.makeMap, Option.map_none, Sem.run_bind, Sem.run_pure, run_newObj, Result.andThen_ok]
    rfl
  · refine ⟨w.heap.size, #[], updB_same cx' _ _, heap_alloc_new w _, rfl, fun i ks vs en he => by simp at he, fun o ho => ?_⟩
    have := hs.good.lt _ o ho
    omega
theorem arrs_const : ∀ (l : List Value), arrsCs (l.map cConst) = []
  | [] => rfl
  | v :: l => by
    have h1 : arrsC (cConst v) = [] := by unfold cConst; split <;> (try split) <;> rfl
    simp only [List.map_cons, arrsCs, h1, arrs_const l, List.nil_append]
theorem zeroB_arrs {P : Program} {t : TypeId} {z : List CV} (h : zeroB P t = some z) : arrsCs z = [] := by
  unfold zeroB at h
  split at h
  · split at h
    · injection h with h
      subst h
      exact arrs_const _
    · cases h
  · cases h
theorem zeroB_info {P : Program} {t : TypeId} {z : List CV} (h : zeroB P t = some z) : ∃ i v, P.info? t = some i ∧ i.zero = some v ∧ ∀ w cx, RepCs w cx z v.cells.toList := by
  unfold zeroB at h
  split at h
  · rename_i v hv
    split at h
    · rename_i ho
      injection h with h
      subst h
      cases hi : P.info? t with
      | none => rw [hi] at hv; cases hv
      | some i =>
        rw [hi] at hv
        refine ⟨i, v, rfl, hv, fun w cx => ⟨by simp, fun u hu => ?_, fun i x u hx hu => ?_⟩⟩
        · rw [← oneB_eq]
          exact List.all_eq_true.1 ho u hu
        · rw [List.getElem?_map, hu] at hx
          injection hx with hx
          subst hx
          exact cConst_rep w cx u
    · cases h
  · cases h
theorem made_get {z : Array Value} {n q : Nat} (hq : q < n) : (madeCells z n).toList[q]? = some z[q % z.size]! := by
  simp [madeCells, hq]
theorem makeSlice_OK {P : Program} {o : Oper} {E : Env} {S : St} {a : Act} {w : World} {cx : Cx} (h : Sim E S a w cx) (hd : ∀ d, o.dst = some d → d < E.n) {look : Root → Option Ob} (hs : Sub look S.hp) {d : Nat} (hl : d ≠ PAR ∧ look (d, 0) = S.hp (d, 0)) {t e : TypeId} {k by_ : Nat} {l c : Operand} (ho : o.op = .makeSlice t l c)
    (he : elemB P t = some e) (hk : sizeB P e = some k) (hb : (P.info? e).map (·.bytes) = some by_) {z : List CV} (hz : zeroB P e = some z) {n m : Int} (hn : asIntA (Am.ov S.sl l) = some (.i64, n)) (hm : asIntA (Am.ov S.sl c) = some (.i64, m)) {z' : List PV} (hz' : pureCs look (kinds P e) z = some z')
    (h0 : 0 ≤ n) (h1 : n ≤ m) (h2 : m ≤ LIM) (h3 : k ≠ 0) (h4 : by_ ≤ 16384) (h5 : z'.length = k) :
    OK P o E (applyD S o.dst (new1 look d (.c (.arr (d, 0) k)) (.arr e k (List.replicate n.toNat z') false))) a w := by
  rw [new1_seals]
  refine .new h hd hl [] _ _ fun S' cx' hs' hn' hlast _ _ hpr => ?_
  obtain ⟨i, zv, hi, hzv, hrep⟩ := zeroB_info hz
  have hby : i.bytes = by_ := by rw [hi] at hb; simpa using hb
  obtain ⟨i', hi', hisz⟩ := elB_info hk
  rw [hi] at hi'
  injection hi' with hi'
  subst hi'
  have hpure := pureCs_rep (pr' := cx'.pr) (by rw [hpr]; exact h.rows_read hs []) hlast (fun r hr => by rw [zeroB_arrs hz] at hr; cases hr) (hrep w cx) hz'
  have el := asIntA_rep (h.ov l) hn
  have ec := asIntA_rep (h.ov c) hm
  obtain ⟨n', rfl⟩ : ∃ n' : Nat, n = n' := ⟨n.toNat, by omega⟩
  obtain ⟨m', rfl⟩ : ∃ m' : Nat, m = m' := ⟨m.toNat, by omega⟩
  have hnm : n' ≤ m' := by omega
  have hmL : m' ≤ 4294967296 := by simp only [LIM] at h2; omega
  have hbm : by_ * m' ≤ 16384 * 4294967296 := Nat.mul_le_mul h4 hmL
  have hbb : (i.bytes : Int) * (m' : Int) ≤ 281474976710656 := by
    have h9 : ((by_ * m' : Nat) : Int) ≤ 281474976710656 := by omega
    rw [hby]
    rwa [Int.natCast_mul] at h9
  have hrun := run_make (P := P) w t e i zv (elemB_some he) hi hzv .i64 .i64 n' m' (by omega) (by omega) hbb (by omega)
  rw [hisz] at hrun
  simp only [Int.toNat_natCast] at hrun ⊢
  have hzl : zv.cells.size = k := by
    have h6 : z'.length = zv.cells.toList.length := hpure.1
    rw [show zv.cells.size = zv.cells.toList.length from Array.length_toList.symm, ← h6, h5]
  have hk0 : 0 < k := Nat.pos_of_ne_zero h3
  have hcell : ∀ q, q < m' * k → (madeCells zv.cells (m' * k)).toList[q]? = some zv.cells[q % k]! := by
    intro q hq
    have := made_get (z := zv.cells) hq
    rwa [hzl] at this
  have hlen : (madeCells zv.cells (m' * k)).toList.length = m' * k := by rw [Array.length_toList]; exact size_madeCells _ _
  have hnk : n' * k ≤ m' * k := Nat.mul_le_mul_right k hnm
  have hzget : ∀ j, j < k → ∃ u, zv.cells.toList[j]? = some u ∧ zv.cells[j]! = u := by
    intro j hj
    have hj' : j < zv.cells.size := by omega
    exact ⟨zv.cells[j], by rw [Array.getElem?_toList]; exact Array.getElem?_eq_getElem hj', by simp [hj']⟩
  have hown : (w.alloc (.cells (madeCells zv.cells (m' * k)) e)).ownsRow 0 e k (.slice (some ⟨w.heap.size, 0, none⟩) n' m') (List.replicate n' z').length ((madeCells zv.cells (m' * k)).toList.take (n' * k)) := by
    refine ⟨by rw [List.length_take, hlen, List.length_replicate]; omega, .inr ⟨w.heap.size, m', _, by simp, Nat.zero_le _, heap_alloc_new w _, by simpa using hnm, by simp only [maxLen]; omega, size_madeCells _ _, by simp⟩⟩
  obtain ⟨p1, p2⟩ := hs'.new_row (q := (d, 0)) hn' (w' := w.alloc (.cells (madeCells zv.cells (m' * k)) e)) ⟨rfl, rfl, rfl⟩ (by simp) (alloc_same w _) hown (fun g hg => by simp [Value.ownBlock] at hg; omega) hk0 (fun i el hel => by
      rw [List.getElem?_replicate] at hel
      split at hel
      · injection hel with hel
        subst hel
        exact h5
      · cases hel) (fun u hu => by
      obtain ⟨q, hq⟩ := List.getElem?_of_mem hu
      rw [List.getElem?_take] at hq
      split at hq
      · rename_i hlt
        rw [hcell q (by omega)] at hq
        injection hq with hq
        obtain ⟨u', a1, a2⟩ := hzget (q % k) (Nat.mod_lt _ hk0)
        rw [← hq, a2]
        exact (hrep w cx).one u' (List.mem_of_getElem? a1)
      · cases hq) (fun i el j x hel hx => by
      have hii : i < n' ∧ z' = el := by
        rw [List.getElem?_replicate] at hel
        split at hel
        · rename_i hlt
          injection hel with hel
          exact ⟨hlt, hel⟩
        · cases hel
      obtain ⟨hil, rfl⟩ := hii
      have hjl : j < k := by rw [← h5]; exact (List.getElem?_eq_some_iff.1 hx).1
      have hlt := idx_lt hil hjl
      obtain ⟨u', a1, a2⟩ := hzget j hjl
      refine ⟨u', ?_, hpure.2.2 j x u' hx a1⟩
      rw [List.getElem?_take, if_pos hlt, hcell _ (by omega)]
      have : (i * k + j) % k = j := by rw [Nat.mul_comm, Nat.mul_add_mod, Nat.mod_eq_of_lt hjl]
      rw [this, a2])
  refine ⟨_, _, _, ?_, p1, p2⟩
  simp only [execOp, ho, Sem.run_bind, el, ec, hrun, Result.andThen_ok, Sem.run_pure]

/-! ### Parts of slices and strings -/
theorem slBound_run {P : Program} {E : Env} {S : St} {a : Act} {w : World} {cx : Cx} (h : Sim E S a w cx) {n y dflt r : Nat} {x : Operand} (hb : slBound n (some (Am.ov S.sl x)) dflt = some r) (hy : n ≤ y) (code : BoundsCode) : (Instr.sliceBound (a.eval x) y code).run P w = .ok r w ∧ r ≤ n := by
  unfold slBound at hb
  split at hb
  · rename_i he; cases he
  · rename_i kd _ i he
    injection he with he
    have hv := h.ov x
    rw [he] at hv
    rw [hv.sc_inv.1]
    split at hb
    · rename_i hc
      injection hb with hb
      subst hb
      refine ⟨?_, by omega⟩
      simp [Instr.sliceBound, asIntOf, hc.1, (by omega : i ≤ y)]
    · cases hb
  · cases hb
theorem bounds_run {P : Program} {E : Env} {S : St} {a : Act} {w : World} {cx : Cx} (h : Sim E S a w cx) {len cap hi lo : Nat} {xh xl : Option Operand} (hh : slBound len (xh.map (Am.ov S.sl)) len = some hi) (hl : slBound hi (xl.map (Am.ov S.sl)) 0 = some lo) (hc : len ≤ cap) (b : Bool) :
    (Instr.sliceBounds b len cap (xl.map a.eval) (xh.map a.eval) none).run P w = .ok (lo, hi, cap) w ∧ lo ≤ hi ∧ hi ≤ len := by
  have h1 : ∀ code, hi ≤ len ∧ (match xh.map a.eval with | some v => (Instr.sliceBound v cap code).run P w = .ok hi w | none => hi = len) := by
    intro code
    cases xh with
    | none => simp [slBound] at hh; subst hh; exact ⟨Nat.le_refl _, rfl⟩
    | some x =>
      obtain ⟨r1, r2⟩ := slBound_run h hh hc code
      exact ⟨r2, r1⟩
  have h2 : ∀ code, lo ≤ hi ∧ (match xl.map a.eval with | some v => (Instr.sliceBound v hi code).run P w = .ok lo w | none => lo = 0) := by
    intro code
    cases xl with
    | none => simp [slBound] at hl; subst hl; exact ⟨Nat.zero_le _, rfl⟩
    | some x =>
      obtain ⟨r1, r2⟩ := slBound_run h hl (Nat.le_refl _) code
      exact ⟨r2, r1⟩
  refine ⟨?_, (h2 .sliceB).1, (h1 .sliceB).1⟩
  have h1' := fun code => (h1 code).2
  have h2' := fun code => (h2 code).2
  unfold Instr.sliceBounds
  cases xh with
  | none =>
    have e1 : hi = len := h1' .sliceB
    subst e1
    cases xl with
    | none =>
      have e2 : lo = 0 := h2' .sliceB
      subst e2
      simp
    | some x =>
      have e2 := h2' .sliceB
      simp only [Option.map_some] at e2
      simp [e2]
  | some y =>
    have e1 := h1'
    simp only [Option.map_some] at e1
    cases xl with
    | none =>
      have e2 : lo = 0 := h2' .sliceB
      subst e2
      cases b <;> simp [e1]
    | some x =>
      have e2 := h2' .sliceB
      simp only [Option.map_some] at e2
      cases b <;> simp [e1, e2]
theorem RepP.part {w : World} {pr : Nat → Nat → Prop} {k : Nat} {xs : List (List PV)} {v : Value} (h : RepP w pr (.sl k xs) v) {lo hi : Nat} (h1 : lo ≤ hi) (h2 : hi ≤ xs.length) :
    ∃ A cap, v = .slice A xs.length cap ∧ xs.length ≤ cap ∧ RepP w pr (.sl k ((xs.take hi).drop lo)) (.slice (if cap = lo then A else A.map (·.add (lo * k))) (hi - lo) (cap - lo)) := by
  cases h with
  | sl0 _ A cap =>
    simp at h2
    subst h2
    have : lo = 0 := by omega
    subst this
    exact ⟨A, cap, rfl, Nat.zero_le _, by simpa using RepP.sl0 k _ _⟩
  | sl _ _ g o cap val h0 hcap hk hc hp hr =>
    refine ⟨_, cap, rfl, hcap, ?_⟩
    have hlen : ((xs.take hi).drop lo).length = hi - lo := by rw [List.length_drop, List.length_take]; omega
    have hget : ∀ i, ((xs.take hi).drop lo)[i]? = if lo + i < hi then xs[lo + i]? else none := by
      intro i
      rw [List.getElem?_drop, List.getElem?_take]
    by_cases he : lo = hi
    · subst he
      have : (xs.take lo).drop lo = [] := List.eq_nil_of_length_eq_zero (by rw [hlen]; omega)
      rw [this, Nat.sub_self]
      exact .sl0 k _ _
    · have hne : cap ≠ lo := by omega
      rw [if_neg hne, Option.map_some, add_lit, ← hlen]
      have hsub : ∀ i el, ((xs.take hi).drop lo)[i]? = some el → xs[lo + i]? = some el := by
        intro i el hel
        rw [hget] at hel
        split at hel
        · exact hel
        · cases hel
      refine .sl k _ g (o + lo * k) (cap - lo) (fun i j => val (lo + i) j) (fun e => ?_) (by rw [hlen]; omega) (fun i el hel => hk _ _ (hsub i el hel)) (fun i el j p hel hp' => ?_) (fun i el j p hel hp' => ?_) fun i el j p hel hp' => hr _ el j p (hsub i el hel) hp'
      · rw [e] at hlen
        simp at hlen
        omega
      · have := hc _ el j p (hsub i el hel) hp'
        rw [Nat.add_mul] at this
        rw [← this]
        congr 2
        omega
      · have := hp _ el j p (hsub i el hel) hp'
        rw [Nat.add_mul] at this
        have e : o + lo * k + (i * k + j) = o + (lo * k + i * k + j) := by omega
        rw [e]
        exact this
theorem sliceAt_eq {P : Program} {w : World} {t : TypeId} {d : TypeDesc} (h : P.underlying t = some d) (hd : ∀ n e, d ≠ .array n e) (x : Value) (lo hi mx : Option Value) : (Instr.sliceAt t x lo hi mx).run P w = (Instr.slice t x lo hi mx).run P w := by
  cases d <;> simp_all [Instr.sliceAt, run_underlying h]
theorem slice_run {P : Program} {E : Env} {S : St} {a : Act} {w : World} {cx : Cx} (h : Sim E S a w cx) {t e : TypeId} {k : Nat} (he : elemB P t = some e) (hk : sizeB P e = some k) {xs : List (List PV)} {v : Value} {pr' : Nat → Nat → Prop} (hv : RepP w pr' (.sl k xs) v) {hi lo : Nat} {xh xl : Option Operand}
    (hh : slBound xs.length (xh.map (Am.ov S.sl)) xs.length = some hi) (hl : slBound hi (xl.map (Am.ov S.sl)) 0 = some lo) :
    ∃ u, (Instr.sliceAt t v (xl.map a.eval) (xh.map a.eval) none).run P w = .ok u w ∧ RepP w pr' (.sl k ((xs.take hi).drop lo)) u := by
  obtain ⟨A0, cap0, hv0, hcap0, _⟩ := hv.part (Nat.le_refl 0) (Nat.zero_le _)
  obtain ⟨b1, b2, b3⟩ := bounds_run (P := P) h hh hl hcap0 true
  obtain ⟨A, cap, hv1, hcap, hrep⟩ := hv.part b2 b3
  rw [hv0] at hv1
  injection hv1 with e1 _ e2
  subst e1
  subst e2
  refine ⟨_, ?_, hrep⟩
  subst hv0
  rw [sliceAt_eq (elemB_some he) (fun _ _ h => by cases h)]
  simp only [Instr.slice, Sem.run_bind, run_underlying (elemB_some he), Result.andThen_ok, b1, run_sizeB hk, Sem.run_pure]
theorem slice_OK {P : Program} {o : Oper} {E : Env} {S : St} {a : Act} {w : World} {cx : Cx} (h : Sim E S a w cx) (hd : ∀ d, o.dst = some d → d < E.n) {look : Root → Option Ob} (hs : Sub look S.hp) {t e : TypeId} {x : Operand} {xl xh : Option Operand} (ho : o.op = .slice t x xl xh none) {k : Nat} (he : elemB P t = some e) (hk : sizeB P e = some k)
    {xs : List (List PV)} (hx : elemsA look k (Am.ov S.sl x) = some xs) {hi lo : Nat} (hh : slBound xs.length (xh.map (Am.ov S.sl)) xs.length = some hi) (hl : slBound hi (xl.map (Am.ov S.sl)) 0 = some lo) :
    OK P o E (applyD S o.dst { val := .c (.p (.sl k ((xs.take hi).drop lo))), seals := arrsA (Am.ov S.sl x) }) a w := by
  rw [applyD_seal]
  have hsim := h.sealed (arrsA (Am.ov S.sl x))
  have hov := h.ov x
  have hv : RepP w (sealPr S cx (arrsA (Am.ov S.sl x))) (.sl k xs) (a.eval x) := by
    generalize hX : Am.ov S.sl x = X at hx hov hsim ⊢
    generalize a.eval x = V at hov ⊢
    unfold elemsA at hx
    split at hx
    · injection hx with hx; subst hx
      have h' := hov.c_inv.1
      cases h'
      exact .sl0 k none 0
    · rename_i k' ys
      cases hb : Nat.beq k k' with
      | false => rw [hb] at hx; cases hx
      | true =>
        rw [hb] at hx
        injection hx with hx; subst hx
        have := Nat.eq_of_beq_eq_true hb
        subst this
        exact hov.p_inv.lasts ⟨fun g o hp => .inl hp, fun _ _ _ => rfl⟩
    · rename_i r k'
      split at hx
      · rename_i e' k'' ys s hlk
        cases hb : (Nat.beq k k' && Nat.beq k k'') with
        | false => rw [hb] at hx; cases hx
        | true =>
          rw [hb] at hx
          injection hx with hx; subst hx
          rw [Bool.and_eq_true] at hb
          have e1 := Nat.eq_of_beq_eq_true hb.1
          have e2 := Nat.eq_of_beq_eq_true hb.2
          subst e1
          subst e2
          have h' := hov.c_inv.1
          cases h' with
          | arr _ _ _ hβ => exact h.sealed_row (ss := arrsA (.c (.arr r k))) (by simp [arrsA, arrsC]) (hs r _ hlk) hβ
      · cases hx
    · cases hx
  obtain ⟨u, hr, hu⟩ := slice_run (P := P) h he hk hv hh hl
  refine OK.value (v := u) (w' := w) (cx' := sealCx S cx (arrsA (Am.ov S.sl x))) ?_ (hsim.put o.dst hd ?_)
  · simp only [execOp, ho, Sem.run_bind, Option.map_none, hr, Result.andThen_ok, Sem.run_pure]
  · exact .c _ _ (oneCell_of_pv hu) (.p _ _ hu)
theorem slice_str_OK {P : Program} {o : Oper} {E : Env} {S : St} {a : Act} {w : World} {cx : Cx} (h : Sim E S a w cx) (hd : ∀ d, o.dst = some d → d < E.n) {t : TypeId} {x : Operand} {xl xh : Option Operand} (ho : o.op = .slice t x xl xh none) (ht : P.underlying t = some .string) {s : ByteArray} (hx : Am.ov S.sl x = .c (.p (.sc (.string s)))) {hi lo : Nat}
    (hh : slBound s.size (xh.map (Am.ov S.sl)) s.size = some hi) (hl : slBound hi (xl.map (Am.ov S.sl)) 0 = some lo) : OK P o E (applyD S o.dst { val := scS (s.extract lo hi) }) a w := by
  have hov := h.ov x
  rw [hx] at hov
  have hv := hov.sc_inv.1
  obtain ⟨b1, b2, b3⟩ := bounds_run (P := P) h hh hl (Nat.le_refl _) false
  refine .pure h hd (v := .string (s.extract lo hi)) ?_ (RepA.of_sc rfl)
  simp only [execOp, ho, Sem.run_bind, Option.map_none, sliceAt_eq ht (fun _ _ h => by cases h), hv, Instr.slice, run_underlying ht, Result.andThen_ok, Sem.run_pure, Option.isSome_none, Bool.false_eq_true, if_false, b1]

end Go.Am
