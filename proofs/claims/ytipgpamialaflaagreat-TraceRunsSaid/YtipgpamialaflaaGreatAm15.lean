/-
  AM, PART 15: slice literals, make, maps made, parts of slices.
-/
import Derived.Test.YtipgpamialaflaaGreatAm14
import Derived.Lib.ConvBytes
import Derived.Laws.BytesArg
import Derived.Laws.Slices
set_option linter.unusedVariables false
set_option linter.unusedSimpArgs false
namespace Go.Am
open Go Go.RowKit

theorem flat_len {k : Nat} : ∀ (us : List (List Value)), (∀ u ∈ us, u.length = k) → us.flatten.length = us.length * k
  | [], _ => by simp
  | a :: l, h => by
    simp only [List.flatten_cons, List.length_append, List.length_cons]
    rw [h a (by simp), flat_len l (fun u hu => h u (by simp [hu])), Nat.succ_mul]
    omega
theorem flat_get {k : Nat} : ∀ (us : List (List Value)) (i j : Nat), (∀ u ∈ us, u.length = k) → j < k → us.flatten[i * k + j]? = (us[i]?).bind (·[j]?)
  | [], i, j, _, _ => by simp
  | a :: l, 0, j, h, hj => by
    have := h a (by simp)
    simp only [List.flatten_cons, Nat.zero_mul, Nat.zero_add, List.getElem?_cons_zero, Option.bind_some]
    exact List.getElem?_append_left (by omega)
  | a :: l, i + 1, j, h, hj => by
    have ha := h a (by simp)
    simp only [List.flatten_cons, List.getElem?_cons_succ]
    rw [List.getElem?_append_right (by rw [ha, Nat.succ_mul]; omega), ha]
    have : (i + 1) * k + j - k = i * k + j := by rw [Nat.succ_mul]; omega
    rw [this]
    exact flat_get l i j (fun u hu => h u (by simp [hu])) hj
theorem go_rep {E : Env} {S : St} {a : Act} {w : World} {cx : Cx} (h : Sim E S a w cx) {look : Root → Option Ob} {pr' : Nat → Nat → Prop} {ss : List Root} (H : RowsRead look w cx pr' ss) (hk : Lasts w cx.pr w pr') {ks : List Kd} {k : Nat} : ∀ (ops : List Operand) (xs : List (List PV)), (∀ x ∈ ops, ∀ r ∈ arrsA (Am.ov S.sl x), r ∈ ss) → dval.go look ks k (ops.map (Am.ov S.sl)) = some xs →
    ∃ us : List (List Value), us.length = ops.length ∧ xs.length = ops.length ∧ (∀ (i : Nat) (x : Operand) (u : List Value), ops[i]? = some x → us[i]? = some u → (a.eval x).cells = u.toArray) ∧ (∀ (i : Nat) (x : List PV) (u : List Value), xs[i]? = some x → us[i]? = some u → RepPs w pr' x u ∧ x.length = k)
  | [], xs, _, hg => by
    simp [dval.go] at hg
    subst hg
    exact ⟨[], rfl, rfl, fun i x u hx => by simp at hx, fun i x u hx => by simp at hx⟩
  | x :: ops, xs, hss, hg => by
    simp only [List.map_cons, dval.go] at hg
    cases hc : (Am.ov S.sl x).cells? with
    | none => rw [hc] at hg; cases hg
    | some cs =>
      rw [hc] at hg
      simp only at hg
      cases hp : pureCs look ks cs with
      | none => rw [hp] at hg; simp at hg
      | some y =>
        cases hr : dval.go look ks k (ops.map (Am.ov S.sl)) with
        | none => rw [hp, hr] at hg; simp at hg
        | some r =>
          rw [hp, hr] at hg
          simp only at hg
          cases hb : Nat.beq y.length k with
          | false => rw [hb] at hg; cases hg
          | true =>
            rw [hb] at hg
            injection hg with hg
            subst hg
            obtain ⟨u, hu, hrep⟩ := (h.ov x).cells hc
            have harr : ∀ q ∈ arrsCs cs, q ∈ ss := by
              intro q hq
              refine hss x (by simp) q ?_
              generalize Am.ov S.sl x = X at hc
              cases X with
              | c z => cases z <;> simp [AV.cells?] at hc <;> subst hc <;> simpa [arrsA, arrsCs] using hq
              | agg l => simp [AV.cells?] at hc; subst hc; exact hq
              | tup l => simp [AV.cells?] at hc
            have h1 := pureCs_rep H hk harr hrep hp
            obtain ⟨us, q1, q2, q3, q4⟩ := go_rep h H hk ops r (fun z hz => hss z (by simp [hz])) hr
            refine ⟨u :: us, by simp [q1], by simp [q2], fun i z v hz hv => ?_, fun i z v hz hv => ?_⟩
            · cases i with
              | zero => simp at hz hv; subst hz; subst hv; exact hu
              | succ i => exact q3 i z v (by simpa using hz) (by simpa using hv)
            · cases i with
              | zero => simp at hz hv; subst hz; subst hv; exact ⟨h1, Nat.eq_of_beq_eq_true hb⟩
              | succ i => exact q4 i z v (by simpa using hz) (by simpa using hv)
theorem buildSlice_OK {P : Program} {o : Oper} {E : Env} {S : St} {a : Act} {w : World} {cx : Cx} (h : Sim E S a w cx) (hd : ∀ d, o.dst = some d → d < E.n) {look : Root → Option Ob} (hs : Sub look S.hp) {d : Nat} (hl : d ≠ PAR ∧ look (d, 0) = S.hp (d, 0)) {t e : TypeId} {len k : Nat} {parts : Array (Nat × Operand)} (ho : o.op = .buildSlice t len parts)
    (he : elemB P t = some e) (hk : sizeB P e = some k) (hk0 : k ≠ 0) (hlen : len ≤ 4096) (hk1 : k ≤ 1024) (hpos : parts.toList.map (·.1) = List.range len) {z : List CV} (hz : zeroB P e = some z) {xs : List (List PV)} (hg : dval.go look (kinds P e) k (parts.toList.map fun x => Am.ov S.sl x.2) = some xs) :
    OK P o E (applyD S o.dst { new1 look d (.c (.arr (d, 0) k)) (.arr e k xs false) with seals := parts.toList.flatMap fun x => arrsA (Am.ov S.sl x.2) }) a w := by
  refine .new h hd hl _ _ _ fun S' cx' hs' hn hlast _ _ hpr => ?_
  have hg' : dval.go look (kinds P e) k ((parts.toList.map (·.2)).map (Am.ov S.sl)) = some xs := by rw [List.map_map]; exact hg
  obtain ⟨us, q1, q2, q3, q4⟩ := go_rep h (h.rows_read hs (parts.toList.flatMap fun x => arrsA (Am.ov S.sl x.2))) (by rw [← hpr]; exact hlast) (parts.toList.map (·.2)) xs (fun x hx r hr => by
    obtain ⟨p, hp, rfl⟩ := List.mem_map.1 hx
    exact List.mem_flatMap.2 ⟨p, hp, hr⟩) hg'
  simp only [List.length_map] at q1 q2
  have hplen : parts.toList.length = len := by
    have := congrArg List.length hpos
    simpa using this
  have hul : ∀ u ∈ us, u.length = k := by
    intro u hu
    obtain ⟨i, hi⟩ := List.getElem?_of_mem hu
    have hil : i < xs.length := by rw [q2, ← q1]; exact (List.getElem?_eq_some_iff.1 hi).1
    obtain ⟨r1, r2⟩ := q4 i _ u (List.getElem?_eq_getElem hil) hi
    rw [← r1.1, r2]
  have hfl := flat_len us hul
  have hlk : len * k ≤ 16777216 := by
    calc len * k ≤ 4096 * 1024 := Nat.mul_le_mul hlen hk1
      _ ≤ 16777216 := by omega
  obtain ⟨inf, hi, hsz⟩ := elB_info hk
  obtain ⟨zv, hzr, zs, hzc, _⟩ := zeroB_rep hz
  generalize hinit : (fun (zero : Array Value) => (Array.range (len * k)).map (zero[· % zero.size]!)) = init
  have hisz : ∀ zero, (init zero).size = len * k := by intro zero; rw [← hinit]; simp
  have hfill : ∀ zero, ∃ cs', Instr.fill (fun i => some (i * k, k)) (init zero) (parts.toList.map fun x => (x.1, a.eval x.2)) = some cs' ∧ cs'.toList = us.flatten := by
    intro zero
    obtain ⟨cs', f1, f2⟩ := fill_row k (parts.toList.map fun x => (x.1, a.eval x.2)) us 0 (init zero) (by simp [q1]) (fun i x u hx hu => by
      rw [List.getElem?_map] at hx
      cases hp : parts.toList[i]? with
      | none => rw [hp] at hx; cases hx
      | some p =>
        rw [hp] at hx
        injection hx with hx
        subst hx
        have hpi : (parts.toList.map (·.1))[i]? = some p.1 := by rw [List.getElem?_map, hp]; rfl
        rw [hpos] at hpi
        have hil : i < len := by rw [← hplen]; exact (List.getElem?_eq_some_iff.1 hp).1
        rw [List.getElem?_range hil] at hpi
        injection hpi with hpi
        refine ⟨by simp [hpi], q3 i p.2 u (by rw [List.getElem?_map, hp]; rfl) hu, hul u (List.mem_of_getElem? hu)⟩) (by rw [hisz]; simp; exact Nat.mul_le_mul_right k (by rw [← hplen]; simp))
    refine ⟨cs', f1, ?_⟩
    rw [f2, Nat.zero_mul, put_all]
    rw [hfl, show (init zero).toList.length = (init zero).size from Array.length_toList, hisz, q1, hplen]
  have hne : ¬ (len * k > 2 ^ 24) := by omega
  have hmap : (parts.map fun x => (x.1, a.eval x.2)).toList = parts.toList.map fun x => (x.1, a.eval x.2) := by simp
  have hrun : ∃ cs' : Array Value, cs'.toList = us.flatten ∧ (execOp a.eval o).run P w = .ok (.value (.slice (some ⟨w.heap.size, 0, none⟩) len len)) (w.alloc (.cells cs' e)) := by
    by_cases h0 : len * k = 0
    · obtain ⟨cs', f1, f2⟩ := hfill #[]
      refine ⟨cs', f2, ?_⟩
      rw [← hinit] at f1
      simp only [execOp, ho, Instr.buildSlice, Sem.run_bind, run_underlying (elemB_some he), Result.andThen_ok, run_sizeB hk, if_neg hne, if_pos h0, Sem.run_pure]
      rw [hmap]
      simp only at f1
      rw [f1]
      simp [newRow]
    · obtain ⟨cs', f1, f2⟩ := hfill zv.cells
      refine ⟨cs', f2, ?_⟩
      rw [← hinit] at f1
      simp only [execOp, ho, Instr.buildSlice, Sem.run_bind, run_underlying (elemB_some he), Result.andThen_ok, run_sizeB hk, if_neg hne, if_neg h0, Sem.run_pure, hzr]
      rw [hmap]
      simp only at f1
      rw [f1]
      simp [newRow]
  obtain ⟨cs', hcs, hrun⟩ := hrun
  have hk0' : 0 < k := Nat.pos_of_ne_zero hk0
  have hxl : xs.length = len := by rw [q2, hplen]
  have hcsz : cs'.size = len * k := by
    rw [← Array.length_toList, hcs, hfl, q1, hplen]
  have hown : (w.alloc (.cells cs' e)).ownsRow 0 e k (.slice (some ⟨w.heap.size, 0, none⟩) len len) xs.length us.flatten := by
    refine ⟨by rw [hfl, q1, hplen, hxl], .inr ⟨w.heap.size, len, cs', by rw [hxl], Nat.zero_le _, heap_alloc_new w _, by rw [hxl]; exact Nat.le_refl _, by simp only [maxLen]; omega, hcsz, ?_⟩⟩
    rw [hxl, hcs]
    exact List.take_of_length_le (by rw [hfl, q1, hplen]; exact Nat.le_refl _)
  obtain ⟨p1, p2⟩ := hs'.new_row (q := (d, 0)) hn (w' := w.alloc (.cells cs' e)) ⟨rfl, rfl, rfl⟩ (by simp) (alloc_same w _) hown (fun g hg => by simp [Value.ownBlock] at hg; omega) hk0' (fun i el hel => by
      have hil : i < us.length := by rw [q1, ← q2]; exact (List.getElem?_eq_some_iff.1 hel).1
      exact (q4 i el _ hel (List.getElem?_eq_getElem hil)).2) (fun u hu => by
      obtain ⟨l, hl1, hl2⟩ := List.mem_flatten.1 hu
      obtain ⟨i, hi⟩ := List.getElem?_of_mem hl1
      have hil : i < xs.length := by rw [q2, ← q1]; exact (List.getElem?_eq_some_iff.1 hi).1
      exact (q4 i _ l (List.getElem?_eq_getElem hil) hi).1.2.1 u hl2) (fun i el j x hel hx => by
      have hil : i < us.length := by rw [q1, ← q2]; exact (List.getElem?_eq_some_iff.1 hel).1
      have hq := q4 i el _ hel (List.getElem?_eq_getElem hil)
      have hjl : j < el.length := (List.getElem?_eq_some_iff.1 hx).1
      have hju : j < (us[i]).length := by rw [← hq.1.1]; exact hjl
      refine ⟨us[i][j], ?_, ?_⟩
      · rw [flat_get us i j hul (by rw [← hq.2]; exact hjl), List.getElem?_eq_getElem hil]
        exact List.getElem?_eq_getElem hju
      · rw [hpr]
        exact hq.1.2.2 j x _ hx (List.getElem?_eq_getElem hju))
  exact ⟨_, _, _, hrun, p1, p2⟩

end Go.Am
