/-
  AM, PART 9: places, parts, elements.
-/
import Derived.Test.YtipgpamialaflaaGreatAm8
set_option linter.unusedVariables false
set_option linter.unusedSimpArgs false
namespace Go.Am
open Go Go.RowKit

theorem fieldOf_some {P : Program} {s : TypeId} {f : Nat} {fd : Field} (h : fieldOf P s f = some fd) : ∃ fs, P.underlying s = some (.struct fs) ∧ fs[f]? = some fd := by
  unfold fieldOf at h
  split at h
  · rename_i fs hu; exact ⟨fs, hu, h⟩
  · cases h
theorem moveAddr_rep {w : World} {cx : Cx} {a a' : CV} {v : Value} {n : Nat} (h : RepC w cx a v) (hm : moveAddr n a = some a') : ∃ g o, v = .pointer (some ⟨g, o, none⟩) ∧ RepC w cx a' (.pointer (some ⟨g, o + n, none⟩)) := by
  unfold moveAddr at hm
  split at hm
  · injection hm with hm; subst hm
    have h' := h.p_inv
    obtain ⟨g, o, vs, rfl, _⟩ := h'.pv_inv
    exact ⟨g, o, rfl, .ra _ n g o h'⟩
  · rename_i l off
    injection hm with hm; subst hm
    cases h with
    | ra _ _ g o h => exact ⟨g, o + off, rfl, by rw [Nat.add_assoc]; exact .ra l (off + n) g o h⟩
  · rename_i r off
    injection hm with hm; subst hm
    cases h with
    | ptr _ _ g h => exact ⟨g, off, rfl, .ptr r (off + n) g h⟩
  · rename_i r k i j
    injection hm with hm; subst hm
    cases h with
    | ep _ _ _ _ g n' c h => exact ⟨g, i * k + j, rfl, by rw [Nat.add_assoc]; exact .ep r k i (j + n) g n' c h⟩
  · cases hm
theorem RepC.one_of_ptr {g o : Nat} : (Value.pointer (some ⟨g, o, none⟩)).oneCell' = true := rfl
theorem fieldAddr_run {P : Program} {w : World} {cx : Cx} {s : TypeId} {f : Nat} {fd : Field} (hf : fieldOf P s f = some fd) {k : Nat} (hk : sizeB P fd.type = some (k + 1)) {a a' : CV} {v : Value} (h : RepC w cx a v) (hm : moveAddr fd.offset a = some a') :
    ∃ u, (Instr.fieldAt s v f).run P w = .ok u w ∧ RepA w cx (.c a') u := by
  obtain ⟨fs, hu, hfs⟩ := fieldOf_some hf
  obtain ⟨g, o, rfl, hr⟩ := moveAddr_rep h hm
  refine ⟨_, ?_, .c a' _ rfl hr⟩
  simp only [Instr.fieldAt, Sem.run_bind, run_underlying hu, Result.andThen_ok, hfs, Instr.sureAddr, Sem.run_pure, fieldPlace, run_sizeB hk, Sem.run_ite, Nat.succ_ne_zero, if_false, add_lit]
theorem run_partC {P : Program} {w : World} {cx : Cx} {t : TypeId} {s : Nat} (hs : sizeB P t = some s) {l m : List CV} {vs : List Value} (h : RepCs w cx l vs) {off : Nat} (hc : cut l off s = some m) {X : AV} (hx : mkAV (aggB P t) m = some X) :
    ∃ u, (part t vs.toArray off).run P w = .ok u w ∧ RepA w cx X u := by
  obtain ⟨d, hu⟩ := underlying_of_size hs
  have hm := h.cut hc
  have hml : ((vs.drop off).take s).length = s := by rw [← hm.len, cut_length hc]
  rcases mkAV_rep hm hx with ⟨ha, hr⟩ | ⟨ha, u, hvs, hr⟩
  · refine ⟨_, ?_, hr⟩
    unfold part
    simp only [Sem.run_bind, run_isAgg P hu, ha, Result.andThen_ok, if_true, run_sizeB hs, Sem.run_pure]
    congr 2
    simp [List.extract_toArray, List.extract]
  · refine ⟨u, ?_, hr⟩
    unfold part
    simp only [Sem.run_bind, run_isAgg P hu, ha, Result.andThen_ok, Bool.false_eq_true, if_false, List.getElem?_toArray]
    have : vs[off]? = some u := by
      have h0 : ((vs.drop off).take s)[0]? = some u := by rw [hvs]; rfl
      have := (take_drop_get h0).2
      simpa using this
    rw [this]
    rfl
theorem field_run {P : Program} {w : World} {cx : Cx} {s : TypeId} {f : Nat} {fd : Field} (hf : fieldOf P s f = some fd) {k : Nat} (hk : sizeB P fd.type = some k) {l m : List CV} {v : Value} (h : RepA w cx (.agg l) v) (hc : cut l fd.offset k = some m)
    {X : AV} (hx : mkAV (aggB P fd.type) m = some X) : ∃ u, (Instr.field s v f).run P w = .ok u w ∧ RepA w cx X u := by
  obtain ⟨fs, hu, hfs⟩ := fieldOf_some hf
  obtain ⟨vs, rfl, h1, h2, h3⟩ := h.agg_inv
  obtain ⟨u, hr, hX⟩ := run_partC (P := P) hk (⟨h1, h2, h3⟩ : RepCs w cx l vs) hc hx
  exact ⟨u, by simp only [Instr.field, Sem.run_bind, run_underlying hu, Result.andThen_ok, hfs, asAgg, Sem.run_pure, hr], hX⟩
theorem elemB_some {P : Program} {t e : TypeId} (h : elemB P t = some e) : P.underlying t = some (.slice e) := by
  unfold elemB at h
  split at h
  · rename_i e' hu; injection h with h; subst h; exact hu
  · cases h
theorem asIntA_rep {w : World} {cx : Cx} {x : AV} {v : Value} {k : IntKind} {n : Int} (h : RepA w cx x v) (hx : asIntA x = some (k, n)) : v = .int k n := by
  unfold asIntA at hx
  split at hx
  · injection hx with hx
    injection hx with h1 h2
    subst h1; subst h2
    exact h.sc_inv.1
  · cases hx
theorem asBoolA_rep {w : World} {cx : Cx} {x : AV} {v : Value} {b : Bool} (h : RepA w cx x v) (hx : asBoolA x = some b) : v = .bool b := by
  unfold asBoolA at hx
  split at hx
  · injection hx with hx
    subst hx
    exact h.sc_inv.1
  · cases hx
theorem cellsOf_size {P : Program} {t : TypeId} {s : Nat} (h : sizeB P t = some s) : P.cellsOf t = s := by
  obtain ⟨i, hi, hs⟩ := underlying_of_info h
  simp [Program.cellsOf, hi, hs]
theorem run_sizeOf_cells (P : Program) (t : TypeId) (w : World) {i : TypeInfo} (hi : P.info? t = some i) : (sizeOf t).run P w = .ok (P.cellsOf t) w := run_sizeOf w hi
theorem RepP.sl_at {w : World} {pr : Nat → Nat → Prop} {k : Nat} {xs : List (List PV)} {v : Value} (h : RepP w pr (.sl k xs) v) {i : Nat} {el : List PV} (he : xs[i]? = some el) :
    ∃ g o cap, v = .slice (some ⟨g, o, none⟩) xs.length cap ∧ RepP w pr (.pv el) (.pointer (some ⟨g, o + i * k, none⟩)) := by
  cases h with
  | sl0 => simp at he
  | sl _ _ g o cap val h0 hcap hk hc hp hr =>
    refine ⟨g, o, cap, rfl, .pv el g (o + i * k) (fun j => val i j) (fun j p hj => ?_) (fun j p hj => ?_) fun j p hj => hr i el j p he hj⟩
    · rw [Nat.add_assoc]; exact hc i el j p he hj
    · rw [Nat.add_assoc]; exact hp i el j p he hj
theorem index_run {P : Program} {w : World} {t e : TypeId} (he : elemB P t = some e) {i : TypeInfo} (hi : P.info? e = some i) (g o len cap : Nat) (k : IntKind) (n : Int) (h0 : 0 ≤ n) (hn : n < len) :
    (Instr.indexAt t (.slice (some ⟨g, o, none⟩) len cap) (.int k n)).run P w = .ok (.pointer (some ⟨g, o + n.toNat * P.cellsOf e, none⟩)) w := by
  simp only [Instr.indexAt, asIntOf, Sem.run_bind, Sem.run_pure, Result.andThen_ok, run_underlying (elemB_some he), h0, hn, and_self, if_true, run_sizeOf_cells P e w hi, add_lit]
theorem row_slice {w : World} {cx : Cx} {r : Root} {e k : Nat} {xs : List (List PV)} {s : Bool} (h : RepO w cx r (.arr e k xs s)) {v : Value} (hv : cx.β r = some (.row v)) : (v = .slice none 0 0 ∧ xs = []) ∨ ∃ g cap, v = .slice (some ⟨g, 0, none⟩) xs.length cap ∧ xs.length ≤ cap ∧ cap ≤ maxLen := by
  obtain ⟨v', ys, h1, h2, _⟩ := h
  rw [hv] at h1
  injection h1 with h1
  injection h1 with h1
  subst h1
  rcases h2.2 with ⟨rfl, hx⟩ | ⟨g, cap, cur, rfl, _, _, hn, hm, _⟩
  · exact .inl ⟨rfl, List.eq_nil_of_length_eq_zero hx⟩
  · exact .inr ⟨g, cap, rfl, hn, hm⟩

/-! ### What a slice's elements read as -/
structure RepEl (w : World) (pr : Nat → Nat → Prop) (k : Nat) (xs : List (List PV)) (v : Value) (news : List Value) : Prop where
  len : news.length = xs.length * k
  one : ∀ u ∈ news, u.oneCell' = true
  el : ∀ (i : Nat) (el : List PV), xs[i]? = some el → el.length = k
  rep : ∀ (i : Nat) (el : List PV) (j : Nat) (x : PV), xs[i]? = some el → el[j]? = some x → ∃ u, news[i * k + j]? = some u ∧ RepP w pr x u
  place : (∃ c, v = .slice none 0 c ∧ xs = []) ∨ (∃ g o c, v = .slice (some ⟨g, o, none⟩) xs.length c ∧ ∀ (j : Nat) (u : Value), news[j]? = some u → w.cell? ⟨g, o + j, none⟩ = some u) ∨ (∃ A c, v = .slice A 0 c ∧ xs = [])
theorem flat_val {k n : Nat} (hk : 0 < k) (val : Nat → Nat → Value) (m : Nat) (hm : m < n * k) : ((List.range (n * k)).map fun q => val (q / k) (q % k))[m]? = some (val (m / k) (m % k)) := by
  simp [List.getElem?_range hm]
theorem RepP.sl_el {w : World} {pr : Nat → Nat → Prop} {k : Nat} {xs : List (List PV)} {v : Value} (h : RepP w pr (.sl k xs) v) (hk : 0 < k) : ∃ news, RepEl w pr k xs v news := by
  cases h with
  | sl0 _ A cap => exact ⟨[], by simp, by simp, by simp, by simp, .inr (.inr ⟨A, cap, rfl, rfl⟩)⟩
  | sl _ _ g o cap val h0 hcap hkk hc hp hr =>
    have hdiv : ∀ i j, j < k → (i * k + j) / k = i ∧ (i * k + j) % k = j := by
      intro i j hj
      constructor
      · rw [Nat.mul_comm, Nat.mul_add_div hk, Nat.div_eq_of_lt hj, Nat.add_zero]
      · rw [Nat.mul_comm, Nat.mul_add_mod, Nat.mod_eq_of_lt hj]
    have hidx : ∀ m, m < xs.length * k → ∃ el p, xs[m / k]? = some el ∧ el[m % k]? = some p := by
      intro m hm
      have hi : m / k < xs.length := (Nat.div_lt_iff_lt_mul hk).2 hm
      have hl := hkk _ _ (List.getElem?_eq_getElem hi)
      have hj : m % k < (xs[m / k]).length := by rw [hl]; exact Nat.mod_lt _ hk
      exact ⟨_, _, List.getElem?_eq_getElem hi, List.getElem?_eq_getElem hj⟩
    have hm' : ∀ m, m / k * k + m % k = m := fun m => by rw [Nat.mul_comm]; exact Nat.div_add_mod m k
    refine ⟨(List.range (xs.length * k)).map fun q => val (q / k) (q % k), by simp, fun u hu => ?_, hkk, fun i el j x he hx => ?_, .inr (.inl ⟨g, o, cap, rfl, fun m u hu => ?_⟩)⟩
    · simp only [List.mem_map, List.mem_range] at hu
      obtain ⟨m, hm, rfl⟩ := hu
      obtain ⟨el, p, h1, h2⟩ := hidx m hm
      exact oneCell_of_pv (hr _ el _ p h1 h2)
    · have hj : j < k := by rw [← hkk i el he]; exact (List.getElem?_eq_some_iff.1 hx).1
      have hi : i < xs.length := (List.getElem?_eq_some_iff.1 he).1
      have hm : i * k + j < xs.length * k := by
        calc i * k + j < i * k + k := by omega
          _ = (i + 1) * k := by rw [Nat.succ_mul]
          _ ≤ xs.length * k := Nat.mul_le_mul_right k hi
      refine ⟨val i j, ?_, hr i el j x he hx⟩
      rw [flat_val hk val _ hm, (hdiv i j hj).1, (hdiv i j hj).2]
    · have hm : m < xs.length * k := by have := (List.getElem?_eq_some_iff.1 hu).1; simpa using this
      rw [flat_val hk val m hm] at hu
      injection hu with hu
      subst hu
      obtain ⟨el, p, h1, h2⟩ := hidx m hm
      have := hc _ el _ p h1 h2
      rwa [hm' m] at this
theorem row_el {w : World} {cx : Cx} {r : Root} {e k : Nat} {xs : List (List PV)} {s : Bool} (h : RepO w cx r (.arr e k xs s)) {v : Value} (hv : cx.β r = some (.row v)) : ∃ news, RepEl w cx.pr k xs v news ∧ w.ownsRow 0 e k v xs.length news := by
  obtain ⟨v', ys, h1, h2, h3, h4, h5, h6⟩ := h
  rw [hv] at h1
  injection h1 with h1
  injection h1 with h1
  subst h1
  have hrep : ∀ (i : Nat) (el : List PV) (j : Nat) (x : PV), xs[i]? = some el → el[j]? = some x → ∃ u, ys[i * k + j]? = some u ∧ RepP w cx.pr x u := fun i el j x he hx => by
    obtain ⟨u, a, b, c⟩ := h5 i el j x he hx
    exact ⟨u, a, c⟩
  refine ⟨ys, ⟨h2.1, fun u hu => ?_, h4, hrep, ?_⟩, h2⟩
  · obtain ⟨m, hm⟩ := List.getElem?_of_mem hu
    have hml : m < xs.length * k := by rw [← h2.1]; exact (List.getElem?_eq_some_iff.1 hm).1
    have hi : m / k < xs.length := (Nat.div_lt_iff_lt_mul h3).2 hml
    have hl := h4 _ _ (List.getElem?_eq_getElem hi)
    have hj : m % k < (xs[m / k]).length := by rw [hl]; exact Nat.mod_lt _ h3
    obtain ⟨u', a, b, _⟩ := h5 _ _ _ _ (List.getElem?_eq_getElem hi) (List.getElem?_eq_getElem hj)
    have : m / k * k + m % k = m := by rw [Nat.mul_comm]; exact Nat.div_add_mod m k
    rw [this, hm] at a
    injection a with a
    subst a
    exact b
  · rcases h2.2 with ⟨rfl, hx⟩ | ⟨g, cap, cur, rfl, _, hg, hn, _⟩
    · exact .inl ⟨0, rfl, List.eq_nil_of_length_eq_zero hx⟩
    · refine .inr (.inl ⟨g, 0, cap, rfl, fun m u hu => ?_⟩)
      have := h2.cells (g := g) rfl m u hu
      rwa [add_lit] at this
theorem elems_rep {w : World} {cx : Cx} {look hp : Root → Option Ob} {free : Nat → Prop} (hg : Good hp w cx free) (hl : Sub look hp) {k : Nat} (hk : 0 < k) {x : AV} {v : Value} (h : RepA w cx x v) {xs : List (List PV)} (hx : elemsA look k x = some xs) :
    ∃ news, RepEl w cx.pr k xs v news := by
  unfold elemsA at hx
  split at hx
  · injection hx with hx; subst hx
    have h' := h.c_inv.1
    cases h'
    exact ⟨[], by simp, by simp, by simp, by simp, .inl ⟨0, rfl, rfl⟩⟩
  · rename_i k' ys
    cases hb : Nat.beq k k' with
    | false => rw [hb] at hx; cases hx
    | true =>
      rw [hb] at hx
      injection hx with hx; subst hx
      have := Nat.eq_of_beq_eq_true hb
      subst this
      exact h.p_inv.sl_el hk
  · rename_i r k'
    split at hx
    · rename_i e k'' ys s hlk
      cases hb : (Nat.beq k k' && Nat.beq k k'') with
      | false => rw [hb] at hx; cases hx
      | true =>
        rw [hb] at hx
        injection hx with hx; subst hx
        rw [Bool.and_eq_true] at hb
        have := Nat.eq_of_beq_eq_true hb.2
        subst this
        have h' := h.c_inv.1
        cases h' with
        | arr _ _ _ hβ =>
          obtain ⟨news, h1, _⟩ := row_el (hg.rep r _ (hl r _ hlk)) hβ
          exact ⟨news, h1⟩
    · cases hx
  · cases hx

end Go.Am
