/-
  AM, PART 20: every operation but a call.
-/
import Derived.Test.YtipgpamialaflaaGreatAm19
set_option linter.unusedVariables false
set_option linter.unusedSimpArgs false
namespace Go.Am
open Go Go.RowKit Go.Lib

section
variable {P : Program} {o : Oper} {E : Env} {S : St} {a : Act} {w : World} {cx : Cx} {look : Root → Option Ob} {d : Nat} {hints : Nat → Hint} {call : Nat → List AV → List Ob → Option Ret} {δ : Delta}

theorem pick_OK (h : Sim E S a w cx) (hd : ∀ d, o.dst = some d → d < E.n) {c x y : Operand} (ho : o.op = .pick c x y) {t : Bool} (hc : asBoolA (Am.ov S.sl c) = some t) : OK P o E (applyD S o.dst { val := if t then Am.ov S.sl x else Am.ov S.sl y }) a w := by
  have hb := asBoolA_rep (h.ov c) hc
  refine .pure h hd (v := if t then a.eval x else a.eval y) ?_ (by cases t <;> simp only [if_true, Bool.false_eq_true, if_false] <;> exact h.ov _)
  simp only [execOp, ho, hb, asBool, Sem.run_bind, Sem.run_pure, Result.andThen_ok]
theorem load_OK (h : Sim E S a w cx) (hd : ∀ d, o.dst = some d → d < E.n) (hl : Sub look S.hp) {t : TypeId} {x : Operand} (ho : o.op = .load t x) {s : Nat} (hs : sizeB P t = some s) {c : CV} (hx : Am.ov S.sl x = .c c) {l : List CV} (hr : readAt look s c = some l) {X : AV} (hX : mkAV (aggB P t) l = some X) : OK P o E (applyD S o.dst { val := X }) a w := by
  have hv := h.ov x
  rw [hx] at hv
  obtain ⟨dd, hu⟩ := underlying_of_size hs
  obtain ⟨u, h1, h2⟩ := load_run (P := P) h.good hl hs hv.c_inv.1 hr hu hX
  refine .pure h hd (v := u) ?_ h2
  simp only [execOp, ho, Sem.run_bind, h1, Result.andThen_ok, Sem.run_pure]
theorem fieldAddr_OK (h : Sim E S a w cx) (hd : ∀ d, o.dst = some d → d < E.n) {s : TypeId} {x : Operand} {f : Nat} (ho : o.op = .fieldAddr s x f) {fd : Field} (hf : fieldOf P s f = some fd) {k : Nat} (hk : sizeB P fd.type = some (k + 1)) {c c' : CV} (hx : Am.ov S.sl x = .c c) (hm : moveAddr fd.offset c = some c') : OK P o E (applyD S o.dst { val := .c c' }) a w := by
  have hv := h.ov x
  rw [hx] at hv
  obtain ⟨u, h1, h2⟩ := fieldAddr_run (P := P) hf hk hv.c_inv.1 hm
  refine .pure h hd (v := u) ?_ h2
  simp only [execOp, ho, Sem.run_bind, h1, Result.andThen_ok, Sem.run_pure]
theorem field_OK (h : Sim E S a w cx) (hd : ∀ d, o.dst = some d → d < E.n) {s : TypeId} {x : Operand} {f : Nat} (ho : o.op = .field s x f) {fd : Field} (hf : fieldOf P s f = some fd) {k : Nat} (hk : sizeB P fd.type = some k) {l m : List CV} (hx : Am.ov S.sl x = .agg l) (hc : cut l fd.offset k = some m) {X : AV} (hX : mkAV (aggB P fd.type) m = some X) : OK P o E (applyD S o.dst { val := X }) a w := by
  have hv := h.ov x
  rw [hx] at hv
  obtain ⟨u, h1, h2⟩ := field_run (P := P) hf hk hv hc hX
  refine .pure h hd (v := u) ?_ h2
  simp only [execOp, ho, Sem.run_bind, h1, Result.andThen_ok, Sem.run_pure]
theorem bin_OK (h : Sim E S a w cx) (hd : ∀ d, o.dst = some d → d < E.n) {op : BinOp} {t : TypeId} {x y : Operand} {b : TypeId} (ho : o.op = .binOp op t x y b) {X : AV} (hX : binA P op t (Am.ov S.sl x) (Am.ov S.sl y) = some X) : OK P o E (applyD S o.dst { val := X }) a w := by
  obtain ⟨u, h1, h2⟩ := binA_rep P w cx op t x y _ _ X _ _ (h.ov x) (h.ov y) hX
  refine .pure h hd (v := u) ?_ h2
  simp only [execOp, ho, Sem.run_bind, Result.andThen_ok, Sem.run_pure] at h1 ⊢
  rw [h1]
  rfl
theorem un_OK (h : Sim E S a w cx) (hd : ∀ d, o.dst = some d → d < E.n) {op : UnOp} {t : TypeId} {x : Operand} (ho : o.op = .unOp op t x) {X : AV} (hX : unA op (Am.ov S.sl x) = some X) : OK P o E (applyD S o.dst { val := X }) a w := by
  obtain ⟨u, h1, h2⟩ := un_rep P w cx op _ X _ (h.ov x) hX
  refine .pure h hd (v := u) ?_ h2
  simp only [execOp, ho, Sem.run_bind, h1, Result.andThen_ok, Sem.run_pure]
theorem bytesE (w : World) (pr : Nat → Nat → Prop) (q : ByteArray) : RepE w pr 1 (bytesPV q) (strCells q) := by
  refine ⟨by rw [strCells_length, bytesPV_length, Nat.mul_one], strCells_oneCell q, fun i el he => ?_, fun i el j x he hx => ?_⟩
  · rw [bytesPV_get] at he
    cases hb : q.data.toList[i]? with
    | none => rw [hb] at he; cases he
    | some b => rw [hb] at he; injection he with he; subst he; rfl
  · rw [bytesPV_get] at he
    cases hb : q.data.toList[i]? with
    | none => rw [hb] at he; cases he
    | some b =>
      rw [hb] at he
      injection he with he
      subst he
      cases j with
      | zero =>
        simp at hx
        subst hx
        exact ⟨.int .u8 b.toNat, by simp [strCells, hb], .sc _ rfl⟩
      | succ j => simp at hx
theorem append_str_gives {t u ty e : TypeId} {i : TypeInfo} (ht : P.underlying t = some (.slice e)) (hu : P.underlying u = some .string) (hi : P.info? e = some i) (hz : i.zero = some (.int .u8 0)) (hsize : i.size = 1) (hby : i.bytes = 1) {v : Value} {n : Nat} {n0 : List Value} (hown : w.ownsRow 0 e 1 v n n0) {q : ByteArray} (hlim : n + (bytesPV q).length ≤ LIM) :
    AppendGives P w t u ty e 1 v (.string q) n n0 (bytesPV q).length (strCells q) := by
  rw [bytesPV_length] at hlim ⊢
  simp only [LIM] at hlim
  obtain ⟨v', w', r1, r2, r3, r4⟩ := run_append_own_string (P := P) w 0 t u ty e i ht hu hi hz hsize hby v n n0 hown q (by simp only [maxLen]; omega) (by omega) (Nat.zero_le _)
  refine ⟨v', w', r1, r2, r3, ?_⟩
  have hxl : n0.length = n := by simpa using hown.1
  rcases hown.2 with ⟨rfl, rfl⟩ | ⟨g, cap, cur, rfl, hbg, hg, hnc, hcm, hcs, htake⟩
  · have hx : n0 = [] := List.eq_nil_of_length_eq_zero hxl
    subst hx
    obtain ⟨v2, w2, s1, s2, _, _⟩ := run_append_own_string (P := P) w w.heap.size t u ty e i ht hu hi hz hsize hby (.slice none 0 0) 0 [] (World.ownsRow_nil _ _ _ _) q (by simp only [maxLen]; omega) (by omega) (Nat.le_refl _)
    rw [r1] at s1
    injection s1 with s1 s3
    subst s1
    exact .inr ⟨fun g hg => (s2.lt g hg).1, r3⟩
  · by_cases hroom : n + q.size ≤ cap
    · have hcs' : cur.size = cap := by simpa using hcs
      have hr := run_append_room_string (P := P) w t u ty e i ht hu hi hsize g n cap cur hg q hroom (by omega)
      rw [r1] at hr
      injection hr with hr _
      subst hr
      exact .inl rfl
    · have holds : ∀ j u, n0[j]? = some u → w.cell? ((⟨g, 0, none⟩ : Addr).add j) = some u := hown.cells (g := g) rfl
      have hr := run_append_grow_string (P := P) w t u ty e i (.int .u8 0) ht hu hi hz ⟨g, 0, none⟩ n cap n0 (by rw [hsize]; simpa using hxl) holds q (by omega) (by omega) (by rw [hby]; exact growslice_fits (by omega) (by omega))
      rw [r1] at hr
      injection hr with hr hw
      subst hr
      subst hw
      exact .inr ⟨fun g hg => by simp [Value.ownBlock] at hg; omega, ⟨rfl, rfl, rfl, by simp, fun k hk _ => alloc_same w.drew _ k hk⟩⟩
end
end Go.Am
