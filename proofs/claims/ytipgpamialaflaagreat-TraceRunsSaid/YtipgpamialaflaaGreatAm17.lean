/-
  AM, PART 17: conversions, lengths, places in slices, closures made, parts of tuples.
-/
import Derived.Test.YtipgpamialaflaaGreatAm16
set_option linter.unusedVariables false
set_option linter.unusedSimpArgs false
namespace Go.Am
open Go Go.RowKit

theorem conv_int_OK {P : Program} {o : Oper} {E : Env} {S : St} {a : Act} {w : World} {cx : Cx} (h : Sim E S a w cx) (hd : ∀ d, o.dst = some d → d < E.n) {s t : TypeId} {x : Operand} (ho : o.op = .convert s t x) {j k k' : IntKind} {n : Int} (hs : P.underlying s = some (.int j)) (ht : P.underlying t = some (.int k)) (hx : Am.ov S.sl x = .c (.p (.sc (.int k' n)))) :
    OK P o E (applyD S o.dst { val := .c (.p (.sc (.int k (k.wrap n)))) }) a w := by
  have hv := h.ov x
  rw [hx] at hv
  refine .pure h hd (v := .int k (k.wrap n)) ?_ (RepA.of_sc rfl)
  simp only [execOp, ho, convert, Sem.run_bind, run_underlying hs, run_underlying ht, Result.andThen_ok, hv.sc_inv.1, Conv.intToInt, Sem.run_pure]

/-! ### Bytes out of a string: a row no one writes -/
def prot (cx : Cx) (g n : Nat) : Cx := { β := cx.β, pr := fun b o => cx.pr b o ∨ (b = g ∧ o < n) }
theorem Sim.prot {E : Env} {S : St} {a : Act} {w : World} {cx : Cx} (h : Sim E S a w cx) {w' : World} (hos : w'.os = w.os ∧ w'.tape = w.tape ∧ w'.output = w.output) (hsz : w.heap.size < w'.heap.size) (hw : ∀ b, b < w.heap.size → w'.heap[b]? = w.heap[b]?) (n : Nat) : Sim E S a w' (Am.prot cx w.heap.size n) := by
  have hlast : Lasts w cx.pr w' (Am.prot cx w.heap.size n).pr := ⟨fun g o h => .inl h, fun g o hp => World.cell?_of_block (w := w) (hw g (h.good.lt g o hp))⟩
  exact {
    fr := { os := hos.1.trans h.fr.os, tape := hos.2.1.trans h.fr.tape, output := hos.2.2.trans h.fr.output, size := Nat.le_trans h.fr.size (Nat.le_of_lt hsz), blk := fun b hb hm => (hw b (Nat.lt_of_lt_of_le hb h.fr.size)).trans (h.fr.blk b hb hm), last := h.fr.last.trans hlast,
            new := fun b o hp => by
              rcases hp with hp | ⟨rfl, _⟩
              · exact h.fr.new b o hp
              · exact .inr (.inr h.fr.size) }
    good := {
      rep := fun r o ho => (h.good.rep r o ho).keep (cx := cx) (cx' := Am.prot cx w.heap.size n) (fun _ _ hb => hb) hlast (fun g hg => hw g (h.good.block_lt hg)) (fun g o hg hp => by
        rcases hp with hp | ⟨rfl, _⟩
        · exact hp
        · have := h.good.block_lt hg
          omega)
      inj := h.good.inj
      lt := fun b o hp => by
        rcases hp with hp | ⟨rfl, _⟩
        · exact Nat.lt_trans (h.good.lt b o hp) hsz
        · exact hsz
      dom := h.good.dom
      free := h.good.free }
    defers := h.defers
    size := h.size
    slots := fun i v hv => (h.slots i v hv).keep (cx := cx) (cx' := Am.prot cx w.heap.size n) (fun _ _ hb => hb) hlast
    high := h.high
    par := h.par }
theorem bytesPV_get (s : ByteArray) (i : Nat) : (bytesPV s)[i]? = (s.data.toList[i]?).map fun b => [.sc (.int .u8 b.toNat)] := by simp [bytesPV]
theorem bytesPV_length (s : ByteArray) : (bytesPV s).length = s.size := by simp [bytesPV]
theorem conv_str_OK {P : Program} {o : Oper} {E : Env} {S : St} {a : Act} {w : World} {cx : Cx} (h : Sim E S a w cx) (hd : ∀ d, o.dst = some d → d < E.n) {s t e : TypeId} {x : Operand} (ho : o.op = .convert s t x) (hs : P.underlying s = some .string) (ht : P.underlying t = some (.slice e)) {b : ByteArray} (hx : Am.ov S.sl x = .c (.p (.sc (.string b))))
    (he : P.underlying e = some (.int .u8)) : OK P o E (applyD S o.dst { val := .c (.p (.sl 1 (bytesPV b))) }) a w := by
  have hv := h.ov x
  rw [hx] at hv
  rw [applyD_pure]
  have hsim := h.prot (w' := Lib.bytesWorld w e b) ⟨rfl, rfl, rfl⟩ (by rw [Lib.bytesWorld_size]; omega) (Lib.bytesWorld_at_old w e b) b.size
  refine OK.value (v := .slice (some ⟨w.heap.size, 0, none⟩) b.size (grownCap w b.size 0 e)) (w' := Lib.bytesWorld w e b) (cx' := Am.prot cx w.heap.size b.size) ?_ (hsim.put o.dst hd (.c _ _ rfl (.p _ _ ?_)))
  · simp only [execOp, ho, Sem.run_bind, hv.sc_inv.1, Lib.run_convert_string_bytes w s t e b hs ht he, Result.andThen_ok, Sem.run_pure]
  · have hel : ∀ (i : Nat) (el : List PV) (j : Nat) (p : PV), (bytesPV b)[i]? = some el → el[j]? = some p → j = 0 ∧ i < b.size ∧ p = .sc (.int .u8 (b.data.toList.getD i 0).toNat) := by
      intro i el j p he hj
      rw [bytesPV_get] at he
      cases hb : b.data.toList[i]? with
      | none => rw [hb] at he; cases he
      | some u =>
        rw [hb] at he
        injection he with he
        subst he
        have hil : i < b.data.toList.length := (List.getElem?_eq_some_iff.1 hb).1
        cases j with
        | zero => simp at hj; subst hj; exact ⟨rfl, by simpa using hil, by simp [List.getD_eq_getElem?_getD, hb]⟩
        | succ j => simp at hj
    by_cases h0 : bytesPV b = []
    · have : b.size = 0 := by rw [← bytesPV_length, h0]; rfl
      rw [h0, this]
      exact .sl0 1 _ _
    · have hlen := bytesPV_length b
      have := RepP.sl (w := Lib.bytesWorld w e b) (pr := (Am.prot cx w.heap.size b.size).pr) 1 (bytesPV b) w.heap.size 0 (grownCap w b.size 0 e) (fun i j => .int .u8 (b.data.toList.getD i 0).toNat) h0 (by rw [hlen]; exact grownCap_ge w b.size 0 e) (fun i el he => by
        rw [bytesPV_get] at he
        cases hb : b.data.toList[i]? with
        | none => rw [hb] at he; cases he
        | some u => rw [hb] at he; injection he with he; subst he; rfl) (fun i el j p he hj => by
        obtain ⟨rfl, h1, _⟩ := hel i el j p he hj
        have := Lib.bytesWorld_cell w e b i h1
        simpa using this) (fun i el j p he hj => by
        obtain ⟨rfl, h1, _⟩ := hel i el j p he hj
        exact .inr ⟨rfl, by omega⟩) (fun i el j p he hj => by
        obtain ⟨rfl, h1, rfl⟩ := hel i el j p he hj
        exact .sc _ rfl)
      rwa [hlen] at this
theorem bytesOfPV_nums : ∀ (xs : List (List PV)) (l : List UInt8), bytesOfPV xs = some l → ∃ ns : List Int, ns.length = xs.length ∧ l = ns.map (fun n => UInt8.ofNat n.toNat) ∧ ∀ (i : Nat) (n : Int), ns[i]? = some n → xs[i]? = some [PV.sc (.int .u8 n)]
  | [], l, h => by
    simp only [bytesOfPV, Option.some.injEq] at h
    subst h
    exact ⟨[], rfl, rfl, fun i n hn => by simp at hn⟩
  | x :: xs, l, h => by
    simp only [bytesOfPV] at h
    cases h1 : byteOfPV x with
    | none => rw [h1] at h; simp at h
    | some b =>
      cases h2 : bytesOfPV xs with
      | none => rw [h1, h2] at h; simp at h
      | some r =>
        rw [h1, h2] at h
        simp at h
        subst h
        obtain ⟨ns, a1, a2, a3⟩ := bytesOfPV_nums xs r h2
        unfold byteOfPV at h1
        split at h1
        · rename_i n
          injection h1 with h1
          refine ⟨n :: ns, by simp [a1], by simp [a2, h1], fun i m hm => ?_⟩
          cases i with
          | zero => simp at hm ⊢; subst hm; rfl
          | succ i => simpa using a3 i m (by simpa using hm)
        · cases h1
theorem conv_bytes_OK {P : Program} {o : Oper} {E : Env} {S : St} {a : Act} {w : World} {cx : Cx} (h : Sim E S a w cx) (hd : ∀ d, o.dst = some d → d < E.n) {look : Root → Option Ob} (hl : Sub look S.hp) {s t e : TypeId} {x : Operand} (ho : o.op = .convert s t x) (hs : P.underlying s = some (.slice e)) (ht : P.underlying t = some .string)
    (he : P.underlying e = some (.int .u8)) {xs : List (List PV)} (hx : elemsA look 1 (Am.ov S.sl x) = some xs) {l : List UInt8} (hb : bytesOfPV xs = some l) : OK P o E (applyD S o.dst { val := scS ⟨l.toArray⟩ }) a w := by
  obtain ⟨news, hr⟩ := elems_rep h.good hl (by omega) (h.ov x) hx
  obtain ⟨ns, a1, a2, a3⟩ := bytesOfPV_nums xs l hb
  have hn : ∀ (i : Nat) (n : Int), ns[i]? = some n → news[i]? = some (Value.int .u8 n) := by
    intro i n hi
    obtain ⟨u, hu, hp⟩ := hr.rep i _ 0 _ (a3 i n hi) rfl
    cases hp
    simpa using hu
  have hnl : news.length = ns.length := by rw [hr.len, a1, Nat.mul_one]
  have hstr : (⟨l.toArray⟩ : ByteArray) = strOfNums ns := by rw [a2]; rfl
  have hz : xs = [] → (⟨l.toArray⟩ : ByteArray) = ByteArray.empty := by
    intro e
    subst e
    simp [bytesOfPV] at hb
    subst hb
    rfl
  refine .pure h hd (v := .string ⟨l.toArray⟩) ?_ (RepA.of_sc rfl)
  simp only [execOp, ho, Sem.run_bind]
  rcases hr.place with ⟨c, hv, hx0⟩ | ⟨g, off, c, hv, hc⟩ | ⟨A, c, hv, hx0⟩
  · rw [hv, run_convert_bytes_nil w s e hs he 0 c t ht, hz hx0]
    rfl
  · rw [hv, run_convert_bytes_arg w s e hs he g off xs.length c ns a1 (fun i hi => by
      have hi' : i < ns.length := by omega
      have h1 := hn i _ (List.getElem?_eq_getElem hi')
      rw [hc i _ h1]
      simp [List.getD_eq_getElem?_getD, List.getElem?_eq_getElem hi']) t ht, hstr]
    rfl
  · rw [hv, run_convert_bytes_string w s t e A 0 c hs he ht, hz hx0]
    cases A with
    | none => simp [Conv.bytesToString]
    | some q =>
      rw [run_bytesToString w q 0 c [] (by simp [loadCells, loadCellsFrom])]
      rfl

/-! ### Lengths -/
theorem builtin_run {P : Program} {o : Oper} {a : Act} {w : World} {c : Call} (ho : o.op = .call c) {b : Builtin} (hc : c.callee = .builtin b) (s : Sem Value) (hb : ∀ cs, builtin b c.argTypes o.type cs (c.args.map a.eval) = (do pure (Next.value (← s)))) {v : Value} {w' : World} (hr : s.run P w = .ok v w') : (execOp a.eval o).run P w = .ok (.value v) w' := by
  simp only [execOp, ho, resolve, hc, invoke, Sem.run_bind, Sem.run_pure, Result.andThen_ok, hb, hr]
theorem arr1 {α : Type} {A : Array α} {x : α} (h : A.toList = [x]) : A = #[x] := by
  cases A; simp at h; subst h; rfl
theorem arr2 {α : Type} {A : Array α} {x y : α} (h : A.toList = [x, y]) : A = #[x, y] := by
  cases A; simp at h; subst h; rfl
theorem len_OK {P : Program} {o : Oper} {E : Env} {S : St} {a : Act} {w : World} {cx : Cx} (h : Sim E S a w cx) (hd : ∀ d, o.dst = some d → d < E.n) {c : Call} (ho : o.op = .call c) (hc : c.callee = .builtin .len) {t : TypeId} {x : Operand} (hts : c.argTypes = #[t]) (has : c.args = #[x]) {n : Nat}
    (hrun : (Builtin.len_ #[t] o.type #[a.eval x]).run P w = .ok (goInt n) w) : OK P o E (applyD S o.dst { val := scI n }) a w := by
  refine .pure h hd (v := goInt n) ?_ (RepA.of_sc rfl)
  refine builtin_run ho hc (Builtin.len_ #[t] o.type #[a.eval x]) (fun cs => by simp [builtin, hts, has]) hrun
theorem len_slice {P : Program} {w : World} {t e ty : TypeId} (ht : P.underlying t = some (.slice e)) (A : Option Addr) (n c : Nat) : (Builtin.len_ #[t] ty #[.slice A n c]).run P w = .ok (goInt n) w := by
  simp [Builtin.len_, run_underlying ht]
theorem len_string {P : Program} {w : World} {t ty : TypeId} (ht : P.underlying t = some .string) (s : ByteArray) : (Builtin.len_ #[t] ty #[.string s]).run P w = .ok (goInt s.size) w := by
  simp [Builtin.len_, run_underlying ht]
theorem getObj_run {P : Program} {w : World} {r : Nat} {es : Array MapEntry} {cl : Nat} (h : w.heap[r]? = some (.map es cl)) : (getObj r).run P w = .ok (.map es cl) w := by simp [getObj, Sem.run, h]
theorem len_map {P : Program} {w : World} {t k e ty : TypeId} (ht : P.underlying t = some (.map k e)) {g : Nat} {es : Array MapEntry} {cl : Nat} (hg : w.heap[g]? = some (.map es cl)) : (Builtin.len_ #[t] ty #[.map (some g)]).run P w = .ok (goInt es.size) w := by
  simp [Builtin.len_, run_underlying ht, getObj_run hg]
theorem max_OK {P : Program} {o : Oper} {E : Env} {S : St} {a : Act} {w : World} {cx : Cx} (h : Sim E S a w cx) (hd : ∀ d, o.dst = some d → d < E.n) {c : Call} (ho : o.op = .call c) (hc : c.callee = .builtin .max) {x y : Operand} (has : c.args = #[x, y]) {k k' : IntKind} {m n : Int}
    (hx : Am.ov S.sl x = .c (.p (.sc (.int k m)))) (hy : Am.ov S.sl y = .c (.p (.sc (.int k' n)))) : OK P o E (applyD S o.dst { val := .c (.p (.sc (.int k (if n > m then n else m)))) }) a w := by
  have h1 := h.ov x
  have h2 := h.ov y
  rw [hx] at h1
  rw [hy] at h2
  refine .pure h hd (v := .int k (if n > m then n else m)) ?_ (RepA.of_sc rfl)
  refine builtin_run ho hc (Builtin.max_ c.argTypes o.type #[a.eval x, a.eval y]) (fun cs => by simp [builtin, has]) ?_
  simp [Builtin.max_, Builtin.max2, h1.sc_inv.1, h2.sc_inv.1]
theorem min_OK {P : Program} {o : Oper} {E : Env} {S : St} {a : Act} {w : World} {cx : Cx} (h : Sim E S a w cx) (hd : ∀ d, o.dst = some d → d < E.n) {c : Call} (ho : o.op = .call c) (hc : c.callee = .builtin .min) {x y : Operand} (has : c.args = #[x, y]) {k k' : IntKind} {m n : Int}
    (hx : Am.ov S.sl x = .c (.p (.sc (.int k m)))) (hy : Am.ov S.sl y = .c (.p (.sc (.int k' n)))) : OK P o E (applyD S o.dst { val := .c (.p (.sc (.int k (if n < m then n else m)))) }) a w := by
  have h1 := h.ov x
  have h2 := h.ov y
  rw [hx] at h1
  rw [hy] at h2
  refine .pure h hd (v := .int k (if n < m then n else m)) ?_ (RepA.of_sc rfl)
  refine builtin_run ho hc (Builtin.min_ c.argTypes o.type #[a.eval x, a.eval y]) (fun cs => by simp [builtin, has]) ?_
  simp [Builtin.min_, Builtin.min2, h1.sc_inv.1, h2.sc_inv.1]

/-! ### Places in slices -/
theorem indexAddr_p_OK {P : Program} {o : Oper} {E : Env} {S : St} {a : Act} {w : World} {cx : Cx} (h : Sim E S a w cx) (hd : ∀ d, o.dst = some d → d < E.n) {t e : TypeId} {x ix : Operand} (ho : o.op = .indexAddr t x ix) (he : elemB P t = some e) {k : Nat} {xs : List (List PV)} (hx : Am.ov S.sl x = .c (.p (.sl k xs))) {kd : IntKind} {n : Int} (hi : asIntA (Am.ov S.sl ix) = some (kd, n)) (hk : sizeB P e = some k)
    (h0 : 0 ≤ n) {el : List PV} (hel : xs[n.toNat]? = some el) : OK P o E (applyD S o.dst { val := .c (.p (.pv el)) }) a w := by
  have hv := h.ov x
  rw [hx] at hv
  have hiv := asIntA_rep (h.ov ix) hi
  obtain ⟨g, off, cap, hs, hr⟩ := hv.p_inv.sl_at hel
  obtain ⟨inf, hinf, hsz⟩ := elB_info hk
  have hlt : n < xs.length := by
    have := (List.getElem?_eq_some_iff.1 hel).1
    omega
  have hrun := index_run (P := P) (w := w) he hinf g off xs.length cap kd n h0 hlt
  rw [cellsOf_size hk] at hrun
  refine .pure h hd (v := .pointer (some ⟨g, off + n.toNat * k, none⟩)) ?_ (.c _ _ rfl (.p _ _ hr))
  simp only [execOp, ho, Sem.run_bind, hs, hiv, hrun, Result.andThen_ok, Sem.run_pure]
theorem index_str_OK {P : Program} {o : Oper} {E : Env} {S : St} {a : Act} {w : World} {cx : Cx} (h : Sim E S a w cx) (hd : ∀ d, o.dst = some d → d < E.n) {t : TypeId} {x ix : Operand} (ho : o.op = .index t x ix) (hu : P.underlying t = some .string) {s : ByteArray} (hx : Am.ov S.sl x = .c (.p (.sc (.string s)))) {kd : IntKind} {n : Int} (hi : asIntA (Am.ov S.sl ix) = some (kd, n))
    (h0 : 0 ≤ n) {b : UInt8} (hb : s.data.toList[n.toNat]? = some b) : OK P o E (applyD S o.dst { val := .c (.p (.sc (.int .u8 b.toNat))) }) a w := by
  have hv := h.ov x
  rw [hx] at hv
  have hiv := asIntA_rep (h.ov ix) hi
  have hxs := hv.sc_inv.1
  obtain ⟨hlt, hb'⟩ := List.getElem?_eq_some_iff.1 hb
  have hlt' : n.toNat < s.size := by rw [Array.length_toList] at hlt; exact hlt
  have hrun := run_index_string (P := P) w t s kd n hu
  rw [dif_pos (show 0 ≤ n ∧ n < s.size by omega)] at hrun
  have e : s[n.toNat] = b := by rw [← hb']; rfl
  refine .pure h hd (v := .int .u8 b.toNat) ?_ (RepA.of_sc rfl)
  simp only [execOp, ho, Sem.run_bind, hxs, hiv, hrun, Result.andThen_ok, Sem.run_pure, e]
theorem indexAddr_row_OK {P : Program} {o : Oper} {E : Env} {S : St} {a : Act} {w : World} {cx : Cx} (h : Sim E S a w cx) (hd : ∀ d, o.dst = some d → d < E.n) {look : Root → Option Ob} (hl : Sub look S.hp) {t e : TypeId} {x ix : Operand} (ho : o.op = .indexAddr t x ix) (he : elemB P t = some e) {r : Root} {k e' k' : Nat} {xs : List (List PV)} {s : Bool} (hx : Am.ov S.sl x = .c (.arr r k)) (hr : look r = some (.arr e' k' xs s)) {kd : IntKind} {n : Int} (hi : asIntA (Am.ov S.sl ix) = some (kd, n)) (hk : sizeB P e = some k)
    (h0 : 0 ≤ n) (hn : n < xs.length) : OK P o E (applyD S o.dst { val := .c (.ep r k n.toNat 0) }) a w := by
  have hv := h.ov x
  rw [hx] at hv
  have hiv := asIntA_rep (h.ov ix) hi
  obtain ⟨inf, hinf, hsz⟩ := elB_info hk
  have hc := hv.c_inv.1
  generalize hV : a.eval x = V at hc
  cases hc with
  | arr _ _ _ hβ =>
    rcases row_slice (h.good.rep r _ (hl r _ hr)) hβ with ⟨_, h1⟩ | ⟨g, cap, h1, h2, h3⟩
    · subst h1; simp at hn; omega
    · have hrun := index_run (P := P) (w := w) he hinf g 0 xs.length cap kd n h0 hn
      rw [cellsOf_size hk, Nat.zero_add] at hrun
      subst h1
      refine .pure h hd (v := .pointer (some ⟨g, n.toNat * k, none⟩)) ?_ (.c _ _ rfl (.ep r k n.toNat 0 g _ _ hβ))
      simp only [execOp, ho, Sem.run_bind, hV, hiv, hrun, Result.andThen_ok, Sem.run_pure]

/-! ### Closures, nil checks, tuples -/
theorem nilCheck_OK {P : Program} {o : Oper} {E : Env} {S : St} {a : Act} {w : World} {cx : Cx} (h : Sim E S a w cx) (hd : ∀ d, o.dst = some d → d < E.n) {x : Operand} (ho : o.op = .nilCheck x) (hx : isPtr (Am.ov S.sl x) = true ∨ ∃ f cs, Am.ov S.sl x = .c (.clo f cs)) : OK P o E (applyD S o.dst { val := Am.ov S.sl x }) a w := by
  refine .pure h hd (v := a.eval x) ?_ (h.ov x)
  rcases hx with hx | ⟨f, cs, hx⟩
  · obtain ⟨q, hq⟩ := isPtr_rep (h.ov x) hx
    simp only [execOp, ho, hq, Sem.run_pure]
  · have hv := h.ov x
    rw [hx] at hv
    have hc := hv.c_inv.1
    generalize hV : a.eval x = V at hc
    cases hc with
    | clo _ _ vs hl _ => simp only [execOp, ho, hV, Sem.run_pure]
theorem goC_rep {E : Env} {S : St} {a : Act} {w : World} {cx : Cx} (h : Sim E S a w cx) : ∀ (ops : List Operand) (cs : List CV), dval.goC (ops.map (Am.ov S.sl)) = some cs → cs.length = ops.length ∧ ∀ (i : Nat) (x : CV) (y : Operand), cs[i]? = some x → ops[i]? = some y → RepC w cx x (a.eval y)
  | [], cs, hg => by simp [dval.goC] at hg; subst hg; exact ⟨rfl, fun i x y hx => by simp at hx⟩
  | y :: ops, cs, hg => by
    simp only [List.map_cons] at hg
    have hv := h.ov y
    generalize Am.ov S.sl y = Y at hg hv
    cases Y with
    | c x =>
      simp only [dval.goC] at hg
      cases hr : dval.goC (ops.map (Am.ov S.sl)) with
      | none => rw [hr] at hg; cases hg
      | some r =>
        rw [hr] at hg
        simp at hg
        subst hg
        obtain ⟨a1, a2⟩ := goC_rep h ops r hr
        refine ⟨by simp [a1], fun i z u hz hu => ?_⟩
        cases i with
        | zero => simp at hz hu; subst hz; subst hu; exact hv.c_inv.1
        | succ i => exact a2 i z u (by simpa using hz) (by simpa using hu)
    | agg l => simp [dval.goC] at hg
    | tup l => simp [dval.goC] at hg
theorem makeFunc_OK {P : Program} {o : Oper} {E : Env} {S : St} {a : Act} {w : World} {cx : Cx} (h : Sim E S a w cx) (hd : ∀ d, o.dst = some d → d < E.n) {f : Nat} {first captured : Array Operand} (ho : o.op = .makeFunc (.func f) first captured) (hf : first.isEmpty = true) {cs : List CV} (hg : dval.goC (captured.toList.map (Am.ov S.sl)) = some cs) :
    OK P o E (applyD S o.dst { val := .c (.clo f cs) }) a w := by
  obtain ⟨a1, a2⟩ := goC_rep h captured.toList cs hg
  have hfe : first = #[] := by simpa using hf
  refine .pure h hd (v := .func (.func f) #[] (captured.toList.map a.eval).toArray) ?_ (.c _ _ rfl (.clo f cs _ (by simpa using a1) fun i x v hx hv => ?_))
  · simp only [execOp, ho, hfe, Instr.makeFunc, Sem.run_bind, Sem.run_pure, Result.andThen_ok]
    have e1 : captured.map a.eval = (captured.toList.map a.eval).toArray := by cases captured; simp
    rw [e1]
    simp
  · rw [List.getElem?_map] at hv
    cases hc : captured.toList[i]? with
    | none => rw [hc] at hv; cases hv
    | some y =>
      rw [hc] at hv
      injection hv with hv
      subst hv
      exact a2 i x y hx hc
theorem extract_OK {P : Program} {o : Oper} {E : Env} {S : St} {a : Act} {w : World} {cx : Cx} (h : Sim E S a w cx) (hd : ∀ d, o.dst = some d → d < E.n) {t : Operand} {i : Nat} (ho : o.op = .extract t i) {l : List AV} (hx : Am.ov S.sl t = .tup l) {x : AV} (hi : l[i]? = some x) : OK P o E (applyD S o.dst { val := x }) a w := by
  have hv := h.ov t
  rw [hx] at hv
  obtain ⟨vs, h1, h2, h3⟩ := hv.tup_inv
  have hil : i < vs.length := by rw [← h2]; exact (List.getElem?_eq_some_iff.1 hi).1
  refine .pure h hd (v := vs[i]) ?_ (h3 i x _ hi (List.getElem?_eq_getElem hil))
  simp only [execOp, ho, h1, Instr.extract, List.getElem?_toArray, List.getElem?_eq_getElem hil, Sem.run_bind, Sem.run_pure, Result.andThen_ok]

end Go.Am
