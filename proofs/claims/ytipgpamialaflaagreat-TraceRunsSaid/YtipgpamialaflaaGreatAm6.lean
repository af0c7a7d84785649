/-
  AM, PART 6: ONE OPERATION IS SOUND: operands, pure operations, comparisons.
-/
import Derived.Test.YtipgpamialaflaaGreatAm5
import Derived.Laws.Cells
import Derived.ChangeKeysEq
import Derived.WalkKit
set_option linter.unusedVariables false
set_option linter.unusedSimpArgs false
namespace Go.Am
open Go Go.RowKit

/-! ### Operands -/
theorem oneB_eq (v : Value) : oneB v = v.oneCell' := by cases v <;> rfl
theorem cConst_rep (w : World) (cx : Cx) (v : Value) : RepC w cx (cConst v) v := by
  unfold cConst
  split
  · exact .nl
  · split
    · rename_i h; exact .p _ _ (.sc v h)
    · exact .un v
theorem RepA.of_const (w : World) (cx : Cx) (v : Value) : RepA w cx (ofConst v) v := by
  unfold ofConst
  split
  · rename_i cs
    split
    · rename_i h
      obtain ⟨cs⟩ := cs
      simp only [List.all_eq_true] at h
      refine .agg _ cs (by simp) (fun u hu => by rw [← oneB_eq]; exact h u hu) fun i x v hx hv => ?_
      simp only [List.getElem?_map] at hx
      rw [hv] at hx
      injection hx with hx
      subst hx
      exact cConst_rep w cx v
    · exact .un _
  · exact .un _
  · rename_i h1 h2
    refine .c _ _ ?_ (cConst_rep w cx _)
    cases v <;> simp_all [Value.oneCell']
theorem Sim.ov {E : Env} {S : St} {a : Act} {w : World} {cx : Cx} (h : Sim E S a w cx) (x : Operand) : RepA w cx (Am.ov S.sl x) (a.eval x) := by
  cases x with
  | tmp t =>
    simp only [Am.ov, Act.eval]
    rw [Array.getD_eq_getD_getElem?]
    cases ht : a.tmps[t]? with
    | some v => exact h.slots t v ht
    | none =>
      have : E.n ≤ t := by rw [← h.size]; exact Array.getElem?_eq_none_iff.1 ht
      rw [h.high t this]
      exact .un _
  | const v => exact RepA.of_const w cx v
  | global g => exact .un _
  | func f =>
    refine .c _ _ rfl ?_
    have := RepC.clo (w := w) (cx := cx) f [] [] rfl (fun i x v hx _ => by simp at hx)
    simpa [Act.eval] using this
theorem RepA.c_inv {w : World} {cx : Cx} {x : CV} {v : Value} (h : RepA w cx (.c x) v) : RepC w cx x v ∧ (x ≠ .un → v.oneCell' = true) := by
  cases h with
  | un => exact ⟨.un v, fun h => absurd rfl h⟩
  | c _ _ ho h => exact ⟨h, fun _ => ho⟩
theorem RepC.p_inv {w : World} {cx : Cx} {x : PV} {v : Value} (h : RepC w cx (.p x) v) : RepP w cx.pr x v := by cases h with | p _ _ h => exact h
theorem RepA.p_inv {w : World} {cx : Cx} {x : PV} {v : Value} (h : RepA w cx (.c (.p x)) v) : RepP w cx.pr x v := h.c_inv.1.p_inv
theorem RepA.sc_inv {w : World} {cx : Cx} {u v : Value} (h : RepA w cx (.c (.p (.sc u))) v) : v = u ∧ plainV u = true := by
  have h' := h.p_inv
  cases h'
  exact ⟨rfl, by assumption⟩
theorem RepA.of_sc {w : World} {cx : Cx} {v : Value} (h : plainV v = true) : RepA w cx (.c (.p (.sc v))) v := by
  refine .c _ v ?_ (.p _ _ (.sc v h))
  cases v <;> simp_all [plainV, Value.oneCell']
theorem RepA.agg_inv {w : World} {cx : Cx} {l : List CV} {v : Value} (h : RepA w cx (.agg l) v) : ∃ vs : List Value, v = .agg vs.toArray ∧ l.length = vs.length ∧ (∀ u ∈ vs, u.oneCell' = true) ∧
    ∀ (i : Nat) (x : CV) (u : Value), l[i]? = some x → vs[i]? = some u → RepC w cx x u := by
  cases h with
  | agg _ vs hl ho h => exact ⟨vs, rfl, hl, ho, h⟩
theorem RepA.tup_inv {w : World} {cx : Cx} {l : List AV} {v : Value} (h : RepA w cx (.tup l) v) : ∃ vs : List Value, v = .tuple vs.toArray ∧ l.length = vs.length ∧
    ∀ (i : Nat) (x : AV) (u : Value), l[i]? = some x → vs[i]? = some u → RepA w cx x u := by
  cases h with
  | tup _ vs hl h => exact ⟨vs, rfl, hl, h⟩
/-- A value's cells. -/
structure RepCs (w : World) (cx : Cx) (l : List CV) (vs : List Value) : Prop where
  len : l.length = vs.length
  one : ∀ u ∈ vs, u.oneCell' = true
  rep : ∀ (i : Nat) (x : CV) (u : Value), l[i]? = some x → vs[i]? = some u → RepC w cx x u
theorem RepA.cells {w : World} {cx : Cx} {x : AV} {v : Value} (h : RepA w cx x v) {l : List CV} (hl : x.cells? = some l) : ∃ vs : List Value, v.cells = vs.toArray ∧ RepCs w cx l vs := by
  cases h with
  | un => simp [AV.cells?] at hl
  | c x v ho h =>
    have hx : x ≠ .un := by rintro rfl; simp [AV.cells?] at hl
    have : l = [x] := by cases x <;> simp_all [AV.cells?]
    subst this
    refine ⟨[v], by cases v <;> simp_all [Value.cells, Value.oneCell'], by simp, by simpa using ho, fun i y u hy hu => ?_⟩
    cases i with
    | zero => simp at hy hu; subst hy; subst hu; exact h
    | succ i => simp at hy
  | agg l' vs hl' ho h =>
    simp [AV.cells?] at hl
    subst hl
    exact ⟨vs, rfl, hl', ho, h⟩
  | tup => simp [AV.cells?] at hl
theorem RepCs.keep {w w' : World} {cx cx' : Cx} {l : List CV} {vs : List Value} (h : RepCs w cx l vs) (hm : ∀ r b, cx.β r = some b → cx'.β r = some b) (k : Lasts w cx.pr w' cx'.pr) : RepCs w' cx' l vs :=
  ⟨h.len, h.one, fun i x u hx hu => (h.rep i x u hx hu).keep hm k⟩
theorem pureA_rep {w : World} {cx : Cx} {x : AV} {v : Value} (h : RepA w cx x v) {l : List PV} (hl : pureA x = some l) : ∃ vs : List Value, v.cells = vs.toArray ∧ vs.length = l.length ∧ (∀ u ∈ vs, u.oneCell' = true) ∧
    ((∃ y, l = [y] ∧ x = .c (.p y)) ∨ (∃ cs, x = .agg cs ∧ v = .agg vs.toArray)) ∧
    ∀ (i : Nat) (y : PV) (u : Value), l[i]? = some y → vs[i]? = some u → RepP w cx.pr y u := by
  have go : ∀ (cs : List CV) (l : List PV), pureA.go cs = some l → cs.length = l.length ∧ ∀ (i : Nat) (y : PV), l[i]? = some y → cs[i]? = some (.p y) := by
    intro cs
    induction cs with
    | nil => intro l hl; simp [pureA.go] at hl; subst hl; simp
    | cons c cs ih =>
      intro l hl
      cases c with
      | p y =>
        simp only [pureA.go] at hl
        cases hg : pureA.go cs with
        | none => rw [hg] at hl; simp at hl
        | some l' =>
          rw [hg] at hl
          simp at hl
          subst hl
          obtain ⟨h1, h2⟩ := ih l' hg
          refine ⟨by simp [h1], fun i z hz => ?_⟩
          cases i with
          | zero => simp at hz ⊢; exact hz
          | succ i => simp at hz ⊢; exact h2 i z hz
      | _ => simp [pureA.go] at hl
  unfold pureA at hl
  split at hl
  · rename_i y
    injection hl with hl
    subst hl
    have hp := h.p_inv
    have ho := oneCell_of_pv hp
    refine ⟨[v], by cases v <;> simp_all [Value.cells, Value.oneCell'], by simp, by simpa using ho, .inl ⟨y, rfl, rfl⟩, fun i z u hz hu => ?_⟩
    cases i with
    | zero => simp at hz hu; subst hz; subst hu; exact hp
    | succ i => simp at hz
  · rename_i cs
    obtain ⟨vs, rfl, h1, ho, h2⟩ := h.agg_inv
    obtain ⟨h3, h4⟩ := go cs l hl
    refine ⟨vs, rfl, by omega, ho, .inr ⟨cs, rfl, rfl⟩, fun i y u hy hu => (h2 i _ u (h4 i y hy) hu).p_inv⟩
  · cases hl

/-! ### The frame of an operation's proof -/
def OK (P : Program) (o : Oper) (E : Env) (S' : St) (a : Act) (w : World) : Prop :=
  ∀ (K : Act → World → Prop) (Q : Exit → Act → World → Prop), (∀ v w' cx', Sim E S' (a.put o.dst v) w' cx' → K (a.put o.dst v) w') → o.wp P a w K Q
theorem OK.value {P : Program} {o : Oper} {E : Env} {S' : St} {a : Act} {w : World} {v : Value} {w' : World} {cx' : Cx} (hr : (execOp a.eval o).run P w = .ok (.value v) w') (hs : Sim E S' (a.put o.dst v) w' cx') : OK P o E S' a w := by
  intro K Q h
  unfold Oper.wp
  rw [hr]
  exact h v w' cx' hs
theorem OK.skip {P : Program} {o : Oper} {E : Env} {S' : St} {a : Act} {w : World} {w' : World} {cx' : Cx} (hr : (execOp a.eval o).run P w = .ok .skip w') (hs : Sim E S' (a.put o.dst undef) w' cx') : OK P o E S' a w := by
  intro K Q h
  unfold Oper.wp
  rw [hr]
  exact h undef w' cx' hs
theorem applyD_pure (S : St) (dst : Option Nat) (v : AV) : applyD S dst { val := v } = setSl S dst v := by
  cases dst <;> rfl
theorem OK.pure {P : Program} {o : Oper} {E : Env} {S : St} {a : Act} {w : World} {cx : Cx} (h : Sim E S a w cx) (hd : ∀ d, o.dst = some d → d < E.n) {x : AV} {v : Value} (hr : (execOp a.eval o).run P w = .ok (.value v) w) (hv : RepA w cx x v) : OK P o E (applyD S o.dst { val := x }) a w := by
  rw [applyD_pure]
  exact .value hr (h.put o.dst hd hv)

/-! ### Whole numbers, strings, Bools -/
theorem plain_int (k : IntKind) (n : Int) : plainV (.int k n) = true := rfl
theorem binOp_ints (P : Program) (w : World) (op : BinOp) (t : TypeId) (k k' : IntKind) (a b : Int) (X : AV) (h : binA P op t (.c (.p (.sc (.int k a)))) (.c (.p (.sc (.int k' b)))) = some X) (cx : Cx) :
    ∃ v, (binOp op t (.int k a) (.int k' b)).run P w = .ok v w ∧ RepA w cx X v := by
  cases op <;> simp only [binA, shiftOp, intOp, scB] at h
  case shl | shr =>
    split at h
    · cases h
    · rename_i hb
      injection h with h
      subst h
      exact ⟨_, by simp [binOp, Op.shift, hb], .of_sc rfl⟩
  case quo | rem =>
    split at h
    · rename_i hk
      split at h
      · cases h
      · rename_i hb
        injection h with h
        subst h
        exact ⟨_, by simp [binOp, hk, Op.intDiv, hb], .of_sc rfl⟩
    · cases h
  all_goals
    split at h
    · rename_i hk
      injection h with h
      subst h
      exact ⟨_, by simp [binOp, hk, Op.intArith, Op.intBits, Op.intCmp], .of_sc rfl⟩
    · cases h
theorem eqGuard_plain (P : Program) (w : World) (op : BinOp) (t : TypeId) (x y : Operand) (a b : Value) (ha : a ≠ .nilIface) (hn : ∀ cs, a ≠ .agg cs) : (eqGuard op t x y a b).run P w = .ok () w := by
  unfold eqGuard
  cases op <;> first | (simp; done) | skip
  all_goals
    cases a <;> first | (simp; done) | (exact absurd rfl ha) | (exact absurd rfl (hn _)) | skip
theorem binOp_strs (P : Program) (w : World) (op : BinOp) (t : TypeId) (a b : ByteArray) (X : AV) (h : binA P op t (.c (.p (.sc (.string a)))) (.c (.p (.sc (.string b)))) = some X) (cx : Cx) :
    ∃ v, (binOp op t (.string a) (.string b)).run P w = .ok v w ∧ RepA w cx X v := by
  cases op <;> simp only [binA, strOp, scS, scB] at h <;> first | cases h | skip
  case add =>
    split at h
    · rename_i hb
      injection h with h
      subst h
      refine ⟨.string (a ++ b), ?_, .of_sc rfl⟩
      have hm : IntKind.i64.max = 9223372036854775807 := by decide
      simp [binOp, Op.stringOp, hm]
      omega
    · cases h
  all_goals exact ⟨_, by simp [binOp, Op.stringOp], .of_sc rfl⟩
theorem equal_bools {P : Program} {t : TypeId} (hu : P.underlying t = some .bool) (w : World) (d : Nat) (a b : Bool) : (Op.equalIn (d + 1) t (.bool a) (.bool b)).run P w = .ok (a == b) w := by
  simp [Op.equalIn, run_underlying hu]
theorem equal_depth (t : TypeId) (x y : Value) : Op.equal t x y = Op.equalIn (9999 + 1) t x y := rfl
theorem binOp_bools (P : Program) (w : World) (op : BinOp) (t : TypeId) (a b : Bool) (X : AV) (h : binA P op t (.c (.p (.sc (.bool a)))) (.c (.p (.sc (.bool b)))) = some X) (cx : Cx) :
    ∃ v, (binOp op t (.bool a) (.bool b)).run P w = .ok v w ∧ RepA w cx X v := by
  simp only [binA] at h
  split at h
  · rename_i hu
    injection h with h
    subst h
    exact ⟨.bool (a == b), by simp only [binOp, equal_depth, Sem.run_bind, equal_bools hu, Result.andThen_ok, Sem.run_pure], .of_sc rfl⟩
  · rename_i hu
    injection h with h
    subst h
    exact ⟨.bool (!(a == b)), by simp only [binOp, equal_depth, Sem.run_bind, equal_bools hu, Result.andThen_ok, Sem.run_pure], .of_sc rfl⟩
  · cases h
theorem un_rep (P : Program) (w : World) (cx : Cx) (op : UnOp) (x X : AV) (v : Value) (hx : RepA w cx x v) (h : unA op x = some X) : ∃ u, (Op.unary op v).run P w = .ok u w ∧ RepA w cx X u := by
  unfold unA at h
  split at h
  · rename_i b
    injection h with h; subst h
    obtain ⟨rfl, _⟩ := hx.sc_inv
    exact ⟨_, by simp [Op.unary], .of_sc rfl⟩
  · rename_i k n
    injection h with h; subst h
    obtain ⟨rfl, _⟩ := hx.sc_inv
    exact ⟨_, by simp [Op.unary, Op.intArith], .of_sc rfl⟩
  · rename_i k n
    obtain ⟨rfl, _⟩ := hx.sc_inv
    simp only [intOp] at h
    injection h with h; subst h
    exact ⟨_, by simp [Op.unary, Op.intBits], .of_sc rfl⟩
  · cases h

end Go.Am
