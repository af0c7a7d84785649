/-
  AM, PART 7: comparing structs and pointers; reading.
-/
import Derived.Test.YtipgpamialaflaaGreatAm6
import Derived.Laws.StructEq
set_option linter.unusedVariables false
set_option linter.unusedSimpArgs false
namespace Go.Am
open Go Go.RowKit

/-! ### Structs -/
def RepPs (w : World) (pr : Nat → Nat → Prop) (l : List PV) (vs : List Value) : Prop :=
  l.length = vs.length ∧ (∀ u ∈ vs, u.oneCell' = true) ∧ ∀ (i : Nat) (x : PV) (u : Value), l[i]? = some x → vs[i]? = some u → RepP w pr x u
def valT (P : Program) (t : TypeId) (vs : List Value) : Value := if aggB P t then .agg vs.toArray else vs.headD undef
theorem cut_some {α : Type} {l : List α} {off s : Nat} {m : List α} (h : cut l off s = some m) : m = (l.drop off).take s ∧ m.length = s ∧ off + s ≤ l.length ∨ s = 0 ∧ m = [] := by
  unfold cut at h
  simp only at h
  cases hb : Nat.beq ((l.drop off).take s).length s with
  | false => rw [hb] at h; cases h
  | true =>
    rw [hb] at h
    injection h with h
    have hl := Nat.eq_of_beq_eq_true hb
    subst h
    by_cases hs : s = 0
    · right; subst hs; simp
    · left
      refine ⟨rfl, hl, ?_⟩
      rw [List.length_take, List.length_drop] at hl
      omega
theorem cut_get {α : Type} {l : List α} {off s : Nat} {m : List α} (h : cut l off s = some m) (i : Nat) (hi : i < s) : m[i]? = l[off + i]? := by
  rcases cut_some h with ⟨rfl, _, _⟩ | ⟨rfl, rfl⟩
  · rw [List.getElem?_take, if_pos hi, List.getElem?_drop]
  · omega
theorem cut_length {α : Type} {l : List α} {off s : Nat} {m : List α} (h : cut l off s = some m) : m.length = s := by
  rcases cut_some h with ⟨_, h1, _⟩ | ⟨rfl, rfl⟩
  · exact h1
  · rfl
theorem RepPs.cut {w : World} {pr : Nat → Nat → Prop} {l m : List PV} {vs : List Value} (h : RepPs w pr l vs) {off s : Nat} (hc : Am.cut l off s = some m) : RepPs w pr m ((vs.drop off).take s) := by
  have hml := cut_length hc
  refine ⟨?_, fun u hu => h.2.1 u (List.mem_of_mem_drop (List.mem_of_mem_take hu)), fun i x u hx hu => ?_⟩
  · rcases cut_some hc with ⟨_, h1, h2⟩ | ⟨rfl, rfl⟩
    · rw [h1, List.length_take, List.length_drop, ← h.1]; omega
    · simp
  · have hi : i < s := by rw [← hml]; exact (List.getElem?_eq_some_iff.1 hx).1
    rw [cut_get hc i hi] at hx
    rw [List.getElem?_take, if_pos hi, List.getElem?_drop] at hu
    exact h.2.2 _ x u hx hu
theorem run_isAgg (P : Program) {t : TypeId} {d : TypeDesc} (h : P.underlying t = some d) (w : World) : (isAgg t).run P w = .ok (aggB P t) w := by
  unfold isAgg aggB
  simp only [Sem.run_bind, run_underlying h, Result.andThen_ok, h]
  cases d <;> rfl
theorem underlying_of_info {P : Program} {t : TypeId} {s : Nat} (h : sizeB P t = some s) : ∃ i, P.info? t = some i ∧ i.size = s := by
  unfold sizeB at h
  split at h
  · rename_i i d hi hd
    injection h with h
    exact ⟨i, hi, h⟩
  · cases h
theorem underlying_of_size {P : Program} {t : TypeId} {s : Nat} (h : sizeB P t = some s) : ∃ d, P.underlying t = some d := by
  unfold sizeB at h
  split at h
  · rename_i i d hi hd
    exact ⟨d, hd⟩
  · cases h
theorem run_sizeB {P : Program} {t : TypeId} {s : Nat} (h : sizeB P t = some s) (w : World) : (sizeOf t).run P w = .ok s w := by
  obtain ⟨i, hi, hs⟩ := underlying_of_info h
  simp [sizeOf, typeInfo, hi, hs]
theorem run_part {P : Program} {t : TypeId} {d : TypeDesc} (hu : P.underlying t = some d) {s : Nat} (hs : sizeB P t = some s) (vs : List Value) (off : Nat) (h : off + s ≤ vs.length) (h1 : aggB P t = true ∨ s = 1) (w : World) :
    (part t vs.toArray off).run P w = .ok (valT P t ((vs.drop off).take s)) w := by
  unfold part valT
  simp only [Sem.run_bind, run_isAgg P hu, Result.andThen_ok, Sem.run_ite]
  cases ha : aggB P t with
  | true =>
    simp only [if_true, Sem.run_bind, run_sizeB hs, Result.andThen_ok, Sem.run_pure]
    congr 2
    simp [List.extract_toArray, List.extract]
  | false =>
    have hs1 : s = 1 := by rcases h1 with h1 | h1 <;> simp_all
    subst hs1
    have hlt : off < vs.length := by omega
    simp only [Bool.false_eq_true, if_false, List.getElem?_toArray, List.getElem?_eq_getElem hlt, Sem.run_pure]
    congr 1
    rw [List.drop_eq_getElem_cons hlt]
    rfl
theorem eqA_run {P : Program} {w : World} {pr : Nat → Nat → Prop} : ∀ (d : Nat) (t : TypeId) (xs ys : List PV) (b : Bool), eqA P d t xs ys = some b → ∀ (D : Nat), d ≤ D → ∀ (vx vy : List Value), RepPs w pr xs vx → RepPs w pr ys vy →
    (Op.equalIn D t (valT P t vx) (valT P t vy)).run P w = .ok b w := by
  intro d
  induction d with
  | zero => intro t xs ys b h; simp [eqA] at h
  | succ d ih =>
    intro t xs ys b h D hD vx vy hx hy
    obtain ⟨D, rfl⟩ : ∃ m, D = m + 1 := ⟨D - 1, by omega⟩
    have one : ∀ {l : List PV} {vs : List Value} {u : Value}, RepPs w pr l vs → l = [.sc u] → vs = [u] := by
      intro l vs u h e
      subst e
      obtain ⟨h1, _, h2⟩ := h
      match vs, h1 with
      | [v], _ =>
        have := h2 0 _ _ rfl rfl
        cases this
        rfl
    have notagg : ∀ {dd : TypeDesc}, P.underlying t = some dd → (match dd with | .struct _ | .array _ _ => true | _ => false) = false → aggB P t = false := by
      intro dd hu hd
      unfold aggB
      rw [hu]
      cases dd <;> simp_all
    unfold eqA at h
    cases hu : P.underlying t with
    | none => rw [hu] at h; cases h
    | some dd =>
      rw [hu] at h
      cases dd <;> simp only at h <;> try (cases h; done)
      case bool =>
        split at h
        · injection h with h; subst h
          rw [one hx rfl, one hy rfl]
          unfold valT
          rw [notagg hu rfl]
          exact run_equalIn_bool' w D t _ _ hu
        · cases h
      case int k =>
        split at h
        · split at h
          · rename_i hk
            injection h with h; subst h; subst hk
            rw [one hx rfl, one hy rfl]
            unfold valT
            rw [notagg hu rfl]
            exact run_equalIn_int w D t _ k _ _ hu
          · cases h
        · cases h
      case string =>
        split at h
        · injection h with h; subst h
          rw [one hx rfl, one hy rfl]
          unfold valT
          rw [notagg hu rfl]
          rename_i a b
          rw [beq_toListBytes]
          exact run_equalIn_string w D t _ _ hu
        · cases h
      case struct fs =>
        split at h
        · cases h
        · rename_i hp
          have hagg : aggB P t = true := by unfold aggB; rw [hu]
          have hf : P.fieldsOf t = fs := by unfold Program.fieldsOf; rw [hu]
          unfold valT
          simp only [hagg, if_true]
          rw [run_equalIn_struct w D t _ _ (by rw [hf]; exact hu) (by simpa using hp), hf]
          generalize fs.toList = l at h
          clear hf hu hagg
          induction l generalizing b with
          | nil => simp only [eqFs] at h; injection h with h; subst h; simp [Op.eqFields]
          | cons f l ihl =>
            simp only [eqFs] at h
            split at h
            · cases h
            · rename_i hn
              split at h
              · cases h
              · rename_i s hs
                split at h
                · rename_i x y hcx hcy
                  split at h
                  · rename_i b1 r hb1 hr
                    injection h with h; subst h
                    -- the part's type
                    obtain ⟨dd, hud⟩ : ∃ dd, P.underlying f.type = some dd := by
                      cases hq : P.underlying f.type with
                      | some dd => exact ⟨dd, rfl⟩
                      | none =>
                        cases d with
                        | zero => simp [eqA] at hb1
                        | succ d => unfold eqA at hb1; rw [hq] at hb1; cases hb1
                    have h1 : aggB P f.type = true ∨ s = 1 := by
                      cases hag : aggB P f.type with
                      | true => exact .inl rfl
                      | false =>
                        right
                        have hxl := cut_length hcx
                        cases d with
                        | zero => simp [eqA] at hb1
                        | succ d =>
                          unfold eqA at hb1
                          rw [hud] at hb1
                          cases dd <;> simp only at hb1 <;> try (cases hb1; done)
                          case struct => simp [aggB, hud] at hag
                          all_goals
                            split at hb1
                            · simp at hxl; exact hxl.symm
                            · cases hb1
                    have fit : ∀ {l m : List PV} {vs : List Value}, RepPs w pr l vs → cut l f.offset s = some m → s ≠ 0 → f.offset + s ≤ vs.length := by
                      intro l m vs h hc h0
                      rcases cut_some hc with ⟨_, _, h2⟩ | ⟨h2, _⟩
                      · rw [← h.1]; exact h2
                      · exact absurd h2 h0
                    by_cases h0 : s = 0
                    · -- a part without cells: a struct without fields
                      subst h0
                      have hag : aggB P f.type = true := by rcases h1 with h1 | h1; exact h1; cases h1
                      have hpart : ∀ (vs : List Value), (part f.type vs.toArray f.offset).run P w = .ok (valT P f.type ((vs.drop f.offset).take 0)) w := by
                        intro vs
                        unfold part valT
                        simp only [Sem.run_bind, run_isAgg P hud, hag, Result.andThen_ok, if_true, run_sizeB hs, Sem.run_pure]
                        congr 2
                        simp [List.extract_toArray, List.extract]
                      simp only [Op.eqFields, ne_eq, hn, not_false_eq_true, if_true, Sem.run_bind, hpart, Result.andThen_ok, ih f.type x y b1 hb1 D (by omega) _ _ (hx.cut hcx) (hy.cut hcy)]
                      cases b1
                      · simp
                      · simpa using ihl r hr
                    · simp only [Op.eqFields, ne_eq, hn, not_false_eq_true, if_true, Sem.run_bind, run_part hud hs _ _ (fit hx hcx h0) h1, run_part hud hs _ _ (fit hy hcy h0) h1, Result.andThen_ok,
                        ih f.type x y b1 hb1 D (by omega) _ _ (hx.cut hcx) (hy.cut hcy)]
                      cases b1
                      · simp
                      · simpa using ihl r hr
                  · cases h
                · cases h
theorem isPtr_rep {w : World} {cx : Cx} {x : AV} {v : Value} (h : RepA w cx x v) (hp : isPtr x = true) : ∃ a, v = .pointer (some a) := by
  unfold isPtr at hp
  split at hp
  · have h' := h.p_inv; cases h'; exact ⟨_, rfl⟩
  · have h' := h.c_inv.1; cases h'; exact ⟨_, rfl⟩
  · have h' := h.c_inv.1; cases h'; exact ⟨_, rfl⟩
  · have h' := h.c_inv.1; cases h'; exact ⟨_, rfl⟩
  · cases hp
theorem isNil_rep {w : World} {cx : Cx} {x : AV} {v : Value} (h : RepA w cx x v) (hp : isNilPtr x = true) : v = .pointer none := by
  unfold isNilPtr at hp
  split at hp
  · exact h.sc_inv.1
  · cases hp
theorem equal_ptr_nil {P : Program} {t e : TypeId} (hu : P.underlying t = some (.pointer e)) (w : World) (d : Nat) (a : Addr) : (Op.equalIn (d + 1) t (.pointer (some a)) (.pointer none)).run P w = .ok false w := by
  simp [Op.equalIn, run_underlying hu]
theorem equal_nil_ptr {P : Program} {t e : TypeId} (hu : P.underlying t = some (.pointer e)) (w : World) (d : Nat) (b : Option Addr) : (Op.equalIn (d + 1) t (.pointer none) (.pointer b)).run P w = .ok b.isNone w := by
  simp [Op.equalIn, run_underlying hu]
theorem pureA_RepPs {w : World} {cx : Cx} {x : AV} {v : Value} (h : RepA w cx x v) {l : List PV} (hl : pureA x = some l) : ∃ vs : List Value, v.cells = vs.toArray ∧ RepPs w cx.pr l vs := by
  obtain ⟨vs, h1, h2, h3, _, h4⟩ := pureA_rep h hl
  exact ⟨vs, h1, h2.symm, h3, h4⟩
set_option maxHeartbeats 1000000 in
theorem binA_rep (P : Program) (w : World) (cx : Cx) (op : BinOp) (t : TypeId) (px py : Operand) (x y X : AV) (u v : Value) (hx : RepA w cx x u) (hy : RepA w cx y v) (h : binA P op t x y = some X) :
    ∃ r, (do eqGuard op t px py u v; binOp op t u v : Sem Value).run P w = .ok r w ∧ RepA w cx X r := by
  have plain : ∀ r, (∀ cs, u ≠ .agg cs) → u ≠ .nilIface → (binOp op t u v).run P w = .ok r w → (do eqGuard op t px py u v; binOp op t u v : Sem Value).run P w = .ok r w := by
    intro r h1 h2 h3
    simp only [Sem.run_bind, eqGuard_plain P w op t px py u v h2 h1, Result.andThen_ok, h3]
  unfold binA at h
  split at h
  · rename_i k a k' b
    obtain ⟨rfl, _⟩ := hx.sc_inv
    obtain ⟨rfl, _⟩ := hy.sc_inv
    obtain ⟨r, h1, h2⟩ := binOp_ints P w op t k k' a b X (by simpa [binA] using h) cx
    exact ⟨r, plain r (by simp) (by simp) h1, h2⟩
  · rename_i a b
    obtain ⟨rfl, _⟩ := hx.sc_inv
    obtain ⟨rfl, _⟩ := hy.sc_inv
    obtain ⟨r, h1, h2⟩ := binOp_strs P w op t a b X (by simpa [binA] using h) cx
    exact ⟨r, plain r (by simp) (by simp) h1, h2⟩
  · rename_i a b
    obtain ⟨rfl, _⟩ := hx.sc_inv
    obtain ⟨rfl, _⟩ := hy.sc_inv
    obtain ⟨r, h1, h2⟩ := binOp_bools P w op t a b X (by simpa [binA] using h) cx
    exact ⟨r, plain r (by simp) (by simp) h1, h2⟩
  · rename_i l l'
    split at h
    · cases h
    · rename_i hg
      split at h
      · rename_i xs ys hxs hys
        obtain ⟨vx, hvx, hrx⟩ := pureA_RepPs hx hxs
        obtain ⟨vy, hvy, hry⟩ := pureA_RepPs hy hys
        obtain ⟨ux, rfl, _, _⟩ := hx.agg_inv
        obtain ⟨uy, rfl, _, _⟩ := hy.agg_inv
        have hvx' : ux = vx := by simpa [Value.cells] using hvx
        have hvy' : uy = vy := by simpa [Value.cells] using hvy
        subst hvx'
        subst hvy'
        simp only [Bool.or_eq_true, Bool.not_eq_true', not_or, Bool.not_eq_true, Bool.not_eq_false] at hg
        obtain ⟨hgd, hag⟩ := hg
        have hval : ∀ vs : List Value, valT P t vs = .agg vs.toArray := by intro vs; unfold valT; rw [hag]; rfl
        split at h
        · rename_i b hb
          injection h with h; subst h
          have hr := eqA_run 12 t xs ys b hb 10000 (by omega) _ _ hrx hry
          rw [hval, hval] at hr
          refine ⟨.bool b, ?_, .of_sc rfl⟩
          simp only [Sem.run_bind, run_eqGuard_agg w .eql t px py _ _ hgd, Result.andThen_ok, run_eql_struct, hr]
        · rename_i b hb
          injection h with h; subst h
          have hr := eqA_run 12 t xs ys b hb 10000 (by omega) _ _ hrx hry
          rw [hval, hval] at hr
          refine ⟨.bool (!b), ?_, .of_sc rfl⟩
          simp only [Sem.run_bind, run_eqGuard_agg w .neq t px py _ _ hgd, Result.andThen_ok, run_neq_struct, hr]
        · cases h
      · cases h
  · split at h
    · rename_i e hu
      split at h
      · rename_i hc
        simp only [Bool.or_eq_true, Bool.and_eq_true] at hc
        have heq : (Op.equal t u v).run P w = .ok false w := by
          rcases hc with ⟨h1, h2⟩ | ⟨h1, h2⟩
          · obtain ⟨a, rfl⟩ := isPtr_rep hx h1
            obtain rfl := isNil_rep hy h2
            rw [equal_depth]
            exact equal_ptr_nil hu w 9999 a
          · obtain ⟨a, rfl⟩ := isPtr_rep hy h2
            obtain rfl := isNil_rep hx h1
            rw [equal_depth]
            exact equal_nil_ptr hu w 9999 (some a)
        have hptr : ∃ p q, u = .pointer p ∧ v = .pointer q := by
          rcases hc with ⟨h1, h2⟩ | ⟨h1, h2⟩
          · obtain ⟨a, rfl⟩ := isPtr_rep hx h1
            exact ⟨_, _, rfl, isNil_rep hy h2⟩
          · obtain ⟨a, rfl⟩ := isPtr_rep hy h2
            exact ⟨_, _, isNil_rep hx h1, rfl⟩
        obtain ⟨p, q, rfl, rfl⟩ := hptr
        split at h
        · injection h with h; subst h
          exact ⟨.bool false, plain _ (by simp) (by simp) (by simp [binOp, heq]), .of_sc rfl⟩
        · injection h with h; subst h
          exact ⟨.bool true, plain _ (by simp) (by simp) (by simp [binOp, heq]), .of_sc rfl⟩
        · cases h
      · split at h
        · rename_i hc
          simp only [Bool.and_eq_true] at hc
          obtain rfl := isNil_rep hx hc.1
          obtain rfl := isNil_rep hy hc.2
          have heq : (Op.equal t (.pointer none) (.pointer none)).run P w = .ok true w := by
            rw [equal_depth]
            exact equal_nil_ptr hu w 9999 none
          split at h
          · injection h with h; subst h
            exact ⟨.bool true, plain _ (by simp) (by simp) (by simp [binOp, heq]), .of_sc rfl⟩
          · injection h with h; subst h
            exact ⟨.bool false, plain _ (by simp) (by simp) (by simp [binOp, heq]), .of_sc rfl⟩
          · cases h
        · cases h
    · cases h

end Go.Am
