/-
  AM, PART 21: every operation but a call of a function, together.
-/
import Derived.Test.YtipgpamialaflaaGreatAm20
set_option linter.unusedVariables false
set_option linter.unusedSimpArgs false
set_option linter.unnecessarySimpa false
namespace Go.Am
open Go Go.RowKit Go.Lib

theorem map_one {α β : Type} {f : α → β} {l : List α} {x : β} (h : l.map f = [x]) : ∃ y, l = [y] ∧ f y = x := by
  match l, h with
  | [y], h => simp at h; exact ⟨y, rfl, h⟩
theorem map_two {α β : Type} {f : α → β} {l : List α} {x y : β} (h : l.map f = [x, y]) : ∃ p q, l = [p, q] ∧ f p = x ∧ f q = y := by
  match l, h with
  | [p, q], h => simp at h; exact ⟨p, q, rfl, h.1, h.2⟩
section
variable {P : Program} {o : Oper} {E : Env} {S : St} {a : Act} {w : World} {cx : Cx} {look : Root → Option Ob} {d : Nat} {δ : Delta}

theorem append_run {c : Call} (ho : o.op = .call c) (hc : c.callee = .builtin .append) {t t' : TypeId} (hts : c.argTypes = #[t, t']) {x y : Operand} (has : c.args = #[x, y]) : ∀ w' v', (Builtin.append_ #[t, t'] o.type #[a.eval x, a.eval y]).run P w = .ok v' w' → (execOp a.eval o).run P w = .ok (.value v') w' :=
  fun w' v' hr => builtin_run ho hc (Builtin.append_ #[t, t'] o.type #[a.eval x, a.eval y]) (fun cs => by simp [builtin, hts, has]) hr
theorem append_OK (h : Sim E S a w cx) (hd : ∀ d, o.dst = some d → d < E.n) (hl : Sub look S.hp) (hld : d ≠ PAR ∧ look (d, 0) = S.hp (d, 0)) {c : Call} (ho : o.op = .call c) (hc : c.callee = .builtin .append) {t t' : TypeId} (hts : c.argTypes = #[t, t']) {x y : Operand} (has : c.args = #[x, y])
    {e : TypeId} {k by_ : Nat} {z : List CV} (he : elemB P t = some e) (hk : sizeB P e = some k) (hb : (P.info? e).map (·.bytes) = some by_) (hz : zeroB P e = some z) (hk0 : 0 < k) (hby : by_ ≤ 16384) (hzl : z.length = k) {ys : List (List PV)}
    (hy : (∃ q, Am.ov S.sl y = .c (.p (.sc (.string q))) ∧ P.underlying t' = some .string ∧ k = 1 ∧ by_ = 1 ∧ zeroAgg P e = false ∧ z = [.p (.sc (.int .u8 0))] ∧ ys = bytesPV q) ∨ (t = t' ∧ elemsA look k (Am.ov S.sl y) = some ys)) :
    (Am.ov S.sl x = .c .nl → ys.length ≤ LIM → OK P o E (applyD S o.dst (new1 look d (.c (.arr (d, 0) k)) (.arr e k ys false))) a w) ∧
    (∀ r xs s, Am.ov S.sl x = .c (.arr r k) → look r = some (.arr e k xs s) → xs.length + ys.length ≤ LIM → OK P o E (applyD S o.dst { val := .c (.arr (d, 0) k), ups := [((d, 0), some (.arr e k (xs ++ ys) s))], kills := r :: stale look (d, 0) }) a w) := by
  obtain ⟨i, zv, hi, hzv, hrep⟩ := zeroB_info hz
  have hib : i.bytes = by_ := by rw [hi] at hb; simpa using hb
  obtain ⟨i', hi', hisz⟩ := elB_info hk
  rw [hi] at hi'
  injection hi' with hi'
  subst hi'
  have hzs : zv.cells.size = k := by
    have := (hrep w cx).len
    rw [show zv.cells.size = zv.cells.toList.length from Array.length_toList.symm, ← this, hzl]
  have key : ∃ n1, RepE w cx.pr k ys n1 ∧ ∀ v n n0, w.ownsRow 0 e k v n n0 → n + ys.length ≤ LIM → AppendGives P w t t' o.type e k v (a.eval y) n n0 ys.length n1 := by
    rcases hy with ⟨q, hq, ht', rfl, rfl, hza, rfl, rfl⟩ | ⟨rfl, hel⟩
    · have hv := h.ov y
      rw [hq] at hv
      have hyv := hv.sc_inv.1
      have hz0 : zv = .int .u8 0 := by
        have h1 := (hrep w cx).rep 0 (.p (.sc (.int .u8 0))) 
        have hlen := (hrep w cx).len
        cases hcs : zv.cells.toList with
        | nil => rw [hcs] at hlen; simp at hlen
        | cons u us =>
          have h2 := h1 u rfl (by rw [hcs]; rfl)
          have h3 := h2.p_inv
          cases h3
          rw [hcs] at hlen
          have : us = [] := List.eq_nil_of_length_eq_zero (by simpa using hlen.symm)
          subst this
          have h4 : zv.cells = #[.int .u8 0] := by
            apply Array.ext'
            rw [hcs]
          have h5 : ∀ cs, zv ≠ .agg cs := by
            intro cs e5
            subst e5
            unfold zeroAgg at hza
            rw [hi] at hza
            simp [hzv] at hza
          cases zv with
          | agg cs => exact absurd rfl (h5 cs)
          | _ => simpa [Value.cells] using h4
      subst hz0
      refine ⟨strCells q, bytesE w cx.pr q, fun v n n0 hown hlim => ?_⟩
      rw [hyv]
      exact append_str_gives (elemB_some he) ht' hi hzv hisz hib hown hlim
    · obtain ⟨news, hr⟩ := elems_rep h.good hl hk0 (h.ov y) hel
      exact ⟨news, hr.e, fun v n n0 hown hlim => append_gives (elemB_some he) hi hzv hisz (by rw [hib]; exact hby) hzs hk0 hown hr hlim⟩
  obtain ⟨n1, hE, hgives⟩ := key
  refine ⟨fun hx hlim => ?_, fun r xs s hx hr hlim => ?_⟩
  · have hv := h.ov x
    rw [hx] at hv
    have hxv : a.eval x = .slice none 0 0 := by
      have h' := hv.c_inv.1
      generalize a.eval x = V at h'
      cases h'
      rfl
    exact append_none_OK h hd hld hxv (append_run ho hc hts has) hk0 hE (by rw [hxv]; exact hgives _ _ _ (World.ownsRow_nil _ _ _ _) (by omega))
  · have hv := h.ov x
    rw [hx] at hv
    have h' := hv.c_inv.1
    generalize hV : a.eval x = V at h'
    cases h' with
    | arr _ _ _ hβ =>
      exact append_row_OK (v := a.eval x) h hd hl hld hr (by rw [hV]; exact hβ) (append_run ho hc hts has) hk0 hE (fun n0 hown => hgives _ _ _ hown hlim)
theorem builtinA_OK (h : Sim E S a w cx) (hd : ∀ d, o.dst = some d → d < E.n) (hl : Sub look S.hp) (hld : d ≠ PAR ∧ look (d, 0) = S.hp (d, 0)) {c : Call} (ho : o.op = .call c) {b : Builtin} (hc : c.callee = .builtin b) (hb : builtinA P look d b c.argTypes.toList (c.args.toList.map (Am.ov S.sl)) = some δ) : OK P o E (applyD S o.dst δ) a w := by
  generalize hts : c.argTypes.toList = ts at hb
  generalize has : c.args.toList.map (Am.ov S.sl) = as at hb
  unfold builtinA at hb
  split at hb
  · rename_i t x
    obtain ⟨y, hy, hyx⟩ := map_one has
    have hA := arr1 hts
    have hB := arr1 hy
    have hv := h.ov y
    split at hb
    · rename_i e hu
      injection hb with hb; subst hb
      rw [hyx] at hv
      have h' := hv.c_inv.1
      generalize hV : a.eval y = V at h'
      cases h'
      exact len_OK (n := 0) h hd ho hc hA hB (by rw [hV]; exact len_slice hu _ _ _)
    · rename_i e k xs hu
      injection hb with hb; subst hb
      rw [hyx] at hv
      obtain ⟨A, cap, hs, _, _⟩ := hv.p_inv.part (Nat.le_refl 0) (Nat.zero_le _)
      exact len_OK h hd ho hc hA hB (by rw [hs]; exact len_slice hu _ _ _)
    · rename_i s hu
      injection hb with hb; subst hb
      rw [hyx] at hv
      exact len_OK h hd ho hc hA hB (by rw [hv.sc_inv.1]; exact len_string hu s)
    · rename_i e r k hu
      split at hb
      · rename_i e' k' xs s hlk
        injection hb with hb; subst hb
        rw [hyx] at hv
        have h' := hv.c_inv.1
        generalize hV : a.eval y = V at h'
        cases h' with
        | arr _ _ _ hβ =>
          refine len_OK h hd ho hc hA hB ?_
          rw [hV]
          rcases row_slice (h.good.rep r _ (hl r _ hlk)) hβ with ⟨h1, h2⟩ | ⟨g, cap, h1, _, _⟩
          · subst h1; subst h2; exact len_slice hu _ _ _
          · subst h1; exact len_slice hu _ _ _
      · cases hb
    · rename_i kt et r hu
      split at hb
      · rename_i ka va es hlk
        injection hb with hb; subst hb
        rw [hyx] at hv
        obtain ⟨g, ents, M⟩ := h.map_at (hl r _ hlk)
        refine len_OK h hd ho hc hA hB ?_
        rw [mp_val hv M.β, ← M.size]
        exact len_map hu M.heap
      · cases hb
    · cases hb
  · rename_i k m k' n
    injection hb with hb; subst hb
    obtain ⟨p, q, hpq, hp, hq⟩ := map_two has
    exact max_OK h hd ho hc (arr2 hpq) hp hq
  · rename_i k m k' n
    injection hb with hb; subst hb
    obtain ⟨p, q, hpq, hp, hq⟩ := map_two has
    exact min_OK h hd ho hc (arr2 hpq) hp hq
  · rename_i t t' s x
    obtain ⟨p, q, hpq, hp, hq⟩ := map_two has
    have hA := arr2 hts
    have hB := arr2 hpq
    split at hb
    · cases hb
    · rename_i e he
      split at hb
      · rename_i k by_ z hk hby hz
        split at hb
        · cases hb
        · rename_i hcond
          have hk0 : 0 < k := by omega
          have h1 : by_ ≤ 16384 := by omega
          have h2 : z.length = k := by omega
          simp only at hb
          split at hb
          · cases hb
          · rename_i ys hys
            have hy : (∃ q', Am.ov S.sl q = .c (.p (.sc (.string q'))) ∧ P.underlying t' = some .string ∧ k = 1 ∧ by_ = 1 ∧ zeroAgg P e = false ∧ z = [.p (.sc (.int .u8 0))] ∧ ys = bytesPV q') ∨ (t = t' ∧ elemsA look k (Am.ov S.sl q) = some ys) := by
              rw [hq]
              split at hys
              · rename_i q'
                left
                have hu : P.underlying t' = some .string := by
                  cases hu : P.underlying t' with
                  | none => rw [hu] at hys; simp at hys
                  | some dd => cases dd <;> rw [hu] at hys <;> first | rfl | (simp at hys; done)
                rw [hu] at hys
                simp only [if_true] at hys
                split at hys
                · rename_i hk1
                  split at hys
                  · injection hys with hys
                    exact ⟨q', rfl, hu, hk1.1, hk1.2.1, hk1.2.2, rfl, hys.symm⟩
                  · cases hys
                · cases hys
              · split at hys
                · rename_i ht
                  exact .inr ⟨ht, hys⟩
                · cases hys
            obtain ⟨g1, g2⟩ := append_OK h hd hl hld ho hc hA hB he hk hby hz hk0 h1 h2 hy
            split at hb
            · split at hb
              · rename_i hlim
                injection hb with hb; subst hb
                exact g1 hp hlim
              · cases hb
            · rename_i r k'
              split at hb
              · rename_i e' k'' xs sealed hlk
                split at hb
                · rename_i hcc
                  obtain ⟨rfl, rfl, rfl, hlim⟩ := hcc
                  injection hb with hb; subst hb
                  exact g2 r xs sealed hp hlk hlim
                · cases hb
              · cases hb
            · cases hb
      · cases hb
  · cases hb
end
end Go.Am
