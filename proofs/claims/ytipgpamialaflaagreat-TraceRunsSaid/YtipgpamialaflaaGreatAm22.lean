/-
  AM, PART 22: what one operation does, sound.
-/
import Derived.Test.YtipgpamialaflaaGreatAm21
set_option linter.unusedVariables false
set_option linter.unusedSimpArgs false
set_option linter.unnecessarySimpa false
namespace Go.Am
open Go Go.RowKit Go.Lib

section
variable {P : Program} {o : Oper} {E : Env} {S : St} {a : Act} {w : World} {cx : Cx} {look : Root → Option Ob} {d : Nat} {δ : Delta} {hints : Nat → Hint} {call : Nat → List AV → List Ob → Option Ret}

set_option maxHeartbeats 2000000 in
theorem dval_OK (h : Sim E S a w cx) (hd : ∀ d, o.dst = some d → d < E.n) (hl : Sub look S.hp) (hld : d ≠ PAR ∧ look (d, 0) = S.hp (d, 0))
    (hcall : ∀ (c : Call) (f : Operand) (g : Nat) (caps : List CV) (δ : Delta), o.op = .call c → c.callee = .value f → Am.ov S.sl f = .c (.clo g caps) → callA P hints call look d g (c.args.toList.map (Am.ov S.sl) ++ caps.map .c) = some δ → OK P o E (applyD S o.dst δ) a w)
    (hv : dval P hints call look d S.sl o = some δ) : OK P o E (applyD S o.dst δ) a w := by
  unfold dval at hv
  split at hv
  · rename_i x ho
    injection hv with hv; subst hv
    exact .pure h hd (v := a.eval x) (by simp only [execOp, ho, Sem.run_pure]) (h.ov x)
  · rename_i x ho
    injection hv with hv; subst hv
    exact .pure h hd (v := a.eval x) (by simp only [execOp, ho, Sem.run_pure]) (h.ov x)
  · rename_i c x y ho
    split at hv
    · rename_i t hc
      injection hv with hv; subst hv
      exact pick_OK h hd ho hc
    · cases hv
  · rename_i t ho
    split at hv
    · rename_i z hz
      injection hv with hv; subst hv
      exact alloc_OK h hd hld ho hz
    · cases hv
  · rename_i t x ho
    split at hv
    · rename_i l hx
      injection hv with hv; subst hv
      exact box_OK h hd hld ho hx
    · cases hv
  · rename_i t parts ho
    split at hv
    · rename_i fs z hu hz
      cases hall : fs.toList.all (fun f => (P.info? f.type).isSome) with
      | false => rw [hall] at hv; cases hv
      | true =>
        rw [hall] at hv
        simp only [cond_true] at hv
        cases hf : fillA (placeOf P t) z (parts.toList.map fun x => (x.1, Am.ov S.sl x.2)) with
        | none => rw [hf] at hv; cases hv
        | some l =>
          rw [hf] at hv
          injection hv with hv; subst hv
          exact build_OK h hd ho hu hz hall hf
    · cases hv
  · rename_i t len parts ho
    split at hv
    · cases hv
    · rename_i e he
      split at hv
      · cases hv
      · rename_i k hk
        split at hv
        · cases hv
        · rename_i hc
          split at hv
          · rename_i xs hg
            injection hv with hv; subst hv
            have hc' : k ≠ 0 ∧ len ≤ 4096 ∧ k ≤ 1024 ∧ parts.toList.map (·.1) = List.range len ∧ (zeroB P e).isNone = false := by
              simp only [not_or, Decidable.not_not] at hc
              exact ⟨hc.1, by omega, by omega, hc.2.2.2.1, by cases hz : zeroB P e with
                | none => rw [hz] at hc; simp at hc
                | some z => rfl⟩
            obtain ⟨c1, c2, c3, c4, c5⟩ := hc'
            cases hz : zeroB P e with
            | none => rw [hz] at c5; cases c5
            | some z => exact buildSlice_OK h hd hl hld ho he hk c1 c2 c3 c4 hz hg
          · cases hv
  · rename_i t x ho
    split at hv
    · rename_i s c hs hx
      split at hv
      · rename_i l hr
        cases hX : mkAV (aggB P t) l with
        | none => rw [hX] at hv; cases hv
        | some X =>
          rw [hX] at hv
          injection hv with hv; subst hv
          exact load_OK h hd hl ho hs hx hr hX
      · cases hv
    · cases hv
  · rename_i t x y ho
    split at hv
    · rename_i s r off l hs hx hy
      split at hv
      · rename_i u cs hr
        cases hb : (Nat.beq l.length s && Nat.ble (off + s) cs.length) with
        | false => rw [hb] at hv; cases hv
        | true =>
          rw [hb] at hv
          injection hv with hv; subst hv
          rw [Bool.and_eq_true] at hb
          exact store_cells_OK h hd hl ho hs hx hy hr (Nat.eq_of_beq_eq_true hb.1) (Nat.le_of_ble_eq_true hb.2)
      · cases hv
    · rename_i s r k i j l hs hx hy
      split at hv
      · rename_i e k' xs hr
        split at hv
        · rename_i el l' he hp
          cases hb : (Nat.beq l'.length s && (Nat.beq k k' && Nat.beq el.length k && Nat.ble (j + s) el.length) && !rmem r (arrsCs l)) with
          | false => rw [hb] at hv; cases hv
          | true =>
            rw [hb] at hv
            injection hv with hv; subst hv
            simp only [Bool.and_eq_true, Bool.not_eq_true'] at hb
            obtain ⟨⟨b1, ⟨b2, b3⟩, b4⟩, b5⟩ := hb
            have e1 := Nat.eq_of_beq_eq_true b2
            subst e1
            exact store_elem_OK h hd hl ho hs hx hy hr he hp (Nat.eq_of_beq_eq_true b1) (Nat.eq_of_beq_eq_true b3) (Nat.le_of_ble_eq_true b4) (rmem_false.1 b5)
        · cases hv
      · cases hv
    · cases hv
  · rename_i x ho
    split at hv
    · rename_i f cs hx
      injection hv with hv; subst hv
      rw [← hx]
      exact nilCheck_OK h hd ho (.inr ⟨f, cs, hx⟩)
    · split at hv
      · rename_i hp
        injection hv with hv; subst hv
        exact nilCheck_OK h hd ho (.inl hp)
      · cases hv
  · rename_i op t x y z ho
    cases hX : binA P op t (Am.ov S.sl x) (Am.ov S.sl y) with
    | none => rw [hX] at hv; cases hv
    | some X =>
      rw [hX] at hv
      injection hv with hv; subst hv
      exact bin_OK h hd ho hX
  · rename_i op t x ho
    cases hX : unA op (Am.ov S.sl x) with
    | none => rw [hX] at hv; cases hv
    | some X =>
      rw [hX] at hv
      injection hv with hv; subst hv
      exact un_OK h hd ho hX
  · rename_i s t x ho
    split at hv
    · rename_i j k k' n hs ht hx
      injection hv with hv; subst hv
      exact conv_int_OK h hd ho hs ht hx
    · rename_i e q hs ht hx
      split at hv
      · rename_i hu
        split at hv
        · injection hv with hv; subst hv
          exact conv_str_OK h hd ho hs ht hx hu
        · cases hv
      · simp at hv
    · rename_i e hs ht
      split at hv
      · rename_i hu
        simp only [if_true] at hv
        split at hv
        · rename_i xs hx
          split at hv
          · rename_i l hb
            injection hv with hv; subst hv
            exact conv_bytes_OK h hd hl ho hs ht hu hx hb
          · cases hv
        · cases hv
      · simp at hv
    · cases hv
  · rename_i f first captured ho
    split at hv
    · rename_i hf
      cases hg : dval.goC (captured.toList.map (Am.ov S.sl)) with
      | none => rw [hg] at hv; cases hv
      | some cs =>
        rw [hg] at hv
        injection hv with hv; subst hv
        exact makeFunc_OK h hd ho hf hg
    · cases hv
  · rename_i t ho
    split at hv
    · rename_i kt et hu
      injection hv with hv; subst hv
      exact makeMap_OK h hd hld ho _ _
    · cases hv
  · rename_i t l c ho
    split at hv
    · cases hv
    · rename_i e he
      split at hv
      · rename_i k by_ z n m hk hb hz hn hm
        split at hv
        · rename_i z' hz'
          split at hv
          · rename_i hc
            obtain ⟨c1, c2, c3, c4, c5, c6⟩ := hc
            injection hv with hv; subst hv
            exact makeSlice_OK h hd hl hld ho he hk hb hz hn hm hz' c1 c2 c3 c4 c5 c6
          · cases hv
        · cases hv
      · cases hv
  · rename_i t x lo hi ho
    split at hv
    · rename_i s ht hx
      split at hv
      · rename_i hh hhi
        split at hv
        · rename_i ll hlo
          injection hv with hv; subst hv
          exact slice_str_OK h hd ho ht hx hhi hlo
        · cases hv
      · cases hv
    · rename_i e ht
      split at hv
      · cases hv
      · rename_i k hk
        split at hv
        · rename_i xs hx
          split at hv
          · rename_i hh hhi
            split at hv
            · rename_i ll hlo
              injection hv with hv; subst hv
              exact slice_OK h hd hl ho (by unfold elemB; rw [ht]) hk hx hhi hlo
            · cases hv
          · cases hv
        · cases hv
    · cases hv
  · rename_i s x f ho
    split at hv
    · rename_i fd c hf hx
      split at hv
      · rename_i k hk
        cases hm : moveAddr fd.offset c with
        | none => rw [hm] at hv; cases hv
        | some c' =>
          rw [hm] at hv
          injection hv with hv; subst hv
          exact fieldAddr_OK h hd ho hf hk hx hm
      · cases hv
    · cases hv
  · rename_i s x f ho
    split at hv
    · rename_i fd l hf hx
      split at hv
      · rename_i k hk
        split at hv
        · rename_i m hc
          cases hX : mkAV (aggB P fd.type) m with
          | none => rw [hX] at hv; cases hv
          | some X =>
            rw [hX] at hv
            injection hv with hv; subst hv
            exact field_OK h hd ho hf hk hx hc hX
        · cases hv
      · cases hv
    · cases hv
  · rename_i t x ix ho
    split at hv
    · rename_i e k xs kd n he hx hi
      cases hs : sizeB P e with
      | none => rw [hs] at hv; cases hv
      | some k' =>
        rw [hs] at hv
        simp only at hv
        cases hb : Nat.beq k k' with
        | false => rw [hb] at hv; cases hv
        | true =>
          rw [hb] at hv
          simp only [cond_true] at hv
          have := Nat.eq_of_beq_eq_true hb
          subst this
          split at hv
          · rename_i h0
            split at hv
            · rename_i el hel
              injection hv with hv; subst hv
              exact indexAddr_p_OK h hd ho he hx hi hs h0 hel
            · cases hv
          · cases hv
    · rename_i e r k kd n he hx hi
      split at hv
      · rename_i e' k'' xs s hr
        cases hs : sizeB P e with
        | none => rw [hs] at hv; cases hv
        | some k' =>
          rw [hs] at hv
          simp only at hv
          cases hb : Nat.beq k k' with
          | false => rw [hb] at hv; cases hv
          | true =>
            rw [hb] at hv
            simp only [cond_true] at hv
            have := Nat.eq_of_beq_eq_true hb
            subst this
            split at hv
            · rename_i h0
              injection hv with hv; subst hv
              exact indexAddr_row_OK h hd hl ho he hx hr hi hs h0.1 h0.2
            · cases hv
      · cases hv
    · cases hv
  · rename_i t x ix ho
    split at hv
    · rename_i s kd n hu hx hi
      split at hv
      · rename_i h0
        split at hv
        · rename_i b hb
          injection hv with hv; subst hv
          exact index_str_OK h hd ho hu hx hi h0 hb
        · cases hv
      · cases hv
    · cases hv
  · rename_i t m key ok ho
    split at hv
    · rename_i kt et r kv ht hm hk
      split at hv
      · rename_i ka va es z hr hz
        cases hok : mapOK P kt et ka va (Am.ov S.sl key) kv with
        | false => rw [hok] at hv; cases hv
        | true =>
          rw [hok] at hv
          simp only [cond_true] at hv
          split at hv
          · rename_i j e hf
            cases hX : mkAV va (e.2.map .p) with
            | none => rw [hX] at hv; cases hv
            | some X =>
              rw [hX] at hv
              injection hv with hv; subst hv
              exact lookup_OK h hd hl ho ht hm hk hr hz hok hf (.inl ⟨_, _, rfl, hX, rfl⟩)
          · rename_i hf
            split at hv
            · rename_i z' hz'
              cases hX : mkAV va (z'.map .p) with
              | none => rw [hX] at hv; cases hv
              | some X =>
                rw [hX] at hv
                injection hv with hv; subst hv
                exact lookup_OK h hd hl ho ht hm hk hr hz hok hf (.inr ⟨_, rfl, hz', hX, rfl⟩)
            · cases hv
          · cases hv
      · cases hv
    · cases hv
  · rename_i t m key x ho
    split at hv
    · rename_i kt et r kv l ht hm hk hx
      split at hv
      · rename_i ka va es l' hr hl'
        cases hok : (mapOK P kt et ka va (Am.ov S.sl key) kv && beqB (isAggA (Am.ov S.sl x)) va) with
        | false => rw [hok] at hv; cases hv
        | true =>
          rw [hok] at hv
          simp only [cond_true] at hv
          rw [Bool.and_eq_true] at hok
          split at hv
          · rename_i j e hf
            cases hs : sameAll kv e.1 with
            | false => rw [hs] at hv; cases hv
            | true =>
              rw [hs] at hv
              injection hv with hv; subst hv
              exact mapUpdate_OK h hd hl ho ht hm hk hx hr hl' hok.1 (beqB_eq hok.2) hf (.inl ⟨_, _, rfl, hs, rfl⟩)
          · rename_i hf
            injection hv with hv; subst hv
            exact mapUpdate_OK h hd hl ho ht hm hk hx hr hl' hok.1 (beqB_eq hok.2) hf (.inr ⟨rfl, rfl⟩)
          · cases hv
      · cases hv
    · cases hv
  · rename_i t m key ho
    split at hv
    · rename_i kt et r kv ht hm hk
      split at hv
      · rename_i ka va es z hr hz
        cases hok : mapOK P kt et ka va (Am.ov S.sl key) kv with
        | false => rw [hok] at hv; cases hv
        | true =>
          rw [hok] at hv
          simp only [cond_true] at hv
          split at hv
          · rename_i j e hf
            cases hs : sameAll kv e.1 with
            | false => rw [hs] at hv; cases hv
            | true =>
              rw [hs] at hv
              simp only [cond_true] at hv
              cases hX : mkAV va (e.2.map .p) with
              | none => rw [hX] at hv; cases hv
              | some X =>
                rw [hX] at hv
                injection hv with hv; subst hv
                exact mapEntry_hit_OK h hd hl ho ht hm hk hr hok hf hs hX
          · rename_i hf
            split at hv
            · rename_i z' hz'
              cases hX : mkAV va (z'.map .p) with
              | none => rw [hX] at hv; cases hv
              | some X =>
                rw [hX] at hv
                injection hv with hv; subst hv
                exact mapEntry_new_OK h hd hl ho ht hm hk hr hz hok hf hz' hX
            · cases hv
          · cases hv
      · cases hv
    · cases hv
  · rename_i t m st x ho
    split at hv
    · rename_i kt et r kd n l ht hm hst hx
      split at hv
      · rename_i ka va es l' hr hl'
        cases hok : beqB (isAggA (Am.ov S.sl x)) va with
        | false => rw [hok] at hv; cases hv
        | true =>
          rw [hok] at hv
          simp only [cond_true] at hv
          split at hv
          · rename_i hc
            injection hv with hv; subst hv
            exact entryStore_OK h hd hl ho hm hst hx hr hl' (beqB_eq hok) hc.1 hc.2
          · cases hv
      · cases hv
    · cases hv
  · rename_i t i ho
    split at hv
    · rename_i l hx
      cases hi : l[i]? with
      | none => rw [hi] at hv; cases hv
      | some x =>
        rw [hi] at hv
        injection hv with hv; subst hv
        exact extract_OK h hd ho hx hi
    · cases hv
  · rename_i c ho
    split at hv
    · rename_i b hc
      exact builtinA_OK h hd hl hld ho hc hv
    · rename_i f hc
      split at hv
      · rename_i g caps hx
        exact hcall c f g caps δ ho hc hx hv
      · cases hv
    · cases hv
  · cases hv
end
end Go.Am
