/-
  AM, PART 19: the four map operations.
-/
import Derived.Test.YtipgpamialaflaaGreatAm18
set_option linter.unusedVariables false
set_option linter.unusedSimpArgs false
namespace Go.Am
open Go Go.RowKit

structure MapAt (S : St) (w : World) (cx : Cx) (r : Root) (ka va : Bool) (es : List (List PV × List PV)) (g : Nat) (ents : Array MapEntry) : Prop where
  hp : S.hp r = some (.map ka va es)
  β : cx.β r = some (.blk g)
  heap : w.heap[g]? = some (.map ents es.length)
  size : ents.size = es.length
  rep : ∀ (i : Nat) (ks vs : List PV) (en : MapEntry), es[i]? = some (ks, vs) → ents[i]? = some en → RepL w cx.pr ka ks en.key ∧ RepL w cx.pr va vs en.val ∧ en.born = i
  nopr : ∀ o, ¬ cx.pr g o
theorem Sim.map_at {E : Env} {S : St} {a : Act} {w : World} {cx : Cx} (h : Sim E S a w cx) {r : Root} {ka va : Bool} {es : List (List PV × List PV)} (hr : S.hp r = some (.map ka va es)) : ∃ g ents, MapAt S w cx r ka va es g ents := by
  obtain ⟨g, ents, h1, h2, h3, h4, h5⟩ := h.good.rep r _ hr
  exact ⟨g, ents, hr, h1, h2, h3, h4, h5⟩
theorem mp_val {w : World} {cx : Cx} {r : Root} {v : Value} (h : RepA w cx (.c (.mp r)) v) {g : Nat} (hβ : cx.β r = some (.blk g)) : v = .map (some g) := by
  have h' := h.c_inv.1
  cases h' with
  | mp _ g' hb =>
    rw [hβ] at hb
    injection hb with hb
    injection hb with hb
    subst hb
    rfl
theorem MapAt.keys {S : St} {w : World} {cx : Cx} {r : Root} {ka va : Bool} {es : List (List PV × List PV)} {g : Nat} {ents : Array MapEntry} (h : MapAt S w cx r ka va es g ents) : ∀ (j : Nat) (e : List PV × List PV) (en : MapEntry), es[j]? = some e → ents.toList[j]? = some en → RepL w cx.pr ka e.1 en.key := by
  intro j e en h1 h2
  rw [Array.getElem?_toList] at h2
  exact (h.rep j e.1 e.2 en h1 h2).1
theorem mapOK_parts {P : Program} {kt et : TypeId} {ka va : Bool} {key : AV} {kv : List PV} (h : mapOK P kt et ka va key kv = true) : ka = aggB P kt ∧ va = aggB P et ∧ va = zeroAgg P et ∧ isAggA key = ka ∧ keyA P 12 kt kv = true := by
  simp only [mapOK, Bool.and_eq_true] at h
  obtain ⟨⟨⟨⟨h1, h2⟩, h3⟩, h4⟩, h5⟩ := h
  exact ⟨beqB_eq h1, beqB_eq h2, beqB_eq h3, beqB_eq h4, h5⟩
theorem key_run {P : Program} {w : World} {pr : Nat → Nat → Prop} {kt : TypeId} {ka : Bool} (ha : ka = aggB P kt) {kv : List PV} {key : Value} (hk : RepL w pr ka kv key) (hka : keyA P 12 kt kv = true) (em : Bool) : (Instr.checkKey em 10000 kt key).run P w = .ok () w := by
  obtain ⟨vs, h1, h2⟩ := hk.val ha
  rw [h2]
  exact keyA_run em 12 kt kv hka 10000 (by omega) vs h1
theorem lookup_OK {P : Program} {o : Oper} {E : Env} {S : St} {a : Act} {w : World} {cx : Cx} (h : Sim E S a w cx) (hd : ∀ d, o.dst = some d → d < E.n) {look : Root → Option Ob} (hl : Sub look S.hp) {t kt et : TypeId} {m key : Operand} {ok : Bool} (ho : o.op = .lookup t m key ok) (ht : P.underlying t = some (.map kt et)) {r : Root} (hm : Am.ov S.sl m = .c (.mp r)) {kv : List PV} (hk : pureA (Am.ov S.sl key) = some kv)
    {ka va : Bool} {es : List (List PV × List PV)} (hr : look r = some (.map ka va es)) {z : List CV} (hz : zeroB P et = some z) (hok : mapOK P kt et ka va (Am.ov S.sl key) kv = true) {f : Option (Nat × (List PV × List PV))} (hf : mapFind P kt kv es 0 = some f) {X : AV} {b : Bool}
    (hX : (∃ j e, f = some (j, e) ∧ mkAV va (e.2.map .p) = some X ∧ b = true) ∨ (∃ z', f = none ∧ pureCs look (kinds P et) z = some z' ∧ mkAV va (z'.map .p) = some X ∧ b = false)) :
    OK P o E (applyD S o.dst { val := if ok then .tup [X, scB b] else X }) a w := by
  obtain ⟨o1, o2, o3, o4, o5⟩ := mapOK_parts hok
  obtain ⟨g, ents, M⟩ := h.map_at (hl r _ hr)
  have hmv := h.ov m
  rw [hm] at hmv
  have hmv := mp_val hmv M.β
  have hkey := key_RepL (h.ov key) hk o4
  have hchk := key_run (P := P) o1 hkey o5 ents.isEmpty
  obtain ⟨gf, hfind, hfound⟩ := find_run (P := P) o1 hkey o5 (ents := ents.toList) (by rw [show ents.toList.length = ents.size from Array.length_toList]; exact M.size.symm) M.keys hf
  have hval : ∃ v, RepA w cx X v ∧ ((∃ j, gf = some (j, v)) ∧ b = true ∨ gf = none ∧ b = false ∧ ∀ w, (zeroValue et).run P w = .ok v w) := by
    rcases hX with ⟨j, e, rfl, hmk, rfl⟩ | ⟨z', rfl, hz', hmk, rfl⟩
    · rcases hfound with ⟨h1, _⟩ | ⟨q, e', en, h1, h2, h3, h4⟩
      · cases h1
      · injection h1 with h1
        injection h1 with _ h1
        subst h1
        rw [Array.getElem?_toList] at h3
        obtain ⟨_, r2, _⟩ := M.rep q e.1 e.2 en h2 h3
        exact ⟨en.val, r2.mk hmk, .inl ⟨⟨_, h4⟩, rfl⟩⟩
    · rcases hfound with ⟨_, h1⟩ | ⟨q, e', en, h1, _⟩
      · obtain ⟨v, hv1, hv2⟩ := zero_RepL hz o3 hz'
        exact ⟨v, (hv2 w cx.pr).mk hmk, .inr ⟨h1, rfl, hv1⟩⟩
      · cases h1
  obtain ⟨v, hXv, hcase⟩ := hval
  have hres : RepA w cx (if ok then .tup [X, scB b] else X) (if ok then .tuple #[v, .bool b] else v) := by
    cases ok with
    | false => exact hXv
    | true =>
      refine .tup _ [v, .bool b] rfl fun i x u hx hu => ?_
      match i with
      | 0 => simp at hx hu; subst hx; subst hu; exact hXv
      | 1 => simp at hx hu; subst hx; subst hu; exact RepA.of_sc rfl
      | i + 2 => simp at hx
  refine .pure h hd ?_ hres
  simp only [execOp, ho, hmv, Instr.lookup, Sem.run_bind, run_underlying ht, Result.andThen_ok, getObj_run M.heap, Sem.run_pure, hchk, hfind]
  rcases hcase with ⟨⟨j, rfl⟩, rfl⟩ | ⟨rfl, rfl, hz0⟩
  · simp
  · simp [hz0]

/-! ### A map changed -/
theorem Moves.setObj {E : Env} {S : St} {a : Act} {w : World} {cx : Cx} (h : Sim E S a w cx) {q : Root} {g : Nat} (hq : blkOf cx q = some g) (hp : ∀ o, ¬ cx.pr g o) (ob : Obj) : Moves E cx w { w with heap := w.heap.setIfInBounds g ob } q (some g) where
  os := rfl
  tape := rfl
  output := rfl
  size := by simp
  blk b _ hb := by
    have : g ≠ b := fun e => hb (by rw [e])
    simp [Array.getElem?_setIfInBounds, this]
  apart r g' hr hg' e := by
    injection e with e
    subst e
    exact hr (h.good.inj r q g hg' hq)
  free g' e := by
    injection e with e
    subst e
    exact h.good.free q g hq
  last := ⟨fun _ _ h => h, fun g' o hpr => World.cell?_of_block (w := w) (by
    have : g ≠ g' := fun e => hp o (by rw [e]; exact hpr)
    simp [Array.getElem?_setIfInBounds, this])⟩
theorem Sim.map_upd {E : Env} {S : St} {a : Act} {w : World} {cx : Cx} (h : Sim E S a w cx) {r : Root} {ka va : Bool} {es es' : List (List PV × List PV)} {g : Nat} {ents ents' : Array MapEntry} (M : MapAt S w cx r ka va es g ents) (hsz : ents'.size = es'.length)
    (hrep : ∀ (i : Nat) (ks vs : List PV) (en : MapEntry), es'[i]? = some (ks, vs) → ents'[i]? = some en → RepL w cx.pr ka ks en.key ∧ RepL w cx.pr va vs en.val ∧ en.born = i) :
    Sim E { S with hp := updH S.hp r (some (.map ka va es')) } a { w with heap := w.heap.setIfInBounds g (.map ents' es'.length) } cx := by
  have hq : blkOf cx r = some g := by simp [blkOf, M.β, RB.block]
  have hmv := Moves.setObj h hq M.nopr (.map ents' es'.length)
  have hlt : g < w.heap.size := (Array.getElem?_eq_some_iff.1 M.heap).1
  have := h.update r (.blk g) (.map ka va es') hmv (fun b hb => by rw [M.β] at hb; injection hb with hb; exact hb.symm) (by
    rw [updB_noop M.β]
    refine ⟨g, ents', M.β, by simp [hlt], hsz, fun i ks vs en he hn => ?_, M.nopr⟩
    obtain ⟨a1, a2, a3⟩ := hrep i ks vs en he hn
    exact ⟨a1.lasts hmv.last, a2.lasts hmv.last, a3⟩) (fun g' hg' => by
    simp only [RB.block, Option.some.injEq] at hg'
    subst hg'
    exact ⟨h.good.free r g hq, fun r' hr' e => hr' (h.good.inj r' r g e hq)⟩) (.inr M.β)
  rwa [updB_noop M.β] at this
theorem setVal_length (v : List PV) : ∀ (i : Nat) (es : List (List PV × List PV)), (setVal v i es).length = es.length
  | _, [] => by simp [setVal]
  | 0, (k, _) :: es => by simp [setVal]
  | n + 1, e :: es => by simp [setVal, setVal_length v n es]
theorem setVal_get (v : List PV) : ∀ (i : Nat) (es : List (List PV × List PV)) (j : Nat), (setVal v i es)[j]? = if j = i then (es[j]?).map (fun e => (e.1, v)) else es[j]?
  | _, [], j => by simp [setVal]
  | 0, (k, _) :: es, j => by
    cases j with
    | zero => simp [setVal]
    | succ j => simp [setVal]
  | n + 1, e :: es, j => by
    cases j with
    | zero => simp [setVal]
    | succ j => simp [setVal, setVal_get v n es j]
theorem MapAt.sealed {E : Env} {S : St} {a : Act} {w : World} {cx : Cx} (h : Sim E S a w cx) {r : Root} {ka va : Bool} {es : List (List PV × List PV)} {g : Nat} {ents : Array MapEntry} (M : MapAt S w cx r ka va es g ents) (ss : List Root) : MapAt (sealS ss S) w (sealCx S cx ss) r ka va es g ents := by
  have h1 := h.sealed ss
  have hp : (sealS ss S).hp r = some (.map ka va es) := by
    simp only [sealS, M.hp]
    cases rmem r ss <;> rfl
  obtain ⟨g', ents', N⟩ := h1.map_at hp
  have e1 : g' = g := by
    have a1 := N.β
    have a2 : (sealCx S cx ss).β r = some (.blk g) := M.β
    rw [a2] at a1
    injection a1 with a1
    injection a1 with a1
    exact a1.symm
  subst e1
  have e2 : ents' = ents := by
    have a1 := N.heap
    rw [M.heap] at a1
    injection a1 with a1
    injection a1 with a1
    exact a1.symm
  subst e2
  exact N
theorem mapUpdate_OK {P : Program} {o : Oper} {E : Env} {S : St} {a : Act} {w : World} {cx : Cx} (h : Sim E S a w cx) (hd : ∀ d, o.dst = some d → d < E.n) {look : Root → Option Ob} (hl : Sub look S.hp) {t kt et : TypeId} {m key x : Operand} (ho : o.op = .mapUpdate t m key x) (ht : P.underlying t = some (.map kt et)) {r : Root} (hm : Am.ov S.sl m = .c (.mp r)) {kv : List PV} (hk : pureA (Am.ov S.sl key) = some kv)
    {l : List CV} (hx : (Am.ov S.sl x).cells? = some l) {ka va : Bool} {es : List (List PV × List PV)} (hr : look r = some (.map ka va es)) {l' : List PV} (hl' : pureCs look (kinds P et) l = some l') (hok : mapOK P kt et ka va (Am.ov S.sl key) kv = true) (hva : isAggA (Am.ov S.sl x) = va) {f : Option (Nat × (List PV × List PV))} (hf : mapFind P kt kv es 0 = some f) {es' : List (List PV × List PV)}
    (hX : (∃ j e, f = some (j, e) ∧ sameAll kv e.1 = true ∧ es' = setVal l' j es) ∨ (f = none ∧ es' = es ++ [(kv, l')])) :
    OK P o E (applyD S o.dst { val := .c .un, ups := [(r, some (.map ka va es'))], seals := arrsCs l }) a w := by
  rw [applyD_up]
  obtain ⟨o1, o2, o3, o4, o5⟩ := mapOK_parts hok
  obtain ⟨g, ents, M0⟩ := h.map_at (hl r _ hr)
  have hmv := h.ov m
  rw [hm] at hmv
  have hmv := mp_val hmv M0.β
  have hlast : Lasts w cx.pr w (sealPr S cx (arrsCs l)) := ⟨fun g o hp => .inl hp, fun _ _ _ => rfl⟩
  have hkey := (key_RepL (h.ov key) hk o4).lasts hlast
  have hS := h.sealed (arrsCs l)
  have M := M0.sealed h (arrsCs l)
  have hval : RepL w (sealPr S cx (arrsCs l)) va l' (a.eval x) := val_RepL (h.ov x) hx (fun vs hvs => pureCs_rep (h.rows_read hl (arrsCs l)) hlast (fun r hr => hr) hvs hl') hva
  have hchk := key_run (P := P) o1 hkey o5 false
  obtain ⟨gf, hfind, hfound⟩ := find_run (P := P) o1 hkey o5 (ents := ents.toList) (by rw [show ents.toList.length = ents.size from Array.length_toList]; exact M.size.symm) M.keys hf
  rcases hX with ⟨j, e, rfl, hsame, rfl⟩ | ⟨rfl, rfl⟩
  · rcases hfound with ⟨h1, _⟩ | ⟨q, e', en, h1, h2, h3, h4⟩
    · cases h1
    · injection h1 with h1
      injection h1 with h0 h1
      subst h1
      rw [Nat.zero_add] at h0 h4
      subst h0
      rw [Array.getElem?_toList] at h3
      obtain ⟨r1, r2, r3⟩ := M.rep j e.1 e.2 en h2 h3
      obtain ⟨e1, hst⟩ := stays_run (P := P) hsame hkey r1
      have hsim := hS.map_upd M (es' := setVal l' j es) (ents' := ents.modify j fun e => { e with key := a.eval key, val := a.eval x }) (by rw [setVal_length, Array.size_modify]; exact M.size) (fun i ks vs en' he hn => by
        rw [setVal_get] at he
        rw [Array.getElem?_modify] at hn
        by_cases hij : i = j
        · subst hij
          rw [if_pos rfl, h2] at he
          rw [if_pos rfl, h3] at hn
          injection he with he
          injection hn with hn
          injection he with he1 he2
          subst he1
          subst he2
          subst hn
          exact ⟨by rw [← e1]; exact hkey, hval, r3⟩
        · rw [if_neg hij] at he
          rw [if_neg (fun e => hij e.symm)] at hn
          exact M.rep i ks vs en' he hn)
      refine OK.skip (w' := { w with heap := w.heap.setIfInBounds g (.map (ents.modify j fun e => { e with key := a.eval key, val := a.eval x }) (setVal l' j es).length) }) ?_ (hsim.put o.dst hd (.un _))
      simp only [execOp, ho, hmv, Instr.mapUpdate, Sem.run_bind, run_underlying ht, Result.andThen_ok, getObj_run M0.heap, Sem.run_pure, hchk, hfind, h4, h3, Option.map_some, Option.getD_some, hst, setVal_length]
      simp [setObj, Sem.run, M0.heap]
  · rcases hfound with ⟨_, h1⟩ | ⟨q, e', en, h1, _⟩
    · have hsim := hS.map_upd M (es' := es ++ [(kv, l')]) (ents' := ents.push { key := a.eval key, val := a.eval x, born := es.length }) (by simp [M.size]) (fun i ks vs en' he hn => by
        rw [Array.getElem?_push] at hn
        by_cases hil : i = es.length
        · subst hil
          rw [if_pos M.size.symm] at hn
          injection hn with hn
          subst hn
          simp at he
          obtain ⟨rfl, rfl⟩ := he
          exact ⟨hkey, hval, rfl⟩
        · rw [if_neg (by rw [M.size]; exact hil)] at hn
          have hlt : i < es.length := by
            have := (Array.getElem?_eq_some_iff.1 hn).1
            rw [M.size] at this
            exact this
          rw [List.getElem?_append_left hlt] at he
          exact M.rep i ks vs en' he hn)
      refine OK.skip (w' := { w with heap := w.heap.setIfInBounds g (.map (ents.push { key := a.eval key, val := a.eval x, born := es.length }) (es ++ [(kv, l')]).length) }) ?_ (hsim.put o.dst hd (.un _))
      simp only [execOp, ho, hmv, Instr.mapUpdate, Sem.run_bind, run_underlying ht, Result.andThen_ok, getObj_run M0.heap, Sem.run_pure, hchk, hfind, h1]
      simp [setObj, Sem.run, M0.heap]
    · cases h1

theorem updH_same {hp : Root → Option Ob} {r : Root} {o : Ob} (h : hp r = some o) : updH hp r (some o) = hp := by
  funext q
  unfold updH
  cases hq : rbeq q r with
  | false => rfl
  | true => rw [rbeq_eq.1 hq]; exact h.symm
theorem entry_pair {w : World} {cx : Cx} {X : AV} {v : Value} (h : RepA w cx X v) (n : Nat) : RepA w cx (.tup [X, scI n]) (.tuple #[v, goInt n]) := by
  refine .tup _ [v, goInt n] rfl fun i x u hx hu => ?_
  match i with
  | 0 => simp at hx hu; subst hx; subst hu; exact h
  | 1 => simp at hx hu; subst hx; subst hu; exact RepA.of_sc rfl
  | i + 2 => simp at hx
theorem mapEntry_hit_OK {P : Program} {o : Oper} {E : Env} {S : St} {a : Act} {w : World} {cx : Cx} (h : Sim E S a w cx) (hd : ∀ d, o.dst = some d → d < E.n) {look : Root → Option Ob} (hl : Sub look S.hp) {t kt et : TypeId} {m key : Operand} (ho : o.op = .mapEntry t m key) (ht : P.underlying t = some (.map kt et)) {r : Root} (hm : Am.ov S.sl m = .c (.mp r)) {kv : List PV} (hk : pureA (Am.ov S.sl key) = some kv)
    {ka va : Bool} {es : List (List PV × List PV)} (hr : look r = some (.map ka va es)) (hok : mapOK P kt et ka va (Am.ov S.sl key) kv = true) {j : Nat} {e : List PV × List PV} (hf : mapFind P kt kv es 0 = some (some (j, e))) (hsame : sameAll kv e.1 = true) {X : AV} (hX : mkAV va (e.2.map .p) = some X) :
    OK P o E (applyD S o.dst { val := .tup [X, scI j] }) a w := by
  rw [applyD_pure]
  obtain ⟨o1, o2, o3, o4, o5⟩ := mapOK_parts hok
  obtain ⟨g, ents, M⟩ := h.map_at (hl r _ hr)
  have hmv := h.ov m
  rw [hm] at hmv
  have hmv := mp_val hmv M.β
  have hkey := key_RepL (h.ov key) hk o4
  have hchk := key_run (P := P) o1 hkey o5 false
  obtain ⟨gf, hfind, hfound⟩ := find_run (P := P) o1 hkey o5 (ents := ents.toList) (by rw [show ents.toList.length = ents.size from Array.length_toList]; exact M.size.symm) M.keys hf
  rcases hfound with ⟨h1, _⟩ | ⟨q, e', en, h1, h2, h3, h4⟩
  · cases h1
  · injection h1 with h1
    injection h1 with h0 h1
    subst h1
    rw [Nat.zero_add] at h0 h4
    subst h0
    rw [Array.getElem?_toList] at h3
    obtain ⟨r1, r2, r3⟩ := M.rep j e.1 e.2 en h2 h3
    obtain ⟨e1, hst⟩ := stays_run (P := P) hsame hkey r1
    have hsim := h.map_upd M (es' := es) (ents' := ents.modify j fun e => { e with key := a.eval key }) (by rw [Array.size_modify]; exact M.size) (fun i ks vs en' he hn => by
      rw [Array.getElem?_modify] at hn
      by_cases hij : i = j
      · subst hij
        rw [if_pos rfl, h3] at hn
        rw [h2] at he
        injection he with he
        injection hn with hn
        subst he
        subst hn
        have e1' : kv = ks := e1
        exact ⟨by rw [← e1']; exact hkey, r2, r3⟩
      · rw [if_neg (fun e => hij e.symm)] at hn
        exact M.rep i ks vs en' he hn)
    rw [updH_same M.hp] at hsim
    have hq : blkOf cx r = some g := by simp [blkOf, M.β, RB.block]
    have hmv2 := Moves.setObj h hq M.nopr (.map (ents.modify j fun e => { e with key := a.eval key }) es.length)
    refine OK.value (v := .tuple #[en.val, goInt j]) (w' := { w with heap := w.heap.setIfInBounds g (.map (ents.modify j fun e => { e with key := a.eval key }) es.length) }) (cx' := cx) ?_ (hsim.put o.dst hd (entry_pair ((r2.lasts hmv2.last).mk hX) j))
    simp only [execOp, ho, hmv, Instr.mapEntry, Sem.run_bind, run_underlying ht, Result.andThen_ok, getObj_run M.heap, Sem.run_pure, hchk, hfind, h4, h3, Option.map_some, Option.getD_some, hst, r3]
    simp [setObj, Sem.run, M.heap]
theorem mapEntry_new_OK {P : Program} {o : Oper} {E : Env} {S : St} {a : Act} {w : World} {cx : Cx} (h : Sim E S a w cx) (hd : ∀ d, o.dst = some d → d < E.n) {look : Root → Option Ob} (hl : Sub look S.hp) {t kt et : TypeId} {m key : Operand} (ho : o.op = .mapEntry t m key) (ht : P.underlying t = some (.map kt et)) {r : Root} (hm : Am.ov S.sl m = .c (.mp r)) {kv : List PV} (hk : pureA (Am.ov S.sl key) = some kv)
    {ka va : Bool} {es : List (List PV × List PV)} (hr : look r = some (.map ka va es)) {z : List CV} (hz : zeroB P et = some z) (hok : mapOK P kt et ka va (Am.ov S.sl key) kv = true) (hf : mapFind P kt kv es 0 = some none) {z' : List PV} (hz' : pureCs look (kinds P et) z = some z') {X : AV} (hX : mkAV va (z'.map .p) = some X) :
    OK P o E (applyD S o.dst { val := .tup [X, scI es.length], ups := [(r, some (.map ka va (es ++ [(kv, z')])))] }) a w := by
  have happ := applyD_up S o.dst (.tup [X, scI es.length]) r (.map ka va (es ++ [(kv, z')])) []
  rw [happ, sealS_nil]
  obtain ⟨o1, o2, o3, o4, o5⟩ := mapOK_parts hok
  obtain ⟨g, ents, M⟩ := h.map_at (hl r _ hr)
  have hmv := h.ov m
  rw [hm] at hmv
  have hmv := mp_val hmv M.β
  have hkey := key_RepL (h.ov key) hk o4
  have hchk := key_run (P := P) o1 hkey o5 false
  obtain ⟨gf, hfind, hfound⟩ := find_run (P := P) o1 hkey o5 (ents := ents.toList) (by rw [show ents.toList.length = ents.size from Array.length_toList]; exact M.size.symm) M.keys hf
  obtain ⟨v, hv1, hv2⟩ := zero_RepL hz o3 hz'
  rcases hfound with ⟨_, h1⟩ | ⟨q, e', en, h1, _⟩
  · have hsim := h.map_upd M (es' := es ++ [(kv, z')]) (ents' := ents.push { key := a.eval key, val := v, born := es.length }) (by simp [M.size]) (fun i ks vs en' he hn => by
      rw [Array.getElem?_push] at hn
      by_cases hil : i = es.length
      · subst hil
        rw [if_pos M.size.symm] at hn
        injection hn with hn
        subst hn
        simp at he
        obtain ⟨rfl, rfl⟩ := he
        exact ⟨hkey, hv2 _ _, rfl⟩
      · rw [if_neg (by rw [M.size]; exact hil)] at hn
        have hlt : i < es.length := by
          have := (Array.getElem?_eq_some_iff.1 hn).1
          rw [M.size] at this
          exact this
        rw [List.getElem?_append_left hlt] at he
        exact M.rep i ks vs en' he hn)
    refine OK.value (v := .tuple #[v, goInt es.length]) (w' := { w with heap := w.heap.setIfInBounds g (.map (ents.push { key := a.eval key, val := v, born := es.length }) (es ++ [(kv, z')]).length) }) (cx' := cx) ?_ (hsim.put o.dst hd (entry_pair ((hv2 _ _).mk hX) es.length))
    simp only [execOp, ho, hmv, Instr.mapEntry, Sem.run_bind, run_underlying ht, Result.andThen_ok, getObj_run M.heap, Sem.run_pure, hchk, hfind, h1, hv1]
    simp [setObj, Sem.run, M.heap]
  · cases h1
theorem findIdx_born {es : List (List PV × List PV)} {ents : Array MapEntry} (hsz : ents.size = es.length) (hb : ∀ (i : Nat) (en : MapEntry), ents[i]? = some en → en.born = i) {i : Nat} (hi : i < ents.size) : ents.findIdx? (fun e => (e.born : Int) == (i : Int)) = some i := by
  rw [Array.findIdx?_eq_some_iff_getElem]
  refine ⟨hi, ?_, fun j hj => ?_⟩
  · rw [hb i _ (Array.getElem?_eq_getElem hi)]
    simp
  · rw [hb j _ (Array.getElem?_eq_getElem (by omega))]
    simp
    omega
theorem entryStore_OK {P : Program} {o : Oper} {E : Env} {S : St} {a : Act} {w : World} {cx : Cx} (h : Sim E S a w cx) (hd : ∀ d, o.dst = some d → d < E.n) {look : Root → Option Ob} (hl : Sub look S.hp) {t et : TypeId} {m st x : Operand} (ho : o.op = .entryStore t m st x) {r : Root} (hm : Am.ov S.sl m = .c (.mp r)) {kd : IntKind} {n : Int} (hst : asIntA (Am.ov S.sl st) = some (kd, n))
    {l : List CV} (hx : (Am.ov S.sl x).cells? = some l) {ka va : Bool} {es : List (List PV × List PV)} (hr : look r = some (.map ka va es)) {l' : List PV} (hl' : pureCs look (kinds P et) l = some l') (hva : isAggA (Am.ov S.sl x) = va) (h0 : 0 ≤ n) (hn : n < es.length) :
    OK P o E (applyD S o.dst { val := .c .un, ups := [(r, some (.map ka va (setVal l' n.toNat es)))], seals := arrsCs l }) a w := by
  rw [applyD_up]
  obtain ⟨g, ents, M0⟩ := h.map_at (hl r _ hr)
  have hmv := h.ov m
  rw [hm] at hmv
  have hmv := mp_val hmv M0.β
  have hsv := asIntA_rep (h.ov st) hst
  have hlast : Lasts w cx.pr w (sealPr S cx (arrsCs l)) := ⟨fun g o hp => .inl hp, fun _ _ _ => rfl⟩
  have hS := h.sealed (arrsCs l)
  have M := M0.sealed h (arrsCs l)
  have hval : RepL w (sealPr S cx (arrsCs l)) va l' (a.eval x) := val_RepL (h.ov x) hx (fun vs hvs => pureCs_rep (h.rows_read hl (arrsCs l)) hlast (fun r hr => hr) hvs hl') hva
  obtain ⟨j, rfl⟩ : ∃ j : Nat, n = j := ⟨n.toNat, by omega⟩
  have hjl : j < ents.size := by rw [M0.size]; omega
  have hborn : ∀ (i : Nat) (en : MapEntry), ents[i]? = some en → en.born = i := by
    intro i en hi
    have hil : i < es.length := by rw [← M0.size]; exact (Array.getElem?_eq_some_iff.1 hi).1
    exact (M0.rep i (es[i]).1 (es[i]).2 en (by rw [List.getElem?_eq_getElem hil]) hi).2.2
  have hfi := findIdx_born M0.size hborn hjl
  simp only [Int.toNat_natCast]
  have hsim := hS.map_upd M (es' := setVal l' j es) (ents' := ents.modify j fun e => { e with val := a.eval x }) (by rw [setVal_length, Array.size_modify]; exact M.size) (fun i ks vs en' he hn' => by
    rw [setVal_get] at he
    rw [Array.getElem?_modify] at hn'
    by_cases hij : i = j
    · subst hij
      rw [if_pos rfl] at he hn'
      cases h2 : es[i]? with
      | none => rw [h2] at he; cases he
      | some e =>
        cases h3 : ents[i]? with
        | none => rw [h3] at hn'; cases hn'
        | some en =>
          rw [h2] at he
          rw [h3] at hn'
          injection he with he
          injection hn' with hn'
          injection he with he1 he2
          subst he1
          subst he2
          subst hn'
          obtain ⟨r1, r2, r3⟩ := M.rep i e.1 e.2 en h2 h3
          exact ⟨r1, hval, r3⟩
    · rw [if_neg hij] at he
      rw [if_neg (fun e => hij e.symm)] at hn'
      exact M.rep i ks vs en' he hn')
  refine OK.skip (w' := { w with heap := w.heap.setIfInBounds g (.map (ents.modify j fun e => { e with val := a.eval x }) (setVal l' j es).length) }) ?_ (hsim.put o.dst hd (.un _))
  simp only [execOp, ho, hmv, hsv, Instr.entryStore, Sem.run_bind, Result.andThen_ok, getObj_run M0.heap, Sem.run_pure, asInt, asIntOf, hfi, setVal_length]
  simp [setObj, Sem.run, M0.heap]

end Go.Am
