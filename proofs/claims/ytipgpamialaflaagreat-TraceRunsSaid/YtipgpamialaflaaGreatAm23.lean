/-
  AM, PART 23: a call.
-/
import Derived.Test.YtipgpamialaflaaGreatAm22
set_option linter.unusedVariables false
set_option linter.unusedSimpArgs false
set_option linter.unnecessarySimpa false
namespace Go.Am
open Go Go.RowKit

/-! ### What a call answers -/
def retHp (ret : Ret) (r : Root) : Option Ob := bif Nat.beq r.1 PAR then (match ret.outs[r.2]? with | some o => o | none => none) else bif Nat.beq r.1 NEW then ret.news[r.2]? else none
structure Returns (w : World) (pr : Nat → Nat → Prop) (mu : Nat → Prop) (β0 : Root → Option RB) (ret : Ret) (v : Value) (w' : World) (cx' : Cx) : Prop where
  fr : Fr w pr mu w' cx'.pr
  good : Good (retHp ret) w' cx' (fun g => mu g ∨ w.heap.size ≤ g)
  par : ∀ i b, cx'.β (PAR, i) = some b → β0 (PAR, i) = some b
  res : RepA w' cx' ret.res v
def CallOK (P : Program) (call : Nat → List AV → List Ob → Option Ret) : Prop :=
  ∀ g as objs ret, call g as objs = some ret → ∀ (w : World) (cx : Cx) (mu : Nat → Prop) (vs : List Value), as.length = vs.length → (∀ (i : Nat) (x : AV) (v : Value), as[i]? = some x → vs[i]? = some v → RepA w cx x v) →
    Good (startHp objs) w cx (fun g => mu g ∨ w.heap.size ≤ g) → Calls P g vs.toArray w fun e w' => match e with | .returned v => ∃ cx', Returns w cx.pr mu cx.β ret v w' cx' | _ => False

/-! ### Arguments -/
theorem softC_rep {look : Root → Option Ob} {w : World} {cx : Cx} {S : St} {ss : List Root} (H : RowsRead look w cx (sealPr S cx ss) ss) {kd : Kd} {x : CV} {v : Value} (hs : ∀ r ∈ arrsC x, r ∈ ss) (h : RepC w cx x v) : RepC w (sealCx S cx ss) (softC look kd x) v := by
  have hl : Lasts w cx.pr w (sealCx S cx ss).pr := ⟨fun g o hp => .inl hp, fun _ _ _ => rfl⟩
  unfold softC
  cases hp : pureC look kd x with
  | some y => exact .p y v (pureC_rep H hl hs h hp)
  | none => exact RepC.keep (cx := cx) (cx' := sealCx S cx ss) (fun _ _ hb => hb) hl h
theorem softCs_rep {look : Root → Option Ob} {w : World} {cx : Cx} {S : St} {ss : List Root} (H : RowsRead look w cx (sealPr S cx ss) ss) : ∀ (ks : List Kd) (l : List CV) (vs : List Value), (∀ r ∈ arrsCs l, r ∈ ss) → RepCs w cx l vs → RepCs w (sealCx S cx ss) (softCs look ks l) vs
  | [], l, vs, hs, h => by
    have e : softCs look [] l = l := by cases l <;> rfl
    rw [e]
    exact RepCs.keep (cx := cx) h (fun _ _ hb => hb) ⟨fun g o hp => .inl hp, fun _ _ _ => rfl⟩
  | kd :: ks, [], vs, hs, h => ⟨by simpa [softCs] using h.len, h.one, fun i x u hx => by simp [softCs] at hx⟩
  | kd :: ks, x :: l, [], hs, h => by have := h.len; simp at this
  | kd :: ks, x :: l, v :: vs, hs, h => by
    have ih := softCs_rep H ks l vs (fun r hr => hs r (by simp [arrsCs, hr])) ⟨by simpa using h.len, fun u hu => h.one u (by simp [hu]), fun i x u hx hu => h.rep (i + 1) x u (by simpa using hx) (by simpa using hu)⟩
    refine ⟨by simp [softCs, ih.len], h.one, fun i y u hy hu => ?_⟩
    cases i with
    | zero =>
      simp [softCs] at hy hu
      subst hy
      subst hu
      exact softC_rep H (fun r hr => hs r (by simp [arrsCs, hr])) (h.rep 0 x v rfl rfl)
    | succ i => exact ih.rep i y u (by simpa [softCs] using hy) (by simpa using hu)
theorem softA_rep {P : Program} {look : Root → Option Ob} {w : World} {cx : Cx} {S : St} {ss : List Root} (H : RowsRead look w cx (sealPr S cx ss) ss) {t : TypeId} {x : AV} {v : Value} (hs : ∀ r ∈ arrsA x, r ∈ ss) (h : RepA w cx x v) : RepA w (sealCx S cx ss) (softA P look t x) v := by
  have hkeep : ∀ {y : AV}, RepA w cx y v → RepA w (sealCx S cx ss) y v := fun h => RepA.keep (cx := cx) (cx' := sealCx S cx ss) (fun _ _ hb => hb) ⟨fun g o hp => .inl hp, fun _ _ _ => rfl⟩ h
  unfold softA
  split
  · rename_i c
    split
    · rename_i kd _
      have hc := h.c_inv
      have hc1 := softC_rep H (kd := kd) (fun r hr => hs r (by simpa [arrsA] using hr)) hc.1
      by_cases hu : softC look kd c = .un
      · rw [hu]; exact .un v
      · refine .c _ v ?_ hc1
        by_cases hcu : c = .un
        · subst hcu; simp [softC, pureC] at hu
        · exact hc.2 hcu
    · exact hkeep h
  · rename_i l
    obtain ⟨vs, rfl, h1, h2, h3⟩ := h.agg_inv
    have hr := softCs_rep H (kinds P t) l vs (fun r hr => hs r (by simpa [arrsA] using hr)) ⟨h1, h2, h3⟩
    exact .agg _ vs hr.len hr.one hr.rep
  · exact hkeep h
theorem softArgs_rep {P : Program} {look : Root → Option Ob} {w : World} {cx : Cx} {S : St} {ss : List Root} (H : RowsRead look w cx (sealPr S cx ss) ss) (own : List Nat) : ∀ (ts : List TypeId) (i : Nat) (as : List AV) (vs : List Value), (∀ r ∈ softArrs own i ts as, r ∈ ss) → as.length = vs.length → (∀ (j : Nat) (x : AV) (v : Value), as[j]? = some x → vs[j]? = some v → RepA w cx x v) →
    (softArgs P look own i ts as).length = vs.length ∧ ∀ (j : Nat) (x : AV) (v : Value), (softArgs P look own i ts as)[j]? = some x → vs[j]? = some v → RepA w (sealCx S cx ss) x v
  | [], i, as, vs, _, hl, h => by
    have e : softArgs P look own i [] as = as := by cases as <;> rfl
    rw [e]
    exact ⟨hl, fun j x v hx hv => RepA.keep (cx := cx) (cx' := sealCx S cx ss) (fun _ _ hb => hb) ⟨fun g o hp => .inl hp, fun _ _ _ => rfl⟩ (h j x v hx hv)⟩
  | t :: ts, i, [], vs, _, hl, h => by
    refine ⟨by simpa [softArgs] using hl, fun j x v hx => by simp [softArgs] at hx⟩
  | t :: ts, i, a :: as, [], _, hl, h => by simp at hl
  | t :: ts, i, a :: as, v :: vs, hs, hl, h => by
    obtain ⟨h1, h2⟩ := softArgs_rep (P := P) H own ts (i + 1) as vs (fun r hr => hs r (by simp [softArrs, hr])) (by simpa using hl) (fun j x v hx hv => h (j + 1) x v (by simpa using hx) (by simpa using hv))
    refine ⟨by simp [softArgs, h1], fun j x u hx hu => ?_⟩
    cases j with
    | zero =>
      simp only [softArgs, List.getElem?_cons_zero, Option.some.injEq] at hx hu
      subst hu
      have h0 := h 0 a v rfl rfl
      split at hx
      · subst hx
        exact RepA.keep (cx := cx) (cx' := sealCx S cx ss) (fun _ _ hb => hb) ⟨fun g o hp => .inl hp, fun _ _ _ => rfl⟩ h0
      · rename_i hc
        subst hx
        exact softA_rep H (fun r hr => hs r (by rw [softArrs, if_neg hc]; exact List.mem_append_left _ hr)) h0
    | succ j => exact h2 j x u (by simpa [softArgs] using hx) (by simpa using hu)

/-! ### The roots a call is given -/
theorem idxOf_some {r : Root} : ∀ {l : List Root} {n i : Nat}, idxOf r l n = some i → n ≤ i ∧ l[i - n]? = some r
  | [], n, i, h => by simp [idxOf] at h
  | x :: l, n, i, h => by
    simp only [idxOf] at h
    cases hb : rbeq r x with
    | true =>
      rw [hb] at h
      simp at h
      subst h
      exact ⟨Nat.le_refl _, by rw [Nat.sub_self]; simp [rbeq_eq.1 hb]⟩
    | false =>
      rw [hb] at h
      obtain ⟨h1, h2⟩ := idxOf_some h
      refine ⟨by omega, ?_⟩
      have : i - n = (i - (n + 1)) + 1 := by omega
      rw [this, List.getElem?_cons_succ]
      exact h2
theorem idxOf_none {r : Root} : ∀ {l : List Root} {n : Nat}, idxOf r l n = none → r ∉ l
  | [], n, _ => by simp
  | x :: l, n, h => by
    simp only [idxOf] at h
    cases hb : rbeq r x with
    | true => rw [hb] at h; simp at h
    | false =>
      rw [hb] at h
      have := idxOf_none h
      simp only [List.mem_cons, not_or]
      exact ⟨rbeq_ne.1 hb, this⟩
theorem idxOf_nodup {r : Root} : ∀ {l : List Root} {n i : Nat}, nodupB l = true → l[i]? = some r → idxOf r l n = some (n + i)
  | [], n, i, _, h => by simp at h
  | x :: l, n, i, hn, h => by
    simp only [nodupB, Bool.and_eq_true, Bool.not_eq_true'] at hn
    simp only [idxOf]
    cases i with
    | zero =>
      simp at h
      subst h
      simp [rbeq_eq.2 rfl]
    | succ i =>
      have h' : l[i]? = some r := by simpa using h
      have hne : r ≠ x := by
        rintro rfl
        exact rmem_false.1 hn.1 (List.mem_of_getElem? h')
      rw [rbeq_ne.2 hne]
      simp only [cond_false]
      rw [idxOf_nodup hn.2 h']
      congr 1
      omega
theorem parOf_some {L : List Root} {r r' : Root} (h : parOf L r = some r') : ∃ i, r' = (PAR, i) ∧ L[i]? = some r := by
  unfold parOf at h
  cases hi : idxOf r L 0 with
  | none => rw [hi] at h; cases h
  | some i =>
    rw [hi] at h
    simp at h
    obtain ⟨_, h2⟩ := idxOf_some hi
    exact ⟨i, h.symm, by simpa using h2⟩
theorem objsOf_get {look : Root → Option Ob} {m : Root → Option Root} : ∀ {L : List Root} {objs : List Ob}, objsOf look m L = some objs → objs.length = L.length ∧ ∀ (i : Nat) (r : Root), L[i]? = some r → ∃ o, look r = some o ∧ objs[i]? = some (renO m o)
  | [], objs, h => by simp [objsOf] at h; subst h; exact ⟨rfl, fun i r hr => by simp at hr⟩
  | r :: L, objs, h => by
    simp only [objsOf] at h
    cases h1 : look r with
    | none => rw [h1] at h; simp at h
    | some o =>
      cases h2 : objsOf look m L with
      | none => rw [h1, h2] at h; simp at h
      | some os =>
        rw [h1, h2] at h
        simp at h
        subst h
        obtain ⟨q1, q2⟩ := objsOf_get h2
        refine ⟨by simp [q1], fun i r' hr => ?_⟩
        cases i with
        | zero => simp at hr; subst hr; exact ⟨o, h1, rfl⟩
        | succ i => simpa using q2 i r' (by simpa using hr)
theorem lookU_append (r : Root) : ∀ (l m : List (Root × Option Ob)), lookU r (l ++ m) = match lookU r l with | some o => some o | none => lookU r m
  | [], m => by simp [lookU]
  | (q, o) :: l, m => by
    simp only [List.cons_append, lookU]
    cases rbeq r q with
    | true => rfl
    | false => simpa using lookU_append r l m
theorem lookU_out {m : Root → Option Root} {r : Root} : ∀ (L : List Root) (outs : List (Option Ob)) (n : Nat), outs.length = L.length → lookU r (outUps m L outs) = match idxOf r L n with | some i => (outs[i - n]?).map (·.map (renO m)) | none => none
  | [], outs, n, _ => by simp [outUps, lookU, idxOf]
  | q :: L, [], n, h => by simp at h
  | q :: L, o :: outs, n, h => by
    simp only [outUps, lookU, idxOf]
    cases hb : rbeq r q with
    | true => simp
    | false =>
      simp only [cond_false]
      rw [lookU_out L outs (n + 1) (by simpa using h)]
      cases hi : idxOf r L (n + 1) with
      | none => rfl
      | some i =>
        simp only
        have := (idxOf_some hi).1
        have e : i - n = (i - (n + 1)) + 1 := by omega
        rw [e, List.getElem?_cons_succ]
theorem lookU_new {m : Root → Option Root} {r : Root} {d : Nat} : ∀ (news : List Ob) (n : Nat), lookU r (newUps m d n news) = if r.1 = d ∧ n ≤ r.2 ∧ r.2 < n + news.length then (news[r.2 - n]?).map (fun o => some (renO m o)) else none
  | [], n => by
    simp only [newUps, lookU, List.length_nil, Nat.add_zero]
    rw [if_neg (by omega)]
  | o :: news, n => by
    simp only [newUps, lookU]
    cases hb : rbeq r (d, n) with
    | true =>
      have e := rbeq_eq.1 hb
      subst e
      simp
    | false =>
      have hne := rbeq_ne.1 hb
      simp only [cond_false]
      rw [lookU_new news (n + 1)]
      by_cases hc : r.1 = d ∧ n + 1 ≤ r.2 ∧ r.2 < n + 1 + news.length
      · rw [if_pos hc, if_pos (by simp only [List.length_cons]; omega)]
        have e : r.2 - n = (r.2 - (n + 1)) + 1 := by omega
        rw [e, List.getElem?_cons_succ]
      · rw [if_neg hc, if_neg]
        rintro ⟨h1, h2, h3⟩
        simp only [List.length_cons] at h3
        refine hc ⟨h1, ?_, by omega⟩
        rcases Nat.eq_or_lt_of_le h2 with h4 | h4
        · exact absurd (Prod.ext h1 h4.symm) hne
        · exact h4
theorem mem_outKills : ∀ {L : List Root} {outs : List (Option Ob)} {i : Nat} {r : Root}, L[i]? = some r → outs[i]? = some none → r ∈ outKills L outs
  | q :: L, o :: outs, 0, r, h1, h2 => by
    simp at h1 h2
    subst h1
    subst h2
    simp [outKills]
  | q :: L, o :: outs, i + 1, r, h1, h2 => by
    have := mem_outKills (L := L) (outs := outs) (i := i) (r := r) (by simpa using h1) (by simpa using h2)
    cases o <;> simp [outKills, this]
  | [], _, i, r, h1, _ => by simp at h1
  | q :: L, [], i, r, _, h2 => by simp at h2
theorem mem_newKills {look : Root → Option Ob} {d : Nat} : ∀ {news : List Ob} {n j : Nat}, j < news.length → ∀ {o}, look (d, n + j) = some o → (d, n + j) ∈ newKills look d n news
  | [], n, j, h, o, _ => by simp at h
  | x :: news, n, 0, h, o, ho => by
    rw [Nat.add_zero] at ho
    simp [newKills, stale, ho]
  | x :: news, n, j + 1, h, o, ho => by
    have e : n + (j + 1) = (n + 1) + j := by omega
    rw [e] at ho ⊢
    have := mem_newKills (look := look) (d := d) (news := news) (n := n + 1) (j := j) (by simpa using h) ho
    simp [newKills, this]
theorem noClash_get {d : Nat} {news : List Ob} : ∀ {L : List Root} {outs : List (Option Ob)}, noClash d news L outs = true → ∀ {i : Nat} {r : Root} {o : Ob}, L[i]? = some r → outs[i]? = some (some o) → r.1 = d → news = []
  | q :: L, o' :: outs, h, 0, r, o, h1, h2, h3 => by
    simp at h1 h2
    subst h1
    subst h2
    simp only [noClash, Bool.and_eq_true] at h
    have h4 := h.1
    have hb : Nat.beq q.1 d = true := by rw [h3]; exact Nat.beq_refl d
    rw [hb] at h4
    simpa using h4
  | q :: L, o' :: outs, h, i + 1, r, o, h1, h2, h3 => by
    simp only [noClash, Bool.and_eq_true] at h
    exact noClash_get h.2 (by simpa using h1) (by simpa using h2) h3
  | [], _, _, i, r, o, h1, _, _ => by simp at h1
  | q :: L, [], _, i, r, o, _, h2, _ => by simp at h2

/-! ### The call -/
section
variable {P : Program} {o : Oper} {E : Env} {S : St} {a : Act} {w : World} {cx : Cx} {look : Root → Option Ob} {d : Nat} {δ : Delta} {hints : Nat → Hint} {call : Nat → List AV → List Ob → Option Ret}

/-- the context handed over -/
def cxCall (L : List Root) (cx : Cx) : Cx := { β := fun r => bif Nat.beq r.1 PAR then (L[r.2]?).bind cx.β else none, pr := cx.pr }
theorem cxCall_par (L : List Root) (cx : Cx) (i : Nat) : (cxCall L cx).β (PAR, i) = (L[i]?).bind cx.β := by
  show (bif Nat.beq PAR PAR then (L[i]?).bind cx.β else none) = _
  rw [Nat.beq_refl]
  rfl
theorem cxCall_some {L : List Root} {cx : Cx} {r : Root} {b : RB} (h : (cxCall L cx).β r = some b) : ∃ i q, r = (PAR, i) ∧ L[i]? = some q ∧ cx.β q = some b := by
  unfold cxCall at h
  simp only at h
  cases hb : Nat.beq r.1 PAR with
  | false => rw [hb] at h; cases h
  | true =>
    rw [hb] at h
    simp only [cond_true] at h
    cases hq : L[r.2]? with
    | none => rw [hq] at h; cases h
    | some q =>
      rw [hq] at h
      refine ⟨r.2, q, ?_, hq, h⟩
      rw [← Nat.eq_of_beq_eq_true hb]
theorem cxCall_names (L : List Root) (cx : Cx) : Names cx (cxCall L cx) (parOf L) := by
  intro r r' b h1 h2
  obtain ⟨i, rfl, hi⟩ := parOf_some h1
  rw [cxCall_par, hi]
  exact h2
theorem startHp_some {objs : List Ob} {r : Root} {o : Ob} (h : startHp objs r = some o) : ∃ i, r = (PAR, i) ∧ objs[i]? = some o := by
  unfold startHp at h
  cases hb : Nat.beq r.1 PAR with
  | false => rw [hb] at h; cases h
  | true =>
    rw [hb] at h
    exact ⟨r.2, by rw [← Nat.eq_of_beq_eq_true hb], h⟩
theorem callStart {L : List Root} (hn : nodupB L = true) {objs : List Ob} (hg : Good S.hp w cx E.free) (ho : objsOf look (parOf L) L = some objs) (hl : ∀ r o, r ∈ L → look r = some o → S.hp r = some o) :
    Good (startHp objs) w (cxCall L cx) (fun g => (∃ r ∈ L, blkOf cx r = some g) ∨ w.heap.size ≤ g) where
  rep r o hr := by
    obtain ⟨i, rfl, hi⟩ := startHp_some hr
    obtain ⟨h1, h2⟩ := objsOf_get ho
    have hil : i < L.length := by rw [← h1]; exact (List.getElem?_eq_some_iff.1 hi).1
    obtain ⟨o', h3, h4⟩ := h2 i _ (List.getElem?_eq_getElem hil)
    rw [hi] at h4
    injection h4 with h4
    subst h4
    refine RepO.move (cxCall_names L cx) (Lasts.refl w cx.pr) (fun b hb => ?_) (fun _ _ => rfl) (fun _ _ _ h => h) (hg.rep _ o' (hl _ _ (List.getElem_mem hil) h3))
    rw [cxCall_par, List.getElem?_eq_getElem hil]
    exact hb
  inj r r' g h1 h2 := by
    have key : ∀ r, blkOf (cxCall L cx) r = some g → ∃ i q, r = (PAR, i) ∧ L[i]? = some q ∧ blkOf cx q = some g := by
      intro r h
      unfold blkOf at h
      cases hb : (cxCall L cx).β r with
      | none => rw [hb] at h; cases h
      | some b =>
        obtain ⟨i, q, e1, e2, e3⟩ := cxCall_some hb
        rw [hb] at h
        exact ⟨i, q, e1, e2, by unfold blkOf; rw [e3]; exact h⟩
    obtain ⟨i, q, rfl, e2, e3⟩ := key r h1
    obtain ⟨i', q', rfl, f2, f3⟩ := key r' h2
    have : q = q' := hg.inj q q' g e3 f3
    subst this
    have g1 := idxOf_nodup (n := 0) hn e2
    have g2 := idxOf_nodup (n := 0) hn f2
    rw [g1] at g2
    injection g2 with g2
    congr 1
    omega
  lt := hg.lt
  dom r b hb := by
    obtain ⟨i, q, rfl, e2, e3⟩ := cxCall_some hb
    obtain ⟨h1, h2⟩ := objsOf_get ho
    obtain ⟨o', h3, h4⟩ := h2 i q e2
    exact ⟨_, h4⟩
  free r g h := by
    left
    unfold blkOf at h
    cases hb : (cxCall L cx).β r with
    | none => rw [hb] at h; cases h
    | some b =>
      obtain ⟨i, q, e1, e2, e3⟩ := cxCall_some hb
      rw [hb] at h
      exact ⟨q, List.mem_of_getElem? e2, by unfold blkOf; rw [e3]; exact h⟩
end

end Go.Am
