/-
  AM, PART 28: the end of a function; calls of functions by their code.
-/
import Derived.Test.YtipgpamialaflaaGreatAm27
set_option linter.unusedVariables false
set_option linter.unusedSimpArgs false
set_option linter.unnecessarySimpa false
namespace Go.Am
open Go Go.RowKit

/-! ### Results -/
theorem loadVar_of {P : Program} {t : TypeId} {v u : Value} {w : World} (h : (Instr.loadAt t v).run P w = .ok u w) : ∃ a, v = .pointer (some a) ∧ (loadVar t a).run P w = .ok u w := by
  cases v with
  | pointer a => cases a with
    | some a => exact ⟨a, rfl, by simpa [Instr.loadAt, Instr.sureAddr] using h⟩
    | none => simp [Instr.loadAt, Instr.sureAddr, stuck, Sem.run_bind] at h
  | _ => simp [Instr.loadAt, Instr.sureAddr, stuck, Sem.run_bind] at h
def resRun (tmps : Array Value) : ResultVar → Sem Value
  | .tmp t => pure (tmps.getD t undef)
  | .cell a t => do loadVar t (← asAddr (tmps.getD a undef))
theorem mapM_run {P : Program} {w : World} {tmps : Array Value} : ∀ (l : List ResultVar) (vs : List Value), l.length = vs.length → (∀ (i : Nat) (r : ResultVar) (v : Value), l[i]? = some r → vs[i]? = some v → (resRun tmps r).run P w = .ok v w) → (l.mapM (resRun tmps)).run P w = .ok vs w
  | [], [], _, _ => by simp
  | [], v :: vs, h, _ => by simp at h
  | r :: l, [], h, _ => by simp at h
  | r :: l, v :: vs, h, hr => by
    have h0 := hr 0 r v rfl rfl
    have h1 := mapM_run l vs (by simpa using h) fun i r v hi hv => hr (i + 1) r v (by simpa using hi) (by simpa using hv)
    simp [List.mapM_cons, Sem.run_bind, h0, h1]
def tupV : List Value → Value
  | [v] => v
  | l => .tuple l.toArray
theorem results_run {P : Program} {w : World} {fn : Func} {tmps : Array Value} {vs : List Value} (hl : fn.results.toList.length = vs.length) (h : ∀ (i : Nat) (r : ResultVar) (v : Value), fn.results.toList[i]? = some r → vs[i]? = some v → (resRun tmps r).run P w = .ok v w) :
    (results fn tmps).run P w = .ok (tupV vs) w := by
  have h1 := mapM_run fn.results.toList vs hl h
  have h2 : (fn.results.mapM (resRun tmps)).run P w = .ok vs.toArray w := by
    rw [Array.mapM_eq_mapM_toList]
    simp [Sem.run_bind, h1]
  have e : results fn tmps = (do let vs ← fn.results.mapM (resRun tmps); pure (if h : vs.size = 1 then vs[0] else .tuple vs)) := by
    unfold results
    congr 2
  rw [e, Sem.run_bind, h2]
  simp only [Result.andThen_ok, Sem.run_pure]
  congr 1
  match vs with
  | [] => rfl
  | [v] => rfl
  | v :: u :: l => simp [tupV]

section
variable {P : Program} {E : Env} {S : St} {a : Act} {w : World} {cx : Cx}
theorem resOne_rep (h : Sim E S a w cx) {r : ResultVar} {x : AV} (hr : resOne P S r = some x) : ∃ v, (resRun a.tmps r).run P w = .ok v w ∧ RepA w cx x v := by
  cases r with
  | tmp t =>
    simp only [resOne, Option.some.injEq] at hr
    subst hr
    refine ⟨a.tmps.getD t undef, by simp [resRun], ?_⟩
    have := h.ov (.tmp t)
    simpa [Am.ov, Act.eval, Array.getD_eq_getD_getElem?] using this
  | cell at_ t =>
    simp only [resOne] at hr
    split at hr
    · rename_i s x' hs hx
      split at hr
      · rename_i l hl
        have hv := h.ov (.tmp at_)
        simp only [Am.ov] at hv
        rw [hx] at hv
        have hu : ∃ d, P.underlying t = some d := by
          unfold sizeB at hs
          split at hs
          · rename_i h2; exact ⟨_, h2⟩
          · cases hs
        obtain ⟨d, hu⟩ := hu
        obtain ⟨u, h1, h2⟩ := load_run h.good (fun _ _ e => e) hs hv.c_inv.1 hl hu hr
        obtain ⟨ad, ha, h3⟩ := loadVar_of h1
        refine ⟨u, ?_, h2⟩
        have ha' : a.tmps.getD at_ undef = .pointer (some ad) := by
          rw [← ha]
          simp [Act.eval, Array.getD_eq_getD_getElem?]
        simp [resRun, ha', asAddr, h3]
      · cases hr
    · cases hr
theorem resAll_rep (h : Sim E S a w cx) : ∀ {l : List ResultVar} {xs : List AV}, resAll P S l = some xs → ∃ us : List Value, l.length = us.length ∧ xs.length = us.length ∧ (∀ (i : Nat) (r : ResultVar) (v : Value), l[i]? = some r → us[i]? = some v → (resRun a.tmps r).run P w = .ok v w) ∧ ∀ (i : Nat) (x : AV) (v : Value), xs[i]? = some x → us[i]? = some v → RepA w cx x v
  | [], xs, hr => by
    simp only [resAll, Option.some.injEq] at hr
    subst hr
    exact ⟨[], rfl, rfl, fun i r v hi => by simp at hi, fun i x v hi => by simp at hi⟩
  | r :: l, xs, hr => by
    simp only [resAll] at hr
    split at hr
    · rename_i x xs' h1 h2
      injection hr with hr
      subst hr
      obtain ⟨v, hv, hx⟩ := resOne_rep h h1
      obtain ⟨us, e1, e2, e3, e4⟩ := resAll_rep h h2
      refine ⟨v :: us, by simp [e1], by simp [e2], fun i r' v' hi hv' => ?_, fun i x' v' hi hv' => ?_⟩
      · cases i with
        | zero => simp at hi hv'; subst hi; subst hv'; exact hv
        | succ i => exact e3 i r' v' (by simpa using hi) (by simpa using hv')
      · cases i with
        | zero => simp at hi hv'; subst hi; subst hv'; exact hx
        | succ i => exact e4 i x' v' (by simpa using hi) (by simpa using hv')
    · cases hr
theorem softRes_rep {ss : List Root} (H : RowsRead S.hp w cx (sealPr S cx ss) ss) : ∀ (ts : List TypeId) (xs : List AV) (us : List Value), (∀ x ∈ xs, ∀ r ∈ arrsA x, r ∈ ss) → (∀ (i : Nat) (x : AV) (v : Value), xs[i]? = some x → us[i]? = some v → RepA w cx x v) →
    (softRes P S.hp ts xs).length = xs.length ∧ ∀ (i : Nat) (x : AV) (v : Value), (softRes P S.hp ts xs)[i]? = some x → us[i]? = some v → RepA w (sealCx S cx ss) x v
  | [], xs, us, hs, hr => by
    have e : softRes P S.hp [] xs = xs := by cases xs <;> rfl
    rw [e]
    exact ⟨rfl, fun i x v hx hv => RepA.keep (cx := cx) (cx' := sealCx S cx ss) (fun _ _ hb => hb) ⟨fun g o hp => .inl hp, fun _ _ _ => rfl⟩ (hr i x v hx hv)⟩
  | t :: ts, [], us, hs, hr => ⟨rfl, fun i x v hx => by simp [softRes] at hx⟩
  | t :: ts, y :: xs, us, hs, hr => by
    obtain ⟨h1, h2⟩ := softRes_rep H ts xs us.tail (fun x hx => hs x (by simp [hx])) fun i x v hx hv => hr (i + 1) x v (by simpa using hx) (by rw [← hv]; cases us <;> simp)
    refine ⟨by simp [softRes, h1], fun i x v hx hv => ?_⟩
    cases i with
    | zero =>
      simp [softRes] at hx
      subst hx
      exact softA_rep H (hs y (by simp)) (hr 0 y v rfl hv)
    | succ i => exact h2 i x v (by simpa [softRes] using hx) (by rw [← hv]; cases us <;> simp)

/-! ### A box that nobody writes any more -/
def frozePr (S : St) (cx : Cx) (ss fz : List Root) (g o : Nat) : Prop :=
  sealPr S cx ss g o ∨ ∃ r t l, r ∈ fz ∧ S.hp r = some (.cells t l) ∧ cx.β r = some (.blk g) ∧ o < l.length
def frozeCx (S : St) (cx : Cx) (ss fz : List Root) : Cx := { β := cx.β, pr := frozePr S cx ss fz }
theorem froze_lasts (S : St) (cx : Cx) (ss fz : List Root) (w : World) : Lasts w (sealCx S cx ss).pr w (frozeCx S cx ss fz).pr := ⟨fun g o hp => .inl hp, fun _ _ _ => rfl⟩
theorem pvA_rep (h : Sim E S a w cx) {ss fz : List Root} (H : RowsRead S.hp w cx (sealPr S cx ss) ss) {x : AV} {v : Value} (hf : ∀ r ∈ pvR P S.hp x, r ∈ fz ∧ ∀ q ∈ cellArrs S.hp r, q ∈ ss) (hx : RepA w (sealCx S cx ss) x v) : RepA w (frozeCx S cx ss fz) (pvA P S.hp x) v := by
  unfold pvA pvR at *
  cases hp : pvOne P S.hp x with
  | none => exact RepA.keep (cx := sealCx S cx ss) (cx' := frozeCx S cx ss fz) (fun _ _ hb => hb) (froze_lasts S cx ss fz w) hx
  | some q =>
    obtain ⟨r, l'⟩ := q
    rw [hp] at hf
    simp only [List.mem_singleton, forall_eq] at hf
    unfold pvOne at hp
    split at hp
    · rename_i r'
      split at hp
      · rename_i t l hl
        simp only [Option.map_eq_some_iff, Prod.mk.injEq] at hp
        obtain ⟨l'', hpc, rfl, rfl⟩ := hp
        have hrc := hx.c_inv.1
        cases hrc with
        | ptr _ _ g hb =>
          obtain ⟨g', cs, h1, h2, h3, h4, h5⟩ := h.good.rep r' _ hl
          have hb' : cx.β r' = some (.blk g) := hb
          rw [h1] at hb'
          injection hb' with hb'
          injection hb' with hb'
          subst hb'
          have hcs := RepCs.of_cells h3 h4
          have hps := pureCs_rep H ⟨fun g o hp => .inl hp, fun _ _ _ => rfl⟩ (fun q hq => hf.2 q (by unfold cellArrs; rw [hl]; exact hq)) hcs hpc
          obtain ⟨e1, e2, e3⟩ := hps
          have hsz : l''.length = l.length := by rw [e1, Array.length_toList, h3]
          refine .c _ _ rfl (.p _ _ (.pv l'' g' 0 (fun j => cs.toList.getD j undef) (fun j p hj => ?_) (fun j p hj => ?_) fun j p hj => ?_))
          · have hlt : j < cs.size := by have := (List.getElem?_eq_some_iff.1 hj).1; omega
            simp only [World.cell?, h2, Nat.zero_add]
            simp [hlt]
          · have hlt : j < l.length := by have := (List.getElem?_eq_some_iff.1 hj).1; omega
            rw [Nat.zero_add]
            exact .inr ⟨r', t, l, hf.1, hl, h1, hlt⟩
          · have hlt : j < cs.size := by have := (List.getElem?_eq_some_iff.1 hj).1; omega
            have := e3 j p (cs.toList.getD j undef) hj (by simp [hlt])
            exact this.lasts ⟨fun g o hp => .inl hp, fun _ _ _ => rfl⟩
      · cases hp
    · cases hp
end

/-! ### What goes out -/
def outCx (N : List Root) (n : Nat) (cx : Cx) (pr : Nat → Nat → Prop) : Cx where
  β r := bif Nat.beq r.1 PAR then (bif Nat.blt r.2 n then cx.β r else none) else bif Nat.beq r.1 NEW then (N[r.2]?).bind cx.β else none
  pr := pr
theorem outCx_names (N : List Root) (n : Nat) (cx : Cx) (pr : Nat → Nat → Prop) : Names cx (outCx N n cx pr) (endM N n) := by
  intro r r' b hm hb
  unfold endM at hm
  cases hp : Nat.beq r.1 PAR with
  | true =>
    rw [hp] at hm
    simp only [cond_true] at hm
    cases hn : Nat.blt r.2 n with
    | false => rw [hn] at hm; cases hm
    | true =>
      rw [hn] at hm
      simp only [cond_true, Option.some.injEq] at hm
      subst hm
      simp only [outCx, hp, hn, cond_true]
      exact hb
  | false =>
    rw [hp] at hm
    simp only [cond_false, Option.map_eq_some_iff] at hm
    obtain ⟨j, hj, rfl⟩ := hm
    have hnp : Nat.beq NEW PAR = false := by decide
    have hnn : Nat.beq NEW NEW = true := by decide
    simp only [outCx, hnp, hnn, cond_true, cond_false]
    have := (idxOf_some hj).2
    rw [Nat.sub_zero] at this
    rw [this]
    exact hb
theorem outCx_some {N : List Root} {n : Nat} {cx : Cx} {pr : Nat → Nat → Prop} {r : Root} {b : RB} (h : (outCx N n cx pr).β r = some b) : (r.1 = PAR ∧ r.2 < n ∧ cx.β r = some b) ∨ (r.1 = NEW ∧ ∃ q, N[r.2]? = some q ∧ cx.β q = some b) := by
  simp only [outCx] at h
  cases hp : Nat.beq r.1 PAR with
  | true =>
    rw [hp] at h
    simp only [cond_true] at h
    cases hn : Nat.blt r.2 n with
    | false => rw [hn] at h; cases h
    | true =>
      rw [hn] at h
      exact .inl ⟨Nat.eq_of_beq_eq_true hp, by simpa [Nat.blt_eq] using hn, h⟩
  | false =>
    rw [hp] at h
    simp only [cond_false] at h
    cases hq : Nat.beq r.1 NEW with
    | false => rw [hq] at h; cases h
    | true =>
      rw [hq] at h
      simp only [cond_true, Option.bind_eq_some_iff] at h
      exact .inr ⟨Nat.eq_of_beq_eq_true hq, h⟩
theorem newsOf_ne {r : Root} : ∀ {l : List Root}, r ∈ newsOf l → r.1 ≠ PAR
  | [], h => by simp [newsOf] at h
  | q :: l, h => by
    simp only [newsOf] at h
    cases hb : Nat.beq q.1 PAR with
    | true => rw [hb] at h; exact newsOf_ne h
    | false =>
      rw [hb] at h
      rcases List.mem_cons.1 h with rfl | h
      · intro e
        rw [e, Nat.beq_refl] at hb
        cases hb
      · exact newsOf_ne h
theorem parRoots_get : ∀ (n i : Nat), (parRoots n)[i]? = if i < n then some (PAR, i) else none
  | 0, i => by simp [parRoots]
  | n + 1, i => by
    have hl : ∀ m, (parRoots m).length = m := fun m => by
      induction m with
      | zero => rfl
      | succ m ih => simp [parRoots, ih]
    simp only [parRoots]
    by_cases h : i < n
    · rw [List.getElem?_append_left (by rw [hl]; exact h), parRoots_get n i, if_pos h, if_pos (by omega)]
    · rw [List.getElem?_append_right (by rw [hl]; omega), hl]
      by_cases h2 : i = n
      · subst h2; simp
      · rw [if_neg (by omega), List.getElem?_eq_none (by simp; omega)]
theorem outObs_get {m : Root → Option Root} {look : Root → Option Ob} : ∀ (l : List Root) (i : Nat), (outObs m look l)[i]? = (l[i]?).map fun r => (look r).map (renO m)
  | [], i => by simp [outObs]
  | r :: l, 0 => by
    simp only [outObs, List.getElem?_cons_zero, Option.map_some, Option.some.injEq]
    cases look r <;> rfl
  | r :: l, i + 1 => by simp [outObs, outObs_get l i]
section
variable {P : Program} {E : Env} {S : St} {a : Act} {w : World} {cx : Cx}
theorem export_rep (h : Sim E S a w cx) {hint : Hint} {ss fz N : List Root} {n : Nat} {r r' : Root} {o : Ob} (hl : endLook P hint S ss r = some o) (hs : hint.hard = true ∨ ∀ q ∈ cellArrs S.hp r, q ∈ ss) (hfz : r ∉ fz)
    (hb : ∀ b, cx.β r = some b → (outCx N n cx (frozePr S cx ss fz)).β r' = some b) : RepO w (outCx N n cx (frozePr S cx ss fz)) r' (renO (endM N n) o) := by
  have hS := h.sealed ss
  have H := h.rows_read (fun _ _ e => e) ss
  unfold endLook at hl
  cases hr : S.hp r with
  | none => rw [hr] at hl; cases hl
  | some ob =>
    rw [hr] at hl
    simp only [Option.some.injEq] at hl
    have hs1 : (sealS ss S).hp r = some (bif rmem r ss then sealO ob else ob) := by simp only [sealS, hr]
    have h1 := hS.good.rep r _ hs1
    have h2 : RepO w (sealCx S cx ss) r o := by
      cases hh : hint.hard with
      | true =>
        rw [hh] at hl
        rw [← hl]
        exact h1
      | false =>
        rw [hh] at hl
        simp only [cond_false] at hl
        rw [hh] at hs
        have hs := hs.resolve_left (by simp)
        cases ob with
        | cells t l =>
          have e : (bif rmem r ss then sealO (.cells t l) else .cells t l) = .cells t l := by cases rmem r ss <;> rfl
          rw [e] at hl h1
          rw [← hl]
          simp only [softO]
          obtain ⟨g, cs, k1, k2, k3, k4, k5⟩ := h.good.rep r _ hr
          obtain ⟨g', cs', j1, j2, j3, j4, j5⟩ := h1
          have hcs := softCs_rep H (kinds P t) l cs.toList (fun q hq => hs q (by unfold cellArrs; rw [hr]; exact hq)) (RepCs.of_cells k3 k4)
          have ej : cx.β r = some (.blk g') := j1
          rw [k1] at ej
          injection ej with ej
          injection ej with ej
          subst ej
          refine ⟨g, cs, k1, k2, by rw [← Array.length_toList, hcs.len], fun i x v hx hv => ?_, j5⟩
          have hv' : cs.toList[i]? = some v := by simpa using hv
          exact ⟨hcs.one v (List.mem_of_getElem? hv'), hcs.rep i x v hx hv'⟩
        | arr e k xs s => rw [← hl]; cases hm : rmem r ss <;> (rw [hm] at h1; exact h1)
        | map ka va es => rw [← hl]; cases hm : rmem r ss <;> (rw [hm] at h1; exact h1)
    refine RepO.move (outCx_names N n (sealCx S cx ss) (frozePr S cx ss fz)) (froze_lasts S cx ss fz w) (fun b hb' => hb b hb') (fun _ _ => rfl) (fun g q hg hp => ?_) h2
    rcases hp with hp | ⟨r0, t, l, h0, h3, h4, h5⟩
    · exact hp
    · have : r0 = r := h.good.inj r0 r g (by simp [blkOf, h4, RB.block]) hg
      subst this
      exact absurd h0 hfz
theorem tupA_rep {w : World} {cx : Cx} : ∀ {xs : List AV} {us : List Value}, xs.length = us.length → (∀ (i : Nat) (x : AV) (v : Value), xs[i]? = some x → us[i]? = some v → RepA w cx x v) → RepA w cx (tupA xs) (tupV us)
  | [], [], _, _ => by simp only [tupA, tupV]; exact .tup [] [] rfl fun i x v hx => by simp at hx
  | [x], [v], _, h => h 0 x v rfl rfl
  | x :: y :: l, v :: u :: m, hl, h => by simp only [tupA, tupV]; exact .tup _ _ hl h
  | [], _ :: _, hl, _ => by simp at hl
  | _ :: _, [], hl, _ => by simp at hl
  | [_], _ :: _ :: _, hl, _ => by simp at hl
  | _ :: _ :: _, [_], hl, _ => by simp at hl
set_option maxHeartbeats 1000000 in
theorem finish_OK (h : Sim E S a w cx) {fn : Func} {hint : Hint} {n : Nat} {ret : Ret} (hf : finish P fn hint n S = some ret) : ∃ v, (results fn a.tmps).run P w = .ok v w ∧ ∃ cx', Returns E.w E.pr E.mu E.β0 ret v w cx' := by
  unfold finish at hf
  split at hf
  · cases hf
  · rename_i vs hvs
    obtain ⟨us, e1, e2, hrun, hrep⟩ := resAll_rep h hvs
    refine ⟨tupV us, results_run e1 hrun, ?_⟩
    simp only at hf
    generalize hss : endSeals hint S.hp n vs = ss at hf
    have H := h.rows_read (fun _ _ e => e) ss
    have hS := h.sealed ss
    -- the answers, rows read
    generalize hv1 : (bif hint.ownRes then vs else softRes P S.hp fn.resultTypes.toList vs) = vs1 at hf
    have hr1 : vs1.length = vs.length ∧ ∀ (i : Nat) (x : AV) (v : Value), vs1[i]? = some x → us[i]? = some v → RepA w (sealCx S cx ss) x v := by
      cases ho : hint.ownRes with
      | true =>
        rw [ho] at hv1
        rw [← hv1]
        exact ⟨rfl, fun i x v hx hv => RepA.keep (cx := cx) (cx' := sealCx S cx ss) (fun _ _ hb => hb) ⟨fun g o hp => .inl hp, fun _ _ _ => rfl⟩ (hrep i x v hx hv)⟩
      | false =>
        rw [ho] at hv1
        rw [← hv1]
        refine softRes_rep H _ vs us (fun x hx r hr => ?_) hrep
        rw [← hss]
        unfold endSeals
        rw [ho]
        exact List.mem_append_left _ (List.mem_flatMap.2 ⟨x, hx, hr⟩)
    generalize hfz : (bif hint.pvRes then vs1.flatMap (pvR P S.hp) else []) = fz at hf
    generalize hv2 : (bif hint.pvRes then vs1.map (pvA P S.hp) else vs1) = vs2 at hf
    generalize hN : newsOf (collect (endLook P hint S ss) 60 (refsAs vs2 ++ parRoots n) []) = N at hf
    split at hf
    · cases hf
    · rename_i news hnews
      rw [cond_eq_if] at hf
      split at hf
      · rename_i hc
        simp only [Bool.and_eq_true] at hc
        obtain ⟨⟨hc1, hc2⟩, hc3⟩ := hc
        injection hf with hf
        subst hf
        have hfz2 : ∀ r ∈ fz, (∀ q ∈ cellArrs S.hp r, q ∈ ss) ∧ r.1 ≠ PAR ∧ r ∉ N := by
          intro r hr
          have := List.all_eq_true.1 hc2 r hr
          simp only [Bool.and_eq_true, List.all_eq_true, Bool.not_eq_true'] at this
          refine ⟨fun q hq => rmem_iff.1 (this.1.1 q hq), fun e => ?_, rmem_false.1 this.2⟩
          have h2 := this.1.2
          rw [e, Nat.beq_refl] at h2
          cases h2
        have hr2 : vs2.length = vs.length ∧ ∀ (i : Nat) (x : AV) (v : Value), vs2[i]? = some x → us[i]? = some v → RepA w (frozeCx S cx ss fz) x v := by
          cases hp : hint.pvRes with
          | false =>
            rw [hp] at hv2
            rw [← hv2]
            exact ⟨hr1.1, fun i x v hx hv => RepA.keep (cx := sealCx S cx ss) (cx' := frozeCx S cx ss fz) (fun _ _ hb => hb) (froze_lasts S cx ss fz w) (hr1.2 i x v hx hv)⟩
          | true =>
            rw [hp] at hv2 hfz
            simp only [cond_true] at hv2 hfz
            rw [← hv2]
            refine ⟨by simp [hr1.1], fun i x v hx hv => ?_⟩
            rw [List.getElem?_map] at hx
            cases hy : vs1[i]? with
            | none => rw [hy] at hx; cases hx
            | some y =>
              rw [hy] at hx
              injection hx with hx
              subst hx
              refine pvA_rep h H (fun r hr => ?_) (hr1.2 i y v hy hv)
              have : r ∈ fz := by rw [← hfz]; exact List.mem_flatMap.2 ⟨y, List.mem_of_getElem? hy, hr⟩
              exact ⟨this, (hfz2 r this).1⟩
        obtain ⟨hnl, hng⟩ := objsOf_get hnews
        have hexp : ∀ r, r ∈ parRoots n ∨ r ∈ N → (hint.hard = true ∨ ∀ q ∈ cellArrs S.hp r, q ∈ ss) := by
          intro r hr
          rw [Bool.or_eq_true] at hc1
          rcases hc1 with hc1 | hc1
          · exact .inl hc1
          · have := List.all_eq_true.1 hc1 r (List.mem_append.2 hr)
            exact .inr fun q hq => rmem_iff.1 (List.all_eq_true.1 this q hq)
        have hNp : ∀ r ∈ N, r.1 ≠ PAR := fun r hr => by rw [← hN] at hr; exact newsOf_ne hr
        have hPN : Nat.beq NEW PAR = false := by decide
        have hNN : Nat.beq NEW NEW = true := by decide
        refine ⟨outCx N n cx (frozePr S cx ss fz), ?_⟩
        exact
        { fr :=
          { os := h.fr.os
            tape := h.fr.tape
            output := h.fr.output
            size := h.fr.size
            blk := h.fr.blk
            last := hS.fr.last.trans (froze_lasts S cx ss fz w)
            new := fun b o hp => by
              rcases hp with hp | ⟨r, t, l, h1, h2, h3, h4⟩
              · exact hS.fr.new b o hp
              · rcases h.good.free r b (by simp [blkOf, h3, RB.block]) with h5 | h5
                · exact .inr (.inl h5)
                · exact .inr (.inr h5) }
          good :=
          { rep := fun r o hr => by
              rcases retHp_some hr with ⟨i, rfl, hi⟩ | ⟨j, rfl, hj⟩
              · rw [outObs_get, parRoots_get] at hi
                split at hi
                · rename_i hlt
                  simp only [Option.map_some, Option.some.injEq, Option.map_eq_some_iff] at hi
                  obtain ⟨ob, h1, rfl⟩ := hi
                  refine export_rep h h1 (hexp _ (.inl (List.mem_of_getElem? (i := i) (by rw [parRoots_get, if_pos hlt])))) (fun hm => (hfz2 _ hm).2.1 rfl) fun b hb => ?_
                  have hlt' : Nat.blt i n = true := by simpa [Nat.blt_eq] using hlt
                  simp only [outCx, Nat.beq_refl, cond_true, hlt']
                  exact hb
                · cases hi
              · cases hq : N[j]? with
                | none =>
                  have : news[j]? = none := by rw [List.getElem?_eq_none_iff] at hq ⊢; omega
                  rw [this] at hj
                  cases hj
                | some q =>
                  obtain ⟨ob, h1, h2⟩ := hng j q hq
                  have hj' : news[j]? = some o := hj
                  rw [h2] at hj'
                  injection hj' with hj'
                  subst hj'
                  have hqN := List.mem_of_getElem? hq
                  refine export_rep h h1 (hexp q (.inr hqN)) (fun hm => (hfz2 q hm).2.2 hqN) fun b hb => ?_
                  simp only [outCx, hPN, hNN, cond_true, cond_false, hq]
                  exact hb
            inj := fun r r' g hr hr' => by
              unfold blkOf at hr hr'
              rw [Option.bind_eq_some_iff] at hr hr'
              obtain ⟨b, hb, hg⟩ := hr
              obtain ⟨b', hb', hg'⟩ := hr'
              rcases outCx_some hb with ⟨h1, h2, h3⟩ | ⟨h1, q, h2, h3⟩
              · rcases outCx_some hb' with ⟨k1, k2, k3⟩ | ⟨k1, q', k2, k3⟩
                · exact h.good.inj r r' g (by simp [blkOf, h3, hg]) (by simp [blkOf, k3, hg'])
                · have := h.good.inj r q' g (by simp [blkOf, h3, hg]) (by simp [blkOf, k3, hg'])
                  subst this
                  exact absurd h1 (hNp _ (List.mem_of_getElem? k2))
              · rcases outCx_some hb' with ⟨k1, k2, k3⟩ | ⟨k1, q', k2, k3⟩
                · have := h.good.inj q r' g (by simp [blkOf, h3, hg]) (by simp [blkOf, k3, hg'])
                  subst this
                  exact absurd k1 (hNp _ (List.mem_of_getElem? h2))
                · have := h.good.inj q q' g (by simp [blkOf, h3, hg]) (by simp [blkOf, k3, hg'])
                  subst this
                  have i1 := idxOf_nodup (n := 0) hc3 h2
                  have i2 := idxOf_nodup (n := 0) hc3 k2
                  rw [i1] at i2
                  have i3 : r.2 = r'.2 := by
                    have := Option.some.inj i2
                    rwa [Nat.zero_add, Nat.zero_add] at this
                  exact Prod.ext (h1.trans k1.symm) i3
            lt := fun b o hp => by
              rcases hp with hp | ⟨r, t, l, h1, h2, h3, h4⟩
              · exact hS.good.lt b o hp
              · exact (h.good.rep r _ h2).block_lt (by simp [blkOf, h3, RB.block])
            dom := fun r b hb => by
              rcases outCx_some hb with ⟨h1, h2, h3⟩ | ⟨h1, q, h2, h3⟩
              · obtain ⟨ob, hob⟩ := h.good.dom r b h3
                obtain ⟨r1, r2⟩ := r
                simp only at h1 h2
                subst h1
                have hel : ∃ o, endLook P hint S ss (PAR, r2) = some o := by
                  unfold endLook
                  rw [hob]
                  exact ⟨_, rfl⟩
                obtain ⟨o, ho⟩ := hel
                refine ⟨renO (endM N n) o, ?_⟩
                simp only [retHp, Nat.beq_refl, cond_true]
                rw [outObs_get, parRoots_get, if_pos h2]
                simp [ho]
              · obtain ⟨o, h4, h5⟩ := hng r.2 q h2
                obtain ⟨r1, r2⟩ := r
                simp only at h1 h5
                subst h1
                refine ⟨renO (endM N n) o, ?_⟩
                simp only [retHp, hPN, hNN, cond_true, cond_false]
                exact h5
            free := fun r g hr => by
              unfold blkOf at hr
              rw [Option.bind_eq_some_iff] at hr
              obtain ⟨b, hb, hg⟩ := hr
              rcases outCx_some hb with ⟨h1, h2, h3⟩ | ⟨h1, q, h2, h3⟩
              · exact h.good.free r g (by simp [blkOf, h3, hg])
              · exact h.good.free q g (by simp [blkOf, h3, hg]) }
          par := fun i b hb => by
            rcases outCx_some hb with ⟨h1, h2, h3⟩ | ⟨h1, q, h2, h3⟩
            · exact h.par i b h3
            · have h1 : PAR = NEW := h1
              exact absurd h1 (by decide)
          res := tupA_rep (by rw [renAs_length]; omega) fun i x v hx hv => by
            rw [renAs_get] at hx
            cases hy : vs2[i]? with
            | none => rw [hy] at hx; cases hx
            | some y =>
              rw [hy] at hx
              injection hx with hx
              subst hx
              exact (hr2.2 i y v hy hv).ren (outCx_names N n (frozeCx S cx ss fz) (frozePr S cx ss fz)) (Lasts.refl _ _) }
      · cases hf

/-! ### A function called -/
theorem startSim {fn : Func} {as : List AV} {objs : List Ob} {vs : List Value} {mu : Nat → Prop} (hl : as.length = vs.length) (hr : ∀ (i : Nat) (x : AV) (v : Value), as[i]? = some x → vs[i]? = some v → RepA w cx x v)
    (hg : Good (startHp objs) w cx (fun g => mu g ∨ w.heap.size ≤ g)) (hn : as.length ≤ fn.ntmps) :
    Sim { w := w, pr := cx.pr, mu := mu, n := fn.ntmps, β0 := cx.β } { sl := startSl as, hp := startHp objs } { tmps := vs.toArray ++ Array.replicate (fn.ntmps - vs.toArray.size) undef, defers := [] } w cx where
  fr := ⟨rfl, rfl, rfl, Nat.le_refl _, fun _ _ _ => rfl, Lasts.refl w cx.pr, fun b o h => .inl h⟩
  good := hg
  defers := rfl
  size := by simp; omega
  slots i v hv := by
    simp only [startSl]
    cases hx : as[i]? with
    | none => simp only [Option.getD_none]; exact .un v
    | some x =>
      simp only [Option.getD_some]
      have hi : i < vs.length := by rw [← hl]; exact (List.getElem?_eq_some_iff.1 hx).1
      rw [Array.getElem?_append_left (by simpa using hi)] at hv
      exact hr i x v hx (by simpa using hv)
  high i hi := by
    simp only [startSl]
    rw [List.getElem?_eq_none (Nat.le_trans hn hi)]
    rfl
  par i b hb := hb
theorem runFn_OK {hints : Nat → Hint} {call : Nat → List AV → List Ob → Option Ret} (hN : NoNum P) (hm : P.follows .mixedOrders = true) (hC : CallOK P call) {n f : Nat} {as : List AV} {objs : List Ob} {ret : Ret} (hr : runFn P hints call n f as objs = some ret)
    (w : World) (cx : Cx) (mu : Nat → Prop) (vs : List Value) (hl : as.length = vs.length) (hrep : ∀ (i : Nat) (x : AV) (v : Value), as[i]? = some x → vs[i]? = some v → RepA w cx x v) (hg : Good (startHp objs) w cx (fun g => mu g ∨ w.heap.size ≤ g)) :
    Calls P f vs.toArray w fun e w' => match e with | .returned v => ∃ cx', Returns w cx.pr mu cx.β ret v w' cx' | _ => False := by
  unfold runFn at hr
  split at hr
  · cases hr
  · rename_i fn hfn
    split at hr
    · cases hr
    · rename_i c hc
      rw [cond_eq_if] at hr
      split at hr
      · rename_i hle
        rw [Bool.and_eq_true] at hle
        have hle1 := Nat.le_of_ble_eq_true hle.1
        have hle2 := Nat.le_of_ble_eq_true hle.2
        have hsim := startSim (fn := fn) hl hrep hg hle1
        refine calls_of_wp hfn hc ?_
        split at hr
        · rename_i S' he
          refine exec_wp (E := { w := w, pr := cx.pr, mu := mu, n := fn.ntmps, β0 := cx.β }) hN hC hm hle2 (hints f) n c 1000000 hsim he fun a' w' cx' hs => ?_
          obtain ⟨v, h1, h2⟩ := finish_OK hs hr
          exact ⟨hs.defers, v, h1, h2⟩
        · rename_i S' he
          refine exec_wp (E := { w := w, pr := cx.pr, mu := mu, n := fn.ntmps, β0 := cx.β }) hN hC hm hle2 (hints f) n c 1000000 hsim he fun a' w' cx' hs => ?_
          obtain ⟨v, h1, h2⟩ := finish_OK hs hr
          exact ⟨hs.defers, v, h1, h2⟩
        · cases hr
      · cases hr
/-- what is known of a function by other roads -/
def ExtOK (P : Program) (ext : Ext) : Prop := ∀ f g, ext f = some g → CallOK P (fun f' as objs => if f' = f then g as objs else none)
theorem dcall_OK {hints : Nat → Hint} {ext : Ext} (hN : NoNum P) (hm : P.follows .mixedOrders = true) (hX : ExtOK P ext) : ∀ n, CallOK P (dcall P hints ext n)
  | 0 => fun g as objs ret h => by simp [dcall] at h
  | n + 1 => fun f as objs ret h w cx mu vs hl hrep hg => by
    simp only [dcall] at h
    split at h
    · rename_i g hg'
      exact hX f g hg' f as objs ret (by simpa using h) w cx mu vs hl hrep hg
    · exact runFn_OK hN hm (dcall_OK hN hm hX n) h w cx mu vs hl hrep hg
end
end Go.Am
