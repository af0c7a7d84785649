/-
  AM, PART 10: what an operation does to the state, taken apart; a new object; a store.
-/
import Derived.Test.YtipgpamialaflaaGreatAm9
set_option linter.unusedVariables false
set_option linter.unusedSimpArgs false
namespace Go.Am
open Go Go.RowKit

def killS (ks : List Root) (S : St) : St := { sl := fun j => renA (killM ks) (S.sl j), hp := fun r => if rmem r ks = true then none else (S.hp r).map (renO (killM ks)) }
def upS (us : List (Root × Option Ob)) (S : St) : St := { S with hp := fun r => match lookU r us with | some o => o | none => S.hp r }
theorem killM_nil (r : Root) : killM [] r = some r := rfl
theorem sealO_ren (m : Root → Option Root) (o : Ob) : sealO (renO m o) = renO m (sealO o) := by cases o <;> rfl
def putS (ps : List (Root × Nat × List CV)) (S : St) : St := { S with hp := fun r => putO r ps (S.hp r) }
theorem applyD_hp (S : St) (dst : Option Nat) (val : AV) (ups : List (Root × Option Ob)) (seals kills : List Root) (puts : List (Root × Nat × List CV)) : (applyD S dst ⟨val, ups, seals, kills, puts⟩).hp = (setSl (putS puts (upS ups (killS kills (sealS seals S)))) dst val).hp := by
  funext r
  have hgen : (putO r puts <| match lookU r ups with | some o => o | none => bif rmem r kills then none else match S.hp r with | none => none | some o => let o' := match kills with | [] => o | _ => renO (killM kills) o; some (bif rmem r seals then sealO o' else o')) = (setSl (putS puts (upS ups (killS kills (sealS seals S)))) dst val).hp r := by
    simp only [setSl, putS, upS, killS, sealS]
    congr 1
    cases lookU r ups with
    | some o => rfl
    | none =>
      cases hk : rmem r kills with
      | true => simp
      | false =>
        simp only [cond_false, Bool.false_eq_true, if_false]
        cases S.hp r with
        | none => rfl
        | some o =>
          simp only [Option.map_some]
          cases hs : rmem r seals with
          | false =>
            simp only [cond_false]
            cases kills with
            | nil => rw [renO_id killM_nil]
            | cons => rfl
          | true =>
            simp only [cond_true]
            cases kills with
            | nil => rw [renO_id killM_nil (sealO o)]
            | cons => simp only; rw [sealO_ren]
  rw [← hgen]
  cases ups with
  | cons => rfl
  | nil =>
    cases seals with
    | cons => rfl
    | nil =>
      cases kills with
      | cons => rfl
      | nil =>
        cases puts with
        | cons => rfl
        | nil =>
          simp only [applyD, lookU, rmem, cond_false, putO]
          cases S.hp r <;> rfl
theorem applyD_puts (S : St) (dst : Option Nat) (δ : Delta) : applyD S dst δ = setSl (putS δ.puts (upS δ.ups (killS δ.kills (sealS δ.seals S)))) dst δ.val := by
  obtain ⟨val, ups, seals, kills, puts⟩ := δ
  have hsl : ∀ j, renA (killM kills) (S.sl j) = match kills with | [] => S.sl j | ks => renA (killM ks) (S.sl j) := by
    intro j
    cases kills with
    | nil => exact renA_id killM_nil _
    | cons => rfl
  have h1 : (applyD S dst ⟨val, ups, seals, kills, puts⟩).sl = (setSl (putS puts (upS ups (killS kills (sealS seals S)))) dst val).sl := by
    cases dst with
    | none =>
      funext j
      simp only [applyD, setSl, putS, upS, killS, sealS]
      rw [hsl]
      cases kills <;> rfl
    | some d =>
      funext j
      simp only [applyD, setSl, putS, upS, killS, sealS]
      rw [hsl]
      cases kills <;> rfl
  have h2 := applyD_hp S dst val ups seals kills puts
  have : ∀ A B : St, A.sl = B.sl → A.hp = B.hp → A = B := by
    rintro ⟨_, _⟩ ⟨_, _⟩ rfl rfl
    rfl
  exact this _ _ h1 h2
theorem applyD_eq (S : St) (dst : Option Nat) (val : AV) (ups : List (Root × Option Ob)) (seals kills : List Root) : applyD S dst { val := val, ups := ups, seals := seals, kills := kills } = setSl (upS ups (killS kills (sealS seals S))) dst val := applyD_puts S dst _
theorem killM_only (ks : List Root) : killM ks = onlyM (fun r => !rmem r ks) := by
  funext r
  unfold killM onlyM
  cases h : rmem r ks <;> simp [h]
/-- Sealed and killed: the state ahead of what is new. -/
theorem Sim.ahead {E : Env} {S : St} {a : Act} {w : World} {cx : Cx} (h : Sim E S a w cx) (ss ks : List Root) :
    ∃ cx', Sim E (killS ks (sealS ss S)) a w cx' ∧ Lasts w cx.pr w cx'.pr ∧ (∀ r b, r ∉ ks → cx.β r = some b → cx'.β r = some b) ∧ (∀ r b, cx'.β r = some b → cx.β r = some b) ∧ cx'.pr = sealPr S cx ss := by
  have h1 := h.sealed ss
  have h2 := h1.only (fun r => !rmem r ks) (S' := killS ks (sealS ss S)) (fun i => .inr (by simp only [killS]; rw [killM_only])) (by
    funext r
    simp only [killS, killM_only]
    cases rmem r ks <;> simp)
  refine ⟨_, h2, ⟨fun g o hp => .inl hp, fun _ _ _ => rfl⟩, fun r b hr hb => ?_, fun r b hb => ?_, rfl⟩
  · simp only [Cx.only, sealCx, rmem_false.2 hr, Bool.not_false, if_true]
    exact hb
  · simp only [Cx.only, sealCx] at hb
    split at hb
    · exact hb
    · cases hb
theorem Good.no_root {hp : Root → Option Ob} {w : World} {cx : Cx} {free : Nat → Prop} (h : Good hp w cx free) {q : Root} (hq : hp q = none) : cx.β q = none := by
  cases hb : cx.β q with
  | none => rfl
  | some b => obtain ⟨o, ho⟩ := h.dom q b hb; rw [hq] at ho; cases ho
theorem Good.block_lt {hp : Root → Option Ob} {w : World} {cx : Cx} {free : Nat → Prop} (h : Good hp w cx free) {r : Root} {g : Nat} (hg : blkOf cx r = some g) : g < w.heap.size := by
  cases hb : cx.β r with
  | none => simp [blkOf, hb] at hg
  | some b =>
    obtain ⟨o, ho⟩ := h.dom r b hb
    exact (h.rep r o ho).block_lt hg
theorem Sim.new {E : Env} {S : St} {a : Act} {w : World} {cx : Cx} (h : Sim E S a w cx) {w' : World} {q : Root} (hq : q.1 ≠ PAR ∧ S.hp q = none) (rb : RB) (o : Ob)
    (hos : w'.os = w.os ∧ w'.tape = w.tape ∧ w'.output = w.output) (hsz : w.heap.size ≤ w'.heap.size) (hw : ∀ b, b < w.heap.size → w'.heap[b]? = w.heap[b]?)
    (hrep : RepO w' (updB cx q rb) q o) (hb : ∀ g, rb.block = some g → w.heap.size ≤ g) : Sim E { S with hp := updH S.hp q (some o) } a w' (updB cx q rb) := by
  have hn := h.good.no_root hq.2
  refine h.update q rb o (tb := none) ⟨hos.1, hos.2.1, hos.2.2, hsz, fun b hb _ => hw b hb, fun _ _ _ _ => by simp, fun _ hg => by simp at hg, ⟨fun _ _ h => h, fun g o hp => ?_⟩⟩ (fun b hb => by rw [hn] at hb; cases hb) hrep (fun g hg => ⟨.inr (Nat.le_trans h.fr.size (hb g hg)), fun r _ hr => ?_⟩) (.inl hq.1)
  · exact World.cell?_of_block (w := w) (hw g (h.good.lt g o hp))
  · have := h.good.block_lt hr
    have := hb g hg
    omega
theorem updB_keep {cx : Cx} {q : Root} {rb : RB} (hn : cx.β q = none) : ∀ r b, cx.β r = some b → (updB cx q rb).β r = some b := by
  intro r b hb
  by_cases e : r = q
  · subst e; rw [hn] at hb; cases hb
  · rw [updB_other cx rb e, hb]
theorem alloc_same (w : World) (o : Obj) : ∀ b, b < w.heap.size → (w.alloc o).heap[b]? = w.heap[b]? := fun b hb => Below.heap_alloc w o b hb
theorem lasts_alloc {w : World} {cx : Cx} {hp : Root → Option Ob} {free : Nat → Prop} (h : Good hp w cx free) (o : Obj) : Lasts w cx.pr (w.alloc o) cx.pr :=
  ⟨fun _ _ h => h, fun g q hp => World.cell?_of_block (w := w) (alloc_same w o g (h.lt g q hp))⟩
theorem Sim.alloc_cells {E : Env} {S : St} {a : Act} {w : World} {cx : Cx} (h : Sim E S a w cx) {q : Root} (hq : q.1 ≠ PAR ∧ S.hp q = none) (t : TypeId) {l : List CV} {vs : List Value} (hl : RepCs w cx l vs) :
    Sim E { S with hp := updH S.hp q (some (.cells t l)) } a (w.alloc (.cells vs.toArray t)) (updB cx q (.blk w.heap.size)) := by
  have hn := h.good.no_root hq.2
  refine h.new hq (.blk w.heap.size) (.cells t l) ⟨rfl, rfl, rfl⟩ (by simp) (alloc_same w _) ?_ (fun g hg => by simp [RB.block] at hg; omega)
  refine ⟨w.heap.size, vs.toArray, updB_same cx q _, heap_alloc_new w _, by simpa using hl.len.symm, fun i x v hx hv => ?_, fun o ho => ?_⟩
  · have hv' : vs[i]? = some v := by simpa using hv
    exact ⟨hl.one v (List.mem_of_getElem? hv'), (hl.rep i x v hx hv').keep (updB_keep hn) (lasts_alloc h.good _)⟩
  · have := h.good.lt _ o ho
    omega
theorem lookU_one (r q : Root) (o : Option Ob) : lookU r [(q, o)] = bif rbeq r q then some o else none := by
  simp [lookU]
theorem upS_one (q : Root) (o : Ob) (S : St) : upS [(q, some o)] S = { S with hp := updH S.hp q (some o) } := by
  unfold upS updH
  congr 1
  funext r
  rw [lookU_one]
  cases rbeq r q <;> rfl
/-- An operation that makes one object at its site. -/
theorem OK.new {P : Program} {o : Oper} {E : Env} {S : St} {a : Act} {w : World} {cx : Cx} (h : Sim E S a w cx) (hd : ∀ d, o.dst = some d → d < E.n) {look : Root → Option Ob} {d : Nat} (hl : d ≠ PAR ∧ look (d, 0) = S.hp (d, 0)) (ss : List Root) (x : AV) (ob : Ob)
    (H : ∀ S' cx', Sim E S' a w cx' → (d ≠ PAR ∧ S'.hp (d, 0) = none) → Lasts w cx.pr w cx'.pr → (∀ r b, r ≠ (d, 0) → cx.β r = some b → cx'.β r = some b) → (∀ r b, r ∉ stale look (d, 0) → cx.β r = some b → cx'.β r = some b) → cx'.pr = sealPr S cx ss →
      ∃ v w' cx'', (execOp a.eval o).run P w = .ok (.value v) w' ∧ Sim E { S' with hp := updH S'.hp (d, 0) (some ob) } a w' cx'' ∧ RepA w' cx'' x v) :
    OK P o E (applyD S o.dst { new1 look d x ob with seals := ss }) a w := by
  show OK P o E (applyD S o.dst { val := x, ups := [((d, 0), some ob)], seals := ss, kills := stale look (d, 0) }) a w
  rw [applyD_eq]
  obtain ⟨cx', h1, h2, h3, h4, h5⟩ := h.ahead ss (stale look (d, 0))
  have hnone : (killS (stale look (d, 0)) (sealS ss S)).hp (d, 0) = none := by
    unfold stale
    simp only [killS, sealS, hl.2]
    cases hs : S.hp (d, 0) with
    | none => simp
    | some ob' => simp [rmem, rbeq_eq.2 rfl]
  have hk : ∀ r b, r ≠ (d, 0) → cx.β r = some b → cx'.β r = some b := by
    intro r b hr hb
    refine h3 r b ?_ hb
    unfold stale
    split
    · simpa using hr
    · simp
  obtain ⟨v, w', cx'', hr, hs, hx⟩ := H _ cx' h1 ⟨hl.1, hnone⟩ h2 hk h3 h5
  refine OK.value (cx' := cx'') hr ?_
  have := hs.put o.dst hd hx
  rw [upS_one]
  exact this
theorem new1_seals (look : Root → Option Ob) (d : Nat) (x : AV) (ob : Ob) : new1 look d x ob = { new1 look d x ob with seals := [] } := rfl
theorem zeroB_rep {P : Program} {t : TypeId} {z : List CV} (h : zeroB P t = some z) : ∃ v, (∀ w, (zeroValue t).run P w = .ok v w) ∧ ∃ vs : List Value, v.cells = vs.toArray ∧ ∀ w cx, RepCs w cx z vs := by
  unfold zeroB at h
  split at h
  · rename_i v hv
    split at h
    · rename_i ho
      injection h with h
      subst h
      cases hi : P.info? t with
      | none => rw [hi] at hv; cases hv
      | some i =>
        rw [hi] at hv
        simp only [Option.bind_some] at hv
        refine ⟨v, fun w => by simp [zeroValue, typeInfo, hi, hv], v.cells.toList, by simp, fun w cx => ⟨by simp, fun u hu => ?_, fun i x u hx hu => ?_⟩⟩
        · rw [← oneB_eq]
          exact List.all_eq_true.1 ho u hu
        · rw [List.getElem?_map, hu] at hx
          injection hx with hx
          subst hx
          exact cConst_rep w cx u
    · cases h
  · cases h
theorem alloc_OK {P : Program} {o : Oper} {E : Env} {S : St} {a : Act} {w : World} {cx : Cx} (h : Sim E S a w cx) (hd : ∀ d, o.dst = some d → d < E.n) {look : Root → Option Ob} {d : Nat} (hl : d ≠ PAR ∧ look (d, 0) = S.hp (d, 0)) {t : TypeId} (ho : o.op = .alloc t) {z : List CV} (hz : zeroB P t = some z) :
    OK P o E (applyD S o.dst (new1 look d (.c (.ptr (d, 0) 0)) (.cells t z))) a w := by
  rw [new1_seals]
  refine .new h hd hl [] _ _ fun S' cx' hs hn _ _ _ _ => ?_
  obtain ⟨v, hrun, vs, hc, hr⟩ := zeroB_rep hz
  refine ⟨.pointer (some ⟨w.heap.size, 0, none⟩), _, _, ?_, hs.alloc_cells hn t (hr w cx'), .c _ _ rfl (.ptr _ _ _ (updB_same _ _ _))⟩
  simp only [execOp, ho, Instr.alloc, Sem.run_bind, hrun, Result.andThen_ok, newVar, newRow, run_newObj, Sem.run_pure, hc]
  rfl
theorem renCs_nil (l : List CV) : renCs (killM []) l = l := renCs_id killM_nil l
theorem fresh_eq (ks : List Root) (l : List CV) : fresh ks l = renCs (killM ks) l := by
  cases ks with
  | nil => exact (renCs_nil l).symm
  | cons => rfl
theorem RepCs.fresh {w : World} {cx cx' : Cx} {l : List CV} {vs : List Value} (h : RepCs w cx l vs) {ks : List Root} (hk : ∀ r b, r ∉ ks → cx.β r = some b → cx'.β r = some b) (k : Lasts w cx.pr w cx'.pr) : RepCs w cx' (fresh ks l) vs := by
  rw [fresh_eq]
  refine ⟨by rw [renCs_length]; exact h.len, h.one, fun i x u hx hu => ?_⟩
  rw [renCs_get] at hx
  cases hy : l[i]? with
  | none => rw [hy] at hx; cases hx
  | some y =>
    rw [hy] at hx
    injection hx with hx
    subst hx
    refine (h.rep i y u hy hu).ren (fun r r' b h1 h2 => ?_) k
    unfold killM at h1
    cases hm : rmem r ks with
    | true => rw [hm] at h1; cases h1
    | false =>
      rw [hm] at h1
      injection h1 with h1
      subst h1
      exact hk r b (rmem_false.1 hm) h2
theorem box_OK {P : Program} {o : Oper} {E : Env} {S : St} {a : Act} {w : World} {cx : Cx} (h : Sim E S a w cx) (hd : ∀ d, o.dst = some d → d < E.n) {look : Root → Option Ob} {d : Nat} (hl : d ≠ PAR ∧ look (d, 0) = S.hp (d, 0)) {t : TypeId} {x : Operand} (ho : o.op = .box t x) {l : List CV} (hx : (Am.ov S.sl x).cells? = some l) :
    OK P o E (applyD S o.dst (new1 look d (.c (.ptr (d, 0) 0)) (.cells t (Am.fresh (stale look (d, 0)) l)))) a w := by
  rw [new1_seals]
  refine .new h hd hl [] _ _ fun S' cx' hs hn hlast hk hks _ => ?_
  obtain ⟨vs, hc, hr⟩ := (h.ov x).cells hx
  refine ⟨.pointer (some ⟨w.heap.size, 0, none⟩), _, _, ?_, hs.alloc_cells hn t (hr.fresh hks hlast), .c _ _ rfl (.ptr _ _ _ (updB_same _ _ _))⟩
  simp only [execOp, ho, Instr.box, Sem.run_bind, newVar, newRow, run_newObj, Sem.run_pure, hc, Result.andThen_ok]
  rfl

end Go.Am
