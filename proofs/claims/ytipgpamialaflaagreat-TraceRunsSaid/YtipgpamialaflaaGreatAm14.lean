/-
  AM, PART 14: slice literals, make, append.
-/
import Derived.Test.YtipgpamialaflaaGreatAm13
import Derived.Laws.OwnMore
import Derived.Lib.AppendStr
set_option linter.unusedVariables false
set_option linter.unusedSimpArgs false
namespace Go.Am
open Go Go.RowKit

theorem append_zero {P : Program} {w : World} (base : Nat) (t ty e : TypeId) (i : TypeInfo) (size : Nat) (ht : P.underlying t = some (.slice e)) (hi : P.info? e = some i) (v : Value) (n : Nat) (xs : List Value) (hown : w.ownsRow base e size v n xs) (A : Option Addr) (c : Nat) :
    (Builtin.append_ #[t, t] ty #[v, .slice A 0 c]).run P w = .ok v w := by
  rcases hown.2 with ⟨rfl, rfl⟩ | ⟨g, cap, cur, rfl, _, _, hnc, _⟩
  · cases A <;> simp [Builtin.append_, run_underlying ht, sizeOf, typeInfo, hi, Builtin.lenOf, Builtin.firstCells, loadCells, loadCellsFrom]
  · cases A <;> simp [Builtin.append_, run_underlying ht, sizeOf, typeInfo, hi, Builtin.lenOf, Builtin.firstCells, hnc, storeCells, loadCells, loadCellsFrom]
theorem append_own {P : Program} (w : World) (base : Nat) (t ty e : TypeId) (i : TypeInfo) (z : Value) (size bytes : Nat) (ht : P.underlying t = some (.slice e)) (hi : P.info? e = some i) (hz : i.zero = some z)
    (hsize : i.size = size) (hby : i.bytes = bytes) (hzs : z.cells.size = size) (hsz : 0 < size)
    (v : Value) (n : Nat) (xs : List Value) (hown : w.ownsRow base e size v n xs)
    (a : Addr) (m c : Nat) (news : List Value) (hl : news.length = m * size) (hnews : ∀ j u, news[j]? = some u → w.cell? (a.add j) = some u) (h1 : ∀ u ∈ news, u.oneCell' = true)
    (h63 : n + m ≤ maxLen) (hbytes : (n + m) * bytes ≤ 140737488355328) (hbase : base ≤ w.heap.size) :
    ∃ v' w', (Builtin.append_ #[t, t] ty #[v, .slice (some a) m c]).run P w = .ok v' w' ∧ w'.ownsRow base e size v' (n + m) (xs ++ news) ∧ w.grownBy w' v.ownBlock ∧ (v'.ownBlock = v.ownBlock ∨ (∀ g, v'.ownBlock = some g → w.heap.size ≤ g) ∧ w.grownBy w' none) := by
  obtain ⟨v', w', r1, r2, r3, r4⟩ := run_append_own (P := P) w base t ty e i z size bytes ht hi hz hsize hby hzs hsz v n xs hown a m c news hl hnews h1 h63 hbytes hbase
  refine ⟨v', w', r1, r2, r3, ?_⟩
  rcases hown.2 with ⟨rfl, rfl⟩ | ⟨g, cap, cur, rfl, hbg, hg, hnc, hcm, hcs, htake⟩
  · have hx : xs = [] := List.eq_nil_of_length_eq_zero (by simpa using hown.1)
    subst hx
    obtain ⟨v2, w2, s1, s2, _, _⟩ := run_append_own (P := P) w w.heap.size t ty e i z size bytes ht hi hz hsize hby hzs hsz (.slice none 0 0) 0 [] (World.ownsRow_nil _ _ _ _) a m c news hl hnews h1 h63 hbytes (Nat.le_refl _)
    rw [r1] at s1
    injection s1 with s1 s3
    subst s1
    exact .inr ⟨fun g hg => (s2.lt g hg).1, r3⟩
  · subst hsize
    subst hby
    by_cases hroom : n + m ≤ cap
    · have hfit : n * i.size + news.length ≤ cur.size := by rw [hl, hcs, ← Nat.add_mul]; exact Nat.mul_le_mul_right _ hroom
      have hr := run_append_room (P := P) w t ty e i ht hi g n cap cur hg a m c news hl hnews h1 hroom hfit
      rw [r1] at hr
      injection hr with hr _
      subst hr
      exact .inl rfl
    · have holds : ∀ j u, xs[j]? = some u → w.cell? ((⟨g, 0, none⟩ : Addr).add j) = some u := hown.cells (g := g) rfl
      have hsmall : n + m ≤ 9223372036854775807 := by simp only [maxLen] at h63; omega
      have hr := run_append_grow (P := P) w t ty e i z ht hi hz ⟨g, 0, none⟩ n cap xs hown.1 holds a m c news hl hnews (by omega) (by omega) (growslice_fits (by omega) hbytes)
      rw [r1] at hr
      injection hr with hr hw
      subst hr
      subst hw
      exact .inr ⟨fun g hg => by simp [Value.ownBlock] at hg; omega, ⟨rfl, rfl, rfl, by simp, fun k hk _ => alloc_same w.drew _ k hk⟩⟩
structure RepE (w : World) (pr : Nat → Nat → Prop) (k : Nat) (xs : List (List PV)) (news : List Value) : Prop where
  len : news.length = xs.length * k
  one : ∀ u ∈ news, u.oneCell' = true
  el : ∀ (i : Nat) (el : List PV), xs[i]? = some el → el.length = k
  rep : ∀ (i : Nat) (el : List PV) (j : Nat) (x : PV), xs[i]? = some el → el[j]? = some x → ∃ u, news[i * k + j]? = some u ∧ RepP w pr x u
theorem RepEl.e {w : World} {pr : Nat → Nat → Prop} {k : Nat} {xs : List (List PV)} {v : Value} {news : List Value} (h : RepEl w pr k xs v news) : RepE w pr k xs news := ⟨h.len, h.one, h.el, h.rep⟩
/-- Elements appended to elements. -/
theorem RepE.append {w : World} {pr : Nat → Nat → Prop} {k : Nat} {xs ys : List (List PV)} {n0 n1 : List Value} (h : RepE w pr k xs n0) (g : RepE w pr k ys n1) :
    (∀ x ∈ n0 ++ n1, x.oneCell' = true) ∧ (∀ (i : Nat) (el : List PV), (xs ++ ys)[i]? = some el → el.length = k) ∧ ∀ (i : Nat) (el : List PV) (j : Nat) (x : PV), (xs ++ ys)[i]? = some el → el[j]? = some x → ∃ u, (n0 ++ n1)[i * k + j]? = some u ∧ RepP w pr x u := by
  refine ⟨fun x hx => ?_, fun i el he => ?_, fun i el j x he hx => ?_⟩
  · rcases List.mem_append.1 hx with hx | hx
    · exact h.one x hx
    · exact g.one x hx
  · by_cases hi : i < xs.length
    · rw [List.getElem?_append_left hi] at he; exact h.el i el he
    · rw [List.getElem?_append_right (by omega)] at he; exact g.el _ el he
  · by_cases hi : i < xs.length
    · rw [List.getElem?_append_left hi] at he
      obtain ⟨u, hu, hr⟩ := h.rep i el j x he hx
      refine ⟨u, ?_, hr⟩
      rw [List.getElem?_append_left (List.getElem?_eq_some_iff.1 hu).1]
      exact hu
    · rw [List.getElem?_append_right (by omega)] at he
      obtain ⟨u, hu, hr⟩ := g.rep _ el j x he hx
      refine ⟨u, ?_, hr⟩
      have e1 : i * k + j = xs.length * k + ((i - xs.length) * k + j) := by
        rw [← Nat.add_assoc, ← Nat.add_mul]
        congr 2
        omega
      rw [e1, List.getElem?_append_right (by rw [h.len]; omega), h.len, Nat.add_sub_cancel_left]
      exact hu
theorem elB_info {P : Program} {e : TypeId} {k : Nat} (h : sizeB P e = some k) : ∃ i, P.info? e = some i ∧ i.size = k := underlying_of_info h

/-- WHAT APPEND GIVES, whatever was appended. -/
def AppendGives (P : Program) (w : World) (t t' ty e : TypeId) (k : Nat) (v x : Value) (n : Nat) (n0 : List Value) (m : Nat) (n1 : List Value) : Prop :=
  ∃ v' w', (Builtin.append_ #[t, t'] ty #[v, x]).run P w = .ok v' w' ∧ w'.ownsRow 0 e k v' (n + m) (n0 ++ n1) ∧ w.grownBy w' v.ownBlock ∧ (v'.ownBlock = v.ownBlock ∨ (∀ g, v'.ownBlock = some g → w.heap.size ≤ g) ∧ w.grownBy w' none)
theorem append_gives {P : Program} {w : World} {pr : Nat → Nat → Prop} {t ty e : TypeId} {i : TypeInfo} {z : Value} {k : Nat} (ht : P.underlying t = some (.slice e)) (hi : P.info? e = some i) (hz : i.zero = some z) (hsize : i.size = k) (hby : i.bytes ≤ 16384) (hzs : z.cells.size = k) (hsz : 0 < k)
    {v x : Value} {n : Nat} {n0 n1 : List Value} (hown : w.ownsRow 0 e k v n n0) {ys : List (List PV)} (hx : RepEl w pr k ys x n1) (hlim : n + ys.length ≤ LIM) : AppendGives P w t t ty e k v x n n0 ys.length n1 := by
  have hzero : ∀ A c, x = .slice A 0 c → ys = [] → AppendGives P w t t ty e k v x n n0 ys.length n1 := by
    intro A c he hy
    subst hy
    have hn : n1 = [] := List.eq_nil_of_length_eq_zero (by simpa using hx.len)
    subst hn
    subst he
    refine ⟨v, w, append_zero 0 t ty e i k ht hi v n n0 hown A c, by simpa using hown, ⟨rfl, rfl, rfl, Nat.le_refl _, fun _ _ _ => rfl⟩, .inl rfl⟩
  rcases hx.place with ⟨c, he, hy⟩ | ⟨g, o, c, he, hc⟩ | ⟨A, c, he, hy⟩
  · exact hzero none c he hy
  · subst he
    simp only [LIM] at hlim
    refine append_own (P := P) w 0 t ty e i z k i.bytes ht hi hz hsize rfl hzs hsz v n n0 hown ⟨g, o, none⟩ ys.length c n1 hx.len (fun j u hu => ?_) hx.one (by simp only [maxLen]; omega) ?_ (Nat.zero_le _)
    · rw [add_lit]; exact hc j u hu
    · have h1 : (n + ys.length) * i.bytes ≤ 4294967296 * 16384 := Nat.mul_le_mul hlim hby
      omega
  · exact hzero A c he hy
theorem append_none_OK {P : Program} {o : Oper} {E : Env} {S : St} {a : Act} {w : World} {cx : Cx} (h : Sim E S a w cx) (hd : ∀ d, o.dst = some d → d < E.n) {look : Root → Option Ob} {d : Nat} (hl : d ≠ PAR ∧ look (d, 0) = S.hp (d, 0)) {e : TypeId} {k : Nat} {t t' : TypeId} {v x : Value} {ys : List (List PV)} {n1 : List Value}
    (hv : v = .slice none 0 0) (hrun : ∀ w' v', (Builtin.append_ #[t, t'] o.type #[v, x]).run P w = .ok v' w' → (execOp a.eval o).run P w = .ok (.value v') w') (hk : 0 < k) (hx : RepE w cx.pr k ys n1) (hg : AppendGives P w t t' o.type e k v x 0 [] ys.length n1) :
    OK P o E (applyD S o.dst (new1 look d (.c (.arr (d, 0) k)) (.arr e k ys false))) a w := by
  rw [new1_seals]
  refine .new h hd hl [] _ _ fun S' cx' hs hn hlast _ _ hpr => ?_
  obtain ⟨v', w', r1, r2, r3, r4⟩ := hg
  subst hv
  have hb : ∀ g, v'.ownBlock = some g → w.heap.size ≤ g := by
    rcases r4 with r4 | r4
    · intro g hg
      rw [r4] at hg
      cases hg
    · exact r4.1
  rw [Nat.zero_add, List.nil_append] at r2
  obtain ⟨q1, q2⟩ := hs.new_row (q := (d, 0)) hn ⟨r3.os, r3.tape, r3.output⟩ r3.size (fun b hb => r3.block b hb (by simp [Value.ownBlock])) r2 hb hk hx.el hx.one (fun i el j x he hx' => by
    obtain ⟨u, hu, hr⟩ := hx.rep i el j x he hx'
    exact ⟨u, hu, hr.lasts hlast⟩)
  exact ⟨v', w', _, hrun _ _ r1, q1, q2⟩
set_option maxHeartbeats 1000000 in
theorem append_row_OK {P : Program} {o : Oper} {E : Env} {S : St} {a : Act} {w : World} {cx : Cx} (h : Sim E S a w cx) (hd : ∀ d, o.dst = some d → d < E.n) {look : Root → Option Ob} (hl : Sub look S.hp) {d : Nat} (hld : d ≠ PAR ∧ look (d, 0) = S.hp (d, 0)) {r : Root} {e : TypeId} {k : Nat} {xs ys : List (List PV)} {s : Bool} (hr : look r = some (.arr e k xs s)) {t t' : TypeId} {v x : Value} {n1 : List Value}
    (hv : cx.β r = some (.row v)) (hrun : ∀ w' v', (Builtin.append_ #[t, t'] o.type #[v, x]).run P w = .ok v' w' → (execOp a.eval o).run P w = .ok (.value v') w') (hk : 0 < k) (hx : RepE w cx.pr k ys n1) (hg : ∀ n0, w.ownsRow 0 e k v xs.length n0 → AppendGives P w t t' o.type e k v x xs.length n0 ys.length n1) :
    OK P o E (applyD S o.dst { val := .c (.arr (d, 0) k), ups := [((d, 0), some (.arr e k (xs ++ ys) s))], kills := r :: stale look (d, 0) }) a w := by
  have hrow := h.good.rep r _ (hl r _ hr)
  obtain ⟨n0, e0, own0⟩ := row_el hrow hv
  obtain ⟨v', w', r1, r2, r3, r4⟩ := hg n0 own0
  obtain ⟨cx', h1, h2, h3, h4, h5⟩ := h.ahead [] (r :: stale look (d, 0))
  have hpr : cx'.pr = cx.pr := by
    rw [h5]
    funext g q
    simp [sealPr]
  have hq0 : cx'.β (d, 0) = none := by
    cases hb : cx'.β (d, 0) with
    | none => rfl
    | some b =>
      obtain ⟨o', ho'⟩ := h1.good.dom (d, 0) b hb
      exfalso
      simp only [killS, sealS] at ho'
      by_cases hm : rmem (d, 0) (r :: stale look (d, 0)) = true
      · rw [if_pos hm] at ho'; cases ho'
      · rw [if_neg hm] at ho'
        have : (d, 0) ∉ stale look (d, 0) := fun hh => hm (rmem_iff.2 (List.mem_cons_of_mem _ hh))
        unfold stale at this
        rw [hld.2] at this
        cases hh : S.hp (d, 0) with
        | none => rw [hh] at ho'; cases ho'
        | some o'' => rw [hh] at this; simp at this
  have hrk : cx'.β r = none := by
    cases hb : cx'.β r with
    | none => rfl
    | some b =>
      obtain ⟨o', ho'⟩ := h1.good.dom r b hb
      exfalso
      simp only [killS, sealS] at ho'
      rw [if_pos (by simp [rmem, rbeq_eq.2 rfl])] at ho'
      cases ho'
  have hblk : ∀ q g, blkOf cx' q = some g → blkOf cx q = some g := by
    intro q g hg
    unfold blkOf at hg ⊢
    cases hb : cx'.β q with
    | none => rw [hb] at hg; cases hg
    | some b => rw [hb] at hg; rw [h4 q b hb]; exact hg
  have hrb : ∀ g, v.ownBlock = some g → blkOf cx r = some g := fun g hg => by simp [blkOf, hv, RB.block, hg]
  have hap : ∀ q g, blkOf cx' q = some g → v.ownBlock ≠ some g := by
    intro q g hg he
    have : q = r := h.good.inj q r g (hblk q g hg) (hrb g he)
    subst this
    unfold blkOf at hg
    rw [hrk] at hg
    cases hg
  obtain ⟨v0, ys0, z1, z2, z3, z4, z5, z6⟩ := hrow
  rw [hv] at z1
  injection z1 with z1
  injection z1 with z1
  subst z1
  have hlast : Lasts w cx'.pr w' cx'.pr := by
    refine ⟨fun _ _ h => h, fun g q hp => ?_⟩
    have hlt := h1.good.lt g q hp
    by_cases hgb : v.ownBlock = some g
    · rw [hpr] at hp
      obtain ⟨_, hq⟩ := z6 g q hgb hp
      have hq' : q < n0.length := by rw [own0.1]; exact hq
      have hc0 := own0.cells hgb q _ (List.getElem?_eq_getElem hq')
      have ha : (⟨g, 0, none⟩ : Addr).add q = ⟨g, q, none⟩ := by rw [add_lit]; simp
      rcases r4 with r4 | ⟨_, r4⟩
      · have hc1 := r2.cells (r4.trans hgb) q _ (by rw [List.getElem?_append_left hq']; exact List.getElem?_eq_getElem hq')
        rw [ha] at hc0 hc1
        rw [hc0, hc1]
      · exact World.cell?_of_block (w := w) (r4.block g hlt (by simp))
    · exact World.cell?_of_block (w := w) (r3.block g hlt (fun e => hgb e.symm))
  have hmv : Moves E cx' w w' (d, 0) v.ownBlock := {
    os := r3.os
    tape := r3.tape
    output := r3.output
    size := r3.size
    blk := fun b hb hne => r3.block b hb (fun e => hne e.symm)
    apart := fun q g _ hg => hap q g hg
    free := fun g hg => h.good.free r g (hrb g hg)
    last := hlast }
  have hne0 : ∀ g o, v'.ownBlock = some g → cx'.pr g o → s = true ∧ o < (xs ++ ys).length * k := by
    intro g o hg hp
    rcases r4 with r4 | ⟨r4, _⟩
    · rw [hpr] at hp
      obtain ⟨a1, a2⟩ := z6 g o (r4 ▸ hg) hp
      refine ⟨a1, Nat.lt_of_lt_of_le a2 (Nat.mul_le_mul_right k ?_)⟩
      rw [List.length_append]; omega
    · have := h1.good.lt g o hp
      have := r4 g hg
      omega
  have hap2 := e0.e.append hx
  have hsim := h1.update (d, 0) (.row v') (.arr e k (xs ++ ys) s) hmv (fun b hb => by rw [hq0] at hb; cases hb) (RepO.of_own (updB_same cx' (d, 0) _) (by rw [List.length_append]; exact r2) hk hap2.2.1 hap2.1 (fun i el j x he hxx => by
    obtain ⟨u, hu, hr⟩ := hap2.2.2 i el j x he hxx
    exact ⟨u, hu, (hr.lasts (pr' := cx'.pr) (by rw [hpr]; exact Lasts.refl _ _)).lasts hlast⟩) hne0) (fun g hg => by
    simp only [RB.block] at hg
    rcases r4 with r4 | ⟨r4, _⟩
    · rw [r4] at hg
      exact ⟨h.good.free r g (hrb g hg), fun q _ hq => hap q g hq hg⟩
    · refine ⟨.inr (Nat.le_trans h.fr.size (r4 g hg)), fun q _ hq => ?_⟩
      have := h1.good.block_lt hq
      have := r4 g hg
      omega) (.inl hld.1)
  rw [applyD_eq]
  refine OK.value (cx' := updB cx' (d, 0) (.row v')) (hrun _ _ r1) ?_
  rw [upS_one]
  exact hsim.put o.dst hd (.c _ _ (by rcases r2.2 with ⟨rfl, _⟩ | ⟨_, _, _, rfl, _⟩ <;> rfl) (.arr _ _ _ (updB_same _ _ _)))

end Go.Am
