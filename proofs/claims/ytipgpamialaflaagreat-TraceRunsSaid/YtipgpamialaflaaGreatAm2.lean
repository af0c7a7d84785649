/-
  AM, PART 2: what one operation does. Definitions alone.
-/
import Derived.Test.YtipgpamialaflaaGreatAm1
set_option linter.unusedVariables false
set_option linter.unusedSimpArgs false
namespace Go.Am
open Go

structure Hint where
  keep : List (Nat × (List Nat × List Root)) := []
  own : List Nat := []
  ownRes : Bool := false
  pvRes : Bool := false
  hard : Bool := false

def LIM : Nat := 4294967296
def asBoolA : AV → Option Bool
  | .c (.p (.sc (.bool b))) => some b
  | _ => none
def asIntA : AV → Option (IntKind × Int)
  | .c (.p (.sc (.int k n))) => some (k, n)
  | _ => none
def scI (n : Int) : AV := .c (.p (.sc (.int .i64 n)))
def scB (b : Bool) : AV := .c (.p (.sc (.bool b)))
def scS (s : ByteArray) : AV := .c (.p (.sc (.string s)))
def pureA : AV → Option (List PV)
  | .c (.p x) => some [x]
  | .agg l => go l
  | _ => none
where go : List CV → Option (List PV)
  | [] => some []
  | .p x :: l => (go l).map (x :: ·)
  | _ => none

/-! ### Comparing -/
def eqFs (P : Program) (rec : TypeId → List PV → List PV → Option Bool) : List Field → List PV → List PV → Option Bool
  | [], _, _ => some true
  | f :: fs, xs, ys =>
    if f.name = "_" then none
    else match sizeB P f.type with
      | none => none
      | some s => match cut xs f.offset s, cut ys f.offset s with
        | some x, some y => match rec f.type x y, eqFs P rec fs xs ys with
          | some b, some r => some (b && r)
          | _, _ => none
        | _, _ => none
def eqA (P : Program) : Nat → TypeId → List PV → List PV → Option Bool
  | 0, _, _, _ => none
  | d + 1, t, xs, ys =>
    match P.underlying t with
    | some .bool => match xs, ys with | [.sc (.bool a)], [.sc (.bool b)] => some (a == b) | _, _ => none
    | some (.int _) => match xs, ys with | [.sc (.int k a)], [.sc (.int k' b)] => if k = k' then some (a == b) else none | _, _ => none
    | some .string => match xs, ys with | [.sc (.string a)], [.sc (.string b)] => some (a == b) | _, _ => none
    | some (.struct fs) => if P.stoodInHeld t then none else eqFs P (eqA P d) fs.toList xs ys
    | _ => none
def isPtr : AV → Bool
  | .c (.p (.pv _)) | .c (.ra ..) | .c (.ptr ..) | .c (.ep ..) => true
  | _ => false
def isNilPtr : AV → Bool
  | .c (.p (.sc (.pointer none))) => true
  | _ => false
def intOp (op : BinOp) (k : IntKind) (a b : Int) : Option AV :=
  let bits (r : BitVec k.bits) : Option AV := some (.c (.p (.sc (.int k (k.wrap r.toNat)))))
  match op with
  | .add => some (.c (.p (.sc (.int k (k.wrap (a + b))))))
  | .sub => some (.c (.p (.sc (.int k (k.wrap (a - b))))))
  | .mul => some (.c (.p (.sc (.int k (k.wrap (a * b))))))
  | .quo => if b = 0 then none else some (.c (.p (.sc (.int k (k.wrap (a.tdiv b))))))
  | .rem => if b = 0 then none else some (.c (.p (.sc (.int k (a.tmod b)))))
  | .and => bits (BitVec.ofInt k.bits a &&& BitVec.ofInt k.bits b)
  | .or => bits (BitVec.ofInt k.bits a ||| BitVec.ofInt k.bits b)
  | .xor => bits (BitVec.ofInt k.bits a ^^^ BitVec.ofInt k.bits b)
  | .andNot => bits (BitVec.ofInt k.bits a &&& ~~~BitVec.ofInt k.bits b)
  | .eql => some (scB (a == b))
  | .neq => some (scB (a != b))
  | .lss => some (scB (decide (a < b)))
  | .leq => some (scB (decide (a ≤ b)))
  | .gtr => some (scB (decide (a > b)))
  | .geq => some (scB (decide (a ≥ b)))
  | _ => none
def shiftOp (op : BinOp) (k : IntKind) (a b : Int) : Option AV :=
  if b < 0 then none else
  match op with
  | .shl => some (.c (.p (.sc (.int k (k.wrap (a * 2 ^ (min b.toNat k.bits)))))))
  | .shr => some (.c (.p (.sc (.int k (a.fdiv (2 ^ (min b.toNat k.bits)))))))
  | _ => none
def strOp (op : BinOp) (a b : ByteArray) : Option AV :=
  match op with
  | .add => if a.size + b.size ≤ 4611686018427387904 then some (scS (a ++ b)) else none
  | .eql => some (scB (a.toList == b.toList))
  | .neq => some (scB (!(a.toList == b.toList)))
  | _ => none
def binA (P : Program) (op : BinOp) (t : TypeId) (x y : AV) : Option AV :=
  match x, y with
  | .c (.p (.sc (.int k a))), .c (.p (.sc (.int k' b))) =>
    match op with
    | .shl | .shr => shiftOp op k a b
    | _ => if k = k' then intOp op k a b else none
  | .c (.p (.sc (.string a))), .c (.p (.sc (.string b))) => strOp op a b
  | .c (.p (.sc (.bool a))), .c (.p (.sc (.bool b))) =>
    match P.underlying t, op with
    | some .bool, .eql => some (scB (a == b))
    | some .bool, .neq => some (scB (!(a == b)))
    | _, _ => none
  | .agg _, .agg _ =>
    if P.eqGuardType P.depth t || !aggB P t then none else
    match pureA x, pureA y with
    | some xs, some ys => match eqA P 12 t xs ys, op with
      | some b, .eql => some (scB b)
      | some b, .neq => some (scB (!b))
      | _, _ => none
    | _, _ => none
  | _, _ =>
    match P.underlying t with
    | some (.pointer _) =>
      if (isPtr x && isNilPtr y) || (isNilPtr x && isPtr y) then
        match op with | .eql => some (scB false) | .neq => some (scB true) | _ => none
      else if isNilPtr x && isNilPtr y then
        match op with | .eql => some (scB true) | .neq => some (scB false) | _ => none
      else none
    | _ => none
def unA (op : UnOp) (x : AV) : Option AV :=
  match op, x with
  | .not, .c (.p (.sc (.bool b))) => some (scB (!b))
  | .neg, .c (.p (.sc (.int k n))) => some (.c (.p (.sc (.int k (k.wrap (0 - n))))))
  | .xor, .c (.p (.sc (.int k n))) => intOp .xor k (if k.signed then -1 else k.max) n
  | _, _ => none

/-! ### Places -/
def fieldOf (P : Program) (s : TypeId) (f : Nat) : Option Field := match P.underlying s with | some (.struct fs) => fs[f]? | _ => none
def moveAddr (n : Nat) : CV → Option CV
  | .p (.pv l) => some (.ra l n)
  | .ra l o => some (.ra l (o + n))
  | .ptr r o => some (.ptr r (o + n))
  | .ep r k i j => some (.ep r k i (j + n))
  | _ => none
def fillA (place : Nat → Option (Nat × Nat)) (cells : List CV) : List (Nat × AV) → Option (List CV)
  | [] => some cells
  | (i, v) :: rest => match place i, v.cells? with
    | some (off, size), some vs =>
      bif Nat.beq vs.length size && Nat.ble (off + size) cells.length then fillA place (put cells off vs) rest else none
    | _, _ => none
def placeOf (P : Program) (t : TypeId) (i : Nat) : Option (Nat × Nat) :=
  match fieldOf P t i with
  | some f => (sizeB P f.type).map (f.offset, ·)
  | none => none
/-! elements of a slice: what is read of it -/
def elemsA (look : Root → Option Ob) (k : Nat) : AV → Option (List (List PV))
  | .c .nl => some []
  | .c (.p (.sl k' xs)) => bif Nat.beq k k' then some xs else none
  | .c (.arr r k') => match look r with | some (.arr _ k'' xs _) => bif Nat.beq k k' && Nat.beq k k'' then some xs else none | _ => none
  | _ => none
def bytesPV (s : ByteArray) : List (List PV) := s.data.toList.map fun b => [.sc (.int .u8 b.toNat)]
def byteOfPV : List PV → Option UInt8
  | [.sc (.int .u8 n)] => some (UInt8.ofNat n.toNat)
  | _ => none
def bytesOfPV : List (List PV) → Option (List UInt8)
  | [] => some []
  | x :: l => match byteOfPV x, bytesOfPV l with | some b, some r => some (b :: r) | _, _ => none
def mapFind (P : Program) (kt : TypeId) (key : List PV) : List (List PV × List PV) → Nat → Option (Option (Nat × (List PV × List PV)))
  | [], _ => some none
  | (k, v) :: es, i => match eqA P 12 kt key k with
    | some b => if b then some (some (i, (k, v))) else mapFind P kt key es (i + 1)
    | none => none
def beqB (a b : Bool) : Bool := bif a then b else !b
def isAggA : AV → Bool
  | .agg _ => true
  | _ => false
def zeroAgg (P : Program) (t : TypeId) : Bool := match (P.info? t).bind (·.zero) with | some (.agg _) => true | _ => false
def keyFs (P : Program) (rec : TypeId → List PV → Bool) : List Field → List PV → Bool
  | [], _ => true
  | f :: fs, xs => match sizeB P f.type with
    | none => false
    | some s => match cut xs f.offset s with | some x => Nat.blt 0 s && (aggB P f.type || Nat.beq s 1) && rec f.type x && keyFs P rec fs xs | none => false
def keyA (P : Program) : Nat → TypeId → List PV → Bool
  | 0, _, _ => false
  | d + 1, t, xs => match P.underlying t with
    | some (.int _) | some .bool | some .string => true
    | some (.struct fs) => keyFs P (keyA P d) fs.toList xs
    | _ => false
def sameSc : PV → PV → Bool
  | .sc (.bool a), .sc (.bool b) => a == b
  | .sc (.int k a), .sc (.int k' b) => k == k' && a == b
  | .sc (.string a), .sc (.string b) => a == b
  | _, _ => false
def sameAll : List PV → List PV → Bool
  | [], [] => true
  | x :: l, y :: m => sameSc x y && sameAll l m
  | _, _ => false
def mapOK (P : Program) (kt et : TypeId) (ka va : Bool) (key : AV) (kv : List PV) : Bool :=
  beqB ka (aggB P kt) && beqB va (aggB P et) && beqB va (zeroAgg P et) && beqB (isAggA key) ka && keyA P 12 kt kv
def setVal (v : List PV) : Nat → List (List PV × List PV) → List (List PV × List PV)
  | _, [] => []
  | 0, (k, _) :: es => (k, v) :: es
  | n + 1, e :: es => e :: setVal v n es
def stale (look : Root → Option Ob) (r : Root) : List Root := match look r with | some _ => [r] | none => []
def fresh (ks : List Root) (l : List CV) : List CV := match ks with | [] => l | ks => renCs (killM ks) l
def new1 (look : Root → Option Ob) (d : Nat) (v : AV) (o : Ob) : Delta := { val := v, ups := [((d, 0), some o)], kills := stale look (d, 0) }

def slBound (n : Nat) : Option AV → Nat → Option Nat
  | none, dflt => some dflt
  | some (.c (.p (.sc (.int _ i)))), _ => if 0 ≤ i ∧ i ≤ n then some i.toNat else none
  | _, _ => none

/-! ### Calls -/
def softArgs (P : Program) (look : Root → Option Ob) (own : List Nat) : Nat → List TypeId → List AV → List AV
  | i, t :: ts, a :: as => (if own.contains i then a else softA P look t a) :: softArgs P look own (i + 1) ts as
  | _, _, as => as
mutual
def arrsC : CV → List Root
  | .arr r _ => [r]
  | .clo _ cs => arrsCs cs
  | _ => []
def arrsCs : List CV → List Root
  | [] => []
  | x :: l => arrsC x ++ arrsCs l
end
def arrsA : AV → List Root
  | .c x => arrsC x
  | .agg l => arrsCs l
  | _ => []
def idxOf (r : Root) : List Root → Nat → Option Nat
  | [], _ => none
  | x :: l, i => bif rbeq r x then some i else idxOf r l (i + 1)
def parOf (L : List Root) (r : Root) : Option Root := (idxOf r L 0).map fun i => (PAR, i)
def backOf (L : List Root) (d : Nat) (r : Root) : Option Root :=
  bif Nat.beq r.1 PAR then L[r.2]? else bif Nat.beq r.1 NEW then some (d, r.2) else none
def objsOf (look : Root → Option Ob) (m : Root → Option Root) : List Root → Option (List Ob)
  | [] => some []
  | r :: l => match look r, objsOf look m l with | some o, some os => some (renO m o :: os) | _, _ => none
def outUps (m : Root → Option Root) : List Root → List (Option Ob) → List (Root × Option Ob)
  | r :: l, o :: os => (r, o.map (renO m)) :: outUps m l os
  | _, _ => []
def outKills : List Root → List (Option Ob) → List Root
  | r :: l, o :: os => match o with | none => r :: outKills l os | some _ => outKills l os
  | _, _ => []
def newUps (m : Root → Option Root) (d : Nat) : Nat → List Ob → List (Root × Option Ob)
  | _, [] => []
  | j, o :: os => ((d, j), some (renO m o)) :: newUps m d (j + 1) os
def newKills (look : Root → Option Ob) (d : Nat) : Nat → List Ob → List Root
  | _, [] => []
  | j, _ :: os => stale look (d, j) ++ newKills look d (j + 1) os

/-! a root that lives on is none of the new ones' names -/
def noClash (d : Nat) (news : List Ob) : List Root → List (Option Ob) → Bool
  | r :: l, o :: os => (!Nat.beq r.1 d || o.isNone || news.isEmpty) && noClash d news l os
  | _, _ => true
def softArrs (own : List Nat) : Nat → List TypeId → List AV → List Root
  | i, _ :: ts, a :: as => (if own.contains i then [] else arrsA a) ++ softArrs own (i + 1) ts as
  | _, _, _ => []
def nodupB : List Root → Bool
  | [] => true
  | r :: l => !rmem r l && nodupB l
def callA (P : Program) (hints : Nat → Hint) (call : Nat → List AV → List Ob → Option Ret) (look : Root → Option Ob) (d : Nat) (g : Nat) (args : List AV) : Option Delta :=
  match P.funcs[g]? with
  | none => none
  | some fn => match fn.body with
    | none => none
    | some _ =>
      let as := softArgs P look (hints g).own 0 fn.params.toList args
      let sa := softArrs (hints g).own 0 fn.params.toList args
      let L := collect look 60 (refsAs as) []
      bif nodupB L && sa.all (fun r => !rmem r L) then
        match objsOf look (parOf L) L with
        | none => none
        | some objs => match call g (renAs (parOf L) as) objs with
          | none => none
          | some ret =>
            bif Nat.beq ret.outs.length L.length && noClash d ret.news L ret.outs && Nat.ble ret.news.length 4 then
              some { val := renA (backOf L d) ret.res
                     ups := newUps (backOf L d) d 0 ret.news ++ outUps (backOf L d) L ret.outs
                     seals := sa
                     kills := outKills L ret.outs ++ newKills look d 0 ret.news }
            else none
      else none

def builtinA (P : Program) (look : Root → Option Ob) (d : Nat) (b : Builtin) (ts : List TypeId) (args : List AV) : Option Delta :=
  match b, ts, args with
  | .len, [t], [x] => match P.underlying t, x with
    | some (.slice _), .c .nl => some { val := scI 0 }
    | some (.slice _), .c (.p (.sl _ xs)) => some { val := scI xs.length }
    | some .string, .c (.p (.sc (.string s))) => some { val := scI s.size }
    | some (.slice _), .c (.arr r _) => match look r with | some (.arr _ _ xs _) => some { val := scI xs.length } | _ => none
    | some (.map ..), .c (.mp r) => match look r with | some (.map ka va es) => some { val := scI es.length } | _ => none
    | _, _ => none
  | .max, _, [.c (.p (.sc (.int k a))), .c (.p (.sc (.int _ b)))] => some { val := .c (.p (.sc (.int k (if b > a then b else a)))) }
  | .min, _, [.c (.p (.sc (.int k a))), .c (.p (.sc (.int _ b)))] => some { val := .c (.p (.sc (.int k (if b < a then b else a)))) }
  | .append, [t, t'], [s, x] =>
    match elemB P t with
    | none => none
    | some e => match sizeB P e, (P.info? e).map (·.bytes), zeroB P e with
      | some k, some by_, some z =>
        if k = 0 ∨ by_ > 16384 ∨ z.length ≠ k then none else
        let ys := match x with
          | .c (.p (.sc (.string q))) => if P.underlying t' matches some .string then (if k = 1 ∧ by_ = 1 ∧ zeroAgg P e = false then (match z with | [.p (.sc (.int .u8 0))] => some (bytesPV q) | _ => none) else none) else none
          | _ => if t = t' then elemsA look k x else none
        match ys with
        | none => none
        | some ys => match s with
          | .c .nl =>
            if ys.length ≤ LIM then some (new1 look d (.c (.arr (d, 0) k)) (.arr e k ys false)) else none
          | .c (.arr r k') => match look r with
            | some (.arr e' k'' xs sealed) =>
              if e = e' ∧ k = k' ∧ k = k'' ∧ xs.length + ys.length ≤ LIM then
                some { val := .c (.arr (d, 0) k)
                       ups := [((d, 0), some (.arr e k (xs ++ ys) sealed))]
                       kills := r :: stale look (d, 0) }
              else none
            | _ => none
          | _ => none
      | _, _, _ => none
  | _, _, _ => none

/-! ### One operation -/
def dval (P : Program) (hints : Nat → Hint) (call : Nat → List AV → List Ob → Option Ret) (look : Root → Option Ob) (d : Nat) (S : Nat → AV) (o : Oper) : Option Delta :=
  match o.op with
  | .move x | .assign x => some { val := ov S x }
  | .pick c a b => match asBoolA (ov S c) with | some t => some { val := if t then ov S a else ov S b } | none => none
  | .alloc t => match zeroB P t with | some z => some (new1 look d (.c (.ptr (d, 0) 0)) (.cells t z)) | none => none
  | .box t x => match (ov S x).cells? with | some l => some (new1 look d (.c (.ptr (d, 0) 0)) (.cells t (fresh (stale look (d, 0)) l))) | none => none
  | .build t parts => match P.underlying t, zeroB P t with
    | some (.struct fs), some z => bif fs.toList.all (fun f => (P.info? f.type).isSome) then (fillA (placeOf P t) z (parts.toList.map fun x => (x.1, ov S x.2))).map fun l => { val := .agg l } else none
    | _, _ => none
  | .buildSlice t len parts =>
    match elemB P t with
    | none => none
    | some e => match sizeB P e with
      | none => none
      | some k =>
        if k = 0 ∨ len > 4096 ∨ k > 1024 ∨ parts.toList.map (·.1) ≠ List.range len ∨ (zeroB P e).isNone then none
        else match go look (kinds P e) k (parts.toList.map fun x => ov S x.2) with
          | some xs => some { new1 look d (.c (.arr (d, 0) k)) (.arr e k xs false) with seals := (parts.toList.flatMap fun x => arrsA (ov S x.2)) }
          | none => none
  | .load t a => match sizeB P t, ov S a with
    | some s, .c x => match readAt look s x with | some l => (mkAV (aggB P t) l).map fun v => { val := v } | none => none
    | _, _ => none
  | .store t a x => match sizeB P t, ov S a, (ov S x).cells? with
    | some s, .c (.ptr r off), some l => match look r with
      | some (.cells u cs) => bif Nat.beq l.length s && Nat.ble (off + s) cs.length then some { val := .c .un, puts := [(r, off, l)] } else none
      | _ => none
    | some s, .c (.ep r k i j), some l => match look r with
      | some (.arr e k' xs false) => match xs[i]?, pureCs look (kinds P t) l with
        | some el, some l' => bif Nat.beq l'.length s && (Nat.beq k k' && Nat.beq el.length k && Nat.ble (j + s) el.length) && !rmem r (arrsCs l) then
            some { val := .c .un, ups := [(r, some (.arr e k' (xs.set i (put el j l')) false))], seals := arrsCs l } else none
        | _, _ => none
      | _ => none
    | _, _, _ => none
  | .nilCheck x => match ov S x with
    | .c (.clo f cs) => some { val := .c (.clo f cs) }
    | v => if isPtr v then some { val := v } else none
  | .binOp op t x y _ => (binA P op t (ov S x) (ov S y)).map fun v => { val := v }
  | .unOp op _ x => (unA op (ov S x)).map fun v => { val := v }
  | .convert src dst x => match P.underlying src, P.underlying dst, ov S x with
    | some (.int _), some (.int k), .c (.p (.sc (.int _ n))) => some { val := .c (.p (.sc (.int k (k.wrap n)))) }
    | some .string, some (.slice e), .c (.p (.sc (.string s))) =>
      if (P.underlying e matches some (.int .u8)) && Nat.beq (P.cellsOf e) 1 && Nat.ble s.size LIM then some { val := .c (.p (.sl 1 (bytesPV s))) } else none
    | some (.slice e), some .string, v =>
      if P.underlying e matches some (.int .u8) then
        match elemsA look 1 v with
        | some xs => match bytesOfPV xs with | some l => some { val := scS ⟨l.toArray⟩ } | none => none
        | none => none
      else none
    | _, _, _ => none
  | .makeFunc (.func f) first captured =>
    if first.isEmpty then (goC (captured.toList.map (ov S))).map fun cs => { val := .c (.clo f cs) } else none
  | .makeMap t none => match P.underlying t with
    | some (.map kt et) => some (new1 look d (.c (.mp (d, 0))) (.map (aggB P kt) (aggB P et) []))
    | _ => none
  | .makeSlice t l c => match elemB P t with
    | none => none
    | some e => match sizeB P e, (P.info? e).map (·.bytes), zeroB P e, asIntA (ov S l), asIntA (ov S c) with
      | some k, some by_, some z, some (.i64, n), some (.i64, m) => match pureCs look (kinds P e) z with
        | some z' => if 0 ≤ n ∧ n ≤ m ∧ m ≤ LIM ∧ k ≠ 0 ∧ by_ ≤ 16384 ∧ z'.length = k then
            some (new1 look d (.c (.arr (d, 0) k)) (.arr e k (List.replicate n.toNat z') false)) else none
        | none => none
      | _, _, _, _, _ => none
  | .slice t x lo hi none => match P.underlying t, ov S x with
    | some .string, .c (.p (.sc (.string s))) => match slBound s.size (hi.map (ov S)) s.size with
      | some h => match slBound h (lo.map (ov S)) 0 with | some l => some { val := scS (s.extract l h) } | none => none
      | none => none
    | some (.slice e), v => match sizeB P e with
      | none => none
      | some k => match elemsA look k v with
        | some xs => match slBound xs.length (hi.map (ov S)) xs.length with
          | some h => match slBound h (lo.map (ov S)) 0 with
            | some l => some { val := .c (.p (.sl k ((xs.take h).drop l))), seals := arrsA v }
            | none => none
          | none => none
        | none => none
    | _, _ => none
  | .fieldAddr s x f => match fieldOf P s f, ov S x with
    | some fd, .c a => match sizeB P fd.type with
      | some (_ + 1) => (moveAddr fd.offset a).map fun a' => { val := .c a' }
      | _ => none
    | _, _ => none
  | .field s x f => match fieldOf P s f, ov S x with
    | some fd, .agg l => match sizeB P fd.type with
      | some k => match cut l fd.offset k with | some l' => (mkAV (aggB P fd.type) l').map fun v => { val := v } | none => none
      | none => none
    | _, _ => none
  | .indexAddr t x ix => match elemB P t, ov S x, asIntA (ov S ix) with
    | some e, .c (.p (.sl k xs)), some (_, n) =>
      bif (match sizeB P e with | some k' => Nat.beq k k' | none => false) then (if 0 ≤ n then match xs[n.toNat]? with | some el => some { val := .c (.p (.pv el)) } | none => none else none) else none
    | some e, .c (.arr r k), some (_, n) => match look r with
      | some (.arr _ _ xs _) => bif (match sizeB P e with | some k' => Nat.beq k k' | none => false) then (if 0 ≤ n ∧ n < xs.length then some { val := .c (.ep r k n.toNat 0) } else none) else none
      | _ => none
    | _, _, _ => none
  | .index t x ix => match P.underlying t, ov S x, asIntA (ov S ix) with
    | some .string, .c (.p (.sc (.string s))), some (_, n) => if 0 ≤ n then (match s.data.toList[n.toNat]? with | some b => some { val := .c (.p (.sc (.int .u8 b.toNat))) } | none => none) else none
    | _, _, _ => none
  | .lookup t m key ok => match P.underlying t, ov S m, pureA (ov S key) with
    | some (.map kt et), .c (.mp r), some kv => match look r, zeroB P et with
      | some (.map ka va es), some z => bif mapOK P kt et ka va (ov S key) kv then
          match mapFind P kt kv es 0 with
          | some (some (_, e)) => (mkAV va (e.2.map .p)).map fun v => { val := if ok then .tup [v, scB true] else v }
          | some none => match pureCs look (kinds P et) z with
            | some z' => (mkAV va (z'.map .p)).map fun v => { val := if ok then .tup [v, scB false] else v }
            | none => none
          | none => none
        else none
      | _, _ => none
    | _, _, _ => none
  | .mapUpdate t m key x => match P.underlying t, ov S m, pureA (ov S key), (ov S x).cells? with
    | some (.map kt et), .c (.mp r), some kv, some l => match look r, pureCs look (kinds P et) l with
      | some (.map ka va es), some l' => bif mapOK P kt et ka va (ov S key) kv && beqB (isAggA (ov S x)) va then
          match mapFind P kt kv es 0 with
          | some (some (i, e)) => bif sameAll kv e.1 then some { val := .c .un, ups := [(r, some (.map ka va (setVal l' i es)))], seals := arrsCs l } else none
          | some none => some { val := .c .un, ups := [(r, some (.map ka va (es ++ [(kv, l')])))], seals := arrsCs l }
          | none => none
        else none
      | _, _ => none
    | _, _, _, _ => none
  | .mapEntry t m key => match P.underlying t, ov S m, pureA (ov S key) with
    | some (.map kt et), .c (.mp r), some kv => match look r, zeroB P et with
      | some (.map ka va es), some z => bif mapOK P kt et ka va (ov S key) kv then
          match mapFind P kt kv es 0 with
          | some (some (i, e)) => bif sameAll kv e.1 then (mkAV va (e.2.map .p)).map fun v => { val := .tup [v, scI i] } else none
          | some none => match pureCs look (kinds P et) z with
            | some z' => (mkAV va (z'.map .p)).map fun v => { val := .tup [v, scI es.length], ups := [(r, some (.map ka va (es ++ [(kv, z')])))] }
            | none => none
          | none => none
        else none
      | _, _ => none
    | _, _, _ => none
  | .entryStore t m st x => match P.underlying t, ov S m, asIntA (ov S st), (ov S x).cells? with
    | some (.map _ et), .c (.mp r), some (_, i), some l => match look r, pureCs look (kinds P et) l with
      | some (.map ka va es), some l' => bif beqB (isAggA (ov S x)) va then (if 0 ≤ i ∧ i < es.length then some { val := .c .un, ups := [(r, some (.map ka va (setVal l' i.toNat es)))], seals := arrsCs l } else none) else none
      | _, _ => none
    | _, _, _, _ => none
  | .extract t i => match ov S t with | .tup l => (l[i]?).map fun v => { val := v } | _ => none
  | .call c => match c.callee with
    | .builtin b => builtinA P look d b c.argTypes.toList (c.args.toList.map (ov S))
    | .value f => match ov S f with
      | .c (.clo g caps) => callA P hints call look d g (c.args.toList.map (ov S) ++ caps.map .c)
      | _ => none
    | _ => none
  | _ => none
where
  go (look : Root → Option Ob) (ks : List Kd) (k : Nat) : List AV → Option (List (List PV))
    | [] => some []
    | v :: l => match v.cells? with
      | none => none
      | some cs => match pureCs look ks cs, go look ks k l with
        | some x, some r => bif Nat.beq x.length k then some (x :: r) else none
        | _, _ => none
  goC : List AV → Option (List CV)
    | [] => some []
    | .c x :: l => (goC l).map (x :: ·)
    | _ => none

end Go.Am
