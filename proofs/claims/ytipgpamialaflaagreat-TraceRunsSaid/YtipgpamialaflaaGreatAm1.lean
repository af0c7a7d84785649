/-
  AM, PART 1: AN ABSTRACT MACHINE OVER THE KIT'S OWN CODE: values without memory (a read-only slice is a list), a frame's own objects by their site. Definitions alone: nothing is claimed here.
-/
import Derived.Orders
import Derived.Laws.AppendOwn
import Derived.Laws.AppendOwnNone
set_option linter.unusedVariables false
set_option linter.unusedSimpArgs false
namespace Go.Am
open Go

/-! ### Values -/
inductive PV where
  | sc (v : Value)
  | sl (k : Nat) (xs : List (List PV))
  | pv (l : List PV)
  deriving Inhabited

abbrev Root := Nat × Nat
def rbeq (a b : Root) : Bool := Nat.beq a.1 b.1 && Nat.beq a.2 b.2
def PAR : Nat := 1000000
def NEW : Nat := 1000001
def rmem (r : Root) : List Root → Bool
  | [] => false
  | x :: l => rbeq r x || rmem r l

inductive CV where
  | un
  | nl
  | p (x : PV)
  | ra (l : List PV) (off : Nat)
  | ptr (r : Root) (off : Nat)
  | arr (r : Root) (k : Nat)
  | ep (r : Root) (k i j : Nat)
  | mp (r : Root)
  | clo (f : Nat) (caps : List CV)
  deriving Inhabited

inductive AV where
  | c (x : CV)
  | agg (l : List CV)
  | tup (l : List AV)
  deriving Inhabited

inductive Ob where
  | cells (t : TypeId) (l : List CV)
  | arr (e k : Nat) (xs : List (List PV)) (sealed : Bool)
  | map (ka va : Bool) (es : List (List PV × List PV))
  deriving Inhabited

structure St where
  sl : Nat → AV
  hp : Root → Option Ob

structure Ret where
  res : AV
  outs : List (Option Ob)
  news : List Ob

structure Delta where
  val : AV
  ups : List (Root × Option Ob) := []
  seals : List Root := []
  kills : List Root := []
  puts : List (Root × Nat × List CV) := []

/-! ### References -/
mutual
def refsC : CV → List Root
  | .ptr r _ | .arr r _ | .ep r _ _ _ | .mp r => [r]
  | .clo _ cs => refsCs cs
  | _ => []
def refsCs : List CV → List Root
  | [] => []
  | x :: l => refsC x ++ refsCs l
end
mutual
def refsA : AV → List Root
  | .c x => refsC x
  | .agg l => refsCs l
  | .tup l => refsAs l
def refsAs : List AV → List Root
  | [] => []
  | x :: l => refsA x ++ refsAs l
end
def refsO : Ob → List Root
  | .cells _ l => refsCs l
  | _ => []

/-! a change of names: what has none becomes unknown -/
mutual
def renC (m : Root → Option Root) : CV → CV
  | .ptr r o => match m r with | some r' => .ptr r' o | none => .un
  | .arr r k => match m r with | some r' => .arr r' k | none => .un
  | .ep r k i j => match m r with | some r' => .ep r' k i j | none => .un
  | .mp r => match m r with | some r' => .mp r' | none => .un
  | .clo f cs => .clo f (renCs m cs)
  | .un => .un
  | .nl => .nl
  | .p x => .p x
  | .ra l o => .ra l o
def renCs (m : Root → Option Root) : List CV → List CV
  | [] => []
  | x :: l => renC m x :: renCs m l
end
mutual
def renA (m : Root → Option Root) : AV → AV
  | .c x => .c (renC m x)
  | .agg l => .agg (renCs m l)
  | .tup l => .tup (renAs m l)
def renAs (m : Root → Option Root) : List AV → List AV
  | [] => []
  | x :: l => renA m x :: renAs m l
end
def renO (m : Root → Option Root) : Ob → Ob
  | .cells t l => .cells t (renCs m l)
  | o => o
def killM (ks : List Root) (r : Root) : Option Root := bif rmem r ks then none else some r
def keepM (ks : List Root) (r : Root) : Option Root := bif rmem r ks then some r else none

/-! all that is reached from some roots -/
def collect (look : Root → Option Ob) : Nat → List Root → List Root → List Root
  | 0, _, acc => acc.reverse
  | _ + 1, [], acc => acc.reverse
  | n + 1, r :: todo, acc =>
    if rmem r acc then collect look n todo acc
    else match look r with
      | some o => collect look n (refsO o ++ todo) (r :: acc)
      | none => collect look n todo (r :: acc)

/-! ### Operands -/
def plainV : Value → Bool
  | .bool _ | .int .. | .string _ | .pointer none | .map none | .nilFunc | .nilIface => true
  | _ => false
def cConst : Value → CV
  | .slice none 0 0 => .nl
  | v => if plainV v then .p (.sc v) else .un
def oneB : Value → Bool
  | .agg _ | .tuple _ => false
  | _ => true
def ofConst : Value → AV
  | .agg cs => if cs.toList.all oneB then .agg (cs.toList.map cConst) else .c .un
  | .tuple _ => .c .un
  | v => .c (cConst v)
def ov (S : Nat → AV) : Operand → AV
  | .tmp t => S t
  | .const v => ofConst v
  | .func f => .c (.clo f [])
  | .global _ => .c .un
def AV.cells? : AV → Option (List CV)
  | .c .un => none
  | .c x => some [x]
  | .agg l => some l
  | .tup _ => none

/-! ### Types -/
def aggB (P : Program) (t : TypeId) : Bool := match P.underlying t with | some (.struct _) | some (.array ..) => true | _ => false
def sizeB (P : Program) (t : TypeId) : Option Nat := match P.info? t, P.underlying t with | some i, some _ => some i.size | _, _ => none
def zeroB (P : Program) (t : TypeId) : Option (List CV) :=
  match (P.info? t).bind (·.zero) with
  | some z => if z.cells.toList.all oneB then some (z.cells.toList.map cConst) else none
  | none => none
def elemB (P : Program) (t : TypeId) : Option TypeId := match P.underlying t with | some (.slice e) => some e | _ => none
inductive Kd where
  | int (k : IntKind) | bool | str | sl (k : Nat) | oth
  deriving Inhabited
def leafK (P : Program) : Nat → TypeId → List Kd
  | 0, _ => []
  | d + 1, t => match P.underlying t with
    | some (.int k) => [.int k]
    | some .bool => [.bool]
    | some .string => [.str]
    | some (.slice e) => [.sl (P.cellsOf e)]
    | some (.struct fs) => fs.toList.flatMap fun f => leafK P d f.type
    | _ => [.oth]
def kinds (P : Program) (t : TypeId) : List Kd := leafK P 12 t

/-! ### Memory -/
def cut {α : Type} (l : List α) (off s : Nat) : Option (List α) :=
  let m := (l.drop off).take s
  bif Nat.beq m.length s then some m else none
def mkAV (agg : Bool) : List CV → Option AV
  | l => if agg then some (.agg l) else match l with | [x] => some (.c x) | _ => none
def readAt (look : Root → Option Ob) (s : Nat) : CV → Option (List CV)
  | .p (.pv l) => (cut l 0 s).map (·.map .p)
  | .ra l off => (cut l off s).map (·.map .p)
  | .ptr r off => match look r with | some (.cells _ l) => cut l off s | _ => none
  | .ep r k i j => match look r with
    | some (.arr _ k' xs _) => bif Nat.beq k k' then (match xs[i]? with | some e => (cut e j s).map (·.map .p) | none => none) else none
    | _ => none
  | _ => none
def put {α : Type} (l : List α) (off : Nat) (new : List α) : List α := l.take off ++ new ++ l.drop (off + new.length)

/-! a value as one without references: a row of the frame's own is read and sealed -/
def pureC (look : Root → Option Ob) (kd : Kd) : CV → Option PV
  | .p x => some x
  | .nl => match kd with | .sl k => some (.sl k []) | _ => none
  | .ra l 0 => some (.pv l)
  | .arr r k => match look r with | some (.arr _ k' xs _) => bif Nat.beq k k' then some (.sl k xs) else none | _ => none
  | _ => none
def pureCs (look : Root → Option Ob) : List Kd → List CV → Option (List PV)
  | kd :: ks, x :: l => match pureC look kd x, pureCs look ks l with | some y, some r => some (y :: r) | _, _ => none
  | [], [] => some []
  | _, _ => none
/-! as far as it can be: rows are read and sealed, nil gets its width; other references stay -/
def softC (look : Root → Option Ob) (kd : Kd) (x : CV) : CV := match pureC look kd x with | some y => .p y | none => x
def softCs (look : Root → Option Ob) : List Kd → List CV → List CV
  | kd :: ks, x :: l => softC look kd x :: softCs look ks l
  | _, l => l
def softA (P : Program) (look : Root → Option Ob) (t : TypeId) : AV → AV
  | .c x => match kinds P t with | [kd] => .c (softC look kd x) | _ => .c x
  | .agg l => .agg (softCs look (kinds P t) l)
  | .tup l => .tup l

end Go.Am
