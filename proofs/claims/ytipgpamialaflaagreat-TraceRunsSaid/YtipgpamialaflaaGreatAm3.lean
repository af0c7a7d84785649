/-
  AM, PART 3: regions, code, calls. Definitions alone.
-/
import Derived.Test.YtipgpamialaflaaGreatAm2
import Derived.CheckFast
set_option linter.unusedVariables false
set_option linter.unusedSimpArgs false
namespace Go.Am
open Go

def lookU (r : Root) : List (Root × Option Ob) → Option (Option Ob)
  | [] => none
  | (q, o) :: l => bif rbeq r q then some o else lookU r l
def sealO : Ob → Ob
  | .arr e k xs _ => .arr e k xs true
  | o => o
def putO (r : Root) : List (Root × Nat × List CV) → Option Ob → Option Ob
  | [], o => o
  | (q, off, l) :: ps, o => putO r ps (bif rbeq r q then (match o with | some (.cells t cs) => some (.cells t (put cs off l)) | o => o) else o)
def applyD (S : St) (dst : Option Nat) (δ : Delta) : St where
  sl := match dst with
    | some d => match δ.kills with
      | [] => fun j => bif Nat.beq j d then δ.val else S.sl j
      | ks => fun j => bif Nat.beq j d then δ.val else renA (killM ks) (S.sl j)
    | none => match δ.kills with
      | [] => S.sl
      | ks => fun j => renA (killM ks) (S.sl j)
  hp := match δ.ups, δ.seals, δ.kills, δ.puts with
    | [], [], [], [] => S.hp
    | us, ss, ks, ps => fun r => putO r ps <| match lookU r us with
      | some o => o
      | none => bif rmem r ks then none else
        match S.hp r with
        | none => none
        | some o => let o' := match ks with | [] => o | _ => renO (killM ks) o
          some (bif rmem r ss then sealO o' else o')

/-! ### One operation of a region whose order is drawn: what it touches -/
structure Tr where
  d : Nat
  dst : Option Nat
  reads : List Nat
  fp : List Root
  tw : List Root
  hot : List Root
  kl : Bool
  easy : Bool
  mq : Option (Bool × TypeId × List PV × Root) := none
mutual
def cleanC : CV → Bool
  | .un | .ptr .. | .arr .. | .ep .. | .mp _ => false
  | .clo _ cs => cleanCs cs
  | .nl | .p _ | .ra .. => true
def cleanCs : List CV → Bool
  | [] => true
  | x :: l => cleanC x && cleanCs l
end
mutual
def cleanA : AV → Bool
  | .c x => cleanC x
  | .agg l => cleanCs l
  | .tup l => cleanAs l
def cleanAs : List AV → Bool
  | [] => true
  | x :: l => cleanA x && cleanAs l
end
def site (i : Nat) (o : Oper) : Nat := o.dst.getD (3000000 + i)
def tmpsOf (o : Oper) : List Nat := o.op.operands.toList.filterMap fun | .tmp t => some t | _ => none
def dstOk (nt : Nat) (o : Oper) : Bool := match o.dst with | some d => Nat.blt d nt | none => true
def sites (d : Nat) : List Root := [(d, 0), (d, 1), (d, 2), (d, 3)]
def isCall : Op → Bool
  | .call c => match c.callee with | .value _ => true | _ => false
  | _ => false
/-! does it look at what its operands stand for? -/
def looks : Op → Bool
  | .move _ | .assign _ | .pick .. | .alloc _ | .box .. | .build .. | .nilCheck _ | .binOp .. | .unOp .. | .makeFunc .. | .makeMap .. | .fieldAddr .. | .field .. | .extract .. => false
  | _ => true
def fpOf (S : St) (d : Nat) (o : Oper) : List Root :=
  let rs := (if looks o.op then o.op.operands.toList.flatMap (fun x => refsA (ov S.sl x)) else []) ++ (sites d).filter fun r => (S.hp r).isSome
  if isCall o.op then rs ++ collect S.hp 60 rs [] else rs
def lookAt (S : St) (fp : List Root) (r : Root) : Option Ob := bif rmem r fp then S.hp r else none
def isSealed (look : Root → Option Ob) (r : Root) : Bool := match look r with | some (.arr _ _ _ true) => true | _ => false
def ownRef (d : Nat) (r : Root) : Bool := Nat.beq r.1 d
def easyD (d : Nat) (δ : Delta) : Bool :=
  δ.kills.isEmpty && δ.seals.isEmpty && δ.puts.isEmpty && (refsA δ.val).all (ownRef d) && δ.ups.all fun x => ownRef d x.1 && match x.2 with | some o => (refsO o).all (ownRef d) | none => true
/-! a look into a map, a place made in it -/
def mkOf (S : Nat → AV) : Op → Option (Bool × TypeId × List PV × Root)
  | .lookup t m key false => match ov S m, pureA (ov S key) with | .c (.mp r), some kv => some (false, t, kv, r) | _, _ => none
  | .mapEntry t m key => match ov S m, pureA (ov S key) with | .c (.mp r), some kv => some (true, t, kv, r) | _, _ => none
  | _ => none
def trOf (S : St) (d : Nat) (dst : Option Nat) (reads : List Nat) (fp : List Root) (δ : Delta) (mq : Option (Bool × TypeId × List PV × Root)) : Tr :=
  let w := δ.ups.map (·.1) ++ (δ.kills ++ δ.puts.map (·.1))
  { d, dst, reads, fp, tw := w ++ δ.seals, hot := w ++ δ.seals.filter (fun r => !isSealed (lookAt S fp) r), kl := !δ.kills.isEmpty
    easy := fp.isEmpty && easyD d δ && reads.all fun t => cleanA (S.sl t)
    mq }
def perform (P : Program) (hints : Nat → Hint) (call : Nat → List AV → List Ob → Option Ret) (nt : Nat) (S : St) (i : Nat) (o : Oper) (extra : List Nat) : Option (St × Tr) :=
  let d := site i o
  let fp := fpOf S d o
  match dval P hints call (lookAt S fp) d S.sl o with
  | none => none
  | some δ => bif dstOk nt o then some (applyD S o.dst δ, trOf S d o.dst (tmpsOf o ++ extra) fp δ (mkOf S.sl o.op)) else none
/-! a guard: is it as it is wanted? An operation that was left out yields none. -/
def wantA (g : AV) (want : Bool) : Option Bool := match g with
  | .c (.p (.sc (.bool b))) => some (bif want then b else !b)
  | .tup [] => some false
  | _ => none
def skipOp (S : St) (i : Nat) (o : Oper) (extra : List Nat) : St × Tr :=
  (applyD S o.dst { val := .tup [] }, { d := site i o, dst := o.dst, reads := extra, fp := [], tw := [], hot := [], kl := false, easy := extra.all fun t => cleanA (S.sl t) })
def stepOp (P : Program) (hints : Nat → Hint) (call : Nat → List AV → List Ob → Option Ret) (nt : Nat) (ops : Array Oper) (S : St) (i : Nat) : Option (St × Tr) :=
  match ops[i]? with
  | none => none
  | some o => match o.guard with
    | none => perform P hints call nt S i o []
    | some (j, want) => match (ops[j]?).bind (·.dst) with
      | none => none
      | some g => match wantA (S.sl g) want with
        | none => none
        | some b => if b then perform P hints call nt S i o [g] else bif dstOk nt o then some (skipOp S i o [g]) else none
def runOps (P : Program) (hints : Nat → Hint) (call : Nat → List AV → List Ob → Option Ret) (nt : Nat) (ops : Array Oper) : List Nat → St → Option (St × List (Nat × Tr))
  | [], S => some (S, [])
  | i :: l, S => match stepOp P hints call nt ops S i with
    | none => none
    | some (S', t) => match runOps P hints call nt ops l S' with
      | none => none
      | some (S'', ts) => some (S'', (i, t) :: ts)

def natMem (n : Nat) : List Nat → Bool
  | [] => false
  | x :: l => Nat.beq n x || natMem n l
def dstIn (l : List Nat) : Option Nat → Bool
  | some d => natMem d l
  | none => false
def dstSame : Option Nat → Option Nat → Bool
  | some d, some e => Nat.beq d e
  | _, _ => false
def hits (x y : Tr) : Bool := x.hot.any fun r => rmem r y.fp || rmem r y.tw || Nat.beq r.1 y.d
/-! a look into a map that is then given a place: the other way round it tells the same -/
def softPair (P : Program) (x y : Tr) : Bool :=
  match x.mq, y.mq with
  | some (false, t, kv, r), some (true, t', kv', r') =>
    Nat.beq t t' && rbeq r r' && (match P.underlying t with | some (.map kt _) => (eqA P 12 kt kv kv').isSome | _ => false) &&
      y.hot.all (fun q => rbeq q r && !rmem q x.tw && !Nat.beq q.1 x.d) && x.hot.isEmpty && !x.kl && !y.kl
  | _, _ => false
def conf (P : Program) (x y : Tr) : Bool :=
  dstIn y.reads x.dst || dstIn x.reads y.dst || dstSame x.dst y.dst || hits x y || (hits y x && !softPair P x y) || (x.kl && !y.easy) || (y.kl && !x.easy)
/-! is i ahead of j, whatever the order? -/
def orderedB (b : Array Nat) (i j : Nat) : Bool := (b.getD j 0).testBit i
def indepOne (P : Program) (b : Array Nat) (x : Nat × Tr) : List (Nat × Tr) → Bool
  | [] => true
  | y :: l => (orderedB b x.1 y.1 || !conf P x.2 y.2) && indepOne P b x l
def indepAll (P : Program) (b : Array Nat) : List (Nat × Tr) → Bool
  | [] => true
  | x :: l => indepOne P b x l && indepAll P b l
def edgesOk (b : Array Nat) : List Oper → Nat → Bool
  | [], _ => true
  | o :: l, i => o.after.toList.all (fun e => !Region.binds .any e || Nat.blt e.on i) &&
    Nat.beq (b.getD i 0) (o.after.toList.foldl (fun s e => if Region.binds .any e then s ||| 2 ^ e.on ||| b.getD e.on 0 else s) 0) && edgesOk b l (i + 1)
def drawOk (ops : Array Oper) : Bool := edgesOk (CheckFast.beforeF ops) ops.toList 0

def tryDraw (P : Program) (hints : Nat → Hint) (call : Nat → List AV → List Ob → Option Ret) (nt : Nat) (ops : Array Oper) (S : St) : Option St :=
  match runOps P hints call nt ops (List.range ops.size) S with
  | some (S', ts) => bif drawOk ops && indepAll P (CheckFast.beforeF ops) ts then some S' else none
  | none => none
/-! the names that a region makes anew are forgotten ahead of it -/
def staleAll (S : St) : List Oper → Nat → List Root
  | [], _ => []
  | o :: l, i => (sites (site i o)).filter (fun r => (S.hp r).isSome) ++ staleAll S l (i + 1)
def dropS (ks : List Root) (S : St) : St := { sl := fun j => renA (killM ks) (S.sl j), hp := fun r => bif rmem r ks then none else (S.hp r).map (renO (killM ks)) }
def prep (ops : Array Oper) (S : St) : St := match staleAll S ops.toList 0 with
  | [] => S
  | ks => dropS ks S
/-! ### A region in the order of its text -/
def stepT (P : Program) (hints : Nat → Hint) (call : Nat → List AV → List Ob → Option Ret) (nt : Nat) (ops : Array Oper) (S : St) (i : Nat) (o : Oper) : Option St :=
  match o.guard with
  | none => match dval P hints call S.hp (site i o) S.sl o with
    | some δ => bif dstOk nt o then some (applyD S o.dst δ) else none
    | none => none
  | some (j, want) => match (ops[j]?).bind (·.dst) with
    | none => none
    | some g => match wantA (S.sl g) want with
      | none => none
      | some b =>
        if b then (match dval P hints call S.hp (site i o) S.sl o with
          | some δ => bif dstOk nt o then some (applyD S o.dst δ) else none
          | none => none)
        else bif dstOk nt o then some (applyD S o.dst { val := .tup [] }) else none
def runText (P : Program) (hints : Nat → Hint) (call : Nat → List AV → List Ob → Option Ret) (nt : Nat) (ops : Array Oper) : List Oper → Nat → St → Option St
  | [], _, S => some S
  | o :: l, i, S => match stepT P hints call nt ops S i o with
    | none => none
    | some S' => runText P hints call nt ops l (i + 1) S'

inductive Ex where
  | normal | exit (id : Nat) | ret

/-! ### A state written anew -/
def ofSlots : List (Nat × AV) → Nat → AV
  | [], _ => .c .un
  | (k, v) :: l, i => bif Nat.beq i k then v else ofSlots l i
def ofRoots : List (Root × Option Ob) → Root → Option Ob
  | [], _ => none
  | (k, o) :: l, r => bif rbeq r k then o else ofRoots l r
def canonSl (rs : List Root) (S : St) : List Nat → List (Nat × AV)
  | [] => []
  | k :: ks => (k, renA (keepM rs) (S.sl k)) :: canonSl rs S ks
def canonHp (rs : List Root) (S : St) : List Root → List (Root × Option Ob)
  | [] => []
  | r :: l => (r, match S.hp r with | some o => some (renO (keepM rs) o) | none => none) :: canonHp rs S l
def canon (ks : List Nat × List Root) (S : St) : St := { sl := ofSlots (canonSl ks.2 S ks.1), hp := ofRoots (canonHp ks.2 S ks.2) }
def findKeep (k : Nat) : List (Nat × (List Nat × List Root)) → Option (List Nat × List Root)
  | [] => none
  | (q, x) :: l => bif Nat.beq k q then some x else findKeep k l
def canonAt (h : Hint) (k : Nat) (S : St) : St := match findKeep k h.keep with | some ks => canon ks S | none => S

def execLoop (body : St → Option (Ex × St)) (cn : St → St) : Nat → St → Option (Ex × St)
  | 0, _ => none
  | n + 1, S => match body (cn S) with
    | some (.normal, S') => execLoop body cn n S'
    | r => r
def exec (P : Program) (hints : Nat → Hint) (call : Nat → List AV → List Ob → Option Ret) (nt : Nat) (h : Hint) (n : Nat) : Code → Nat → St → Option (Ex × St)
  | .skip, _, S => some (.normal, S)
  | .label _, _, S => some (.normal, S)
  | .scope c, k, S => exec P hints call nt h n c k S
  | .seq a b, k, S => match exec P hints call nt h n a k S with
    | some (.normal, S') => exec P hints call nt h n b k S'
    | r => r
  | .cond c a b, k, S => match asBoolA (ov S.sl c) with
    | some t => if t then exec P hints call nt h n a k S else exec P hints call nt h n b k S
    | none => none
  | .block id c, _, S => match exec P hints call nt h n c id S with
    | some (.normal, S') => some (.normal, canonAt h (2 * id + 1) S')
    | some (.exit i, S') => if i = id then some (.normal, canonAt h (2 * id + 1) S') else some (.exit i, S')
    | r => r
  | .loop c, k, S => execLoop (exec P hints call nt h n c k) (canonAt h (2 * k)) n S
  | .exit id, _, S => some (.exit id, S)
  | .ret, _, S => some (.ret, canonAt h 2000001 S)
  | .region _ ops draw, _, S =>
    if draw then (match tryDraw P hints call nt ops (prep ops S) with
      | some S' => some (.normal, S')
      | none => none)
    else (match runText P hints call nt ops ops.toList 0 S with
      | some S' => some (.normal, S')
      | none => none)
  | _, _, _ => none

/-! ### A call -/
def resOne (P : Program) (S : St) : ResultVar → Option AV
  | .tmp t => some (S.sl t)
  | .cell a t => match sizeB P t, S.sl a with
    | some s, .c x => match readAt S.hp s x with | some l => mkAV (aggB P t) l | none => none
    | _, _ => none
def resAll (P : Program) (S : St) : List ResultVar → Option (List AV)
  | [] => some []
  | r :: l => match resOne P S r, resAll P S l with | some v, some vs => some (v :: vs) | _, _ => none
def softO (P : Program) (look : Root → Option Ob) : Ob → Ob
  | .cells t l => .cells t (softCs look (kinds P t) l)
  | o => o
def pvOne (P : Program) (look : Root → Option Ob) : AV → Option (Root × List PV)
  | .c (.ptr r 0) => match look r with
    | some (.cells t l) => (pureCs look (kinds P t) l).map fun l' => (r, l')
    | _ => none
  | _ => none
def pvA (P : Program) (look : Root → Option Ob) (v : AV) : AV := match pvOne P look v with | some (_, l') => .c (.p (.pv l')) | none => v
def pvR (P : Program) (look : Root → Option Ob) (v : AV) : List Root := match pvOne P look v with | some (r, _) => [r] | none => []
def softRes (P : Program) (look : Root → Option Ob) : List TypeId → List AV → List AV
  | t :: ts, v :: vs => softA P look t v :: softRes P look ts vs
  | _, vs => vs
def cellArrs (look : Root → Option Ob) (r : Root) : List Root := match look r with | some (.cells _ l) => arrsCs l | _ => []
def parRoots : Nat → List Root
  | 0 => []
  | n + 1 => parRoots n ++ [(PAR, n)]
def newsOf : List Root → List Root
  | [] => []
  | r :: l => bif Nat.beq r.1 PAR then newsOf l else r :: newsOf l
def endM (N : List Root) (n : Nat) (r : Root) : Option Root := bif Nat.beq r.1 PAR then (bif Nat.blt r.2 n then some r else none) else (idxOf r N 0).map fun j => (NEW, j)
def outObs (m : Root → Option Root) (look : Root → Option Ob) : List Root → List (Option Ob)
  | [] => []
  | r :: l => (match look r with | some o => some (renO m o) | none => none) :: outObs m look l
def endSeals (h : Hint) (look : Root → Option Ob) (nobj : Nat) (vs : List AV) : List Root :=
  (bif h.ownRes then [] else vs.flatMap arrsA) ++ (bif h.hard && !h.pvRes then [] else (collect look 60 (refsAs vs ++ parRoots nobj) []).flatMap (cellArrs look))
def endLook (P : Program) (h : Hint) (S : St) (ss : List Root) (r : Root) : Option Ob := match S.hp r with
  | some o => some (bif h.hard then (bif rmem r ss then sealO o else o) else softO P S.hp (bif rmem r ss then sealO o else o))
  | none => none
def tupA : List AV → AV
  | [v] => v
  | l => .tup l
def finish (P : Program) (fn : Func) (h : Hint) (nobj : Nat) (S : St) : Option Ret :=
  match resAll P S fn.results.toList with
  | none => none
  | some vs =>
    let ss := endSeals h S.hp nobj vs
    let vs1 := bif h.ownRes then vs else softRes P S.hp fn.resultTypes.toList vs
    let fz := bif h.pvRes then vs1.flatMap (pvR P S.hp) else []
    let vs2 := bif h.pvRes then vs1.map (pvA P S.hp) else vs1
    let look := endLook P h S ss
    let N := newsOf (collect look 60 (refsAs vs2 ++ parRoots nobj) [])
    match objsOf look (endM N nobj) N with
    | none => none
    | some news =>
      bif (h.hard || (parRoots nobj ++ N).all (fun r => (cellArrs S.hp r).all (rmem · ss))) &&
        fz.all (fun r => (cellArrs S.hp r).all (rmem · ss) && !Nat.beq r.1 PAR && !rmem r N) && nodupB N then
        some { res := tupA (renAs (endM N nobj) vs2), outs := outObs (endM N nobj) look (parRoots nobj), news }
      else none
def startSl (args : List AV) (i : Nat) : AV := args[i]?.getD (.c .un)
def startHp (objs : List Ob) (r : Root) : Option Ob := bif Nat.beq r.1 PAR then objs[r.2]? else none
def runFn (P : Program) (hints : Nat → Hint) (call : Nat → List AV → List Ob → Option Ret) (n : Nat) (f : Nat) (args : List AV) (objs : List Ob) : Option Ret :=
  match P.funcs[f]? with
  | none => none
  | some fn => match fn.body with
    | none => none
    | some c => bif Nat.ble args.length fn.ntmps && Nat.ble fn.ntmps PAR then
        match exec P hints call fn.ntmps (hints f) n c 1000000 { sl := startSl args, hp := startHp objs } with
        | some (.normal, S) => finish P fn (hints f) objs.length S
        | some (.ret, S) => finish P fn (hints f) objs.length S
        | _ => none
      else none
abbrev Ext := Nat → Option (List AV → List Ob → Option Ret)
def dcall (P : Program) (hints : Nat → Hint) (ext : Ext) : Nat → Nat → List AV → List Ob → Option Ret
  | 0, _, _, _ => none
  | n + 1, f, args, objs => match ext f with
    | some g => g args objs
    | none => runFn P hints (dcall P hints ext n) n f args objs

end Go.Am
