/- The text PiDraw. -/
import Derived.Test.YtccffeofkhkbcaaGreatDoorPiCode
/- Regions that draw their order: definitions. -/
namespace Pi
open Go

/-- 0: it looks at its operands alone. 1: it looks at own objects too. 2: it makes one. 3: all else. -/
def opKind (o : Oper) : Nat :=
  match o.op with
  | .move _ | .pick .. | .unOp .. | .index .. | .field .. | .extract .. | .build .. => 0
  | .assign (.const (.slice none 0 0)) => 2
  | .assign _ => 0
  | .nilCheck _ | .binOp .. | .load .. | .fieldAddr .. | .indexAddr .. | .slice _ _ _ _ none => 1
  | .convert .. => 1
  | .alloc _ | .box .. | .makeMap .. => 2
  | .lookup .. | .entry _ => 1
  | .call c => match c.callee with
    | .builtin .len => 1
    | .builtin .min | .builtin .max => 0
    | _ => 3
  | _ => 3

def slotOf : Operand → List Nat
  | .tmp t => [t]
  | _ => []

def looks (ops : List Oper) (o : Oper) : List Nat :=
  o.op.operands.toList.flatMap slotOf ++
  (match o.guard with
   | some (g, _) => (match ops[g]? with | some oj => (match oj.dst with | some t => [t] | none => []) | none => [])
   | none => [])

def dstIn (o : Oper) (l : List Nat) : Bool := match o.dst with | some d => memN d l | none => false
def sameDst (x y : Oper) : Bool := match x.dst, y.dst with | some d, some e => Nat.beq d e | _, _ => false

def maskOf (acc : List Nat) : List Edge → Nat
  | [] => 0
  | e :: es => if Region.binds .any e then (Nat.lor (Nat.lor (Nat.shiftLeft 1 e.on) (acc.getD e.on 0)) (maskOf acc es)) else maskOf acc es

def masks : List Oper → List Nat → List Nat
  | [], acc => acc
  | o :: r, acc => masks r (acc ++ [maskOf acc o.after.toList])

def allFrom {α : Type} (f : Nat → α → Bool) : Nat → List α → Bool
  | _, [] => true
  | i, x :: r => f i x && allFrom f (i + 1) r
def pairsFrom {α : Type} (f : Nat → α → Nat → α → Bool) : Nat → List α → Bool
  | _, [] => true
  | i, x :: r => allFrom (f i x) (i + 1) r && pairsFrom f (i + 1) r

/-- Each mask is what it should be, and all edges go back; a guard is waited for. -/
def fixB (M : List Nat) (i : Nat) (o : Oper) : Bool :=
  Nat.beq (M.getD i 0) (maskOf M o.after.toList) && o.after.toList.all (fun e => !Region.binds .any e || Nat.blt e.on i) &&
  (match o.guard with | none => true | some (j, _) => Nat.testBit (M.getD i 0) j)

def pairB (ops : List Oper) (M : List Nat) (i : Nat) (x : Oper) (j : Nat) (y : Oper) : Bool :=
  !sameDst x y && (Nat.testBit (M.getD j 0) i || (!dstIn x (looks ops y) && !dstIn y (looks ops x) && (Nat.ble (opKind x) 1 || Nat.ble (opKind y) 1)))

/-- May they change places whatever they look at? -/
def easyB (x y : Oper) : Bool := Nat.beq (opKind x) 0 || Nat.beq (opKind y) 0 || (Nat.ble (opKind x) 1 && Nat.ble (opKind y) 1)

/-- 0: not served. 1: what it looks at is to be seen to. 2: always in order. -/
def drawCls (ops : List Oper) : Nat :=
  if allFrom (fixB (masks ops [])) 0 ops && pairsFrom (pairB ops (masks ops [])) 0 ops then
    (if pairsFrom (fun i x j y => Nat.testBit ((masks ops []).getD j 0) i || easyB x y) 0 ops then 2 else 1) else 0

def slNames : List P → List Nat
  | [] => []
  | .sl n _ _ :: r => n :: slNames r
  | _ :: r => slNames r

/-- The names at which an operation may turn or make an object. -/
def writes (Q : Program) (s : S) (o : Oper) (g : Option (Nat × Bool)) : List Nat × Nat × Nat :=
  match nilAssign Q o with
  | some _ => ([site o.dst], 0, 0)
  | none => match o.op with
    | .alloc t => match zeroD Q t with | some z => ([site o.dst], site o.dst * 1000, site o.dst * 1000 + z.cells.length) | none => ([], 0, 0)
    | .box _ x => ([site o.dst], site o.dst * 1000, site o.dst * 1000 + (s.eg g x).cells.length)
    | .store _ ad x => match s.eg g ad with
      | .ref n _ off => (n :: slNames (s.eg g x).cells, 2000000 + n * 1000 + off, 2000000 + n * 1000 + off + 1)
      | .eref n _ _ _ _ => (n :: slNames (s.eg g x).cells, 0, 0)
      | _ => ([], 0, 0)
    | .call c => match c.callee with
      | .value f => (match s.eg g f with
        | .fn fid caps => (match handArgs Q s fid (c.args.toList.map (s.eg g) ++ caps) with
          | some (s1, qs) => (slNames ((c.args.toList.map (s.eg g) ++ caps).flatMap P.cells) ++ reach s1.rg 1000 qs [], site o.dst * 1000, site o.dst * 1000 + 1000)
          | none => ([], 0, 0))
        | _ => ([], 0, 0))
      | .builtin .append => (match c.args.toList with
        | x :: _ => (match s.eg g x with | .sl n _ _ => ([n], 0, 0) | _ => ([site o.dst], 0, 0))
        | [] => ([], 0, 0))
      | .builtin .copy => (match c.args.toList with
        | x :: _ => (match s.eg g x with | .sl n _ _ => ([n], 0, 0) | _ => ([], 0, 0))
        | [] => ([], 0, 0))
      | _ => ([], 0, 0)
    | .makeSlice .. | .makeMap .. => ([site o.dst], 0, 0)
    | .mapUpdate _ m _ x => (match s.eg g m with | .mp n _ => n :: slNames (s.eg g x).cells | _ => [], 0, 0)
    | .insert _ m _ x => (match s.eg g m with | .mp n _ => n :: slNames (s.eg g x).cells | _ => [], 0, 0)
    | .mapEntry _ m _ => (match s.eg g m with | .mp n _ => [site o.dst, n] | _ => [site o.dst], 0, 0)
    | .entryStore _ m _ x => (match s.eg g m with | .mp n _ => n :: slNames (s.eg g x).cells | _ => [], 0, 0)
    | .range _ x => (match s.eg g x with | .mp n _ => [site o.dst, n] | _ => [site o.dst], 0, 0)
    | .buildSlice _ _ parts => (site o.dst :: parts.toList.flatMap fun x => slNames (s.eg g x.2).cells, 0, 0)
    | _ => ([], 0, 0)

/-- The names that an operation looks at. -/
def namesOf : List P → List Nat
  | [] => []
  | p :: r => match p.name with | some (n, _) => n :: namesOf r | none => namesOf r

structure Info where
  pure : Bool
  ns : List Nat
  ws : List Nat × Nat × Nat

def infoOf (Q : Program) (ops : List Oper) (s : S) (o : Oper) : Info :=
  match guardSlot ops o with
  | none => ⟨false, [], [], 0, 0⟩
  | some g => if Nat.ble (opKind o) 1 then ⟨true, if Nat.beq (opKind o) 0 then [] else namesOf (o.op.operands.toList.map (s.eg g)), [], 0, 0⟩ else ⟨false, [], writes Q s o g⟩

def disjW (ns : List Nat) (W : List Nat × Nat × Nat) : Bool := ns.all fun n => !memN n W.1 && !(Nat.ble W.2.1 n && Nat.blt n W.2.2)

def apartI (x y : Info) : Bool :=
  if x.pure then (if y.pure then true else disjW x.ns y.ws) else (if y.pure then disjW y.ns x.ws else false)

/-- A step: what it may write; the objects ahead of it and behind it. -/
structure Step where
  info : Info
  bef : List (Nat × En)
  aft : List (Nat × En)
  /-- A plain look-up: in a map of which type? -/
  look : Option TypeId
  /-- One that puts an entry at hand: of a map of which type, at what name? -/
  ent : Option (TypeId × Nat)

def lookOf (o : Oper) : Option TypeId := match o.op with | .lookup t _ _ false => some t | _ => none
def entOf (o : Oper) : Option (TypeId × Nat) := match o.op with | .mapEntry t _ _ => some (t, site o.dst) | _ => none
def stepInfo (Q : Program) (ops : List Oper) (s : S) (o : Oper) (s1 : S) : Step := ⟨infoOf Q ops s o, s.rg, s1.rg, lookOf o, entOf o⟩
/-- What one looks at, another one leaves as it was; or what is found is the same. -/
def leaves (x y : Step) (same : Prop → Prop) (q : Prop) : Prop :=
  match y.ent, x.look with
  | some (t, n), some t' => cond (Nat.beq t t' && !memN n x.info.ns) q (same q)
  | _, _ => same q

def inWb (W : List Nat × Nat × Nat) (n : Nat) : Bool := memN n W.1 || (Nat.ble W.2.1 n && Nat.blt n W.2.2)

/-- What a step may write of these names, it leaves as it was. -/
def sameN : List Nat → Step → Prop → Prop
  | [], _, q => q
  | n :: r, y, q => cond (inWb y.info.ws n) (lk y.aft n = lk y.bef n ∧ sameN r y q) (sameN r y q)

/-- Two steps may change places. -/
def pairC (M : List Nat) (i : Nat) (x : Step) (j : Nat) (y : Step) (q : Prop) : Prop :=
  cond (Nat.testBit (M.getD j 0) i || apartI x.info y.info) q (cond x.info.pure (cond y.info.pure q (leaves x y (sameN x.info.ns y) q)) (cond y.info.pure (leaves y x (sameN y.info.ns x) q) False))

def allC (f : Nat → Step → Prop → Prop) : Nat → List Step → Prop → Prop
  | _, [], q => q
  | i, x :: r, q => f i x (allC f (i + 1) r q)
def pairsC (f : Nat → Step → Nat → Step → Prop → Prop) : Nat → List Step → Prop → Prop
  | _, [], q => q
  | i, x :: r, q => allC (f i x) (i + 1) r (pairsC f (i + 1) r q)

def infosC (M : List Nat) (l : List Step) (q : Prop) : Prop := pairsC (pairC M) 0 l q

def drawGo (Q : Program) (cf : CF) (ops : List Oper) : List Oper → S → Option (S × List Step)
  | [], s => some (s, [])
  | o :: r, s => match stepOp Q cf ops s o with
    | none => none
    | some s1 => match drawGo Q cf ops r s1 with
      | some (s2, l) => some (s2, stepInfo Q ops s o s1 :: l)
      | none => none

open Classical in
noncomputable def drawRun (Q : Program) (cf : CF) (ops : List Oper) (s : S) : Option S :=
  match drawCls ops with
  | 0 => none
  | 1 => (match drawGo Q cf ops ops s with
    | some (s1, l) => if infosC (masks ops []) l True then some s1 else none
    | none => none)
  | _ => regionRun Q cf ops ops s

end Pi

