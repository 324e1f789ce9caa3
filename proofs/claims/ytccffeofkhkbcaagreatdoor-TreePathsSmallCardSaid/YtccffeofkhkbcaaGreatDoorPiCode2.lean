/- The text PiCode2. -/
import Derived.Test.YtccffeofkhkbcaaGreatDoorPiDraw
/- Code: definitions. -/
namespace Pi
open Go

/-- What a run is led by: what is kept at the loops' heads, by function and first region; functions that are told. -/
structure Cfg where
  kp : FuncId → Nat → Option (List Nat × List Nat)
  xs : List Nat
  X : CF
instance : CoeFun Cfg fun _ => FuncId → Nat → Option (List Nat × List Nat) := ⟨Cfg.kp⟩

/-! ### code -/
inductive PX where
  | normal
  | exit (id : Nat)
  | ret

def Code.rid : Code → Nat
  | .region id _ _ => id
  | .seq a _ => Code.rid a
  | .cond _ a _ => Code.rid a
  | .block _ c | .loop c | .scope c => Code.rid c
  | _ => 0

/-- At a loop's head, and behind it: what is kept. -/
def headOf (keep : Option (List Nat × List Nat)) (s : S) : Option S := match keep with | some l => canon l.1 s | none => some s
def behindOf (keep : Option (List Nat × List Nat)) (s : S) : Option S := match keep with | some l => canon l.2 s | none => some s

def ploop (body : S → Option (PX × S)) (keep : Option (List Nat × List Nat)) : Nat → S → Option (PX × S)
  | 0, _ => none
  | k + 1, s => match headOf keep s with
    | none => none
    | some s0 => match body s0 with
      | some (.normal, s1) => ploop body keep k s1
      | some (e, s1) => (match behindOf keep s1 with | some s2 => some (e, s2) | none => none)
      | none => none

noncomputable def pexec (Q : Program) (cf : CF) (kp : Nat → Option (List Nat × List Nat)) (lf : Nat) : Code → S → Option (PX × S)
  | .skip, s => some (.normal, s)
  | .label _, s => some (.normal, s)
  | .region _ ops draw, s => (match (if draw then drawRun Q cf ops.toList s else regionRun Q cf ops.toList ops.toList s) with | some s1 => some (.normal, s1) | none => none)
  | .seq a b, s => match pexec Q cf kp lf a s with
    | some (.normal, s1) => pexec Q cf kp lf b s1
    | r => r
  | .cond c x y, s => match s.ev c with
    | .d (.bool b) => if b then pexec Q cf kp lf x s else pexec Q cf kp lf y s
    | _ => none
  | .block id c, s => match pexec Q cf kp lf c s with
    | some (.exit id', s1) => if Nat.beq id' id then some (.normal, s1) else some (.exit id', s1)
    | r => r
  | .loop c, s => ploop (pexec Q cf kp lf c) (kp (Code.rid c)) lf s
  | .scope c, s => pexec Q cf kp lf c s
  | .exit id, s => some (.exit id, s)
  | .ret, s => some (.ret, s)
  | _, _ => none

/-- A function's results. -/
def resultP (Q : Program) (s : S) : ResultVar → Option P
  | .tmp t => some (((lk s.tm t).getD .bad).under none)
  | .cell t ty => loadP Q s ty (((lk s.tm t).getD .bad).under none)

def resultsP (Q : Program) (s : S) : List ResultVar → Option (List P)
  | [] => some []
  | r :: rs => match resultP Q s r, resultsP Q s rs with | some p, some ps => some (p :: ps) | _, _ => none

def tupOf : List P → P
  | [p] => p
  | qs => .tup qs

def enterTm : Nat → List P → List (Nat × P)
  | _, [] => []
  | i, p :: ps => (i, p) :: enterTm (i + 1) ps

/-- Nil slices that are handed in: as data. -/
def nilArg (Q : Program) (t : TypeId) (p : P) : P :=
  match p with
  | .d .nils => (match elemTy Q t with
    | some e => (match sz Q e with | some (k + 1) => .d (.sl (k + 1) []) | _ => .d .nils)
    | none => .d .nils)
  | p => p

def nilArgs (Q : Program) : List TypeId → List P → List P
  | t :: ts, p :: ps => nilArg Q t p :: nilArgs Q ts ps
  | _, ps => ps

/-- Nil slices handed in: kept as they are, where that is told. -/
def nilsIn (keep : Option (List Nat × List Nat)) (Q : Program) (ts : List TypeId) (ps : List P) : List P := match keep with | some _ => ps | none => nilArgs Q ts ps

/-- The lent objects that are there, in order. -/
def lentNs (R : List (Nat × En)) : Nat → Nat → List Nat
  | _, 0 => []
  | i, k + 1 => match tagEn R i with
    | some (n, e) => (match e.obj with | .gone => lentNs R (i + 1) k | _ => n :: lentNs R (i + 1) k)
    | none => lentNs R (i + 1) k

def retNames (R : List (Nat × En)) (m : Nat) (p : P) : List Nat := lentNs R 0 m ++ untagged R (reach R 1000 (p :: tagRoots R R) [])

/-- Structs of rows that are handed back: as data. -/
def finAggs (Q : Program) (s : S) (ts : List TypeId) : List P → Option (S × List P)
  | [] => some (s, [])
  | p :: ps => match frzAgg Q s (ts.headD 0) p with
    | none => none
    | some (s1, q) => match finAggs Q s1 ts.tail ps with
      | some (s2, qs) => some (s2, q :: qs)
      | none => none

/-- What is handed back, under new names. 'm': how many objects were lent. -/
def finish (Q : Program) (m : Nat) (rts : List TypeId) (qs : List P) (s : S) : Option (P × List (Nat × En)) :=
  match finAggs Q s rts qs with
  | none => none
  | some (s0, qs0) => match ownCells s0 3000000 qs0 (rts.map (elemTy Q)) with
  | none => none
  | some (s1, qs1) =>
    let ns := retNames s1.rg m (tupOf qs1)
    if nodupN ns then (match sub s1.rg (toPos s1.rg ns) false 0 ns with
      | some R => some (ren (toPos s1.rg ns) (tupOf qs1), R)
      | none => none) else none

/-- A call of a function with a body. 'kp': what is kept at the loops' heads, by function and first region; 'lf': how many rounds a loop may take. -/
noncomputable def runF (Q : Program) (kp : Cfg) (lf : Nat) : Nat → CF
  | 0 => fun _ _ _ => none
  | k + 1 => fun f ps R => match Q.funcs[f]? with
    | none => none
    | some fn => if memN f kp.xs then kp.X f ps R else match fn.body with
      | none => none
      | some c => if fn.name == "runtime.NumGoroutine" then none else
        match pexec Q (runF Q kp lf k) (kp f) lf c ⟨fn.ntmps, enterTm 0 (nilsIn (kp f 999999) Q fn.params.toList ps), R⟩ with
        | some (.exit _, _) => none
        | some (_, s1) => (match resultsP Q s1 fn.results.toList with
          | some qs => finish Q R.length fn.resultTypes.toList qs s1
          | none => none)
        | none => none

end Pi

