/- The text PiCode. -/
import Derived.Test.YtccffeofkhkbcaaGreatDoorPiEf
/- Names anew, calls, regions, code: definitions. -/
namespace Pi
open Go

mutual
def ren (ρ : Nat → Nat → Option (Nat × Nat)) : P → P
  | .agg ps => .agg (rens ρ ps)
  | .tup ps => .tup (rens ρ ps)
  | .fn f ps => .fn f (rens ρ ps)
  | .ref n v off => match ρ n v with | some (n', v') => .ref n' v' off | none => .bad
  | .eref n v i k off => match ρ n v with | some (n', v') => .eref n' v' i k off | none => .bad
  | .sl n v len => match ρ n v with | some (n', v') => .sl n' v' len | none => .bad
  | .mp n v => match ρ n v with | some (n', v') => .mp n' v' | none => .bad
  | .when t b p => .when t b (ren ρ p)
  | .d x => .d x
  | .fref x off => .fref x off
  | .bad => .bad
def rens (ρ : Nat → Nat → Option (Nat × Nat)) : List P → List P
  | [] => []
  | p :: ps => ren ρ p :: rens ρ ps
end

def renObj (ρ : Nat → Nat → Option (Nat × Nat)) : Obj → Obj
  | .box ty ps => .box ty (rens ρ ps)
  | .mapE kt get c p kd => .mapE kt get c (ren ρ p) kd
  | o => o

/-- What a value names. -/
def P.subs : P → List P
  | .agg ps | .tup ps | .fn _ ps => ps
  | .when _ _ p => [p]
  | _ => []

def P.name : P → Option (Nat × Nat)
  | .ref n v _ | .eref n v _ _ _ | .sl n v _ | .mp n v => some (n, v)
  | _ => none

def memN : Nat → List Nat → Bool
  | _, [] => false
  | n, m :: r => Nat.beq n m || memN n r

/-- The names of all that can be come to, each once, in the order in which it is met. -/
def reach (R : List (Nat × En)) : Nat → List P → List Nat → List Nat
  | 0, _, acc => acc
  | _, [], acc => acc
  | k + 1, p :: ps, acc => match p.name with
    | none => reach R k (p.subs ++ ps) acc
    | some (n, v) => if memN n acc then reach R k ps acc else
      match lk R n with
      | some e => if Nat.beq e.ver v then (match e.obj with
        | .gone => reach R k ps acc
        | .box _ qs => reach R k (qs ++ ps) (acc ++ [n])
        | _ => reach R k ps (acc ++ [n])) else reach R k ps acc
      | none => reach R k ps acc

def posOf : List Nat → Nat → Nat → Option Nat
  | [], _, _ => none
  | m :: r, n, i => if Nat.beq m n then some i else posOf r n (i + 1)

/-- The names 'ns' as 0, 1, .. -/
def toPos (R : List (Nat × En)) (ns : List Nat) (n v : Nat) : Option (Nat × Nat) :=
  match posOf ns n 0, lk R n with
  | some i, some e => if Nat.beq e.ver v then some (i, 0) else none
  | _, _ => none

/-- The objects of some names, as 0, 1, .. 'tagged': each bears its number. -/
def sub (R : List (Nat × En)) (ρ : Nat → Nat → Option (Nat × Nat)) (tagged : Bool) : Nat → List Nat → Option (List (Nat × En))
  | _, [] => some []
  | i, n :: ns => match lk R n with
    | some e => match e.obj, sub R ρ tagged (i + 1) ns with
      | .gone, _ => none
      | _, some r => some ((i, ⟨0, if tagged then some i else e.tag, renObj ρ e.obj⟩) :: r)
      | _, none => none
    | none => none

def nodupN : List Nat → Bool
  | [] => true
  | n :: r => !memN n r && nodupN r

def renTm (ρ : Nat → Nat → Option (Nat × Nat)) (keep : List Nat) : List (Nat × P) → List (Nat × P)
  | [] => []
  | (t, p) :: r => if memN t keep then (t, ren ρ p) :: renTm ρ keep r else renTm ρ keep r

def tmPs (keep : List Nat) : List (Nat × P) → List P
  | [] => []
  | (t, p) :: r => if memN t keep then p :: tmPs keep r else tmPs keep r

/-- At a loop's head: what is kept, under new names. -/
def canon (keep : List Nat) (s : S) : Option S :=
  let ns := reach s.rg 1000 (tmPs keep s.tm) []
  if nodupN ns then
    (match sub s.rg (toPos s.rg ns) false 0 ns with
    | some R => some ⟨s.n, renTm (toPos s.rg ns) keep s.tm, R⟩
    | none => none) else none

abbrev CF := FuncId → List P → List (Nat × En) → Option (P × List (Nat × En))

/-- A struct of data and rows. -/
def flatP : List P → Bool
  | [] => true
  | p :: r => (match p with | .d _ | .sl _ _ _ => true | _ => false) && flatP r
/-- A struct of rows is handed on as data. -/
def frzAgg (Q : Program) (s : S) (t : TypeId) (p : P) : Option (S × P) :=
  match p with
  | .agg ps => if flatP ps then (match frzT Q s t (.agg ps) with | some (s1, x) => some (s1, P.d x) | none => none) else some (s, .agg ps)
  | .d x => (match isAg Q t && hasSl Q t with | true => (nzD Q t x).force fun y => some (s, .d y) | false => some (s, .d x))
  | p => some (s, p)
def frzArg (Q : Program) (s : S) (t : TypeId) (p : P) : Option (S × P) :=
  match p with
  | .sl .. => (match frz1 Q s p with | some (s1, x) => some (s1, P.d x) | none => none)
  | p => frzAgg Q s t p

/-- Slices are handed on as data. -/
def frzArgs (Q : Program) (s : S) (ts : List TypeId) : List P → Option (S × List P)
  | [] => some (s, [])
  | p :: ps => match frzArg Q s (ts.headD 0) p with
    | none => none
    | some (s1, q) => match frzArgs Q s1 ts.tail ps with
      | some (s2, qs) => some (s2, q :: qs)
      | none => none

def memS (x : String) : List String → Bool
  | [] => false
  | y :: r => x == y || memS x r
/-- Functions that are handed rows which are then gone on with. -/
def lendNames : List String := ["recension/recensionref13.Find", "recension/recensionref13.Within"]
/-- Functions that turn the slices that they are handed. -/
def lends (Q : Program) (f : FuncId) : Bool :=
  match Q.funcs[f]? with
  | some fn => memS fn.name lendNames || !fn.targs.toList.isEmpty && (fn.origin == "slices.SortFunc" || fn.origin == "slices.DeleteFunc" || fn.origin == "slices.Delete" || fn.origin == "slices.Insert" || fn.origin == "slices.Reverse")
  | none => false

def paramTys (Q : Program) (f : FuncId) : List TypeId := match Q.funcs[f]? with | some fn => fn.params.toList | none => []
def handArgs (Q : Program) (s : S) (f : FuncId) (ps : List P) : Option (S × List P) := if lends Q f then some (s, ps) else frzArgs Q s (paramTys Q f) ps

/-- The entry that bears a tag. -/
def tagNm : List (Nat × En) → Nat → Option Nat
  | [], _ => none
  | (m, e) :: r, i => (match e.tag with | some j => if Nat.beq i j then some m else tagNm r i | none => tagNm r i)

def tagEn (R1 : List (Nat × En)) (i : Nat) : Option (Nat × En) :=
  match tagNm R1 i with
  | some m => (match lk R1 m with
    | some e => (match e.tag with | some j => if Nat.beq i j then some (m, e) else none | none => none)
    | none => none)
  | none => none

/-- Back from a call: the callee's names as the caller's. 'ms': those that are new; they become 'base', 'base + 1', ..; 'vs': their versions. -/
def fromCall (R1 : List (Nat × En)) (R : List (Nat × En)) (ns ms : List Nat) (base : Nat) (n v : Nat) : Option (Nat × Nat) :=
  match lk R1 n with
  | none => none
  | some e => if Nat.beq e.ver v then (match e.tag with
    | some i => (match ns[i]?, tagEn R1 i with
      | some m, some (n1, _) => if Nat.beq n1 n then (match lk R m with | some e0 => some (m, e0.ver) | none => none) else none
      | _, _ => none)
    | none => (match posOf ms n 0 with
      | some j => (match lk R (base + j) with | none => some (base + j, 0) | some e0 => some (base + j, e0.ver + 1))
      | none => none)) else none

/-- The lent objects, as the callee left them. -/
def putBack (R1 : List (Nat × En)) (σ : Nat → Nat → Option (Nat × Nat)) : Nat → List Nat → List (Nat × En) → Option (List (Nat × En))
  | _, [], R => some R
  | i, n :: ns, R => match lk R n with
    | none => none
    | some e => putBack R1 σ (i + 1) ns (ins n ⟨e.ver, e.tag, match tagEn R1 i with | some (_, e1) => renObj σ e1.obj | none => .gone⟩ R)

/-- The new objects. -/
def putNew (R1 : List (Nat × En)) (σ : Nat → Nat → Option (Nat × Nat)) : Nat → List Nat → List (Nat × En) → Option (List (Nat × En))
  | _, [], R => some R
  | m, n :: ns, R => match lk R1 n with
    | none => none
    | some e1 => match lk R m with
      | none => putNew R1 σ (m + 1) ns (ins m ⟨0, none, renObj σ e1.obj⟩ R)
      | some e0 => match e0.obj with
        | .gone => putNew R1 σ (m + 1) ns (ins m ⟨e0.ver + 1, none, renObj σ e1.obj⟩ R)
        | _ => none

def untagged (R1 : List (Nat × En)) : List Nat → List Nat
  | [] => []
  | n :: r => match lk R1 n with
    | some e => (match e.tag with | none => n :: untagged R1 r | some _ => untagged R1 r)
    | none => untagged R1 r

def tagRoots (R1 : List (Nat × En)) : List (Nat × En) → List P
  | [] => []
  | (_, e) :: r => match e.tag, e.obj with
    | some _, .box _ ps => ps ++ tagRoots R1 r
    | _, _ => tagRoots R1 r

def callOp (Q : Program) (cf : CF) (s : S) (dst : Option Nat) (f : P) (args : List P) : Option S :=
  match f with
  | .fn fid caps => match handArgs Q s fid (args ++ caps) with
    | none => none
    | some (s1, ps) =>
      let ns := reach s1.rg 1000 ps []
      if nodupN ns then (match sub s1.rg (toPos s1.rg ns) true 0 ns with
        | none => none
        | some R0 => match cf fid (rens (toPos s1.rg ns) ps) R0 with
          | none => none
          | some (p, R1) =>
            let ms := untagged R1 (reach R1 1000 (p :: tagRoots R1 R1) [])
            let σ := fromCall R1 s1.rg ns ms (site dst * 1000)
            if nodupN ms && Nat.ble ms.length 1000 then (match putBack R1 σ 0 ns s1.rg with
              | none => none
              | some R2 => match putNew R1 σ (site dst * 1000) ms R2 with
                | none => none
                | some R3 => ({ s1 with rg := R3 } : S).put dst (ren σ p)) else none) else none
  | _ => none

/-! ### regions -/
def guardSlot (ops : List Oper) (o : Oper) : Option (Option (Nat × Bool)) :=
  match o.guard with
  | none => some none
  | some (j, want) => match ops[j]? with
    | some oj => (match oj.dst with | some t => some (some (t, want)) | none => none)
    | none => none

def isCall (o : Oper) : Option (Operand × List Operand) :=
  match o.op with
  | .call c => match c.callee with | .value f => some (f, c.args.toList) | _ => none
  | _ => none

def actOp (Q : Program) (cf : CF) (s : S) (o : Oper) (g : Option (Nat × Bool)) : Option S :=
  match isCall o with
  | some (f, xs) => callOp Q cf s o.dst (s.eg g f) (xs.map (s.eg g))
  | none => exec Q s o g

def stepOp (Q : Program) (cf : CF) (ops : List Oper) (s : S) (o : Oper) : Option S :=
  match guardSlot ops o with
  | none => none
  | some none => actOp Q cf s o none
  | some (some (t, want)) =>
    match lk s.tm t with
    | some (.d (.bool b)) => if b == want then actOp Q cf s o (some (t, want)) else s.put o.dst .skip
    | some (.when ..) => s.put o.dst .skip
    | _ => none

def regionRun (Q : Program) (cf : CF) (ops : List Oper) : List Oper → S → Option S
  | [], s => some s
  | o :: r, s => match stepOp Q cf ops s o with
    | some s1 => regionRun Q cf ops r s1
    | none => none

end Pi

