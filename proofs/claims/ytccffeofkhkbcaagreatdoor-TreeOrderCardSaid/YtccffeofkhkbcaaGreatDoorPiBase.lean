/- The text PiBase. -/
import GoSem.Dispatch
/- The value interpreter: data as trees, own memory by names. Definitions alone. -/
namespace Pi
open Go

/-- Frozen data. -/
inductive D where
  | bool (b : Bool)
  | int (k : IntKind) (n : Int)
  | str (s : List UInt8)
  | agg (cs : List D)
  | sl (k : Nat) (es : List D)
  | nils
  | nilp
  | nilm
  | nilf
  | nili
  deriving Inhabited

def D.cells : D → List D
  | .agg cs => cs
  | x => [x]

def D.isCell : D → Bool
  | .agg _ => false
  | _ => true

/-- What a temporary, or a cell of an own box, holds. -/
inductive P where
  | d (x : D)
  | agg (ps : List P)
  | ref (n v off : Nat)
  | eref (n v i k off : Nat)
  | fref (x : D) (off : Nat)
  | sl (n v len : Nat)
  | mp (n v : Nat)
  | fn (f : FuncId) (caps : List P)
  | tup (ps : List P)
  | when (slot : Nat) (want : Bool) (p : P)
  | bad
  deriving Inhabited

/-- What a step that is left out leaves. -/
def P.skip : P := .when 0 false .bad

def P.isCell : P → Bool
  | .d x => x.isCell
  | .ref .. | .eref .. | .fref .. | .sl .. | .mp .. | .fn .. => true
  | _ => false

inductive Obj where
  | gone
  | box (ty : TypeId) (ps : List P)
  | arr (ty : TypeId) (fz : Bool) (es : List D)
  | map (kt : Nat) (get : D → Option D) (n : Int) (fz : Bool)
  | iter (kt vt : Nat) (left : D → Option D) (cur : Option (D × D))
  /-- An entry's number. -/
  | stamp
  /-- A map one of whose entries, that of a key, is at hand; its number. -/
  | mapE (kt : Nat) (get : D → Option D) (n : Int) (p : P) (kd : D)
  deriving Inhabited

structure En where
  ver : Nat
  tag : Option Nat
  obj : Obj

/-! maps by number -/
def lk {α : Type} : List (Nat × α) → Nat → Option α
  | [], _ => none
  | (k, v) :: r, j => if Nat.beq k j then some v else lk r j

def ins {α : Type} (k : Nat) (v : α) : List (Nat × α) → List (Nat × α)
  | [] => [(k, v)]
  | (j, u) :: r => if Nat.blt k j then (k, v) :: (j, u) :: r else if Nat.beq k j then (k, v) :: r else (j, u) :: ins k v r

/-- A state: temporaries, own objects. 'n': how many temporaries. -/
structure S where
  n : Nat
  tm : List (Nat × P)
  rg : List (Nat × En)

/-! plain data as Go values, and back -/
def D.toVc : D → Option Value
  | .bool b => some (.bool b)
  | .int k n => some (.int k n)
  | .str s => some (.string ⟨⟨s⟩⟩)
  | .nils => some (.slice none 0 0)
  | .nilp => some (.pointer none)
  | .nilm => some (.map none)
  | .nilf => some .nilFunc
  | .nili => some .nilIface
  | .agg _ | .sl _ _ => none

def D.toVs : List D → Option (List Value)
  | [] => some []
  | x :: r => match x.toVc, D.toVs r with | some v, some vs => some (v :: vs) | _, _ => none

def D.toV : D → Option Value
  | .agg cs => match D.toVs cs with | some vs => some (.agg ⟨vs⟩) | none => none
  | x => x.toVc

def P.toV : P → Option Value
  | .d x => x.toV
  | _ => none

def D.ofVc : Value → Option D
  | .bool b => some (.bool b)
  | .int k n => some (.int k n)
  | .string s => some (.str s.data.toList)
  | .slice none 0 0 => some .nils
  | .pointer none => some .nilp
  | .map none => some .nilm
  | .nilFunc => some .nilf
  | .nilIface => some .nili
  | _ => none

def D.ofVs : List Value → Option (List D)
  | [] => some []
  | v :: r => match D.ofVc v, D.ofVs r with | some x, some xs => some (x :: xs) | _, _ => none

def D.ofV : Value → Option D
  | .agg cs => match D.ofVs cs.toList with | some xs => some (.agg xs) | none => none
  | v => D.ofVc v

/-- A computation that asks nothing of the world. -/
def evalPure {α : Type} (Q : Program) : Sem α → Option α
  | .pure a => some a
  | .program k => evalPure Q (k Q)
  | .mark _ k => evalPure Q k
  | _ => none

def pureV (Q : Program) (m : Sem Value) : Option P :=
  match evalPure Q m with
  | some v => match D.ofV v with | some x => some (.d x) | none => none
  | none => none

/-! operands -/
def S.ev (s : S) : Operand → P
  | .tmp t => (lk s.tm t).getD .bad
  | .const v => match D.ofV v with | some x => .d x | none => .bad
  | .func f => .fn f []
  | .global _ => .bad

def P.under (_ : Option (Nat × Bool)) : P → P
  | .when .. => .bad
  | p => p

def S.eg (s : S) (g : Option (Nat × Bool)) (x : Operand) : P := (s.ev x).under g

def S.put (s : S) (dst : Option Nat) (p : P) : Option S :=
  match dst with
  | none => some s
  | some t => if Nat.blt t s.n then some ⟨s.n, ins t p s.tm, s.rg⟩ else none

def dats : List P → Option (List D)
  | [] => some []
  | .d x :: r => match dats r with | some xs => some (x :: xs) | none => none
  | _ => none

def mkAgg (ps : List P) : P := match dats ps with | some xs => .d (.agg xs) | none => .agg ps

def P.cells : P → List P
  | .agg ps => ps
  | .d (.agg cs) => cs.map .d
  | p => [p]

/-- May it be laid into cells? -/
def P.okCells : P → Bool
  | .agg _ | .d _ => true
  | p => p.isCell

/-! equality, written out -/
mutual
def D.eqB : D → D → Bool
  | .bool a, .bool b => a == b
  | .int k a, .int k' b => k == k' && a == b
  | .str a, .str b => a == b
  | .agg a, .agg b => D.eqBs a b
  | .sl k a, .sl k' b => k == k' && D.eqBs a b
  | .nils, .nils | .nilp, .nilp | .nilm, .nilm | .nilf, .nilf | .nili, .nili => true
  | _, _ => false
def D.eqBs : List D → List D → Bool
  | [], [] => true
  | x :: xs, y :: ys => D.eqB x y && D.eqBs xs ys
  | _, _ => false
end
/-- A map with another element. -/
def updD (k v : D) (get : D → Option D) : D → Option D := fun k' => bif D.eqB k k' then some v else get k'
def delD (k : D) (get : D → Option D) : D → Option D := fun k' => bif D.eqB k k' then none else get k'

/-! types -/
def sz (Q : Program) (t : TypeId) : Option Nat := match Q.info? t, Q.underlying t with | some i, some _ => some i.size | _, _ => none
def isAg (Q : Program) (t : TypeId) : Bool := match Q.underlying t with | some (.struct _) | some (.array _ _) => true | _ => false
def elemTy (Q : Program) (t : TypeId) : Option TypeId := match Q.underlying t with | some (.slice e) => some e | _ => none

/-- The part of cells: a value of type t at an offset. -/
def partP (Q : Program) (t : TypeId) (ps : List P) (off : Nat) : Option P :=
  match sz Q t with
  | none => none
  | some k => if isAg Q t then (if Nat.ble (off + k) ps.length then some (mkAgg ((ps.drop off).take k)) else none) else ps[off]?

def partD (Q : Program) (t : TypeId) (cs : List D) (off : Nat) : Option D :=
  match sz Q t with
  | none => none
  | some k => if isAg Q t then (if Nat.ble (off + k) cs.length then some (.agg ((cs.drop off).take k)) else none) else cs[off]?

/-! own objects -/
def S.obj (s : S) (n v : Nat) : Option Obj :=
  match lk s.rg n with
  | some e => if Nat.beq e.ver v then some e.obj else none
  | none => none

/-- Whether two data of a type are equal. -/
def eqFs (Q : Program) (go : TypeId → D → D → Option Bool) : List Field → List D → List D → Option Bool
  | [], _, _ => some true
  | f :: r, xs, ys => match f.name == "_" with
    | true => eqFs Q go r xs ys
    | false => match partD Q f.type xs f.offset, partD Q f.type ys f.offset with
      | some x, some y => match go f.type x y, eqFs Q go r xs ys with
        | some a, some b => some (a && b)
        | _, _ => none
      | _, _ => none
def eqD (Q : Program) : Nat → TypeId → D → D → Option Bool
  | 0, _, _, _ => none
  | n + 1, t, x, y => match Q.underlying t with
    | some .bool => match x, y with | .bool a, .bool b => some (a == b) | _, _ => none
    | some (.int _) => match x, y with | .int k a, .int k' b => (match k == k' with | true => some (a == b) | false => none) | _, _ => none
    | some .string => match x, y with | .str a, .str b => some (a == b) | _, _ => none
    | some (.struct fs) => match x, y with
      | .agg xs, .agg ys => match Q.stoodInHeld t with
        | true => none
        | false => eqFs Q (eqD Q n) fs.toList xs ys
      | _, _ => none
    | _ => none

/-- The cells of fields, one behind the other. -/
def tileB (Q : Program) : Nat → List Field → Nat → Bool
  | off, [], tot => Nat.beq off tot
  | off, f :: r, tot => Nat.beq f.offset off && tileB Q (off + Q.cellsOf f.type) r tot
/-- A key of a type. -/
def kshape (Q : Program) : Nat → TypeId → D → Bool
  | 0, _, _ => false
  | n + 1, t, x => match Q.underlying t with
    | some .bool => (match x with | .bool _ => true | _ => false)
    | some (.int k) => (match x with | .int k' _ => k == k' | _ => false)
    | some .string => (match x with | .str _ => true | _ => false)
    | some (.struct fs) => (match x with
      | .agg cs => Nat.beq cs.length (Q.cellsOf t) && tileB Q 0 fs.toList (Q.cellsOf t) && !Q.stoodInHeld t && fs.toList.all fun f => !(f.name == "_") && (isAg Q f.type || Nat.beq (Q.cellsOf f.type) 1) && (match partD Q f.type cs f.offset with | some y => kshape Q n f.type y | none => false)
      | _ => false)
    | _ => false
def D.litB : D → Bool
  | .bool _ | .int _ _ | .str _ => true
  | _ => false
def keyB (Q : Program) (kt : TypeId) (k : D) : Bool := kshape Q 20 kt k && k.cells.all D.litB && (match k.toV with
  | some v => (match evalPure Q (Instr.checkKey false 10000 kt v), evalPure Q (Instr.checkKey true 10000 kt v) with | some _, some _ => true | _, _ => false)
  | none => false)
def mapTy (Q : Program) (t : TypeId) : Option (TypeId × TypeId) := match Q.underlying t with | some (.map k e) => some (k, e) | _ => none

def S.setObj (s : S) (n : Nat) (o : Obj) : S :=
  match lk s.rg n with
  | some e => { s with rg := ins n ⟨e.ver, e.tag, o⟩ s.rg }
  | none => s

/-- A new object at a name; what was there is left behind. Its version. -/
def S.new (s : S) (n : Nat) (o : Obj) : Option (S × Nat) :=
  match lk s.rg n with
  | none => some ({ s with rg := ins n ⟨0, none, o⟩ s.rg }, 0)
  | some e => match e.obj with
    | .gone => some ({ s with rg := ins n ⟨e.ver + 1, none, o⟩ s.rg }, e.ver + 1)
    | _ => match e.tag with
      | none => some ({ s with rg := ins n ⟨e.ver + 1, none, o⟩ s.rg }, e.ver + 1)
      | some _ => none

def splice (ps : List P) (off : Nat) (qs : List P) : List P := ps.take off ++ qs ++ ps.drop (off + qs.length)

/-- The name of what an operation makes. -/
def site (dst : Option Nat) : Nat := 1000 + dst.getD 999

/-! ### operations that change nothing -/
/-- Is the object of a reference up to date, and there? -/
def S.live (s : S) (n v : Nat) : Bool :=
  match s.obj n v with
  | some .gone => false
  | some _ => true
  | none => false

def nilCheckP (s : S) (p : P) : Option P :=
  match p with
  | .ref n v _ | .eref n v _ _ _ => if s.live n v then some p else none
  | .fref .. | .fn .. => some p
  | _ => none

def loadP (Q : Program) (s : S) (t : TypeId) : P → Option P
  | .ref n v off => match s.obj n v with | some (.box _ ps) => partP Q t ps off | _ => none
  | .eref n v i k off => match s.obj n v with
    | some (.arr ty _ es) => match sz Q ty, es[i]? with
      | some k', some x => if Nat.beq k k' then (match partD Q t x.cells off with | some y => some (.d y) | none => none) else none
      | _, _ => none
    | _ => none
  | .fref x off => match partD Q t x.cells off with | some y => some (.d y) | none => none
  | _ => none

/-- The place of a field; of a field that has cells. -/
def fieldOff (Q : Program) (t : TypeId) (f : Nat) : Option Nat :=
  match Q.underlying t with
  | some (.struct fs) => match fs[f]? with
    | some fl => match sz Q fl.type with | some (_ + 1) => some fl.offset | _ => none
    | none => none
  | _ => none

def fieldAddrP (Q : Program) (s : S) (t : TypeId) (f : Nat) (p : P) : Option P :=
  match fieldOff Q t f with
  | none => none
  | some o => match p with
    | .ref n v off => if s.live n v then some (.ref n v (off + o)) else none
    | .eref n v i k off => if s.live n v then some (.eref n v i k (off + o)) else none
    | .fref x off => some (.fref x (off + o))
    | _ => none

/-- An element's place in an array. -/
def arrAddrP (Q : Program) (s : S) (len : Nat) (e : TypeId) (p : P) (i : P) : Option P :=
  match i, sz Q e with
  | .d (.int _ j), some (k + 1) => if 0 ≤ j ∧ j < (len : Int) then (match p with
    | .ref n v off => if s.live n v then some (.ref n v (off + j.toNat * (k + 1))) else none
    | .eref n v i k' off => if s.live n v then some (.eref n v i k' (off + j.toNat * (k + 1))) else none
    | .fref x off => some (.fref x (off + j.toNat * (k + 1)))
    | _ => none) else none
  | _, _ => none

def arrTy (Q : Program) (t : TypeId) : Option (Nat × TypeId) := match Q.underlying t with | some (.array n e) => some (n, e) | _ => none

def indexAddrP (Q : Program) (s : S) (t : TypeId) (p : P) (i : P) : Option P :=
  match arrTy Q t with
  | some (n, e) => arrAddrP Q s n e p i
  | none => match elemTy Q t, i with
  | some e, .d (.int _ j) => match sz Q e with
    | some (k + 1) => match p with
      | .sl n v len => match s.obj n v with
        | some (.arr ty _ _) => if Nat.beq ty e then (if 0 ≤ j ∧ j < (len : Int) then some (.eref n v j.toNat (k + 1) 0) else none) else none
        | _ => none
      | .d (.sl k' es) => if Nat.beq k' (k + 1) then (if 0 ≤ j then (match es[j.toNat]? with | some x => some (.fref x 0) | none => none) else none) else none
      | _ => none
    | _ => none
  | _, _ => none

/-- A slice expression's bounds. -/
def boundsP (len : Nat) (lo hi : Option P) : Option (Nat × Nat) :=
  match (match hi with | none => some len | some (.d (.int _ j)) => if 0 ≤ j ∧ j ≤ (len : Int) then some j.toNat else none | _ => none) with
  | none => none
  | some h => match lo with
    | none => some (0, h)
    | some (.d (.int _ j)) => if 0 ≤ j ∧ j ≤ (h : Int) then some (j.toNat, h) else none
    | _ => none

/-- A frozen own row, as data, where it is cut at its head. -/
def viewP (Q : Program) (s : S) (t : TypeId) (p : P) (lo : Option P) : P :=
  match p with
  | .sl n v len => match lo, s.obj n v, (elemTy Q t).bind (sz Q) with
    | some _, some (.arr ty true es), some (k + 1) => (match sz Q ty with | some k' => if Nat.beq k' (k + 1) then .d (.sl (k + 1) (es.take len)) else p | none => p)
    | _, _, _ => p
  | _ => p
def sliceP0 (Q : Program) (s : S) (t : TypeId) (p : P) (lo hi : Option P) : Option P :=
  match elemTy Q t with
  | none => none
  | some e => match sz Q e with
    | some (k + 1) => match p with
      | .d (.sl k' es) => if Nat.beq k' (k + 1) then (match boundsP es.length lo hi with | some (l, h) => some (.d (.sl k' ((es.take h).drop l))) | none => none) else none
      | .sl n v len => match s.obj n v, lo with
        | some (.arr _ _ _), none => match boundsP len none hi with | some (_, h) => some (.sl n v h) | none => none
        | _, _ => none
      | _ => none
    | _ => none

def sliceP (Q : Program) (s : S) (t : TypeId) (p : P) (lo hi : Option P) : Option P := sliceP0 Q s t (viewP Q s t p lo) lo hi

def lenP (s : S) (p : P) : Option P :=
  match p with
  | .sl n v len => if s.live n v then some (.d (.int .i64 len)) else none
  | .d (.sl _ es) => some (.d (.int .i64 es.length))
  | _ => none
def lenM (s : S) (p : P) : Option P :=
  match p with
  | .mp n v => match s.obj n v with | some (.map _ _ c _) => some (.d (.int .i64 c)) | _ => none
  | _ => none

def nilCmp (s : S) (p q : P) : Option Bool :=
  match p, q with
  | .ref n v _, .d .nilp | .eref n v _ _ _, .d .nilp | .d .nilp, .ref n v _ | .d .nilp, .eref n v _ _ _ => if s.live n v then some false else none
  | .fref _ _, .d .nilp | .d .nilp, .fref _ _ => some false
  | _, _ => none

def binP (Q : Program) (s : S) (op : BinOp) (t : TypeId) (x y : Operand) (p q : P) : Option P :=
  match p.toV, q.toV with
  | some a, some b => pureV Q (do eqGuard op t x y a b; binOp op t a b)
  | _, _ => match Q.underlying t, nilCmp s p q, op with
    | some (.pointer _), some r, .eql => some (.d (.bool r))
    | some (.pointer _), some r, .neq => some (.d (.bool (!r)))
    | _, _, _ => none

def toVs : List P → Option (List Value)
  | [] => some []
  | p :: r => match p.toV, toVs r with | some v, some vs => some (v :: vs) | _, _ => none

/-- The cells of an aggregate. -/
def P.aggs : P → Option (List P)
  | .agg ps => some ps
  | .d (.agg cs) => some (cs.map .d)
  | _ => none

def fieldP (Q : Program) (t : TypeId) (f : Nat) (p : P) : Option P :=
  match Q.underlying t, p.aggs with
  | some (.struct fs), some ps => match fs[f]? with
    | some fl => partP Q fl.type ps fl.offset
    | none => none
  | _, _ => none

/-- An element of an array's value. -/
def indexP (Q : Program) (n : Nat) (e : TypeId) (p : P) (i : P) : Option P :=
  match p.aggs, i, sz Q e with
  | some ps, .d (.int _ j), some k => if 0 ≤ j ∧ j < (n : Int) then partP Q e ps (j.toNat * k) else none
  | _, _, _ => none

/-- An element, or else. -/
def getO (o : Option D) (z : D) : D := o.getD z

/-- A map's look-up. -/
def lookupP (Q : Program) (s : S) (t : TypeId) (p i : P) (ok : Bool) (z : D) : Option P :=
  match mapTy Q t, p, i with
  | some (kt, _), .mp n v, .d k => match s.obj n v with
    | some (.map kt' get _ _) => if Nat.beq kt kt' && keyB Q kt k then some (if ok then .tup [.d ((get k).getD z), .d (.bool (get k).isSome)] else .d ((get k).getD z)) else none
    | some (.mapE kt' get _ _ _) => if !ok && Nat.beq kt kt' && keyB Q kt k then some (.d ((get k).getD z)) else none
    | _ => none
  | some (kt, _), .d .nilm, .d k => if keyB Q kt k then some (if ok then .tup [.d z, .d (.bool false)] else .d z) else none
  | _, _, _ => none

/-- The entry at which a map's iteration is. -/
def entryP (s : S) (p : P) : Option P :=
  match p with
  | .ref n v 0 => match s.obj n v with
    | some (.iter _ _ _ (some (k, x))) => some (.tup [.d k, .d x])
    | _ => none
  | _ => none

/-- The zero value of a type. -/
def zeroD (Q : Program) (t : TypeId) : Option D :=
  match Q.info? t with
  | some i => match i.zero with | some z => D.ofV z | none => none
  | none => none

/-- The fields' places. -/
def placesS (fs : Array Field) : Sem (Array (Nat × Nat)) := fs.mapM fun f => do pure (f.offset, ← sizeOf f.type)
def fillP (pl : Array (Nat × Nat)) : List P → List (Nat × P) → Option (List P)
  | ps, [] => some ps
  | ps, (i, p) :: r => match pl[i]? with
    | some (off, k) => if Nat.beq p.cells.length k && Nat.ble (off + k) ps.length && p.okCells then fillP pl (splice ps off p.cells) r else none
    | none => none
/-- A struct put together of values. -/
def buildStP (Q : Program) (t : TypeId) (parts : List (Nat × P)) : Option P :=
  match Q.underlying t, zeroD Q t with
  | some (.struct fs), some z => match evalPure Q (placesS fs) with
    | some pl => match fillP pl (z.cells.map .d) parts with
      | some qs => some (mkAgg qs)
      | none => none
    | none => none
  | _, _ => none

/-- The value of an operation that changes nothing and makes nothing. -/
def pv (Q : Program) (s : S) (o : Oper) (g : Option (Nat × Bool)) : Option P :=
  match o.op with
  | .move x | .assign x => some (s.eg g x)
  | .pick c a b => match s.eg g c with | .d (.bool r) => some (if r then s.eg g a else s.eg g b) | _ => none
  | .nilCheck x => nilCheckP s (s.eg g x)
  | .binOp op t x y _ => binP Q s op t x y (s.eg g x) (s.eg g y)
  | .unOp op _ x => match (s.eg g x).toV with | some v => pureV Q (Op.unary op v) | none => none
  | .convert a b x => match (s.eg g x).toV with | some v => pureV Q (Go.convert a b v) | none => none
  | .load t x => loadP Q s t (s.eg g x)
  | .fieldAddr t x f => fieldAddrP Q s t f (s.eg g x)
  | .indexAddr t x i => indexAddrP Q s t (s.eg g x) (s.eg g i)
  | .index t x i => match Q.underlying t with
    | some (.array n e) => indexP Q n e (s.eg g x) (s.eg g i)
    | _ => match (s.eg g x).toV, (s.eg g i).toV with | some a, some b => pureV Q (Instr.index t a b) | _, _ => none
  | .field t x f => fieldP Q t f (s.eg g x)
  | .extract x i => match s.eg g x with | .tup ps => ps[i]? | _ => none
  | .lookup t x i ok => match (mapTy Q t).bind fun y => zeroD Q y.2 with
    | some z => lookupP Q s t (s.eg g x) (s.eg g i) ok z
    | none => none
  | .entry x => entryP s (s.eg g x)
  | .slice t x lo hi none => match (s.eg g x).toV with
    | some (.string b) => match (match lo with | none => some none | some l => (s.eg g l).toV.map some), (match hi with | none => some none | some h => (s.eg g h).toV.map some) with
      | some l, some h => pureV Q (Instr.sliceAt t (.string b) l h none)
      | _, _ => none
    | _ => sliceP Q s t (s.eg g x) (lo.map (s.eg g)) (hi.map (s.eg g))
  | .build t parts => match toVs (parts.toList.map fun x => s.eg g x.2) with
    | some vs => pureV Q (Instr.build t ((parts.toList.map (·.1)).zip vs).toArray)
    | none => buildStP Q t (parts.toList.map fun x => (x.1, s.eg g x.2))
  | .makeFunc (.func f) first caps => match first.toList with
    | [] => some (.fn f (caps.toList.map (s.eg g)))
    | _ => none
  | .call c => match c.callee with
    | .builtin .len => match c.args.toList with
      | [x] => match (s.eg g x).toV with
        | some v => pureV Q (Builtin.len_ c.argTypes o.type #[v])
        | none => match (c.argTypes[0]?).bind (elemTy Q) with
          | some _ => lenP s (s.eg g x)
          | none => match (c.argTypes[0]?).bind (mapTy Q) with | some _ => lenM s (s.eg g x) | none => none
      | _ => none
    | .builtin .min => match toVs (c.args.toList.map (s.eg g)) with | some vs => pureV Q (Builtin.min_ c.argTypes o.type vs.toArray) | none => none
    | .builtin .max => match toVs (c.args.toList.map (s.eg g)) with | some vs => pureV Q (Builtin.max_ c.argTypes o.type vs.toArray) | none => none
    | _ => none
  | _ => none

end Pi

