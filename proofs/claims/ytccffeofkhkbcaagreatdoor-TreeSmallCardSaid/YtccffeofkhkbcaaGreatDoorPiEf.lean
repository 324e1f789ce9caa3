/- The text PiEf. -/
import Derived.Test.YtccffeofkhkbcaaGreatDoorPiBase
/- Operations that make or turn something: definitions. -/
namespace Pi
open Go

/-- The kinds of cells of a type: of slices, what they are of. -/
def cellTys (Q : Program) : Nat → TypeId → List (Option TypeId)
  | 0, _ => []
  | n + 1, t => match Q.underlying t with
    | some (.struct fs) => fs.toList.flatMap fun f => cellTys Q n f.type
    | some (.array k e) => (List.replicate k (cellTys Q n e)).flatten
    | some (.slice e) => [some e]
    | _ => [none]

/-- A nil slice in a new variable: an empty row of its own. -/
def own1 (s : S) (n : Nat) (p : P) (t : Option TypeId) : Option (S × P) :=
  match p, t with
  | .d .nils, some e => match s.new n (.arr e false []) with
    | some (s', v) => some (s', .sl n v 0)
    | none => none
  | _, _ => some (s, p)

def ownCells (s : S) (n : Nat) : List P → List (Option TypeId) → Option (S × List P)
  | [], _ => some (s, [])
  | p :: ps, ts => match own1 s n p (ts.headD none) with
    | none => none
    | some (s1, q) => match ownCells s1 (n + 1) ps ts.tail with
      | some (s2, qs) => some (s2, q :: qs)
      | none => none

def newBox (Q : Program) (s : S) (dst : Option Nat) (t : TypeId) (ps : List P) : Option S :=
  match ownCells s (site dst * 1000) ps (cellTys Q 20 t) with
  | none => none
  | some (s1, qs) => (match s1.new (site dst) (.box t qs) with
    | some (s2, v) => s2.put dst (.ref (site dst) v 0)
    | none => none)

/-- Data of it: what was own is frozen. -/
def frz1 (Q : Program) (s : S) (p : P) : Option (S × D) :=
  match p with
  | .d x => some (s, x)
  | .sl n v len => match s.obj n v with
    | some (.arr ty _ es) => match sz Q ty with
      | some (k + 1) => some (s.setObj n (.arr ty true es), .sl (k + 1) (es.take len))
      | _ => none
    | _ => none
  | _ => none

def frzs (Q : Program) (s : S) : List P → Option (S × List D)
  | [] => some (s, [])
  | p :: ps => match frz1 Q s p with
    | none => none
    | some (s1, x) => match frzs Q s1 ps with
      | some (s2, xs) => some (s2, x :: xs)
      | none => none

def frz (Q : Program) (s : S) (p : P) : Option (S × D) :=
  match p with
  | .agg ps => match frzs Q s ps with | some (s', xs) => some (s', .agg xs) | none => none
  | _ => frz1 Q s p

/-! written out: the same, for the kernel's sake -/
def D.force1 {β : Type} (x : D) (k : D → β) : β :=
  match x with
  | .bool b => k (.bool b)
  | .int a n => k (.int a n)
  | .str s => k (.str s)
  | .agg cs => k (.agg cs)
  | .sl n es => k (.sl n es)
  | .nils => k .nils
  | .nilp => k .nilp
  | .nilm => k .nilm
  | .nilf => k .nilf
  | .nili => k .nili
def forceL {α β : Type} (f : α → (α → β) → β) : List α → (List α → β) → β
  | [], k => k []
  | x :: r, k => f x fun y => forceL f r fun r' => k (y :: r')
def D.force {β : Type} (x : D) (k : D → β) : β :=
  match x with
  | .agg cs => forceL D.force1 cs fun cs' => k (.agg cs')
  | y => y.force1 k
theorem D.force1_eq {β : Type} (x : D) (k : D → β) : x.force1 k = k x := by cases x <;> rfl
theorem forceL_eq {α β : Type} {f : α → (α → β) → β} (hf : ∀ x k, f x k = k x) : ∀ (l : List α) (k : List α → β), forceL f l k = k l
  | [], _ => rfl
  | x :: r, k => by simp only [forceL, hf]; rw [forceL_eq hf r]
theorem D.force_eq {β : Type} (x : D) (k : D → β) : x.force k = k x := by
  cases x with
  | agg cs => exact forceL_eq D.force1_eq cs (fun cs' => k (.agg cs'))
  | _ => rfl

/-- Nil slices within data: empty rows. -/
def nzC (Q : Program) (t : Option TypeId) (x : D) : D :=
  match t with
  | some e => (match x with
    | .nils => (match sz Q e with | some (k + 1) => .sl (k + 1) [] | _ => .nils)
    | y => y)
  | none => x
def nzCs (Q : Program) : List (Option TypeId) → List D → List D
  | t :: ts, c :: cs => nzC Q t c :: nzCs Q ts cs
  | _, cs => cs
def hasSl (Q : Program) (t : TypeId) : Bool := (cellTys Q 20 t).any Option.isSome
def nzD (Q : Program) (t : TypeId) (x : D) : D := match x with | .agg cs => .agg (nzCs Q (cellTys Q 20 t) cs) | .nils => nzC Q (elemTy Q t) .nils | y => y
def frzT (Q : Program) (s : S) (t : TypeId) (p : P) : Option (S × D) :=
  match hasSl Q t with
  | false => frz Q s p
  | true => match frz Q s p with | some (s', x) => (nzD Q t x).force fun y => some (s', y) | none => none

/-- An element with other cells. -/
def D.withCells (x : D) (cs : List D) : D := match x with | .agg _ => .agg cs | _ => cs.headD x

def storeP (Q : Program) (s : S) (t : TypeId) (addr val : P) : Option S :=
  match sz Q t with
  | none => none
  | some k => match addr with
    | .ref n v off => match own1 s (2000000 + n * 1000 + off) val (elemTy Q t) with
      | some (s1, val) => match s1.obj n v with
        | some (.box ty ps) => if Nat.beq val.cells.length k && Nat.ble (off + k) ps.length && val.okCells then some (s1.setObj n (.box ty (splice ps off val.cells))) else none
        | _ => none
      | none => none
    | .eref n v i k' off => match frzT Q s t val with
      | some (s1, x) => match s1.obj n v with
        | some (.arr ty false es) => match es[i]?, sz Q ty with
          | some y, some k2 => if Nat.beq k' k2 && Nat.beq x.cells.length k && Nat.ble (off + k) k2 then
              some (s1.setObj n (.arr ty false (es.set i (y.withCells (y.cells.take off ++ x.cells ++ y.cells.drop (off + k)))))) else none
          | _, _ => none
        | _ => none
      | none => none
    | _ => none

/-- The elements of what is appended. -/
def srcP (Q : Program) (s : S) (t2 : TypeId) (k : Nat) (p : P) : Option (List D) :=
  match p with
  | .sl n v len => match s.obj n v, Q.underlying t2 with
    | some (.arr ty _ es), some (.slice _) => if sz Q ty == some k then some (es.take len) else none
    | _, _ => none
  | .d (.sl k' es) => match Q.underlying t2 with | some (.slice _) => if Nat.beq k' k then some es else none | _ => none
  | .d .nils => match Q.underlying t2 with | some (.slice _) => some [] | _ => none
  | .d (.str l) => match Q.underlying t2 with | some .string => if Nat.beq k 1 then some (l.map fun b => D.int .u8 b.toNat) else none | _ => none
  | _ => none

def roomOk (len bytes : Nat) : Bool := Nat.ble (len * bytes) 140737488355328 && Nat.ble len 9223372036854775807

def appendP (Q : Program) (s : S) (dst : Option Nat) (t t2 : TypeId) (p q : P) : Option S :=
  match elemTy Q t with
  | none => none
  | some e => match Q.info? e, sz Q e with
    | some i, some (k + 1) => match srcP Q s t2 (k + 1) q, zeroD Q e with
      | some ys, some z => if Nat.beq z.cells.length (k + 1) then (match p with
        | .sl n v len => match lk s.rg n with
          | some en => match en.obj with
            | .arr ty false es => if Nat.beq en.ver v && Nat.beq ty e && Nat.ble len es.length && roomOk (len + ys.length) i.bytes then
                ({ s with rg := ins n ⟨v + 1, none, .arr ty false (es.take len ++ ys)⟩ s.rg } : S).put dst (.sl n (v + 1) (len + ys.length))
              else none
            | _ => none
          | none => none
        | .d .nils => if roomOk ys.length i.bytes then (match s.new (site dst) (.arr e false ys) with
            | some (s1, v) => s1.put dst (.sl (site dst) v ys.length)
            | none => none) else none
        | _ => none) else none
      | _, _ => none
    | _, _ => none

def bytesD : List D → Option (List UInt8)
  | [] => some []
  | .int .u8 n :: r => match bytesD r with | some l => some (UInt8.ofNat n.toNat :: l) | none => none
  | _ => none

/-- make of a slice. -/
def makeP (Q : Program) (s : S) (dst : Option Nat) (t : TypeId) (p q : P) : Option S :=
  match elemTy Q t, p, q with
  | some e, .d (.int _ l), .d (.int _ c) => match Q.info? e, sz Q e, zeroD Q e with
    | some i, some (k + 1), some z => if Nat.beq z.cells.length (k + 1) && decide (0 ≤ l ∧ l ≤ c ∧ c ≤ 9223372036854775807 ∧ (i.bytes : Int) * c ≤ 281474976710656) then
        (match s.new (site dst) (.arr e false (List.replicate l.toNat z)) with
        | some (s1, v) => s1.put dst (.sl (site dst) v l.toNat)
        | none => none) else none
    | _, _, _ => none
  | _, _, _ => none

/-- The elements of a slice that is written out. -/
def buildEls (Q : Program) (t : TypeId) (k : Nat) : S → List D → List (Nat × P) → Option (S × List D)
  | s, es, [] => some (s, es)
  | s, es, (i, p) :: r => match frzT Q s t p with
    | some (s1, x) => if Nat.beq x.cells.length k && Nat.blt i es.length then buildEls Q t k s1 (es.set i x) r else none
    | none => none

def buildP (Q : Program) (s : S) (dst : Option Nat) (t : TypeId) (len : Nat) (parts : List (Nat × P)) : Option S :=
  match elemTy Q t with
  | some e => match Q.info? e, sz Q e, zeroD Q e with
    | some i, some (k + 1), some z => if Nat.beq z.cells.length (k + 1) && Nat.ble (len * (k + 1)) 16777216 && Nat.ble (len * i.bytes) 140737488355328 then
        (match buildEls Q e (k + 1) s (List.replicate len z) parts with
        | some (s1, es) => (match s1.new (site dst) (.arr e false es) with
          | some (s2, v) => s2.put dst (.sl (site dst) v len)
          | none => none)
        | none => none) else none
    | _, _, _ => none
  | none => none

/-- copy: all of a source that fits. -/
def copyP (Q : Program) (s : S) (dst : Option Nat) (t t2 : TypeId) (p q : P) : Option S :=
  match elemTy Q t, p with
  | some e, .sl n v len => match sz Q e with
    | some (k + 1) => match srcP Q s t2 (k + 1) q, s.obj n v with
      | some ys, some (.arr ty false es) => if Nat.beq ty e && decide (len ≤ es.length ∧ ys.length ≤ len) then (s.setObj n (.arr ty false (ys ++ es.drop ys.length))).put dst (.d (.int .i64 ys.length)) else none
      | _, _ => none
    | _ => none
  | _, _ => none

/-- A new map. -/
def makeMapP (Q : Program) (s : S) (dst : Option Nat) (t : TypeId) : Option S :=
  match mapTy Q t with
  | some (kt, _) => match s.new (site dst) (.map kt (fun _ => none) 0 false) with
    | some (s1, v) => s1.put dst (.mp (site dst) v)
    | none => none
  | none => none

/-- An element of a map. -/
def mapUpdP (Q : Program) (s : S) (dst : Option Nat) (t : TypeId) (p k x : P) : Option S :=
  match mapTy Q t, p, k with
  | some (kt, vt), .mp n v, .d kd => match frzT Q s vt x with
    | some (s1, y) => match s1.obj n v with
      | some (.map kt' get c false) => if Nat.beq kt kt' && keyB Q kt kd then (s1.setObj n (.map kt (updD kd y get) (bif (get kd).isSome then c else c + 1) false)).put dst .bad else none
      | _ => none
    | none => none
  | _, _, _ => none

/-- An entry of a map, to be stored to. -/
def mapEntP (Q : Program) (s : S) (dst : Option Nat) (t : TypeId) (p k : P) : Option S :=
  match mapTy Q t, p, k with
  | some (kt, e), .mp n v, .d kd => match zeroD Q e with
    | some z => match s.obj n v with
      | some (.map kt' get c false) => if Nat.beq kt kt' && keyB Q kt kd && !Nat.beq n (site dst) then (match s.new (site dst) .stamp with
          | some (s1, v1) => (s1.setObj n (.mapE kt (updD kd (getO (get kd) z) get) (bif (get kd).isSome then c else c + 1) (.mp (site dst) v1) kd)).put dst (.tup [.bad, .mp (site dst) v1])
          | none => none) else none
      | _ => none
    | none => none
  | _, _, _ => none

def entStP (Q : Program) (s : S) (dst : Option Nat) (p st x : P) : Option S :=
  match p, st with
  | .mp n v, .mp m vm => match frz Q s x with
    | some (s1, y) => match s1.obj n v, s1.obj m vm with
      | some (.mapE kt get c (.mp m' vm') kd), some .stamp => if Nat.beq m m' && Nat.beq vm vm' && keyB Q kt kd then (s1.setObj n (.map kt (updD kd y get) c false)).put dst .bad else none
      | _, _ => none
    | none => none
  | _, _ => none

/-- A map's entries, to be gone through; the map is frozen. -/
def rangeP (Q : Program) (s : S) (dst : Option Nat) (t : TypeId) (p : P) : Option S :=
  match mapTy Q t, p with
  | some (kt, vt), .mp n v => match s.obj n v with
    | some (.map kt' get c _) => if Nat.beq kt kt' then (match (s.setObj n (.map kt get c true)).new (site dst) (.iter kt vt get none) with
      | some (s1, v1) => s1.put dst (.ref (site dst) v1 0)
      | none => none) else none
    | _ => none
  | some (kt, vt), .d .nilm => (match s.new (site dst) (.iter kt vt (fun _ => none) none) with
    | some (s1, v1) => s1.put dst (.ref (site dst) v1 0)
    | none => none)
  | _, _ => none

/-- An operation that makes or turns something. -/
def ef (Q : Program) (s : S) (o : Oper) (g : Option (Nat × Bool)) : Option S :=
  match o.op with
  | .alloc t => match zeroD Q t with | some z => newBox Q s o.dst t ((P.d z).cells) | none => none
  | .box t x => if (s.eg g x).okCells then newBox Q s o.dst t (s.eg g x).cells else none
  | .store t addr x => match storeP Q s t (s.eg g addr) (s.eg g x) with | some s1 => s1.put o.dst .bad | none => none
  | .convert t1 t2 x => match Q.underlying t1, Q.underlying t2 with
    | some (.slice e), some .string => match Q.underlying e, srcP Q s t1 1 (s.eg g x) with
      | some (.int .u8), some ys => match bytesD ys with | some l => s.put o.dst (.d (.str l)) | none => none
      | _, _ => none
    | _, _ => none
  | .call c => match c.callee with
    | .builtin .append => match c.args.toList, c.argTypes.toList with
      | [x, y], [t, t2] => appendP Q s o.dst t t2 (s.eg g x) (s.eg g y)
      | _, _ => none
    | .builtin .copy => match c.args.toList, c.argTypes.toList with
      | [x, y], [t, t2] => copyP Q s o.dst t t2 (s.eg g x) (s.eg g y)
      | _, _ => none
    | _ => none
  | .makeSlice t x y => makeP Q s o.dst t (s.eg g x) (s.eg g y)
  | .makeMap t none => makeMapP Q s o.dst t
  | .mapUpdate t m k x => mapUpdP Q s o.dst t (s.eg g m) (s.eg g k) (s.eg g x)
  | .insert t m k x => mapUpdP Q s o.dst t (s.eg g m) (s.eg g k) (s.eg g x)
  | .range t x => rangeP Q s o.dst t (s.eg g x)
  | .mapEntry t m k => mapEntP Q s o.dst t (s.eg g m) (s.eg g k)
  | .entryStore _ m st x => entStP Q s o.dst (s.eg g m) (s.eg g st) (s.eg g x)
  | .buildSlice t len parts => buildP Q s o.dst t len (parts.toList.map fun x => (x.1, s.eg g x.2))
  | _ => none

/-- A nil slice given to a variable: an empty row of its own. -/
def nilAssign (Q : Program) (o : Oper) : Option TypeId :=
  match o.op with
  | .assign (.const (.slice none 0 0)) => elemTy Q o.type
  | _ => none

def exec (Q : Program) (s : S) (o : Oper) (g : Option (Nat × Bool)) : Option S :=
  match nilAssign Q o with
  | some e => match s.new (site o.dst) (.arr e false []) with
    | some (s1, v) => s1.put o.dst (.sl (site o.dst) v 0)
    | none => none
  | none => match pv Q s o g with
    | some p => s.put o.dst p
    | none => ef Q s o g

end Pi

