/- The text PiBase. -/
import GoSem.Dispatch
abbrev zaa:=@List.length_map
abbrev zab:=@Bool.and_eq_true
abbrev zac:=@List.getD_eq_getElem?_getD
abbrev zad:=@List.getElem?_eq_some_iff
abbrev zae:=@List.getElem?_eq_getElem
abbrev zaf:=@Nat.eq_of_beq_eq_true
abbrev zag:=@List.take_succ_eq_append_getElem
abbrev zah:=@decide_eq_true_eq
abbrev zai:=@List.take_of_length_le
abbrev zaj:=@Nat.le_refl
abbrev zak:=@List.take_length
abbrev zal:=@Option.some.injEq
abbrev zam:=@if_neg
abbrev zan:=@List.length_append
abbrev zao:=@if_pos
abbrev zap:=@List.length_cons
abbrev zaq:=@Nat.mul_le_mul_right
abbrev zar:=@Array.getElem?_eq_some_iff
abbrev zas:=@List.getElem_mem
abbrev zat:=@List.length_nil
abbrev zau:=@Option.bind_some
abbrev zav:=@List.mem_cons
abbrev zaw:=@Option.map_eq_some_iff
abbrev zax:=@List.eq_nil_of_length_eq_zero
abbrev zay:=@List.length_take
abbrev zaz:=@Bool.false_eq_true
abbrev zaA:=@List.mem_map
abbrev zaB:=@List.map_append
abbrev zaC:=@List.mem_of_getElem?
abbrev zaD:=@Array.getD_eq_getD_getElem?
abbrev zaE:=@Bool.eq_iff_iff
abbrev zaF:=@Nat.zero_add
abbrev zaG:=@List.mem_append
abbrev zaH:=@List.mem_cons_of_mem
abbrev zaI:=@Nat.le_trans
abbrev zaJ:=@List.getElem?_map
abbrev zaK:=@Option.map_some
abbrev zaL:=@decide_eq_false
abbrev zaM:=@List.getElem?_append_left
abbrev zaN:=@Classical.byContradiction
abbrev zaO:=@decide_eq_false_iff_not
abbrev zaP:=@List.getElem?_of_mem
abbrev zaQ:=@Bool.true_and
abbrev zaR:=@decide_eq_true
abbrev zaS:=@beq_iff_eq
abbrev zaT:=@Nat.add_mul
abbrev zaU:=@List.getElem_of_mem
abbrev zaV:=@Bool.not_eq_true
abbrev zaW:=@List.getElem?_set_ne
abbrev zaX:=@Array.getElem?_setIfInBounds_ne
abbrev zaY:=@List.append_assoc
abbrev zaZ:=@List.getElem?_append_right
abbrev za0:=@List.nodup_append
abbrev za1:=@List.foldl_append
abbrev za2:=@List.drop_eq_getElem_cons
abbrev za3:=@Nat.lt_of_lt_of_le
abbrev za4:=@List.length_filter_le
abbrev za5:=@Nat.zero_le
abbrev za6:=@List.mem_map_of_mem
abbrev za7:=@List.nodup_cons
abbrev za8:=@List.foldl_cons
abbrev za9:=@Bool.or_eq_true
abbrev zba:=@if_true
abbrev zbb:=@List.mem_append_right
abbrev zbc:=@List.length_drop
abbrev zbd:=@if_false
abbrev zbe:=@List.getElem?_take
abbrev zbf:=@List.mem_singleton
abbrev zbg:=@List.length_set
abbrev zbh:=@List.nil_append
abbrev zbi:=@List.pairwise_iff_getElem
abbrev zbj:=@List.append_nil
abbrev zbk:=@List.all_eq_true
abbrev zbl:=@List.map_cons
abbrev zbm:=@List.getElem?_eq_none
abbrev zbn:=@cond_false
abbrev zbo:=@Bool.false_or
abbrev zbp:=@List.mem_of_mem_take
abbrev zbq:=@Array.toList_inj
abbrev zbr:=@Nat.one_mul
abbrev zbs:=@Bool.not_eq_true'
abbrev zbt:=@Bool.and_true
abbrev zbu:=@List.length_replicate
abbrev zbv:=@Array.getElem?_setIfInBounds_self_of_lt
abbrev zbw:=@List.getElem?_drop
abbrev zbx:=@List.any_eq_true
abbrev zby:=@Int.le_refl
abbrev zbz:=@List.mem_append_left
abbrev zbA:=@Nat.add_assoc
abbrev zbB:=@Prod.mk.injEq
abbrev zbC:=@Ne.symm
abbrev zbD:=@of_decide_eq_true
abbrev zbE:=@List.map_congr_left
abbrev zbF:=@List.flatMap_append
abbrev zbG:=@beq_self_eq_true
abbrev zbH:=@decide_eq_decide
abbrev zbI:=@Nat.le_of_ble_eq_true
abbrev zbJ:=@List.findIdx?_eq_some_iff_getElem
abbrev zbK:=@Array.getElem?_eq_getElem
abbrev zbL:=@Option.bind_eq_some_iff
abbrev zbM:=@List.length_pos_iff
abbrev zbN:=@List.isEmpty_iff
abbrev zbO:=@List.getElem?_set_self
abbrev zbP:=@List.mem_cons_self
abbrev zbQ:=@Nat.add_zero
abbrev zbR:=@List.take_append_drop
abbrev zbS:=@cond_true
abbrev zbT:=@Bool.or_false
abbrev zbU:=@List.mem_of_mem_drop
abbrev zbV:=@List.count_le_length
abbrev zbW:=@List.findIdx?_eq_none_iff
abbrev zbX:=@List.ext_getElem
abbrev zbY:=@Nat.succ_le_succ
abbrev zbZ:=@Nat.ble_eq
abbrev zb0:=@List.map_set
abbrev zb1:=@Option.some.inj
abbrev zb2:=@List.take_left'
abbrev zb3:=@List.mem_filter
abbrev zb4:=@Function.comp_def
abbrev zb5:=@Int.toNat_natCast
abbrev zb6:=@List.take_add_one
abbrev zb7:=@Nat.mul_comm
abbrev zb8:=@List.singleton_append
abbrev zb9:=@Bool.true_or
abbrev zca:=@Option.getD_some
abbrev zcb:=@List.count_cons_self
abbrev zcc:=@List.getElem?_range
abbrev zcd:=@Nat.min_eq_left
abbrev zce:=@List.filter_sublist
abbrev zcf:=@List.any_append
abbrev zcg:=@Array.getElem?_append_left
abbrev zch:=@Nat.lt_or_gt_of_ne
abbrev zci:=@of_decide_eq_false
abbrev zcj:=@getElem!_pos
abbrev zck:=@List.find?_eq_none
abbrev zcl:=@List.filter_append
abbrev zcm:=@List.drop_zero
abbrev zcn:=@List.mem_of_find?_eq_some
abbrev zco:=@List.ext_getElem?
abbrev zcp:=@List.size_toArray
abbrev zcq:=@List.flatMap_cons
abbrev zcr:=@List.pairwise_map
abbrev zcs:=@List.any_eq_false
abbrev zct:=@Bool.not_eq_false
abbrev zcu:=@List.getElem?_cons_succ
abbrev zcv:=@List.mem_flatMap
abbrev zcw:=@Array.size_range
abbrev zcx:=@Nat.lt_succ_self
abbrev zcy:=@List.drop_eq_nil_of_le
abbrev zcz:=@Array.getElem?_toList
abbrev zcA:=@Option.map_none
abbrev zcB:=@Nat.div_lt_iff_lt_mul
abbrev zcC:=@Array.getElem?_modify
abbrev zcD:=@List.pairwise_reverse
abbrev zcE:=@List.set_append_right
abbrev zcF:=@List.eq_nil_or_concat
abbrev zcG:=@List.cons.injEq
abbrev zcH:=@List.drop_take
abbrev zcI:=@not_or
abbrev zcJ:=@Bool.and_false
abbrev zcK:=@Array.length_toList
abbrev zcL:=@beq_eq_false_iff_ne
abbrev zcM:=@Array.foldl_toList
abbrev zcN:=@Nat.eq_or_lt_of_le
abbrev zcO:=@Array.ext_getElem?
abbrev zcP:=@Bool.not_eq_false'
abbrev zcQ:=@List.pairwise_cons
abbrev zcR:=@List.count_eq_zero
abbrev zcS:=@Nat.mod_lt
abbrev zcT:=@Nat.le_succ_of_le
abbrev zcU:=@List.reverse_perm
abbrev zcV:=@List.take_sublist
abbrev zcW:=@List.eq_nil_iff_forall_not_mem
abbrev zcX:=@Array.toList_map
abbrev zcY:=@List.not_mem_nil
abbrev zcZ:=@Nat.le_add_right
abbrev zc0:=@List.drop_length
abbrev zc1:=@Nat.div_add_mod
abbrev zc2:=@Nat.le_succ
abbrev zc3:=@List.find?_some
abbrev zc4:=@List.drop_drop
abbrev zc5:=@List.mem_take_iff_getElem
abbrev zc6:=@List.mem_or_eq_of_mem_set
abbrev zc7:=@Array.getElem?_replicate
abbrev zc8:=@Bool.not_true
abbrev zc9:=@true_and
abbrev zda:=@List.any_cons
abbrev zdb:=@Bool.or_assoc
abbrev zdc:=@and_true
abbrev zdd:=@Prod.ext
abbrev zde:=@List.filter_cons_of_pos
abbrev zdf:=@List.filter_cons_of_neg
namespace Pi
open Go
inductive D where
 |bool (b:Bool)
 |int (k:IntKind) (n:Int)
 |str (s:List UInt8)
 |agg (cs:List D)
 |sl (k:Nat) (es:List D)
 |fQ
 |q7
 |sa
 |BW
 |BX
 deriving Inhabited
def D.cells:D->List D
 | .agg cs=>cs
 |x=>[x]
def D.bC:D->Bool
 | .agg _=>false
 |_=>true
inductive P where
 |d (x:D)
 |agg (ps:List P)
 |ref (n v off:Nat)
 |dx (n v i k off:Nat)
 |eZ (x:D) (off:Nat)
 |sl (n v len:Nat)
 |lC (n v k off len:Nat)
 |mp (n v:Nat)
 |fn (f:FuncId) (cG:List P)
 |cV (ps:List P)
 |when (slot:Nat) (want:Bool) (p:P)
 |bad
 deriving Inhabited
def P.skip:P:= .when 0 false .bad
def P.bC:P->Bool
 | .d x=>x.bC
 | .ref .. | .dx .. | .eZ .. | .sl .. | .lC .. | .mp .. | .fn ..=>true
 |_=>false
inductive Obj where
 |gone
 |box (ty:TypeId) (ps:List P)
 |arr (ty:TypeId) (fz:Bool) (es:List D)
 |map (kt:Nat) (get:D->Option D) (n:Int) (fz:Bool)
 |iter (kt vt:Nat) (left:D->Option D) (cur:Option (D×D))
 |ew
 |jZ (kt:Nat) (get:D->Option D) (n:Int) (p:P) (kd:D)
 deriving Inhabited
structure En where
 aX:Nat
 tag:Option Nat
 obj:Obj
def lk {α:Type}:List (Nat×α)->Nat->Option α
 | [],_=>none
 | (k,v)::r,j=>if Nat.beq k j then some v else lk r j
def ins {α:Type} (k:Nat) (v:α):List (Nat×α)->List (Nat×α)
 | []=>[(k,v)]
 | (j,u)::r=>if Nat.blt k j then(k,v)::(j,u)::r else if Nat.beq k j then(k,v)::r else(j,u)::ins k v r
structure S where
 n:Nat
 tm:List (Nat×P)
 rg:List (Nat×En)
def D.gu:D->Option Value
 | .bool b=>some (.bool b)
 | .int k n=>some (.int k n)
 | .str s=>some (.string ⟨⟨s⟩⟩)
 | .fQ=>some (.slice none 0 0)
 | .q7=>some (.pointer none)
 | .sa=>some (.map none)
 | .BW=>some .nilFunc
 | .BX=>some .nilIface
 | .agg _ | .sl _ _=>none
def D.c7:List D->Option (List Value)
 | []=>some []
 |x::r=>match x.gu,D.c7 r with |some v,some vs=>some (v::vs)|_,_=>none
def D.cy:D->Option Value
 | .agg cs=>match D.c7 cs with |some vs=>some (.agg ⟨vs⟩)|none=>none
 |x=>x.gu
def P.cy:P->Option Value
 | .d x=>x.cy
 |_=>none
def D.l4:Value->Option D
 | .bool b=>some (.bool b)
 | .int k n=>some (.int k n)
 | .string s=>some (.str s.data.toList)
 | .slice none 0 0=>some .fQ
 | .pointer none=>some .q7
 | .map none=>some .sa
 | .nilFunc=>some .BW
 | .nilIface=>some .BX
 |_=>none
def D.BY:List Value->Option (List D)
 | []=>some []
 |v::r=>match D.l4 v,D.BY r with |some x,some xs=>some (x::xs)|_,_=>none
def D.tF:Value->Option D
 | .agg cs=>match D.BY cs.toList with |some xs=>some (.agg xs)|none=>none
 |v=>D.l4 v
def aw {α:Type} (Q:Program):Sem α->Option α
 | .pure a=>some a
 | .program k=>aw Q (k Q)
 | .mark _ k=>aw Q k
 |_=>none
def dT (Q:Program) (m:Sem Value):Option P:=
 match aw Q m with
 |some v=>match D.tF v with |some x=>some (.d x)|none=>none
 |none=>none
def S.ev (s:S):Operand->P
 | .tmp t=>(lk s.tm t).getD .bad
 | .const v=>match D.tF v with |some x=> .d x |none=> .bad
 | .func f=> .fn f []
 | .global _=> .bad
def P.under (_:Option (Nat×Bool)):P->P
 | .when ..=> .bad
 |p=>p
def S.eg (s:S) (g:Option (Nat×Bool)) (x:Operand):P:=(s.ev x).under g
def S.put (s:S) (dst:Option Nat) (p:P):Option S:=
 match dst with
 |none=>some s
 |some t=>if Nat.blt t s.n then some ⟨s.n,ins t p s.tm,s.rg⟩ else none
def zz:List P->Option (List D)
 | []=>some []
 | .d x::r=>match zz r with |some xs=>some (x::xs)|none=>none
 |_=>none
def JY (ps:List P):P:=match zz ps with |some xs=> .d (.agg xs)|none=> .agg ps
def P.cells:P->List P
 | .agg ps=>ps
 | .d (.agg cs)=>cs.map .d
 |p=>[p]
def P.nj:P->Bool
 | .agg _ | .d _=>true
 |p=>p.bC
mutual
def D.nZ:D->D->Bool
 | .bool a,.bool b=>a==b
 | .int k a,.int k' b=>k==k'&&a==b
 | .str a,.str b=>a==b
 | .agg a,.agg b=>D.Hs a b
 | .sl k a,.sl k' b=>k==k'&&D.Hs a b
 | .fQ,.fQ | .q7,.q7 | .sa,.sa | .BW,.BW | .BX,.BX=>true
 |_,_=>false
def D.Hs:List D->List D->Bool
 | [],[]=>true
 |x::xs,y::ys=>D.nZ x y&&D.Hs xs ys
 |_,_=>false
end
def cY (k v:D) (get:D->Option D):D->Option D:=fun k'=>bif D.nZ k k' then some v else get k'
def Ee (k:D) (get:D->Option D):D->Option D:=fun k'=>bif D.nZ k k' then none else get k'
def sz (Q:Program) (t:TypeId):Option Nat:=match Q.info? t,Q.underlying t with |some i,some _=>some i.size |_,_=>none
def dy (Q:Program) (t:TypeId):Bool:=match Q.underlying t with |some (.struct _)|some (.array _ _)=>true |_=>false
def cH (Q:Program) (t:TypeId):Option TypeId:=match Q.underlying t with |some (.slice e)=>some e |_=>none
def As (Q:Program) (t:TypeId) (ps:List P) (off:Nat):Option P:=
 match sz Q t with
 |none=>none
 |some k=>if dy Q t then(if Nat.ble (off+k) ps.length then some (JY ((ps.drop off).take k)) else none) else ps[off]?
def jj (Q:Program) (t:TypeId) (cs:List D) (off:Nat):Option D:=
 match sz Q t with
 |none=>none
 |some k=>if dy Q t then(if Nat.ble (off+k) cs.length then some (.agg ((cs.drop off).take k)) else none) else cs[off]?
def S.obj (s:S) (n v:Nat):Option Obj:=
 match lk s.rg n with
 |some e=>if Nat.beq e.aX v then some e.obj else none
 |none=>none
def Ef (Q:Program) (go:TypeId->D->D->Option Bool):List Field->List D->List D->Option Bool
 | [],_,_=>some true
 |f::r,xs,ys=>match f.name== "_" with
  |true=>Ef Q go r xs ys
  |false=>match jj Q f.type xs f.offset,jj Q f.type ys f.offset with
   |some x,some y=>match go f.type x y,Ef Q go r xs ys with
    |some a,some b=>some (a&&b)
    |_,_=>none
   |_,_=>none
def VG (Q:Program):Nat->TypeId->D->D->Option Bool
 |0,_,_,_=>none
 |n+1,t,x,y=>match Q.underlying t with
  |some .bool=>match x,y with | .bool a,.bool b=>some (a==b)|_,_=>none
  |some (.int _)=>match x,y with | .int k a,.int k' b=>(match k==k' with |true=>some (a==b)|false=>none)|_,_=>none
  |some .string=>match x,y with | .str a,.str b=>some (a==b)|_,_=>none
  |some (.struct fs)=>match x,y with
   | .agg xs,.agg ys=>match Q.stoodInHeld t with
    |true=>none
    |false=>Ef Q (VG Q n) fs.toList xs ys
   |_,_=>none
  |_=>none
def oU (Q:Program):Nat->List Field->Nat->Bool
 |off,[],q8=>Nat.beq off q8
 |off,f::r,q8=>Nat.beq f.offset off&&oU Q (off+Q.cellsOf f.type) r q8
def iG (Q:Program):Nat->TypeId->D->Bool
 |0,_,_=>false
 |n+1,t,x=>match Q.underlying t with
  |some .bool=>(match x with | .bool _=>true |_=>false)
  |some (.int k)=>(match x with | .int k' _=>k==k' |_=>false)
  |some .string=>(match x with | .str _=>true |_=>false)
  |some (.struct fs)=>(match x with
   | .agg cs=>Nat.beq cs.length (Q.cellsOf t)&&oU Q 0 fs.toList (Q.cellsOf t)&& !Q.stoodInHeld t&&fs.toList.all fun f=> !(f.name== "_")&&(dy Q f.type ||Nat.beq (Q.cellsOf f.type) 1)&&(match jj Q f.type cs f.offset with |some y=>iG Q n f.type y |none=>false)
   |_=>false)
  |_=>false
def D.LJ:D->Bool
 | .bool _ | .int _ _ | .str _=>true
 |_=>false
def fR (Q:Program) (kt:TypeId) (k:D):Bool:=iG Q 20 kt k&&k.cells.all D.LJ&&(match k.cy with
 |some v=>(match aw Q (Instr.checkKey false 10000 kt v),aw Q (Instr.checkKey true 10000 kt v) with |some _,some _=>true |_,_=>false)
 |none=>false)
def jT (Q:Program) (t:TypeId):Option (TypeId×TypeId):=match Q.underlying t with |some (.map k e)=>some (k,e)|_=>none
def S.setObj (s:S) (n:Nat) (o:Obj):S:=
 match lk s.rg n with
 |some e=>{s with rg:=ins n ⟨e.aX,e.tag,o⟩ s.rg}
 |none=>s
def S.new (s:S) (n:Nat) (o:Obj):Option (S×Nat):=
 match lk s.rg n with
 |none=>some ({s with rg:=ins n ⟨0,none,o⟩ s.rg},0)
 |some e=>match e.obj with
  | .gone=>some ({s with rg:=ins n ⟨e.aX+1,none,o⟩ s.rg},e.aX+1)
  |_=>match e.tag with
   |none=>some ({s with rg:=ins n ⟨e.aX+1,none,o⟩ s.rg},e.aX+1)
   |some _=>none
def splice (ps:List P) (off:Nat) (qs:List P):List P:=ps.take off++qs++ps.drop (off+qs.length)
def site (dst:Option Nat):Nat:=1000+dst.getD 999
def S.live (s:S) (n v:Nat):Bool:=
 match s.obj n v with
 |some .gone=>false
 |some _=>true
 |none=>false
def kr (s:S) (p:P):Option P:=
 match p with
 | .ref n v _ | .dx n v _ _ _=>if s.live n v then some p else none
 | .eZ .. | .fn ..=>some p
 |_=>none
def qG (Q:Program) (s:S) (t:TypeId):P->Option P
 | .ref n v off=>match s.obj n v with |some (.box _ ps)=>As Q t ps off |_=>none
 | .dx n v i k off=>match s.obj n v with
  |some (.arr ty _ es)=>match sz Q ty,es[i]? with
   |some k',some x=>if Nat.beq k k' then(match jj Q t x.cells off with |some y=>some (.d y)|none=>none) else none
   |_,_=>none
  |_=>none
 | .eZ x off=>match jj Q t x.cells off with |some y=>some (.d y)|none=>none
 |_=>none
def wQ (Q:Program) (t:TypeId) (f:Nat):Option Nat:=
 match Q.underlying t with
 |some (.struct fs)=>match fs[f]? with
  |some fl=>match sz Q fl.type with |some (_+1)=>some fl.offset |_=>none
  |none=>none
 |_=>none
def iH (Q:Program) (s:S) (t:TypeId) (f:Nat) (p:P):Option P:=
 match wQ Q t f with
 |none=>none
 |some o=>match p with
  | .ref n v off=>if s.live n v then some (.ref n v (off+o)) else none
  | .dx n v i k off=>if s.live n v then some (.dx n v i k (off+o)) else none
  | .eZ x off=>some (.eZ x (off+o))
  |_=>none
def oV (Q:Program) (s:S) (len:Nat) (e:TypeId) (p:P) (i:P):Option P:=
 match i,sz Q e with
 | .d (.int _ j),some (k+1)=>if 0<=j/\j<(len:Int) then(match p with
  | .ref n v off=>if s.live n v then some (.ref n v (off+j.toNat*(k+1))) else none
  | .dx n v i k' off=>if s.live n v then some (.dx n v i k' (off+j.toNat*(k+1))) else none
  | .eZ x off=>some (.eZ x (off+j.toNat*(k+1)))
  |_=>none) else none
 |_,_=>none
def JZ (Q:Program) (t:TypeId):Option (Nat×TypeId):=match Q.underlying t with |some (.array n e)=>some (n,e)|_=>none
def e9 (Q:Program) (s:S) (t:TypeId) (p:P) (i:P):Option P:=
 match JZ Q t with
 |some (n,e)=>oV Q s n e p i
 |none=>match cH Q t,i with
 |some e,.d (.int _ j)=>match sz Q e with
  |some (k+1)=>match p with
   | .sl n v len=>match s.obj n v with
    |some (.arr ty _ _)=>if Nat.beq ty e then(if 0<=j/\j<(len:Int) then some (.dx n v j.toNat (k+1) 0) else none) else none
    |_=>none
   | .lC n v k' off len=>match s.obj n v with
    |some (.arr ty _ _)=>if Nat.beq ty e&&Nat.beq k' (k+1) then(if 0<=j/\j<(len:Int) then some (.dx n v (off+j.toNat) (k+1) 0) else none) else none
    |_=>none
   | .d (.sl k' es)=>if Nat.beq k' (k+1) then(if 0<=j then(match es[j.toNat]? with |some x=>some (.eZ x 0)|none=>none) else none) else none
   |_=>none
  |_=>none
 |_,_=>none
def dz (len:Nat) (lo hi:Option P):Option (Nat×Nat):=
 match(match hi with |none=>some len |some (.d (.int _ j))=>if 0<=j/\j<=(len:Int) then some j.toNat else none |_=>none) with
 |none=>none
 |some h=>match lo with
  |none=>some (0,h)
  |some (.d (.int _ j))=>if 0<=j/\j<=(h:Int) then some (j.toNat,h) else none
  |_=>none
def n0 (Q:Program) (s:S) (t:TypeId) (p:P) (lo:Option P):P:=
 match p with
 | .sl n v len=>match lo,s.obj n v,(cH Q t).bind (sz Q) with
  |some _,some (.arr ty true es),some (k+1)=>(match sz Q ty with |some k'=>if Nat.beq k' (k+1) then .d (.sl (k+1) (es.take len)) else p |none=>p)
  |_,_,_=>p
 |_=>p
def v8 (Q:Program) (s:S) (t:TypeId) (p:P) (lo hi:Option P):Option P:=
 match cH Q t with
 |none=>none
 |some e=>match sz Q e with
  |some (k+1)=>match p with
   | .d (.sl k' es)=>if Nat.beq k' (k+1) then(match dz es.length lo hi with |some (l,h)=>some (.d (.sl k' ((es.take h).drop l)))|none=>none) else none
   | .sl n v len=>match s.obj n v,lo with
    |some (.arr _ _ _),none=>match dz len none hi with |some (_,h)=>some (.sl n v h)|none=>none
    |some (.arr ty _ _),some lo=>match sz Q ty with
     |some k'=>if Nat.beq k' (k+1) then(match dz len (some lo) hi with |some (l,h)=>some (.lC n v (k+1) l (h-l))|none=>none) else none
     |none=>none
    |_,_=>none
   | .lC n v k' off len=>match s.obj n v with
    |some (.arr _ _ _)=>if Nat.beq k' (k+1) then(match dz len lo hi with |some (l,h)=>some (.lC n v (k+1) (off+l) (h-l))|none=>none) else none
    |_=>none
   |_=>none
  |_=>none
def l5 (Q:Program) (s:S) (t:TypeId) (p:P) (lo hi:Option P):Option P:=v8 Q s t (n0 Q s t p lo) lo hi
def Eg (s:S) (p:P):Option P:=
 match p with
 | .sl n v len | .lC n v _ _ len=>if s.live n v then some (.d (.int .i64 len)) else none
 | .d (.sl _ es)=>some (.d (.int .i64 es.length))
 |_=>none
def Eh (s:S) (p:P):Option P:=
 match p with
 | .mp n v=>match s.obj n v with |some (.map _ _ c _)=>some (.d (.int .i64 c))|_=>none
 |_=>none
def tG (s:S) (p q:P):Option Bool:=
 match p,q with
 | .ref n v _,.d .q7 | .dx n v _ _ _,.d .q7 | .d .q7,.ref n v _ | .d .q7,.dx n v _ _ _=>if s.live n v then some false else none
 | .eZ _ _,.d .q7 | .d .q7,.eZ _ _=>some false
 |_,_=>none
def oo (Q:Program) (s:S) (op:BinOp) (t:TypeId) (x y:Operand) (p q:P):Option P:=
 match p.cy,q.cy with
 |some a,some b=>dT Q (do eqGuard op t x y a b;binOp op t a b)
 |_,_=>match Q.underlying t,tG s p q,op with
  |some (.pointer _),some r,.eql=>some (.d (.bool r))
  |some (.pointer _),some r,.neq=>some (.d (.bool (!r)))
  |_,_,_=>none
def c7:List P->Option (List Value)
 | []=>some []
 |p::r=>match p.cy,c7 r with |some v,some vs=>some (v::vs)|_,_=>none
def P.Ht:P->Option (List P)
 | .agg ps=>some ps
 | .d (.agg cs)=>some (cs.map .d)
 |_=>none
def Hu (Q:Program) (t:TypeId) (f:Nat) (p:P):Option P:=
 match Q.underlying t,p.Ht with
 |some (.struct fs),some ps=>match fs[f]? with
  |some fl=>As Q fl.type ps fl.offset
  |none=>none
 |_,_=>none
def Hv (Q:Program) (n:Nat) (e:TypeId) (p:P) (i:P):Option P:=
 match p.Ht,i,sz Q e with
 |some ps,.d (.int _ j),some k=>if 0<=j/\j<(n:Int) then As Q e ps (j.toNat*k) else none
 |_,_,_=>none
def cD (o:Option D) (z:D):D:=o.getD z
def eB (Q:Program) (s:S) (t:TypeId) (p i:P) (ok:Bool) (z:D):Option P:=
 match jT Q t,p,i with
 |some (kt,_),.mp n v,.d k=>match s.obj n v with
  |some (.map zA get _ _)=>if Nat.beq kt zA&&fR Q kt k then some (if ok then .cV [.d ((get k).getD z),.d (.bool (get k).isSome)] else .d ((get k).getD z)) else none
  |some (.jZ zA get _ _ _)=>if !ok&&Nat.beq kt zA&&fR Q kt k then some (.d ((get k).getD z)) else none
  |_=>none
 |some (kt,_),.d .sa,.d k=>if fR Q kt k then some (if ok then .cV [.d z,.d (.bool false)] else .d z) else none
 |_,_,_=>none
def oW (s:S) (p:P):Option P:=
 match p with
 | .ref n v 0=>match s.obj n v with
  |some (.iter _ _ _ (some (k,x)))=>some (.cV [.d k,.d x])
  |_=>none
 |_=>none
def ey (Q:Program) (t:TypeId):Option D:=
 match Q.info? t with
 |some i=>match i.zero with |some z=>D.tF z |none=>none
 |none=>none
def J0 (fs:Array Field):Sem (Array (Nat×Nat)):=fs.mapM fun f=>do pure (f.offset,<-sizeOf f.type)
def Ei (pl:Array (Nat×Nat)):List P->List (Nat×P)->Option (List P)
 |ps,[]=>some ps
 |ps,(i,p)::r=>match pl[i]? with
  |some (off,k)=>if Nat.beq p.cells.length k&&Nat.ble (off+k) ps.length&&p.nj then Ei pl (splice ps off p.cells) r else none
  |none=>none
def wR (Q:Program) (t:TypeId) (parts:List (Nat×P)):Option P:=
 match Q.underlying t,ey Q t with
 |some (.struct fs),some z=>match aw Q (J0 fs) with
  |some pl=>match Ei pl (z.cells.map .d) parts with
   |some qs=>some (JY qs)
   |none=>none
  |none=>none
 |_,_=>none
def pv (Q:Program) (s:S) (o:Oper) (g:Option (Nat×Bool)):Option P:=
 match o.op with
 | .move x | .assign x=>some (s.eg g x)
 | .pick c a b=>match s.eg g c with | .d (.bool r)=>some (if r then s.eg g a else s.eg g b)|_=>none
 | .nilCheck x=>kr s (s.eg g x)
 | .binOp op t x y _=>oo Q s op t x y (s.eg g x) (s.eg g y)
 | .unOp op _ x=>match(s.eg g x).cy with |some v=>dT Q (Op.unary op v)|none=>none
 | .convert a b x=>match(s.eg g x).cy with |some v=>dT Q (Go.convert a b v)|none=>none
 | .load t x=>qG Q s t (s.eg g x)
 | .fieldAddr t x f=>iH Q s t f (s.eg g x)
 | .indexAddr t x i=>e9 Q s t (s.eg g x) (s.eg g i)
 | .index t x i=>match Q.underlying t with
  |some (.array n e)=>Hv Q n e (s.eg g x) (s.eg g i)
  |_=>match(s.eg g x).cy,(s.eg g i).cy with |some a,some b=>dT Q (Instr.index t a b)|_,_=>none
 | .field t x f=>Hu Q t f (s.eg g x)
 | .extract x i=>match s.eg g x with | .cV ps=>ps[i]? |_=>none
 | .lookup t x i ok=>match(jT Q t).bind fun y=>ey Q y.2 with
  |some z=>eB Q s t (s.eg g x) (s.eg g i) ok z
  |none=>none
 | .entry x=>oW s (s.eg g x)
 | .slice t x lo hi none=>match(s.eg g x).cy with
  |some (.string b)=>match(match lo with |none=>some none |some l=>(s.eg g l).cy.map some),(match hi with |none=>some none |some h=>(s.eg g h).cy.map some) with
   |some l,some h=>dT Q (Instr.sliceAt t (.string b) l h none)
   |_,_=>none
  |_=>l5 Q s t (s.eg g x) (lo.map (s.eg g)) (hi.map (s.eg g))
 | .build t parts=>match c7 (parts.toList.map fun x=>s.eg g x.2) with
  |some vs=>dT Q (Instr.build t ((parts.toList.map (·.1)).zip vs).toArray)
  |none=>wR Q t (parts.toList.map fun x=>(x.1,s.eg g x.2))
 | .makeFunc (.func f) first cG=>match first.toList with
  | []=>some (.fn f (cG.toList.map (s.eg g)))
  |_=>none
 | .call c=>match c.callee with
  | .builtin .len=>match c.args.toList with
   | [x]=>match(s.eg g x).cy with
    |some v=>dT Q (Builtin.len_ c.argTypes o.type #[v])
    |none=>match(c.argTypes[0]?).bind (cH Q) with
     |some _=>Eg s (s.eg g x)
     |none=>match(c.argTypes[0]?).bind (jT Q) with |some _=>Eh s (s.eg g x)|none=>none
   |_=>none
  | .builtin .min=>match c7 (c.args.toList.map (s.eg g)) with |some vs=>dT Q (Builtin.min_ c.argTypes o.type vs.toArray)|none=>none
  | .builtin .max=>match c7 (c.args.toList.map (s.eg g)) with |some vs=>dT Q (Builtin.max_ c.argTypes o.type vs.toArray)|none=>none
  |_=>none
 |_=>none
end Pi
