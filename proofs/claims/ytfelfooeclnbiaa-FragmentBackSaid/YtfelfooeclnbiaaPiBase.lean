/- The text PiBase. -/
import GoSem.Dispatch
abbrev zaa:=@List.getElem?_eq_some_iff
abbrev zab:=@Nat.eq_of_beq_eq_true
abbrev zac:=@Bool.and_eq_true
abbrev zad:=@List.getElem?_eq_getElem
abbrev zae:=@Option.some.injEq
abbrev zaf:=@Nat.le_refl
abbrev zag:=@Nat.mul_le_mul_right
abbrev zah:=@List.getD_eq_getElem?_getD
abbrev zai:=@Option.bind_some
abbrev zaj:=@decide_eq_true
abbrev zak:=@Option.map_eq_some_iff
abbrev zal:=@List.getElem_mem
abbrev zam:=@Array.getD_eq_getD_getElem?
abbrev zan:=@Array.getElem?_eq_some_iff
abbrev zao:=@List.getElem?_map
abbrev zap:=@Option.map_some
abbrev zaq:=@List.mem_of_getElem?
abbrev zar:=@List.eq_nil_of_length_eq_zero
abbrev zas:=@List.getElem?_of_mem
abbrev zat:=@List.length_map
abbrev zau:=@if_pos
abbrev zav:=@List.mem_cons
abbrev zaw:=@Nat.add_mul
abbrev zax:=@Array.getElem?_setIfInBounds_ne
abbrev zay:=@if_neg
abbrev zaz:=@Bool.false_eq_true
abbrev zaA:=@List.length_set
abbrev zaB:=@Nat.le_trans
abbrev zaC:=@List.length_replicate
abbrev zaD:=@List.take_of_length_le
abbrev zaE:=@beq_self_eq_true
abbrev zaF:=@List.length_drop
abbrev zaG:=@List.length_append
abbrev zaH:=@List.getElem?_append_left
abbrev zaI:=@decide_eq_true_eq
abbrev zaJ:=@List.ext_getElem?
abbrev zaK:=@List.getElem?_append_right
abbrev zaL:=@cond_false
abbrev zaM:=@cond_true
abbrev zaN:=@Bool.not_true
abbrev zaO:=@List.all_eq_true
abbrev zaP:=@beq_eq_false_iff_ne
abbrev zaQ:=@List.getElem?_eq_none
abbrev zaR:=@Array.toList_inj
abbrev zaS:=@List.drop_eq_nil_of_le
abbrev zaT:=@Nat.one_mul
abbrev zaU:=@List.getElem_of_mem
abbrev zaV:=@Bool.not_eq_true'
abbrev zaW:=@List.length_pos_iff
abbrev zaX:=@Array.getElem?_setIfInBounds_self_of_lt
abbrev zaY:=@decide_eq_false
abbrev zaZ:=@List.getElem?_take
abbrev za0:=@Nat.zero_le
abbrev za1:=@Ne.symm
abbrev za2:=@if_true
abbrev za3:=@Nat.add_assoc
abbrev za4:=@Prod.mk.injEq
abbrev za5:=@List.getElem?_zipWith
abbrev za6:=@List.mem_append
abbrev za7:=@List.map_cons
abbrev za8:=@Option.bind_eq_some_iff
abbrev za9:=@List.map_congr_left
abbrev zba:=@beq_iff_eq
abbrev zbb:=@Option.some.inj
abbrev zbc:=@Nat.le_of_ble_eq_true
abbrev zbd:=@Array.getElem?_toList
abbrev zbe:=@if_false
abbrev zbf:=@Array.getElem?_eq_getElem
abbrev zbg:=@List.pairwise_iff_getElem
abbrev zbh:=@List.length_take
abbrev zbi:=@List.mem_map_of_mem
abbrev zbj:=@Nat.add_zero
abbrev zbk:=@Nat.zero_add
abbrev zbl:=@Nat.ble_eq
abbrev zbm:=@Nat.lt_of_lt_of_le
abbrev zbn:=@List.nodup_cons
abbrev zbo:=@List.getElem?_drop
abbrev zbp:=@List.append_assoc
abbrev zbq:=@Array.getElem?_modify
abbrev zbr:=@List.mem_of_mem_drop
abbrev zbs:=@List.mem_of_mem_take
abbrev zbt:=@List.getElem?_set_ne
abbrev zbu:=@Bool.or_eq_true
abbrev zbv:=@List.length_nil
abbrev zbw:=@List.map_append
abbrev zbx:=@Nat.lt_or_gt_of_ne
abbrev zby:=@of_decide_eq_false
abbrev zbz:=@List.drop_eq_getElem_cons
abbrev zbA:=@Function.comp_def
abbrev zbB:=@List.size_toArray
abbrev zbC:=@List.getElem?_cons_succ
abbrev zbD:=@Bool.and_self
abbrev zbE:=@decide_eq_false_iff_not
abbrev zbF:=@List.length_cons
abbrev zbG:=@decide_eq_decide
abbrev zbH:=@List.getElem?_set_self
abbrev zbI:=@Nat.le_of_eq
abbrev zbJ:=@List.take_append_drop
abbrev zbK:=@List.mem_map
abbrev zbL:=@Option.map_none
abbrev zbM:=@Nat.mul_comm
abbrev zbN:=@List.mem_cons_of_mem
abbrev zbO:=@List.drop_take
abbrev zbP:=@not_or
abbrev zbQ:=@Array.length_toList
abbrev zbR:=@Nat.le_succ
abbrev zbS:=@Int.le_refl
abbrev zbT:=@List.set_cons_zero
abbrev zbU:=@List.mem_singleton
abbrev zbV:=@Nat.eq_or_lt_of_le
abbrev zbW:=@List.take_succ_eq_append_getElem
abbrev zbX:=@Array.toList_push
abbrev zbY:=@List.nodup_append
abbrev zbZ:=@List.getElem?_set
abbrev zb0:=@List.eq_nil_iff_forall_not_mem
abbrev zb1:=@List.map_set
abbrev zb2:=@Bool.true_or
abbrev zb3:=@Array.toList_map
abbrev zb4:=@Option.getD_some
abbrev zb5:=@List.take_length
abbrev zb6:=@List.not_mem_nil
abbrev zb7:=@Nat.min_eq_left
abbrev zb8:=@List.nil_append
abbrev zb9:=@Nat.mul_one
abbrev zca:=@List.append_nil
abbrev zcb:=@List.drop_drop
abbrev zcc:=@Classical.byContradiction
abbrev zcd:=@List.drop_zero
abbrev zce:=@Array.getElem?_replicate
abbrev zcf:=@List.getElem?_cons_zero
abbrev zcg:=@Bool.false_or
namespace Pi
open Go
inductive D where
 |bool (b:Bool)
 |int (k:IntKind) (n:Int)
 |str (s:List UInt8)
 |agg (cs:List D)
 |sl (k:Nat) (es:List D)
 |dq
 |gC
 |jJ
 |oW
 |oX
 deriving Inhabited
def D.cells:D->List D
 | .agg cs=>cs
 |x=>[x]
def D.aF:D->Bool
 | .agg _=>false
 |_=>true
inductive P where
 |d (x:D)
 |agg (ps:List P)
 |ref (n v off:Nat)
 |bG (n v i k off:Nat)
 |cl (x:D) (off:Nat)
 |sl (n v len:Nat)
 |eZ (n v k off len:Nat)
 |mp (n v:Nat)
 |fn (f:FuncId) (cn:List P)
 |dW (ps:List P)
 |when (slot:Nat) (want:Bool) (p:P)
 |bad
 deriving Inhabited
def P.skip:P:= .when 0 false .bad
def P.aF:P->Bool
 | .d x=>x.aF
 | .ref .. | .bG .. | .cl .. | .sl .. | .eZ .. | .mp .. | .fn ..=>true
 |_=>false
inductive Obj where
 |gone
 |box (ty:TypeId) (ps:List P)
 |arr (ty:TypeId) (fz:Bool) (es:List D)
 |map (kt:Nat) (get:D->Option D) (n:Int) (fz:Bool)
 |iter (kt vt:Nat) (left:D->Option D) (cur:Option (D×D))
 |iX
 |eb (kt:Nat) (get:D->Option D) (n:Int) (p:P) (kd:D)
 |a7 (kt:Nat) (es:List (D×P))
 deriving Inhabited
structure En where
 ay:Nat
 tag:Option Nat
 obj:Obj
def lk{α:Type}:List (Nat×α)->Nat->Option α
 | [],_=>none
 | (k,v)::r,j=>if Nat.beq k j then some v else lk r j
def ins{α:Type}(k:Nat)(v:α):List (Nat×α)->List (Nat×α)
 | []=>[(k,v)]
 | (j,u)::r=>if Nat.blt k j then(k,v)::(j,u)::r else if Nat.beq k j then(k,v)::r else(j,u)::ins k v r
structure S where
 n:Nat
 tm:List (Nat×P)
 rg:List (Nat×En)
def D.cp:D->Option Value
 | .bool b=>some (.bool b)
 | .int k n=>some (.int k n)
 | .str s=>some (.string ⟨⟨s⟩⟩)
 | .dq=>some (.slice none 0 0)
 | .gC=>some (.pointer none)
 | .jJ=>some (.map none)
 | .oW=>some .nilFunc
 | .oX=>some .nilIface
 | .agg _ | .sl _ _=>none
def D.bq:List D->Option (List Value)
 | []=>some []
 |x::r=>match x.cp,D.bq r with |some v,some vs=>some (v::vs)|_,_=>none
def D.aX:D->Option Value
 | .agg cs=>match D.bq cs with |some vs=>some (.agg ⟨vs⟩)|none=>none
 |x=>x.cp
def P.aX:P->Option Value
 | .d x=>x.aX
 |_=>none
def D.fg:Value->Option D
 | .bool b=>some (.bool b)
 | .int k n=>some (.int k n)
 | .string s=>some (.str s.data.toList)
 | .slice none 0 0=>some .dq
 | .pointer none=>some .gC
 | .map none=>some .jJ
 | .nilFunc=>some .oW
 | .nilIface=>some .oX
 |_=>none
def D.oY:List Value->Option (List D)
 | []=>some []
 |v::r=>match D.fg v,D.oY r with |some x,some xs=>some (x::xs)|_,_=>none
def D.kq:Value->Option D
 | .agg cs=>match D.oY cs.toList with |some xs=>some (.agg xs)|none=>none
 |v=>D.fg v
def ai{α:Type}(Q:Program):Sem α->Option α
 | .pure a=>some a
 | .program k=>ai Q (k Q)
 | .mark _ k=>ai Q k
 |_=>none
def bO(Q:Program)(m:Sem Value):Option P:=
 match ai Q m with
 |some v=>match D.kq v with |some x=>some (.d x)|none=>none
 |none=>none
def S.ev(s:S):Operand->P
 | .tmp t=>(lk s.tm t).getD .bad
 | .const v=>match D.kq v with |some x=> .d x |none=> .bad
 | .func f=> .fn f []
 | .global _=> .bad
def P.under(_:Option (Nat×Bool)):P->P
 | .when ..=> .bad
 |p=>p
def S.eg(s:S)(g:Option (Nat×Bool))(x:Operand):P:=(s.ev x).under g
def S.put(s:S)(dst:Option Nat)(p:P):Option S:=
 match dst with
 |none=>some s
 |some t=>if Nat.blt t s.n then some ⟨s.n,ins t p s.tm,s.rg⟩ else none
def ui:List P->Option (List D)
 | []=>some []
 | .d x::r=>match ui r with |some xs=>some (x::xs)|none=>none
 |_=>none
def s6(ps:List P):P:=match ui ps with |some xs=> .d (.agg xs)|none=> .agg ps
def P.cells:P->List P
 | .agg ps=>ps
 | .d (.agg cs)=>cs.map .d
 |p=>[p]
def P.fS:P->Bool
 | .agg _ | .d _=>true
 |p=>p.aF
mutual
def D.fy:D->D->Bool
 | .bool a,.bool b=>a==b
 | .int k a,.int k' b=>k==k'&&a==b
 | .str a,.str b=>a==b
 | .agg a,.agg b=>D.rN a b
 | .sl k a,.sl k' b=>k==k'&&D.rN a b
 | .dq,.dq | .gC,.gC | .jJ,.jJ | .oW,.oW | .oX,.oX=>true
 |_,_=>false
def D.rN:List D->List D->Bool
 | [],[]=>true
 |x::xs,y::ys=>D.fy x y&&D.rN xs ys
 |_,_=>false
end
def cN(k v:D)(get:D->Option D):D->Option D:=λk'=>bif D.fy k k' then some v else get k'
def vU(k:D)(get:D->Option D):D->Option D:=λk'=>bif D.fy k k' then none else get k'
def sz(Q:Program)(t:TypeId):Option Nat:=match Q.info? t,Q.underlying t with |some i,some _=>some i.size |_,_=>none
def bB(Q:Program)(t:TypeId):Bool:=match Q.underlying t with |some (.struct _)|some (.array _ _)=>true |_=>false
def bd(Q:Program)(t:TypeId):Option TypeId:=match Q.underlying t with |some (.slice e)=>some e |_=>none
def n4(Q:Program)(t:TypeId)(ps:List P)(off:Nat):Option P:=
 match sz Q t with
 |none=>none
 |some k=>if bB Q t then(if Nat.ble (off+k) ps.length then some (s6 ((ps.drop off).take k)) else none) else ps[off]?
def dm(Q:Program)(t:TypeId)(cs:List D)(off:Nat):Option D:=
 match sz Q t with
 |none=>none
 |some k=>if bB Q t then(if Nat.ble (off+k) cs.length then some (.agg ((cs.drop off).take k)) else none) else cs[off]?
def S.obj(s:S)(n v:Nat):Option Obj:=
 match lk s.rg n with
 |some e=>if Nat.beq e.ay v then some e.obj else none
 |none=>none
def nD(Q:Program)(go:TypeId->D->D->Option Bool):List Field->List D->List D->Option Bool
 | [],_,_=>some true
 |f::r,xs,ys=>match f.name== "_" with
  |true=>nD Q go r xs ys
  |false=>match dm Q f.type xs f.offset,dm Q f.type ys f.offset with
   |some x,some y=>match go f.type x y,nD Q go r xs ys with
    |some a,some b=>some (a&&b)
    |_,_=>none
   |_,_=>none
def rO(m:Nat)(e:TypeId)(k:Nat):List Field:=(List.range m).map λi=>⟨"x",e,i*k,false, "", "",0⟩
def vH(Q:Program):Nat->TypeId->D->D->Option Bool
 |0,_,_,_=>none
 |n+1,t,x,y=>match Q.underlying t with
  |some .bool=>match x,y with | .bool a,.bool b=>some (a==b)|_,_=>none
  |some (.int _)=>match x,y with | .int k a,.int k' b=>(match k==k' with |true=>some (a==b)|false=>none)|_,_=>none
  |some .string=>match x,y with | .str a,.str b=>some (a==b)|_,_=>none
  |some (.struct fs)=>match x,y with
   | .agg xs,.agg ys=>match Q.stoodInHeld t with
    |true=>none
    |false=>nD Q (vH Q n) fs.toList xs ys
   |_,_=>none
  |some (.array m e)=>match x,y with
   | .agg xs,.agg ys=>match sz Q e with
    |some k=>nD Q (vH Q n) (rO m e k) xs ys
    |none=>none
   |_,_=>none
  |_=>none
def gq(Q:Program):Nat->List Field->Nat->Bool
 |off,[],nE=>Nat.beq off nE
 |off,f::r,nE=>Nat.beq f.offset off&&gq Q (off+Q.cellsOf f.type) r nE
def cO(Q:Program):Nat->TypeId->D->Bool
 |0,_,_=>false
 |n+1,t,x=>match Q.underlying t with
  |some .bool=>(match x with | .bool _=>true |_=>false)
  |some (.int k)=>(match x with | .int k' _=>k==k' |_=>false)
  |some .string=>(match x with | .str _=>true |_=>false)
  |some (.struct fs)=>(match x with
   | .agg cs=>Nat.beq cs.length (Q.cellsOf t)&&gq Q 0 fs.toList (Q.cellsOf t)&& !Q.stoodInHeld t&&fs.toList.all λf=> !(f.name== "_")&&(bB Q f.type ||Nat.beq (Q.cellsOf f.type) 1)&&(match dm Q f.type cs f.offset with |some y=>cO Q n f.type y |none=>false)
   |_=>false)
  |some (.array m e)=>(match x with
   | .agg cs=>(match sz Q e with
    |some k=>Nat.beq cs.length (Q.cellsOf t)&&gq Q 0 (rO m e k) (Q.cellsOf t)&&(rO m e k).all λf=> !(f.name== "_")&&(bB Q f.type ||Nat.beq (Q.cellsOf f.type) 1)&&(match dm Q f.type cs f.offset with |some y=>cO Q n f.type y |none=>false)
    |none=>false)
   |_=>false)
  |_=>false
def D.uj:D->Bool
 | .bool _ | .int _ _ | .str _=>true
 |_=>false
def bH(Q:Program)(kt:TypeId)(k:D):Bool:=cO Q 20 kt k&&k.cells.all D.uj&&(match k.aX with
 |some v=>(match ai Q (Instr.checkKey false 10000 kt v),ai Q (Instr.checkKey true 10000 kt v) with |some _,some _=>true |_,_=>false)
 |none=>false)
def cC(Q:Program)(t:TypeId):Option (TypeId×TypeId):=match Q.underlying t with |some (.map k e)=>some (k,e)|_=>none
def jK(k:D):List (D×P)->Option P
 | []=>none
 | (j,p)::r=>bif D.fy j k then some p else jK k r
def lM(k:D)(p:P):List (D×P)->List (D×P)
 | []=>[(k,p)]
 | (j,q)::r=>bif D.fy j k then(k,p)::r else(j,q)::lM k p r
def lN(k:D):List (D×P)->List (D×P)
 | []=>[]
 | (j,q)::r=>bif D.fy j k then r else(j,q)::lN k r
def S.setObj(s:S)(n:Nat)(o:Obj):S:=
 match lk s.rg n with
 |some e=>{s with rg:=ins n ⟨e.ay,e.tag,o⟩ s.rg}
 |none=>s
def S.new(s:S)(n:Nat)(o:Obj):Option (S×Nat):=
 match lk s.rg n with
 |none=>some ({s with rg:=ins n ⟨0,none,o⟩ s.rg},0)
 |some e=>match e.obj with
  | .gone=>some ({s with rg:=ins n ⟨e.ay+1,none,o⟩ s.rg},e.ay+1)
  |_=>match e.tag with
   |none=>some ({s with rg:=ins n ⟨e.ay+1,none,o⟩ s.rg},e.ay+1)
   |some _=>none
def splice(ps:List P)(off:Nat)(qs:List P):List P:=ps.take off++qs++ps.drop (off+qs.length)
def site(dst:Option Nat):Nat:=1000+dst.getD 999
def S.live(s:S)(n v:Nat):Bool:=
 match s.obj n v with
 |some .gone=>false
 |some _=>true
 |none=>false
def ew(s:S)(p:P):Option P:=
 match p with
 | .ref n v _ | .bG n v _ _ _=>if s.live n v then some p else none
 | .cl .. | .fn ..=>some p
 |_=>none
def iY(Q:Program)(s:S)(t:TypeId):P->Option P
 | .ref n v off=>match s.obj n v with |some (.box _ ps)=>n4 Q t ps off |_=>none
 | .bG n v i k off=>match s.obj n v with
  |some (.arr ty _ es)=>match sz Q ty,es[i]? with
   |some k',some x=>if Nat.beq k k' then(match dm Q t x.cells off with |some y=>some (.d y)|none=>none) else none
   |_,_=>none
  |_=>none
 | .cl x off=>match dm Q t x.cells off with |some y=>some (.d y)|none=>none
 |_=>none
def l8(Q:Program)(t:TypeId)(f:Nat):Option Nat:=
 match Q.underlying t with
 |some (.struct fs)=>match fs[f]? with
  |some fl=>match sz Q fl.type with |some (_+1)=>some fl.offset |_=>none
  |none=>none
 |_=>none
def dt(Q:Program)(s:S)(t:TypeId)(f:Nat)(p:P):Option P:=
 match l8 Q t f with
 |none=>none
 |some o=>match p with
  | .ref n v off=>if s.live n v then some (.ref n v (off+o)) else none
  | .bG n v i k off=>if s.live n v then some (.bG n v i k (off+o)) else none
  | .cl x off=>some (.cl x (off+o))
  |_=>none
def gN(Q:Program)(s:S)(len:Nat)(e:TypeId)(p:P)(i:P):Option P:=
 match i,sz Q e with
 | .d (.int _ j),some (k+1)=>if 0<=j/\j<(len:Int) then(match p with
  | .ref n v off=>if s.live n v then some (.ref n v (off+j.toNat*(k+1))) else none
  | .bG n v i k' off=>if s.live n v then some (.bG n v i k' (off+j.toNat*(k+1))) else none
  | .cl x off=>some (.cl x (off+j.toNat*(k+1)))
  |_=>none) else none
 |_,_=>none
def s7(Q:Program)(t:TypeId):Option (Nat×TypeId):=match Q.underlying t with |some (.array n e)=>some (n,e)|_=>none
def cq(Q:Program)(s:S)(t:TypeId)(p:P)(i:P):Option P:=
 match s7 Q t with
 |some (n,e)=>gN Q s n e p i
 |none=>match bd Q t,i with
 |some e,.d (.int _ j)=>match sz Q e with
  |some (k+1)=>match p with
   | .sl n v len=>match s.obj n v with
    |some (.arr ty _ _)=>if Nat.beq ty e then(if 0<=j/\j<(len:Int) then some (.bG n v j.toNat (k+1) 0) else none) else none
    |_=>none
   | .eZ n v k' off len=>match s.obj n v with
    |some (.arr ty _ _)=>if Nat.beq ty e&&Nat.beq k' (k+1) then(if 0<=j/\j<(len:Int) then some (.bG n v (off+j.toNat) (k+1) 0) else none) else none
    |_=>none
   | .d (.sl k' es)=>if Nat.beq k' (k+1) then(if 0<=j then(match es[j.toNat]? with |some x=>some (.cl x 0)|none=>none) else none) else none
   |_=>none
  |_=>none
 |_,_=>none
def bI(len:Nat)(lo hi:Option P):Option (Nat×Nat):=
 match(match hi with |none=>some len |some (.d (.int _ j))=>if 0<=j/\j<=(len:Int) then some j.toNat else none |_=>none) with
 |none=>none
 |some h=>match lo with
  |none=>some (0,h)
  |some (.d (.int _ j))=>if 0<=j/\j<=(h:Int) then some (j.toNat,h) else none
  |_=>none
def gu(Q:Program)(s:S)(t:TypeId)(p:P)(lo:Option P):P:=
 match p with
 | .sl n v len=>match lo,s.obj n v,(bd Q t).bind (sz Q) with
  |some _,some (.arr ty true es),some (k+1)=>(match sz Q ty with |some k'=>if Nat.beq k' (k+1) then .d (.sl (k+1) (es.take len)) else p |none=>p)
  |_,_,_=>p
 |_=>p
def lT(Q:Program)(s:S)(t:TypeId)(p:P)(lo hi:Option P):Option P:=
 match bd Q t with
 |none=>none
 |some e=>match sz Q e with
  |some (k+1)=>match p with
   | .d (.sl k' es)=>if Nat.beq k' (k+1) then(match bI es.length lo hi with |some (l,h)=>some (.d (.sl k' ((es.take h).drop l)))|none=>none) else none
   | .sl n v len=>match s.obj n v,lo with
    |some (.arr _ _ _),none=>match bI len none hi with |some (_,h)=>some (.sl n v h)|none=>none
    |some (.arr ty _ _),some lo=>match sz Q ty with
     |some k'=>if Nat.beq k' (k+1) then(match bI len (some lo) hi with |some (l,h)=>some (.eZ n v (k+1) l (h-l))|none=>none) else none
     |none=>none
    |_,_=>none
   | .eZ n v k' off len=>match s.obj n v with
    |some (.arr _ _ _)=>if Nat.beq k' (k+1) then(match bI len lo hi with |some (l,h)=>some (.eZ n v (k+1) (off+l) (h-l))|none=>none) else none
    |_=>none
   |_=>none
  |_=>none
def fh(Q:Program)(s:S)(t:TypeId)(p:P)(lo hi:Option P):Option P:=lT Q s t (gu Q s t p lo) lo hi
def qf(s:S)(p:P):Option P:=
 match p with
 | .sl n v len | .eZ n v _ _ len=>if s.live n v then some (.d (.int .i64 len)) else none
 | .d (.sl _ es)=>some (.d (.int .i64 es.length))
 |_=>none
def qg(s:S)(p:P):Option P:=
 match p with
 | .mp n v=>match s.obj n v with |some (.map _ _ c _)=>some (.d (.int .i64 c))|some (.a7 _ es)=>some (.d (.int .i64 es.length))|_=>none
 |_=>none
def kr(s:S)(p q:P):Option Bool:=
 match p,q with
 | .ref n v _,.d .gC | .bG n v _ _ _,.d .gC | .d .gC,.ref n v _ | .d .gC,.bG n v _ _ _=>if s.live n v then some false else none
 | .cl _ _,.d .gC | .d .gC,.cl _ _=>some false
 |_,_=>none
def gD(Q:Program)(s:S)(op:BinOp)(t:TypeId)(x y:Operand)(p q:P):Option P:=
 match p.aX,q.aX with
 |some a,some b=>bO Q (do eqGuard op t x y a b;binOp op t a b)
 |_,_=>match Q.underlying t,kr s p q,op with
  |some (.pointer _),some r,.eql=>some (.d (.bool r))
  |some (.pointer _),some r,.neq=>some (.d (.bool (!r)))
  |_,_,_=>none
def bq:List P->Option (List Value)
 | []=>some []
 |p::r=>match p.aX,bq r with |some v,some vs=>some (v::vs)|_,_=>none
def P.rP:P->Option (List P)
 | .agg ps=>some ps
 | .d (.agg cs)=>some (cs.map .d)
 |_=>none
def rQ(Q:Program)(t:TypeId)(f:Nat)(p:P):Option P:=
 match Q.underlying t,p.rP with
 |some (.struct fs),some ps=>match fs[f]? with
  |some fl=>n4 Q fl.type ps fl.offset
  |none=>none
 |_,_=>none
def rR(Q:Program)(n:Nat)(e:TypeId)(p:P)(i:P):Option P:=
 match p.rP,i,sz Q e with
 |some ps,.d (.int _ j),some k=>if 0<=j/\j<(n:Int) then n4 Q e ps (j.toNat*k) else none
 |_,_,_=>none
def gE(o:Option D)(z:D):D:=o.getD z
def bL(Q:Program)(s:S)(t:TypeId)(p i:P)(ok:Bool)(z:D):Option P:=
 match cC Q t,p,i with
 |some (kt,_),.mp n v,.d k=>match s.obj n v with
  |some (.map gJ get _ _)=>if Nat.beq kt gJ&&bH Q kt k then some (if ok then .dW [.d ((get k).getD z),.d (.bool (get k).isSome)] else .d ((get k).getD z)) else none
  |some (.eb gJ get _ _ _)=>if !ok&&Nat.beq kt gJ&&bH Q kt k then some (.d ((get k).getD z)) else none
  |some (.a7 gJ es)=>if Nat.beq kt gJ&&bH Q kt k then some (if ok then .dW [(jK k es).getD (.d z),.d (.bool (jK k es).isSome)] else(jK k es).getD (.d z)) else none
  |_=>none
 |some (kt,_),.d .jJ,.d k=>if bH Q kt k then some (if ok then .dW [.d z,.d (.bool false)] else .d z) else none
 |_,_,_=>none
def gO(s:S)(p:P):Option P:=
 match p with
 | .ref n v 0=>match s.obj n v with
  |some (.iter _ _ _ (some (k,x)))=>some (.dW [.d k,.d x])
  |_=>none
 |_=>none
def bV(Q:Program)(t:TypeId):Option D:=
 match Q.info? t with
 |some i=>match i.zero with |some z=>D.kq z |none=>none
 |none=>none
def s8(fs:Array Field):Sem (Array (Nat×Nat)):=fs.mapM λf=>do pure (f.offset,<-sizeOf f.type)
def qh(pl:Array (Nat×Nat)):List P->List (Nat×P)->Option (List P)
 |ps,[]=>some ps
 |ps,(i,p)::r=>match pl[i]? with
  |some (off,k)=>if Nat.beq p.cells.length k&&Nat.ble (off+k) ps.length&&p.fS then qh pl (splice ps off p.cells) r else none
  |none=>none
def l9(Q:Program)(t:TypeId)(parts:List (Nat×P)):Option P:=
 match Q.underlying t,bV Q t with
 |some (.struct fs),some z=>match ai Q (s8 fs) with
  |some pl=>match qh pl (z.cells.map .d) parts with
   |some qs=>some (s6 qs)
   |none=>none
  |none=>none
 |_,_=>none
def pv(Q:Program)(s:S)(o:Oper)(g:Option (Nat×Bool)):Option P:=
 match o.op with
 | .move x | .assign x=>some (s.eg g x)
 | .pick c a b=>match s.eg g c with | .d (.bool r)=>some (if r then s.eg g a else s.eg g b)|_=>none
 | .nilCheck x=>ew s (s.eg g x)
 | .binOp op t x y _=>gD Q s op t x y (s.eg g x) (s.eg g y)
 | .unOp op _ x=>match(s.eg g x).aX with |some v=>bO Q (Op.unary op v)|none=>none
 | .convert a b x=>match(s.eg g x).aX with |some v=>bO Q (Go.convert a b v)|none=>none
 | .load t x=>iY Q s t (s.eg g x)
 | .fieldAddr t x f=>dt Q s t f (s.eg g x)
 | .indexAddr t x i=>cq Q s t (s.eg g x) (s.eg g i)
 | .index t x i=>match Q.underlying t with
  |some (.array n e)=>rR Q n e (s.eg g x) (s.eg g i)
  |_=>match(s.eg g x).aX,(s.eg g i).aX with |some a,some b=>bO Q (Instr.index t a b)|_,_=>none
 | .field t x f=>rQ Q t f (s.eg g x)
 | .extract x i=>match s.eg g x with | .dW ps=>ps[i]? |_=>none
 | .lookup t x i ok=>match(cC Q t).bind λy=>bV Q y.2 with
  |some z=>bL Q s t (s.eg g x) (s.eg g i) ok z
  |none=>none
 | .entry x=>gO s (s.eg g x)
 | .slice t x lo hi none=>match(s.eg g x).aX with
  |some (.string b)=>match(match lo with |none=>some none |some l=>(s.eg g l).aX.map some),(match hi with |none=>some none |some h=>(s.eg g h).aX.map some) with
   |some l,some h=>bO Q (Instr.sliceAt t (.string b) l h none)
   |_,_=>none
  |_=>fh Q s t (s.eg g x) (lo.map (s.eg g)) (hi.map (s.eg g))
 | .build t parts=>match bq (parts.toList.map λx=>s.eg g x.2) with
  |some vs=>bO Q (Instr.build t ((parts.toList.map (·.1)).zip vs).toArray)
  |none=>l9 Q t (parts.toList.map λx=>(x.1,s.eg g x.2))
 | .makeFunc (.func f) first cn=>match first.toList with
  | []=>some (.fn f (cn.toList.map (s.eg g)))
  |_=>none
 | .call c=>match c.callee with
  | .builtin .len=>match c.args.toList with
   | [x]=>match(s.eg g x).aX with
    |some v=>bO Q (Builtin.len_ c.argTypes o.type #[v])
    |none=>match(c.argTypes[0]?).bind (bd Q) with
     |some _=>qf s (s.eg g x)
     |none=>match(c.argTypes[0]?).bind (cC Q) with |some _=>qg s (s.eg g x)|none=>none
   |_=>none
  | .builtin .min=>match bq (c.args.toList.map (s.eg g)) with |some vs=>bO Q (Builtin.min_ c.argTypes o.type vs.toArray)|none=>none
  | .builtin .max=>match bq (c.args.toList.map (s.eg g)) with |some vs=>bO Q (Builtin.max_ c.argTypes o.type vs.toArray)|none=>none
  |_=>none
 |_=>none
end Pi
