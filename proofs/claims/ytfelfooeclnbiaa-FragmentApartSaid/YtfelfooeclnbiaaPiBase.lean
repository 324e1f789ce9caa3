/- The text PiBase. -/
import GoSem.Dispatch
abbrev zaa:=@List.getElem?_eq_some_iff
abbrev zab:=@Nat.eq_of_beq_eq_true
abbrev zac:=@Bool.and_eq_true
abbrev zad:=@List.getElem?_eq_getElem
abbrev zae:=@Option.some.injEq
abbrev zaf:=@Nat.le_refl
abbrev zag:=@Nat.mul_le_mul_right
abbrev zah:=@Option.bind_some
abbrev zai:=@List.getD_eq_getElem?_getD
abbrev zaj:=@Option.map_eq_some_iff
abbrev zak:=@Array.getD_eq_getD_getElem?
abbrev zal:=@Array.getElem?_eq_some_iff
abbrev zam:=@Option.map_some
abbrev zan:=@List.mem_of_getElem?
abbrev zao:=@List.getElem?_map
abbrev zap:=@List.eq_nil_of_length_eq_zero
abbrev zaq:=@List.getElem?_of_mem
abbrev zar:=@List.length_map
abbrev zas:=@List.length_set
abbrev zat:=@if_pos
abbrev zau:=@Nat.add_mul
abbrev zav:=@if_neg
abbrev zaw:=@List.mem_cons
abbrev zax:=@List.length_replicate
abbrev zay:=@Array.getElem?_setIfInBounds_ne
abbrev zaz:=@Bool.false_eq_true
abbrev zaA:=@List.take_of_length_le
abbrev zaB:=@Nat.le_trans
abbrev zaC:=@List.length_drop
abbrev zaD:=@List.getElem?_append_left
abbrev zaE:=@decide_eq_true_eq
abbrev zaF:=@List.getElem?_append_right
abbrev zaG:=@List.length_append
abbrev zaH:=@List.getElem_mem
abbrev zaI:=@List.all_eq_true
abbrev zaJ:=@List.length_pos_iff
abbrev zaK:=@decide_eq_false
abbrev zaL:=@Array.toList_inj
abbrev zaM:=@List.drop_eq_nil_of_le
abbrev zaN:=@Nat.one_mul
abbrev zaO:=@List.getElem_of_mem
abbrev zaP:=@Array.getElem?_setIfInBounds_self_of_lt
abbrev zaQ:=@List.getElem?_take
abbrev zaR:=@Nat.zero_le
abbrev zaS:=@Ne.symm
abbrev zaT:=@if_true
abbrev zaU:=@Nat.add_assoc
abbrev zaV:=@Prod.mk.injEq
abbrev zaW:=@Bool.not_eq_true'
abbrev zaX:=@List.mem_append
abbrev zaY:=@List.map_cons
abbrev zaZ:=@Option.bind_eq_some_iff
abbrev za0:=@List.map_congr_left
abbrev za1:=@List.length_take
abbrev za2:=@Option.some.inj
abbrev za3:=@Nat.le_of_ble_eq_true
abbrev za4:=@Array.getElem?_toList
abbrev za5:=@List.ext_getElem?
abbrev za6:=@if_false
abbrev za7:=@List.append_assoc
abbrev za8:=@Array.getElem?_eq_getElem
abbrev za9:=@List.pairwise_iff_getElem
abbrev zba:=@List.mem_map_of_mem
abbrev zbb:=@Nat.add_zero
abbrev zbc:=@Nat.zero_add
abbrev zbd:=@Nat.ble_eq
abbrev zbe:=@Nat.lt_of_lt_of_le
abbrev zbf:=@List.nodup_cons
abbrev zbg:=@List.getElem?_drop
abbrev zbh:=@Array.getElem?_modify
abbrev zbi:=@List.mem_of_mem_drop
abbrev zbj:=@List.mem_of_mem_take
abbrev zbk:=@List.getElem?_set_ne
abbrev zbl:=@cond_false
abbrev zbm:=@Bool.or_eq_true
abbrev zbn:=@List.map_append
abbrev zbo:=@Nat.lt_or_gt_of_ne
abbrev zbp:=@List.map_set
abbrev zbq:=@List.drop_eq_getElem_cons
abbrev zbr:=@decide_eq_true
abbrev zbs:=@cond_true
abbrev zbt:=@Function.comp_def
abbrev zbu:=@List.size_toArray
abbrev zbv:=@List.getElem?_cons_succ
abbrev zbw:=@Bool.and_self
abbrev zbx:=@List.length_cons
abbrev zby:=@List.getElem?_set_self
abbrev zbz:=@List.take_append_drop
abbrev zbA:=@List.mem_map
abbrev zbB:=@List.length_nil
abbrev zbC:=@Option.map_none
abbrev zbD:=@Nat.mul_comm
abbrev zbE:=@List.drop_take
abbrev zbF:=@not_or
abbrev zbG:=@Array.length_toList
abbrev zbH:=@Nat.le_succ
abbrev zbI:=@List.set_cons_zero
abbrev zbJ:=@List.mem_singleton
abbrev zbK:=@Nat.eq_or_lt_of_le
abbrev zbL:=@Bool.false_or
abbrev zbM:=@List.take_succ_eq_append_getElem
abbrev zbN:=@Array.toList_push
abbrev zbO:=@List.nodup_append
abbrev zbP:=@List.eq_nil_iff_forall_not_mem
abbrev zbQ:=@beq_self_eq_true
abbrev zbR:=@Array.toList_map
abbrev zbS:=@Option.getD_some
abbrev zbT:=@List.take_length
abbrev zbU:=@List.not_mem_nil
abbrev zbV:=@Eq.trans
abbrev zbW:=@Nat.min_eq_left
abbrev zbX:=@List.nil_append
abbrev zbY:=@Nat.mul_one
abbrev zbZ:=@List.append_nil
abbrev zb0:=@List.drop_drop
abbrev zb1:=@Classical.byContradiction
abbrev zb2:=@List.drop_zero
abbrev zb3:=@Array.getElem?_replicate
abbrev zb4:=@List.getElem?_cons_zero
abbrev zb5:=@List.getElem?_replicate
namespace Pi
open Go
inductive D where
 |bool (b:Bool)
 |int (k:IntKind) (n:Int)
 |str (s:List UInt8)
 |agg (cs:List D)
 |sl (k:Nat) (es:List D)
 |dm
 |gE
 |jS
 |o6
 |o7
 deriving Inhabited
def D.cells:D->List D
 | .agg cs=>cs
 |x=>[x]
def D.aF:D->Bool
 | .agg _=>false
 |_=>true
inductive P where
 |d (x:D)
 |agg (ps:List P)
 |ref (n v off:Nat)
 |bE (n v i k off:Nat)
 |cd (x:D) (off:Nat)
 |sl (n v len:Nat)
 |e9 (n v k off len:Nat)
 |mp (n v:Nat)
 |fn (f:FuncId) (cl:List P)
 |dX (ps:List P)
 |when (slot:Nat) (want:Bool) (p:P)
 |bad
 deriving Inhabited
def P.skip:P:= .when 0 false .bad
def P.aF:P->Bool
 | .d x=>x.aF
 | .ref .. | .bE .. | .cd .. | .sl .. | .e9 .. | .mp .. | .fn ..=>true
 |_=>false
inductive Obj where
 |gone
 |box (ty:TypeId) (ps:List P)
 |arr (ty:TypeId) (fz:Bool) (es:List D)
 |map (kt:Nat) (get:D->Option D) (n:Int) (fz:Bool)
 |iter (kt vt:Nat) (left:D->Option D) (cur:Option (D×D))
 |jh
 |ei (kt:Nat) (get:D->Option D) (n:Int) (p:P) (kd:D)
 |aN (kt:Nat) (es:List (D×P))
 deriving Inhabited
structure En where
 aw:Nat
 tag:Option Nat
 obj:Obj
def lk{α:Type}:List (Nat×α)->Nat->Option α
 | [],_=>none
 | (k,v)::r,j=>if Nat.beq k j then some v else lk r j
def ins{α:Type}(k:Nat)(v:α):List (Nat×α)->List (Nat×α)
 | []=>[(k,v)]
 | (j,u)::r=>if Nat.blt k j then(k,v)::(j,u)::r else if Nat.beq k j then(k,v)::r else(j,u)::ins k v r
structure S where
 n:Nat
 tm:List (Nat×P)
 rg:List (Nat×En)
def D.cm:D->Option Value
 | .bool b=>some (.bool b)
 | .int k n=>some (.int k n)
 | .str s=>some (.string ⟨⟨s⟩⟩)
 | .dm=>some (.slice none 0 0)
 | .gE=>some (.pointer none)
 | .jS=>some (.map none)
 | .o6=>some .nilFunc
 | .o7=>some .nilIface
 | .agg _ | .sl _ _=>none
def D.bm:List D->Option (List Value)
 | []=>some []
 |x::r=>match x.cm,D.bm r with |some v,some vs=>some (v::vs)|_,_=>none
def D.aW:D->Option Value
 | .agg cs=>match D.bm cs with |some vs=>some (.agg ⟨vs⟩)|none=>none
 |x=>x.cm
def P.aW:P->Option Value
 | .d x=>x.aW
 |_=>none
def D.fi:Value->Option D
 | .bool b=>some (.bool b)
 | .int k n=>some (.int k n)
 | .string s=>some (.str s.data.toList)
 | .slice none 0 0=>some .dm
 | .pointer none=>some .gE
 | .map none=>some .jS
 | .nilFunc=>some .o6
 | .nilIface=>some .o7
 |_=>none
def D.o8:List Value->Option (List D)
 | []=>some []
 |v::r=>match D.fi v,D.o8 r with |some x,some xs=>some (x::xs)|_,_=>none
def D.kD:Value->Option D
 | .agg cs=>match D.o8 cs.toList with |some xs=>some (.agg xs)|none=>none
 |v=>D.fi v
def ah{α:Type}(Q:Program):Sem α->Option α
 | .pure a=>some a
 | .program k=>ah Q (k Q)
 | .mark _ k=>ah Q k
 |_=>none
def bL(Q:Program)(m:Sem Value):Option P:=
 match ah Q m with
 |some v=>match D.kD v with |some x=>some (.d x)|none=>none
 |none=>none
def S.ev(s:S):Operand->P
 | .tmp t=>(lk s.tm t).getD .bad
 | .const v=>match D.kD v with |some x=> .d x |none=> .bad
 | .func f=> .fn f []
 | .global _=> .bad
def P.under(_:Option (Nat×Bool)):P->P
 | .when ..=> .bad
 |p=>p
def S.eg(s:S)(g:Option (Nat×Bool))(x:Operand):P:=(s.ev x).under g
def S.put(s:S)(dst:Option Nat)(p:P):Option S:=
 match dst with
 |none=>some s
 |some t=>if Nat.blt t s.n then some ⟨s.n,ins t p s.tm,s.rg⟩ else none
def ui:List P->Option (List D)
 | []=>some []
 | .d x::r=>match ui r with |some xs=>some (x::xs)|none=>none
 |_=>none
def tk(ps:List P):P:=match ui ps with |some xs=> .d (.agg xs)|none=> .agg ps
def P.cells:P->List P
 | .agg ps=>ps
 | .d (.agg cs)=>cs.map .d
 |p=>[p]
def P.fU:P->Bool
 | .agg _ | .d _=>true
 |p=>p.aF
mutual
def D.dh:D->D->Bool
 | .bool a,.bool b=>a==b
 | .int k a,.int k' b=>k==k'&&a==b
 | .str a,.str b=>a==b
 | .agg a,.agg b=>D.r1 a b
 | .sl k a,.sl k' b=>k==k'&&D.r1 a b
 | .dm,.dm | .gE,.gE | .jS,.jS | .o6,.o6 | .o7,.o7=>true
 |_,_=>false
def D.r1:List D->List D->Bool
 | [],[]=>true
 |x::xs,y::ys=>D.dh x y&&D.r1 xs ys
 |_,_=>false
end
def cJ(k v:D)(get:D->Option D):D->Option D:=λk'=>bif D.dh k k' then some v else get k'
def vV(k:D)(get:D->Option D):D->Option D:=λk'=>bif D.dh k k' then none else get k'
def sz(Q:Program)(t:TypeId):Option Nat:=match Q.info? t,Q.underlying t with |some i,some _=>some i.size |_,_=>none
def bF(Q:Program)(t:TypeId):Bool:=match Q.underlying t with |some (.struct _)|some (.array _ _)=>true |_=>false
def bc(Q:Program)(t:TypeId):Option TypeId:=match Q.underlying t with |some (.slice e)=>some e |_=>none
def oa(Q:Program)(t:TypeId)(ps:List P)(off:Nat):Option P:=
 match sz Q t with
 |none=>none
 |some k=>if bF Q t then(if Nat.ble (off+k) ps.length then some (tk ((ps.drop off).take k)) else none) else ps[off]?
def di(Q:Program)(t:TypeId)(cs:List D)(off:Nat):Option D:=
 match sz Q t with
 |none=>none
 |some k=>if bF Q t then(if Nat.ble (off+k) cs.length then some (.agg ((cs.drop off).take k)) else none) else cs[off]?
def S.obj(s:S)(n v:Nat):Option Obj:=
 match lk s.rg n with
 |some e=>if Nat.beq e.aw v then some e.obj else none
 |none=>none
def nK(Q:Program)(go:TypeId->D->D->Option Bool):List Field->List D->List D->Option Bool
 | [],_,_=>some true
 |f::r,xs,ys=>match f.name== "_" with
  |true=>nK Q go r xs ys
  |false=>match di Q f.type xs f.offset,di Q f.type ys f.offset with
   |some x,some y=>match go f.type x y,nK Q go r xs ys with
    |some a,some b=>some (a&&b)
    |_,_=>none
   |_,_=>none
def r3(m:Nat)(e:TypeId)(k:Nat):List Field:=(List.range m).map λi=>⟨"x",e,i*k,false, "", "",0⟩
def vF(Q:Program):Nat->TypeId->D->D->Option Bool
 |0,_,_,_=>none
 |n+1,t,x,y=>match Q.underlying t with
  |some .bool=>match x,y with | .bool a,.bool b=>some (a==b)|_,_=>none
  |some (.int _)=>match x,y with | .int k a,.int k' b=>(match k==k' with |true=>some (a==b)|false=>none)|_,_=>none
  |some .string=>match x,y with | .str a,.str b=>some (a==b)|_,_=>none
  |some (.struct fs)=>match x,y with
   | .agg xs,.agg ys=>match Q.stoodInHeld t with
    |true=>none
    |false=>nK Q (vF Q n) fs.toList xs ys
   |_,_=>none
  |some (.array m e)=>match x,y with
   | .agg xs,.agg ys=>match sz Q e with
    |some k=>nK Q (vF Q n) (r3 m e k) xs ys
    |none=>none
   |_,_=>none
  |_=>none
def gv(Q:Program):Nat->List Field->Nat->Bool
 |off,[],nL=>Nat.beq off nL
 |off,f::r,nL=>Nat.beq f.offset off&&gv Q (off+Q.cellsOf f.type) r nL
def cK(Q:Program):Nat->TypeId->D->Bool
 |0,_,_=>false
 |n+1,t,x=>match Q.underlying t with
  |some .bool=>(match x with | .bool _=>true |_=>false)
  |some (.int k)=>(match x with | .int k' _=>k==k' |_=>false)
  |some .string=>(match x with | .str _=>true |_=>false)
  |some (.struct fs)=>(match x with
   | .agg cs=>Nat.beq cs.length (Q.cellsOf t)&&gv Q 0 fs.toList (Q.cellsOf t)&& !Q.stoodInHeld t&&fs.toList.all λf=> !(f.name== "_")&&(bF Q f.type ||Nat.beq (Q.cellsOf f.type) 1)&&(match di Q f.type cs f.offset with |some y=>cK Q n f.type y |none=>false)
   |_=>false)
  |some (.array m e)=>(match x with
   | .agg cs=>(match sz Q e with
    |some k=>Nat.beq cs.length (Q.cellsOf t)&&gv Q 0 (r3 m e k) (Q.cellsOf t)&&(r3 m e k).all λf=> !(f.name== "_")&&(bF Q f.type ||Nat.beq (Q.cellsOf f.type) 1)&&(match di Q f.type cs f.offset with |some y=>cK Q n f.type y |none=>false)
    |none=>false)
   |_=>false)
  |_=>false
def D.uj:D->Bool
 | .bool _ | .int _ _ | .str _=>true
 |_=>false
def bG(Q:Program)(kt:TypeId)(k:D):Bool:=cK Q 20 kt k&&k.cells.all D.uj&&(match k.aW with
 |some v=>(match ah Q (Instr.checkKey false 10000 kt v),ah Q (Instr.checkKey true 10000 kt v) with |some _,some _=>true |_,_=>false)
 |none=>false)
def cy(Q:Program)(t:TypeId):Option (TypeId×TypeId):=match Q.underlying t with |some (.map k e)=>some (k,e)|_=>none
def jT(k:D):List (D×P)->Option P
 | []=>none
 | (j,p)::r=>bif D.dh j k then some p else jT k r
def lR(k:D)(p:P):List (D×P)->List (D×P)
 | []=>[(k,p)]
 | (j,q)::r=>bif D.dh j k then(k,p)::r else(j,q)::lR k p r
def lS(k:D):List (D×P)->List (D×P)
 | []=>[]
 | (j,q)::r=>bif D.dh j k then r else(j,q)::lS k r
def S.setObj(s:S)(n:Nat)(o:Obj):S:=
 match lk s.rg n with
 |some e=>{s with rg:=ins n ⟨e.aw,e.tag,o⟩ s.rg}
 |none=>s
def S.new(s:S)(n:Nat)(o:Obj):Option (S×Nat):=
 match lk s.rg n with
 |none=>some ({s with rg:=ins n ⟨0,none,o⟩ s.rg},0)
 |some e=>match e.obj with
  | .gone=>some ({s with rg:=ins n ⟨e.aw+1,none,o⟩ s.rg},e.aw+1)
  |_=>match e.tag with
   |none=>some ({s with rg:=ins n ⟨e.aw+1,none,o⟩ s.rg},e.aw+1)
   |some _=>none
def splice(ps:List P)(off:Nat)(qs:List P):List P:=ps.take off++qs++ps.drop (off+qs.length)
def site(dst:Option Nat):Nat:=1000+dst.getD 999
def S.live(s:S)(n v:Nat):Bool:=
 match s.obj n v with
 |some .gone=>false
 |some _=>true
 |none=>false
def eA(s:S)(p:P):Option P:=
 match p with
 | .ref n v _ | .bE n v _ _ _=>if s.live n v then some p else none
 | .cd .. | .fn ..=>some p
 |_=>none
def ji(Q:Program)(s:S)(t:TypeId):P->Option P
 | .ref n v off=>match s.obj n v with |some (.box _ ps)=>oa Q t ps off |_=>none
 | .bE n v i k off=>match s.obj n v with
  |some (.arr ty _ es)=>match sz Q ty,es[i]? with
   |some k',some x=>if Nat.beq k k' then(match di Q t x.cells off with |some y=>some (.d y)|none=>none) else none
   |_,_=>none
  |_=>none
 | .cd x off=>match di Q t x.cells off with |some y=>some (.d y)|none=>none
 |_=>none
def mh(Q:Program)(t:TypeId)(f:Nat):Option Nat:=
 match Q.underlying t with
 |some (.struct fs)=>match fs[f]? with
  |some fl=>match sz Q fl.type with |some (_+1)=>some fl.offset |_=>none
  |none=>none
 |_=>none
def dn(Q:Program)(s:S)(t:TypeId)(f:Nat)(p:P):Option P:=
 match mh Q t f with
 |none=>none
 |some o=>match p with
  | .ref n v off=>if s.live n v then some (.ref n v (off+o)) else none
  | .bE n v i k off=>if s.live n v then some (.bE n v i k (off+o)) else none
  | .cd x off=>some (.cd x (off+o))
  |_=>none
def gU(Q:Program)(s:S)(len:Nat)(e:TypeId)(p:P)(i:P):Option P:=
 match i,sz Q e with
 | .d (.int _ j),some (k+1)=>if 0<=j/\j<(len:Int) then(match p with
  | .ref n v off=>if s.live n v then some (.ref n v (off+j.toNat*(k+1))) else none
  | .bE n v i k' off=>if s.live n v then some (.bE n v i k' (off+j.toNat*(k+1))) else none
  | .cd x off=>some (.cd x (off+j.toNat*(k+1)))
  |_=>none) else none
 |_,_=>none
def tl(Q:Program)(t:TypeId):Option (Nat×TypeId):=match Q.underlying t with |some (.array n e)=>some (n,e)|_=>none
def cn(Q:Program)(s:S)(t:TypeId)(p:P)(i:P):Option P:=
 match tl Q t with
 |some (n,e)=>gU Q s n e p i
 |none=>match bc Q t,i with
 |some e,.d (.int _ j)=>match sz Q e with
  |some (k+1)=>match p with
   | .sl n v len=>match s.obj n v with
    |some (.arr ty _ _)=>if Nat.beq ty e then(if 0<=j/\j<(len:Int) then some (.bE n v j.toNat (k+1) 0) else none) else none
    |_=>none
   | .e9 n v k' off len=>match s.obj n v with
    |some (.arr ty _ _)=>if Nat.beq ty e&&Nat.beq k' (k+1) then(if 0<=j/\j<(len:Int) then some (.bE n v (off+j.toNat) (k+1) 0) else none) else none
    |_=>none
   | .d (.sl k' es)=>if Nat.beq k' (k+1) then(if 0<=j then(match es[j.toNat]? with |some x=>some (.cd x 0)|none=>none) else none) else none
   |_=>none
  |_=>none
 |_,_=>none
def bH(len:Nat)(lo hi:Option P):Option (Nat×Nat):=
 match(match hi with |none=>some len |some (.d (.int _ j))=>if 0<=j/\j<=(len:Int) then some j.toNat else none |_=>none) with
 |none=>none
 |some h=>match lo with
  |none=>some (0,h)
  |some (.d (.int _ j))=>if 0<=j/\j<=(h:Int) then some (j.toNat,h) else none
  |_=>none
def gw(Q:Program)(s:S)(t:TypeId)(p:P)(lo:Option P):P:=
 match p with
 | .sl n v len=>match lo,s.obj n v,(bc Q t).bind (sz Q) with
  |some _,some (.arr ty true es),some (k+1)=>(match sz Q ty with |some k'=>if Nat.beq k' (k+1) then .d (.sl (k+1) (es.take len)) else p |none=>p)
  |_,_,_=>p
 |_=>p
def lZ(Q:Program)(s:S)(t:TypeId)(p:P)(lo hi:Option P):Option P:=
 match bc Q t with
 |none=>none
 |some e=>match sz Q e with
  |some (k+1)=>match p with
   | .d (.sl k' es)=>if Nat.beq k' (k+1) then(match bH es.length lo hi with |some (l,h)=>some (.d (.sl k' ((es.take h).drop l)))|none=>none) else none
   | .sl n v len=>match s.obj n v,lo with
    |some (.arr _ _ _),none=>match bH len none hi with |some (_,h)=>some (.sl n v h)|none=>none
    |some (.arr ty _ _),some lo=>match sz Q ty with
     |some k'=>if Nat.beq k' (k+1) then(match bH len (some lo) hi with |some (l,h)=>some (.e9 n v (k+1) l (h-l))|none=>none) else none
     |none=>none
    |_,_=>none
   | .e9 n v k' off len=>match s.obj n v with
    |some (.arr _ _ _)=>if Nat.beq k' (k+1) then(match bH len lo hi with |some (l,h)=>some (.e9 n v (k+1) (off+l) (h-l))|none=>none) else none
    |_=>none
   |_=>none
  |_=>none
def fj(Q:Program)(s:S)(t:TypeId)(p:P)(lo hi:Option P):Option P:=lZ Q s t (gw Q s t p lo) lo hi
def qy(s:S)(p:P):Option P:=
 match p with
 | .sl n v len | .e9 n v _ _ len=>if s.live n v then some (.d (.int .i64 len)) else none
 | .d (.sl _ es)=>some (.d (.int .i64 es.length))
 |_=>none
def qz(s:S)(p:P):Option P:=
 match p with
 | .mp n v=>match s.obj n v with |some (.map _ _ c _)=>some (.d (.int .i64 c))|some (.aN _ es)=>some (.d (.int .i64 es.length))|_=>none
 |_=>none
def kF(s:S)(p q:P):Option Bool:=
 match p,q with
 | .ref n v _,.d .gE | .bE n v _ _ _,.d .gE | .d .gE,.ref n v _ | .d .gE,.bE n v _ _ _=>if s.live n v then some false else none
 | .cd _ _,.d .gE | .d .gE,.cd _ _=>some false
 |_,_=>none
def gF(Q:Program)(s:S)(op:BinOp)(t:TypeId)(x y:Operand)(p q:P):Option P:=
 match p.aW,q.aW with
 |some a,some b=>bL Q (do eqGuard op t x y a b;binOp op t a b)
 |_,_=>match Q.underlying t,kF s p q,op with
  |some (.pointer _),some r,.eql=>some (.d (.bool r))
  |some (.pointer _),some r,.neq=>some (.d (.bool (!r)))
  |_,_,_=>none
def bm:List P->Option (List Value)
 | []=>some []
 |p::r=>match p.aW,bm r with |some v,some vs=>some (v::vs)|_,_=>none
def P.r4:P->Option (List P)
 | .agg ps=>some ps
 | .d (.agg cs)=>some (cs.map .d)
 |_=>none
def r5(Q:Program)(t:TypeId)(f:Nat)(p:P):Option P:=
 match Q.underlying t,p.r4 with
 |some (.struct fs),some ps=>match fs[f]? with
  |some fl=>oa Q fl.type ps fl.offset
  |none=>none
 |_,_=>none
def r6(Q:Program)(n:Nat)(e:TypeId)(p:P)(i:P):Option P:=
 match p.r4,i,sz Q e with
 |some ps,.d (.int _ j),some k=>if 0<=j/\j<(n:Int) then oa Q e ps (j.toNat*k) else none
 |_,_,_=>none
def fk(o:Option D)(z:D):D:=o.getD z
def bJ(Q:Program)(s:S)(t:TypeId)(p i:P)(ok:Bool)(z:D):Option P:=
 match cy Q t,p,i with
 |some (kt,_),.mp n v,.d k=>match s.obj n v with
  |some (.map gP get _ _)=>if Nat.beq kt gP&&bG Q kt k then some (if ok then .dX [.d ((get k).getD z),.d (.bool (get k).isSome)] else .d ((get k).getD z)) else none
  |some (.ei gP get _ _ _)=>if !ok&&Nat.beq kt gP&&bG Q kt k then some (.d ((get k).getD z)) else none
  |some (.aN gP es)=>if Nat.beq kt gP&&bG Q kt k then some (if ok then .dX [(jT k es).getD (.d z),.d (.bool (jT k es).isSome)] else(jT k es).getD (.d z)) else none
  |_=>none
 |some (kt,_),.d .jS,.d k=>if bG Q kt k then some (if ok then .dX [.d z,.d (.bool false)] else .d z) else none
 |_,_,_=>none
def gV(s:S)(p:P):Option P:=
 match p with
 | .ref n v 0=>match s.obj n v with
  |some (.iter _ _ _ (some (k,x)))=>some (.dX [.d k,.d x])
  |_=>none
 |_=>none
def bS(Q:Program)(t:TypeId):Option D:=
 match Q.info? t with
 |some i=>match i.zero with |some z=>D.kD z |none=>none
 |none=>none
def tn(fs:Array Field):Sem (Array (Nat×Nat)):=fs.mapM λf=>do pure (f.offset,<-sizeOf f.type)
def qA(pl:Array (Nat×Nat)):List P->List (Nat×P)->Option (List P)
 |ps,[]=>some ps
 |ps,(i,p)::r=>match pl[i]? with
  |some (off,k)=>if Nat.beq p.cells.length k&&Nat.ble (off+k) ps.length&&p.fU then qA pl (splice ps off p.cells) r else none
  |none=>none
def mj(Q:Program)(t:TypeId)(parts:List (Nat×P)):Option P:=
 match Q.underlying t,bS Q t with
 |some (.struct fs),some z=>match ah Q (tn fs) with
  |some pl=>match qA pl (z.cells.map .d) parts with
   |some qs=>some (tk qs)
   |none=>none
  |none=>none
 |_,_=>none
def pv(Q:Program)(s:S)(o:Oper)(g:Option (Nat×Bool)):Option P:=
 match o.op with
 | .move x | .assign x=>some (s.eg g x)
 | .pick c a b=>match s.eg g c with | .d (.bool r)=>some (if r then s.eg g a else s.eg g b)|_=>none
 | .nilCheck x=>eA s (s.eg g x)
 | .binOp op t x y _=>gF Q s op t x y (s.eg g x) (s.eg g y)
 | .unOp op _ x=>match(s.eg g x).aW with |some v=>bL Q (Op.unary op v)|none=>none
 | .convert a b x=>match(s.eg g x).aW with |some v=>bL Q (Go.convert a b v)|none=>none
 | .load t x=>ji Q s t (s.eg g x)
 | .fieldAddr t x f=>dn Q s t f (s.eg g x)
 | .indexAddr t x i=>cn Q s t (s.eg g x) (s.eg g i)
 | .index t x i=>match Q.underlying t with
  |some (.array n e)=>r6 Q n e (s.eg g x) (s.eg g i)
  |_=>match(s.eg g x).aW,(s.eg g i).aW with |some a,some b=>bL Q (Instr.index t a b)|_,_=>none
 | .field t x f=>r5 Q t f (s.eg g x)
 | .extract x i=>match s.eg g x with | .dX ps=>ps[i]? |_=>none
 | .lookup t x i ok=>match(cy Q t).bind λy=>bS Q y.2 with
  |some z=>bJ Q s t (s.eg g x) (s.eg g i) ok z
  |none=>none
 | .entry x=>gV s (s.eg g x)
 | .slice t x lo hi none=>match(s.eg g x).aW with
  |some (.string b)=>match(match lo with |none=>some none |some l=>(s.eg g l).aW.map some),(match hi with |none=>some none |some h=>(s.eg g h).aW.map some) with
   |some l,some h=>bL Q (Instr.sliceAt t (.string b) l h none)
   |_,_=>none
  |_=>fj Q s t (s.eg g x) (lo.map (s.eg g)) (hi.map (s.eg g))
 | .build t parts=>match bm (parts.toList.map λx=>s.eg g x.2) with
  |some vs=>bL Q (Instr.build t ((parts.toList.map (·.1)).zip vs).toArray)
  |none=>mj Q t (parts.toList.map λx=>(x.1,s.eg g x.2))
 | .makeFunc (.func f) first cl=>match first.toList with
  | []=>some (.fn f (cl.toList.map (s.eg g)))
  |_=>none
 | .call c=>match c.callee with
  | .builtin .len=>match c.args.toList with
   | [x]=>match(s.eg g x).aW with
    |some v=>bL Q (Builtin.len_ c.argTypes o.type #[v])
    |none=>match(c.argTypes[0]?).bind (bc Q) with
     |some _=>qy s (s.eg g x)
     |none=>match(c.argTypes[0]?).bind (cy Q) with |some _=>qz s (s.eg g x)|none=>none
   |_=>none
  | .builtin .min=>match bm (c.args.toList.map (s.eg g)) with |some vs=>bL Q (Builtin.min_ c.argTypes o.type vs.toArray)|none=>none
  | .builtin .max=>match bm (c.args.toList.map (s.eg g)) with |some vs=>bL Q (Builtin.max_ c.argTypes o.type vs.toArray)|none=>none
  |_=>none
 |_=>none
end Pi
