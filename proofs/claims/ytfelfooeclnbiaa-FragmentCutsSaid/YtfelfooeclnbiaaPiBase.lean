/- The text PiBase. -/
import GoSem.Dispatch
abbrev zaa:=@List.getElem?_eq_some_iff
abbrev zab:=@List.getElem?_eq_getElem
abbrev zac:=@Nat.eq_of_beq_eq_true
abbrev zad:=@Bool.and_eq_true
abbrev zae:=@Option.some.injEq
abbrev zaf:=@Nat.mul_le_mul_right
abbrev zag:=@Nat.le_refl
abbrev zah:=@List.getD_eq_getElem?_getD
abbrev zai:=@Option.bind_some
abbrev zaj:=@Option.map_eq_some_iff
abbrev zak:=@Array.getD_eq_getD_getElem?
abbrev zal:=@Array.getElem?_eq_some_iff
abbrev zam:=@List.eq_nil_of_length_eq_zero
abbrev zan:=@Option.map_some
abbrev zao:=@List.mem_of_getElem?
abbrev zap:=@List.getElem?_map
abbrev zaq:=@List.length_append
abbrev zar:=@List.getElem?_of_mem
abbrev zas:=@Nat.add_mul
abbrev zat:=@List.take_of_length_le
abbrev zau:=@List.getElem?_append_left
abbrev zav:=@Array.getElem?_setIfInBounds_ne
abbrev zaw:=@Bool.false_eq_true
abbrev zax:=@if_pos
abbrev zay:=@List.getElem?_append_right
abbrev zaz:=@List.mem_cons
abbrev zaA:=@Nat.le_trans
abbrev zaB:=@if_neg
abbrev zaC:=@List.length_drop
abbrev zaD:=@List.length_map
abbrev zaE:=@List.all_eq_true
abbrev zaF:=@Nat.zero_le
abbrev zaG:=@List.length_pos_iff
abbrev zaH:=@decide_eq_true_eq
abbrev zaI:=@Nat.one_mul
abbrev zaJ:=@Array.toList_inj
abbrev zaK:=@List.drop_eq_nil_of_le
abbrev zaL:=@List.getElem_of_mem
abbrev zaM:=@List.length_replicate
abbrev zaN:=@Array.getElem?_setIfInBounds_self_of_lt
abbrev zaO:=@List.getElem?_take
abbrev zaP:=@Ne.symm
abbrev zaQ:=@Prod.mk.injEq
abbrev zaR:=@if_true
abbrev zaS:=@Nat.lt_of_lt_of_le
abbrev zaT:=@Nat.add_assoc
abbrev zaU:=@Array.getElem?_toList
abbrev zaV:=@Array.getElem?_modify
abbrev zaW:=@Array.getElem?_eq_getElem
abbrev zaX:=@Bool.not_eq_true'
abbrev zaY:=@List.mem_append
abbrev zaZ:=@List.map_cons
abbrev za0:=@Option.bind_eq_some_iff
abbrev za1:=@List.map_congr_left
abbrev za2:=@List.getElem_mem
abbrev za3:=@Nat.le_of_ble_eq_true
abbrev za4:=@Nat.zero_add
abbrev za5:=@List.ext_getElem?
abbrev za6:=@if_false
abbrev za7:=@Nat.ble_eq
abbrev za8:=@List.pairwise_iff_getElem
abbrev za9:=@List.length_take
abbrev zba:=@List.mem_map_of_mem
abbrev zbb:=@Nat.add_zero
abbrev zbc:=@Option.some.inj
abbrev zbd:=@List.getElem?_cons_succ
abbrev zbe:=@List.nodup_cons
abbrev zbf:=@List.getElem?_drop
abbrev zbg:=@List.map_append
abbrev zbh:=@List.append_assoc
abbrev zbi:=@Nat.mul_comm
abbrev zbj:=@List.mem_of_mem_drop
abbrev zbk:=@List.mem_of_mem_take
abbrev zbl:=@List.getElem?_set_ne
abbrev zbm:=@Bool.or_eq_true
abbrev zbn:=@Array.getElem?_append_left
abbrev zbo:=@List.mem_map
abbrev zbp:=@Nat.lt_or_gt_of_ne
abbrev zbq:=@List.drop_eq_getElem_cons
abbrev zbr:=@cond_false
abbrev zbs:=@Function.comp_def
abbrev zbt:=@List.size_toArray
abbrev zbu:=@Bool.and_self
abbrev zbv:=@List.length_cons
abbrev zbw:=@List.take_length
abbrev zbx:=@List.getElem?_set_self
abbrev zby:=@cond_true
abbrev zbz:=@Option.map_none
abbrev zbA:=@List.length_set
abbrev zbB:=@List.nil_append
abbrev zbC:=@List.getElem?_eq_none
abbrev zbD:=@List.length_singleton
abbrev zbE:=@List.drop_drop
abbrev zbF:=@List.drop_take
abbrev zbG:=@not_or
abbrev zbH:=@decide_eq_true
abbrev zbI:=@Array.length_toList
abbrev zbJ:=@Nat.le_succ
abbrev zbK:=@Int.toNat_of_nonneg
abbrev zbL:=@List.mem_singleton
abbrev zbM:=@Nat.eq_or_lt_of_le
abbrev zbN:=@Array.toList_push
abbrev zbO:=@List.nodup_append
abbrev zbP:=@List.take_add_one
abbrev zbQ:=@List.eq_nil_iff_forall_not_mem
abbrev zbR:=@getElem!_pos
abbrev zbS:=@beq_self_eq_true
abbrev zbT:=@Array.toList_map
abbrev zbU:=@Option.getD_some
abbrev zbV:=@List.not_mem_nil
abbrev zbW:=@Array.size_range
abbrev zbX:=@Int.min_eq_right
abbrev zbY:=@List.length_nil
abbrev zbZ:=@Nat.min_eq_left
abbrev zb0:=@Nat.div_add_mod
abbrev zb1:=@Nat.mul_one
abbrev zb2:=@List.take_left'
abbrev zb3:=@List.append_nil
abbrev zb4:=@decide_eq_false
abbrev zb5:=@Int.min_eq_left
abbrev zb6:=@Classical.byContradiction
abbrev zb7:=@List.drop_zero
abbrev zb8:=@Nat.mod_lt
abbrev zb9:=@Array.getElem?_replicate
abbrev zca:=@List.getElem?_cons_zero
abbrev zcb:=@Bool.false_or
namespace Pi
open Go
inductive D where
 |bool (b:Bool)
 |int (k:IntKind) (n:Int)
 |str (s:List UInt8)
 |agg (cs:List D)
 |sl (k:Nat) (es:List D)
 |cV
 |gf
 |jg
 |nZ
 |n0
 deriving Inhabited
def D.cells:D->List D
 | .agg cs=>cs
 |x=>[x]
def D.aG:D->Bool
 | .agg _=>false
 |_=>true
inductive P where
 |d (x:D)
 |agg (ps:List P)
 |ref (n v off:Nat)
 |bs (n v i k off:Nat)
 |bT (x:D) (off:Nat)
 |sl (n v len:Nat)
 |eL (n v k off len:Nat)
 |mp (n v:Nat)
 |fn (f:FuncId) (bV:List P)
 |dR (ps:List P)
 |when (slot:Nat) (want:Bool) (p:P)
 |bad
 deriving Inhabited
def P.skip:P:= .when 0 false .bad
def P.aG:P->Bool
 | .d x=>x.aG
 | .ref .. | .bs .. | .bT .. | .sl .. | .eL .. | .mp .. | .fn ..=>true
 |_=>false
inductive Obj where
 |gone
 |box (ty:TypeId) (ps:List P)
 |arr (ty:TypeId) (fz:Bool) (es:List D)
 |map (kt:Nat) (get:D->Option D) (n:Int) (fz:Bool)
 |iter (kt vt:Nat) (left:D->Option D) (cur:Option (D×D))
 |iq
 |dS (kt:Nat) (get:D->Option D) (n:Int) (p:P) (kd:D)
 |cb (kt:Nat) (es:List (D×P))
 deriving Inhabited
structure En where
 aw:Nat
 tag:Option Nat
 obj:Obj
def lk{α:Type}:List (Nat×α)->Nat->Option α
 | [],_=>none
 | (k,v)::r,j=>if Nat.beq k j then some v else lk r j
def ins{α:Type}(k:Nat)(v:α):List (Nat×α)->List (Nat×α)
 | []=>[(k,v)]
 | (j,u)::r=>if Nat.blt k j then(k,v)::(j,u)::r else if Nat.beq k j then(k,v)::r else(j,u)::ins k v r
structure S where
 n:Nat
 tm:List (Nat×P)
 rg:List (Nat×En)
def D.bW:D->Option Value
 | .bool b=>some (.bool b)
 | .int k n=>some (.int k n)
 | .str s=>some (.string ⟨⟨s⟩⟩)
 | .cV=>some (.slice none 0 0)
 | .gf=>some (.pointer none)
 | .jg=>some (.map none)
 | .nZ=>some .nilFunc
 | .n0=>some .nilIface
 | .agg _ | .sl _ _=>none
def D.bc:List D->Option (List Value)
 | []=>some []
 |x::r=>match x.bW,D.bc r with |some v,some vs=>some (v::vs)|_,_=>none
def D.aV:D->Option Value
 | .agg cs=>match D.bc cs with |some vs=>some (.agg ⟨vs⟩)|none=>none
 |x=>x.bW
def P.aV:P->Option Value
 | .d x=>x.aV
 |_=>none
def D.eU:Value->Option D
 | .bool b=>some (.bool b)
 | .int k n=>some (.int k n)
 | .string s=>some (.str s.data.toList)
 | .slice none 0 0=>some .cV
 | .pointer none=>some .gf
 | .map none=>some .jg
 | .nilFunc=>some .nZ
 | .nilIface=>some .n0
 |_=>none
def D.n4:List Value->Option (List D)
 | []=>some []
 |v::r=>match D.eU v,D.n4 r with |some x,some xs=>some (x::xs)|_,_=>none
def D.jK:Value->Option D
 | .agg cs=>match D.n4 cs.toList with |some xs=>some (.agg xs)|none=>none
 |v=>D.eU v
def ai{α:Type}(Q:Program):Sem α->Option α
 | .pure a=>some a
 | .program k=>ai Q (k Q)
 | .mark _ k=>ai Q k
 |_=>none
def bC(Q:Program)(m:Sem Value):Option P:=
 match ai Q m with
 |some v=>match D.jK v with |some x=>some (.d x)|none=>none
 |none=>none
def S.ev(s:S):Operand->P
 | .tmp t=>(lk s.tm t).getD .bad
 | .const v=>match D.jK v with |some x=> .d x |none=> .bad
 | .func f=> .fn f []
 | .global _=> .bad
def P.under(_:Option (Nat×Bool)):P->P
 | .when ..=> .bad
 |p=>p
def S.eg(s:S)(g:Option (Nat×Bool))(x:Operand):P:=(s.ev x).under g
def S.put(s:S)(dst:Option Nat)(p:P):Option S:=
 match dst with
 |none=>some s
 |some t=>if Nat.blt t s.n then some ⟨s.n,ins t p s.tm,s.rg⟩ else none
def sM:List P->Option (List D)
 | []=>some []
 | .d x::r=>match sM r with |some xs=>some (x::xs)|none=>none
 |_=>none
def rV(ps:List P):P:=match sM ps with |some xs=> .d (.agg xs)|none=> .agg ps
def P.cells:P->List P
 | .agg ps=>ps
 | .d (.agg cs)=>cs.map .d
 |p=>[p]
def P.fC:P->Bool
 | .agg _ | .d _=>true
 |p=>p.aG
mutual
def D.iH:D->D->Bool
 | .bool a,.bool b=>a==b
 | .int k a,.int k' b=>k==k'&&a==b
 | .str a,.str b=>a==b
 | .agg a,.agg b=>D.qI a b
 | .sl k a,.sl k' b=>k==k'&&D.qI a b
 | .cV,.cV | .gf,.gf | .jg,.jg | .nZ,.nZ | .n0,.n0=>true
 |_,_=>false
def D.qI:List D->List D->Bool
 | [],[]=>true
 |x::xs,y::ys=>D.iH x y&&D.qI xs ys
 |_,_=>false
end
def cA(k v:D)(get:D->Option D):D->Option D:=λk'=>bif D.iH k k' then some v else get k'
def uw(k:D)(get:D->Option D):D->Option D:=λk'=>bif D.iH k k' then none else get k'
def sz(Q:Program)(t:TypeId):Option Nat:=match Q.info? t,Q.underlying t with |some i,some _=>some i.size |_,_=>none
def bt(Q:Program)(t:TypeId):Bool:=match Q.underlying t with |some (.struct _)|some (.array _ _)=>true |_=>false
def aX(Q:Program)(t:TypeId):Option TypeId:=match Q.underlying t with |some (.slice e)=>some e |_=>none
def nj(Q:Program)(t:TypeId)(ps:List P)(off:Nat):Option P:=
 match sz Q t with
 |none=>none
 |some k=>if bt Q t then(if Nat.ble (off+k) ps.length then some (rV ((ps.drop off).take k)) else none) else ps[off]?
def c6(Q:Program)(t:TypeId)(cs:List D)(off:Nat):Option D:=
 match sz Q t with
 |none=>none
 |some k=>if bt Q t then(if Nat.ble (off+k) cs.length then some (.agg ((cs.drop off).take k)) else none) else cs[off]?
def S.obj(s:S)(n v:Nat):Option Obj:=
 match lk s.rg n with
 |some e=>if Nat.beq e.aw v then some e.obj else none
 |none=>none
def mK(Q:Program)(go:TypeId->D->D->Option Bool):List Field->List D->List D->Option Bool
 | [],_,_=>some true
 |f::r,xs,ys=>match f.name== "_" with
  |true=>mK Q go r xs ys
  |false=>match c6 Q f.type xs f.offset,c6 Q f.type ys f.offset with
   |some x,some y=>match go f.type x y,mK Q go r xs ys with
    |some a,some b=>some (a&&b)
    |_,_=>none
   |_,_=>none
def qJ(m:Nat)(e:TypeId)(k:Nat):List Field:=(List.range m).map λi=>⟨"x",e,i*k,false, "", "",0⟩
def uh(Q:Program):Nat->TypeId->D->D->Option Bool
 |0,_,_,_=>none
 |n+1,t,x,y=>match Q.underlying t with
  |some .bool=>match x,y with | .bool a,.bool b=>some (a==b)|_,_=>none
  |some (.int _)=>match x,y with | .int k a,.int k' b=>(match k==k' with |true=>some (a==b)|false=>none)|_,_=>none
  |some .string=>match x,y with | .str a,.str b=>some (a==b)|_,_=>none
  |some (.struct fs)=>match x,y with
   | .agg xs,.agg ys=>match Q.stoodInHeld t with
    |true=>none
    |false=>mK Q (uh Q n) fs.toList xs ys
   |_,_=>none
  |some (.array m e)=>match x,y with
   | .agg xs,.agg ys=>match sz Q e with
    |some k=>mK Q (uh Q n) (qJ m e k) xs ys
    |none=>none
   |_,_=>none
  |_=>none
def fW(Q:Program):Nat->List Field->Nat->Bool
 |off,[],mL=>Nat.beq off mL
 |off,f::r,mL=>Nat.beq f.offset off&&fW Q (off+Q.cellsOf f.type) r mL
def cB(Q:Program):Nat->TypeId->D->Bool
 |0,_,_=>false
 |n+1,t,x=>match Q.underlying t with
  |some .bool=>(match x with | .bool _=>true |_=>false)
  |some (.int k)=>(match x with | .int k' _=>k==k' |_=>false)
  |some .string=>(match x with | .str _=>true |_=>false)
  |some (.struct fs)=>(match x with
   | .agg cs=>Nat.beq cs.length (Q.cellsOf t)&&fW Q 0 fs.toList (Q.cellsOf t)&& !Q.stoodInHeld t&&fs.toList.all λf=> !(f.name== "_")&&(bt Q f.type ||Nat.beq (Q.cellsOf f.type) 1)&&(match c6 Q f.type cs f.offset with |some y=>cB Q n f.type y |none=>false)
   |_=>false)
  |some (.array m e)=>(match x with
   | .agg cs=>(match sz Q e with
    |some k=>Nat.beq cs.length (Q.cellsOf t)&&fW Q 0 (qJ m e k) (Q.cellsOf t)&&(qJ m e k).all λf=> !(f.name== "_")&&(bt Q f.type ||Nat.beq (Q.cellsOf f.type) 1)&&(match c6 Q f.type cs f.offset with |some y=>cB Q n f.type y |none=>false)
    |none=>false)
   |_=>false)
  |_=>false
def D.sN:D->Bool
 | .bool _ | .int _ _ | .str _=>true
 |_=>false
def bu(Q:Program)(kt:TypeId)(k:D):Bool:=cB Q 20 kt k&&k.cells.all D.sN&&(match k.aV with
 |some v=>(match ai Q (Instr.checkKey false 10000 kt v),ai Q (Instr.checkKey true 10000 kt v) with |some _,some _=>true |_,_=>false)
 |none=>false)
def cm(Q:Program)(t:TypeId):Option (TypeId×TypeId):=match Q.underlying t with |some (.map k e)=>some (k,e)|_=>none
def jh(k:D):List (D×P)->Option P
 | []=>none
 | (j,p)::r=>bif D.iH j k then some p else jh k r
def kV(k:D)(p:P):List (D×P)->List (D×P)
 | []=>[(k,p)]
 | (j,q)::r=>bif D.iH j k then(k,p)::r else(j,q)::kV k p r
def kW(k:D):List (D×P)->List (D×P)
 | []=>[]
 | (j,q)::r=>bif D.iH j k then r else(j,q)::kW k r
def S.setObj(s:S)(n:Nat)(o:Obj):S:=
 match lk s.rg n with
 |some e=>{s with rg:=ins n ⟨e.aw,e.tag,o⟩ s.rg}
 |none=>s
def S.new(s:S)(n:Nat)(o:Obj):Option (S×Nat):=
 match lk s.rg n with
 |none=>some ({s with rg:=ins n ⟨0,none,o⟩ s.rg},0)
 |some e=>match e.obj with
  | .gone=>some ({s with rg:=ins n ⟨e.aw+1,none,o⟩ s.rg},e.aw+1)
  |_=>match e.tag with
   |none=>some ({s with rg:=ins n ⟨e.aw+1,none,o⟩ s.rg},e.aw+1)
   |some _=>none
def splice(ps:List P)(off:Nat)(qs:List P):List P:=ps.take off++qs++ps.drop (off+qs.length)
def site(dst:Option Nat):Nat:=1000+dst.getD 999
def S.live(s:S)(n v:Nat):Bool:=
 match s.obj n v with
 |some .gone=>false
 |some _=>true
 |none=>false
def dY(s:S)(p:P):Option P:=
 match p with
 | .ref n v _ | .bs n v _ _ _=>if s.live n v then some p else none
 | .bT .. | .fn ..=>some p
 |_=>none
def iu(Q:Program)(s:S)(t:TypeId):P->Option P
 | .ref n v off=>match s.obj n v with |some (.box _ ps)=>nj Q t ps off |_=>none
 | .bs n v i k off=>match s.obj n v with
  |some (.arr ty _ es)=>match sz Q ty,es[i]? with
   |some k',some x=>if Nat.beq k k' then(match c6 Q t x.cells off with |some y=>some (.d y)|none=>none) else none
   |_,_=>none
  |_=>none
 | .bT x off=>match c6 Q t x.cells off with |some y=>some (.d y)|none=>none
 |_=>none
def lz(Q:Program)(t:TypeId)(f:Nat):Option Nat:=
 match Q.underlying t with
 |some (.struct fs)=>match fs[f]? with
  |some fl=>match sz Q fl.type with |some (_+1)=>some fl.offset |_=>none
  |none=>none
 |_=>none
def da(Q:Program)(s:S)(t:TypeId)(f:Nat)(p:P):Option P:=
 match lz Q t f with
 |none=>none
 |some o=>match p with
  | .ref n v off=>if s.live n v then some (.ref n v (off+o)) else none
  | .bs n v i k off=>if s.live n v then some (.bs n v i k (off+o)) else none
  | .bT x off=>some (.bT x (off+o))
  |_=>none
def gu(Q:Program)(s:S)(len:Nat)(e:TypeId)(p:P)(i:P):Option P:=
 match i,sz Q e with
 | .d (.int _ j),some (k+1)=>if 0<=j/\j<(len:Int) then(match p with
  | .ref n v off=>if s.live n v then some (.ref n v (off+j.toNat*(k+1))) else none
  | .bs n v i k' off=>if s.live n v then some (.bs n v i k' (off+j.toNat*(k+1))) else none
  | .bT x off=>some (.bT x (off+j.toNat*(k+1)))
  |_=>none) else none
 |_,_=>none
def rW(Q:Program)(t:TypeId):Option (Nat×TypeId):=match Q.underlying t with |some (.array n e)=>some (n,e)|_=>none
def bX(Q:Program)(s:S)(t:TypeId)(p:P)(i:P):Option P:=
 match rW Q t with
 |some (n,e)=>gu Q s n e p i
 |none=>match aX Q t,i with
 |some e,.d (.int _ j)=>match sz Q e with
  |some (k+1)=>match p with
   | .sl n v len=>match s.obj n v with
    |some (.arr ty _ _)=>if Nat.beq ty e then(if 0<=j/\j<(len:Int) then some (.bs n v j.toNat (k+1) 0) else none) else none
    |_=>none
   | .eL n v k' off len=>match s.obj n v with
    |some (.arr ty _ _)=>if Nat.beq ty e&&Nat.beq k' (k+1) then(if 0<=j/\j<(len:Int) then some (.bs n v (off+j.toNat) (k+1) 0) else none) else none
    |_=>none
   | .d (.sl k' es)=>if Nat.beq k' (k+1) then(if 0<=j then(match es[j.toNat]? with |some x=>some (.bT x 0)|none=>none) else none) else none
   |_=>none
  |_=>none
 |_,_=>none
def bw(len:Nat)(lo hi:Option P):Option (Nat×Nat):=
 match(match hi with |none=>some len |some (.d (.int _ j))=>if 0<=j/\j<=(len:Int) then some j.toNat else none |_=>none) with
 |none=>none
 |some h=>match lo with
  |none=>some (0,h)
  |some (.d (.int _ j))=>if 0<=j/\j<=(h:Int) then some (j.toNat,h) else none
  |_=>none
def fX(Q:Program)(s:S)(t:TypeId)(p:P)(lo:Option P):P:=
 match p with
 | .sl n v len=>match lo,s.obj n v,(aX Q t).bind (sz Q) with
  |some _,some (.arr ty true es),some (k+1)=>(match sz Q ty with |some k'=>if Nat.beq k' (k+1) then .d (.sl (k+1) (es.take len)) else p |none=>p)
  |_,_,_=>p
 |_=>p
def lg(Q:Program)(s:S)(t:TypeId)(p:P)(lo hi:Option P):Option P:=
 match aX Q t with
 |none=>none
 |some e=>match sz Q e with
  |some (k+1)=>match p with
   | .d (.sl k' es)=>if Nat.beq k' (k+1) then(match bw es.length lo hi with |some (l,h)=>some (.d (.sl k' ((es.take h).drop l)))|none=>none) else none
   | .sl n v len=>match s.obj n v,lo with
    |some (.arr _ _ _),none=>match bw len none hi with |some (_,h)=>some (.sl n v h)|none=>none
    |some (.arr ty _ _),some lo=>match sz Q ty with
     |some k'=>if Nat.beq k' (k+1) then(match bw len (some lo) hi with |some (l,h)=>some (.eL n v (k+1) l (h-l))|none=>none) else none
     |none=>none
    |_,_=>none
   | .eL n v k' off len=>match s.obj n v with
    |some (.arr _ _ _)=>if Nat.beq k' (k+1) then(match bw len lo hi with |some (l,h)=>some (.eL n v (k+1) (off+l) (h-l))|none=>none) else none
    |_=>none
   |_=>none
  |_=>none
def eV(Q:Program)(s:S)(t:TypeId)(p:P)(lo hi:Option P):Option P:=lg Q s t (fX Q s t p lo) lo hi
def pk(s:S)(p:P):Option P:=
 match p with
 | .sl n v len | .eL n v _ _ len=>if s.live n v then some (.d (.int .i64 len)) else none
 | .d (.sl _ es)=>some (.d (.int .i64 es.length))
 |_=>none
def pn(s:S)(p:P):Option P:=
 match p with
 | .mp n v=>match s.obj n v with |some (.map _ _ c _)=>some (.d (.int .i64 c))|some (.cb _ es)=>some (.d (.int .i64 es.length))|_=>none
 |_=>none
def jL(s:S)(p q:P):Option Bool:=
 match p,q with
 | .ref n v _,.d .gf | .bs n v _ _ _,.d .gf | .d .gf,.ref n v _ | .d .gf,.bs n v _ _ _=>if s.live n v then some false else none
 | .bT _ _,.d .gf | .d .gf,.bT _ _=>some false
 |_,_=>none
def gg(Q:Program)(s:S)(op:BinOp)(t:TypeId)(x y:Operand)(p q:P):Option P:=
 match p.aV,q.aV with
 |some a,some b=>bC Q (do eqGuard op t x y a b;binOp op t a b)
 |_,_=>match Q.underlying t,jL s p q,op with
  |some (.pointer _),some r,.eql=>some (.d (.bool r))
  |some (.pointer _),some r,.neq=>some (.d (.bool (!r)))
  |_,_,_=>none
def bc:List P->Option (List Value)
 | []=>some []
 |p::r=>match p.aV,bc r with |some v,some vs=>some (v::vs)|_,_=>none
def P.qK:P->Option (List P)
 | .agg ps=>some ps
 | .d (.agg cs)=>some (cs.map .d)
 |_=>none
def qL(Q:Program)(t:TypeId)(f:Nat)(p:P):Option P:=
 match Q.underlying t,p.qK with
 |some (.struct fs),some ps=>match fs[f]? with
  |some fl=>nj Q fl.type ps fl.offset
  |none=>none
 |_,_=>none
def qM(Q:Program)(n:Nat)(e:TypeId)(p:P)(i:P):Option P:=
 match p.qK,i,sz Q e with
 |some ps,.d (.int _ j),some k=>if 0<=j/\j<(n:Int) then nj Q e ps (j.toNat*k) else none
 |_,_,_=>none
def iI(o:Option D)(z:D):D:=o.getD z
def bA(Q:Program)(s:S)(t:TypeId)(p i:P)(ok:Bool)(z:D):Option P:=
 match cm Q t,p,i with
 |some (kt,_),.mp n v,.d k=>match s.obj n v with
  |some (.map gn get _ _)=>if Nat.beq kt gn&&bu Q kt k then some (if ok then .dR [.d ((get k).getD z),.d (.bool (get k).isSome)] else .d ((get k).getD z)) else none
  |some (.dS gn get _ _ _)=>if !ok&&Nat.beq kt gn&&bu Q kt k then some (.d ((get k).getD z)) else none
  |some (.cb gn es)=>if Nat.beq kt gn&&bu Q kt k then some (if ok then .dR [(jh k es).getD (.d z),.d (.bool (jh k es).isSome)] else(jh k es).getD (.d z)) else none
  |_=>none
 |some (kt,_),.d .jg,.d k=>if bu Q kt k then some (if ok then .dR [.d z,.d (.bool false)] else .d z) else none
 |_,_,_=>none
def gv(s:S)(p:P):Option P:=
 match p with
 | .ref n v 0=>match s.obj n v with
  |some (.iter _ _ _ (some (k,x)))=>some (.dR [.d k,.d x])
  |_=>none
 |_=>none
def bK(Q:Program)(t:TypeId):Option D:=
 match Q.info? t with
 |some i=>match i.zero with |some z=>D.jK z |none=>none
 |none=>none
def rX(fs:Array Field):Sem (Array (Nat×Nat)):=fs.mapM λf=>do pure (f.offset,<-sizeOf f.type)
def po(pl:Array (Nat×Nat)):List P->List (Nat×P)->Option (List P)
 |ps,[]=>some ps
 |ps,(i,p)::r=>match pl[i]? with
  |some (off,k)=>if Nat.beq p.cells.length k&&Nat.ble (off+k) ps.length&&p.fC then po pl (splice ps off p.cells) r else none
  |none=>none
def lA(Q:Program)(t:TypeId)(parts:List (Nat×P)):Option P:=
 match Q.underlying t,bK Q t with
 |some (.struct fs),some z=>match ai Q (rX fs) with
  |some pl=>match po pl (z.cells.map .d) parts with
   |some qs=>some (rV qs)
   |none=>none
  |none=>none
 |_,_=>none
def pv(Q:Program)(s:S)(o:Oper)(g:Option (Nat×Bool)):Option P:=
 match o.op with
 | .move x | .assign x=>some (s.eg g x)
 | .pick c a b=>match s.eg g c with | .d (.bool r)=>some (if r then s.eg g a else s.eg g b)|_=>none
 | .nilCheck x=>dY s (s.eg g x)
 | .binOp op t x y _=>gg Q s op t x y (s.eg g x) (s.eg g y)
 | .unOp op _ x=>match(s.eg g x).aV with |some v=>bC Q (Op.unary op v)|none=>none
 | .convert a b x=>match(s.eg g x).aV with |some v=>bC Q (Go.convert a b v)|none=>none
 | .load t x=>iu Q s t (s.eg g x)
 | .fieldAddr t x f=>da Q s t f (s.eg g x)
 | .indexAddr t x i=>bX Q s t (s.eg g x) (s.eg g i)
 | .index t x i=>match Q.underlying t with
  |some (.array n e)=>qM Q n e (s.eg g x) (s.eg g i)
  |_=>match(s.eg g x).aV,(s.eg g i).aV with |some a,some b=>bC Q (Instr.index t a b)|_,_=>none
 | .field t x f=>qL Q t f (s.eg g x)
 | .extract x i=>match s.eg g x with | .dR ps=>ps[i]? |_=>none
 | .lookup t x i ok=>match(cm Q t).bind λy=>bK Q y.2 with
  |some z=>bA Q s t (s.eg g x) (s.eg g i) ok z
  |none=>none
 | .entry x=>gv s (s.eg g x)
 | .slice t x lo hi none=>match(s.eg g x).aV with
  |some (.string b)=>match(match lo with |none=>some none |some l=>(s.eg g l).aV.map some),(match hi with |none=>some none |some h=>(s.eg g h).aV.map some) with
   |some l,some h=>bC Q (Instr.sliceAt t (.string b) l h none)
   |_,_=>none
  |_=>eV Q s t (s.eg g x) (lo.map (s.eg g)) (hi.map (s.eg g))
 | .build t parts=>match bc (parts.toList.map λx=>s.eg g x.2) with
  |some vs=>bC Q (Instr.build t ((parts.toList.map (·.1)).zip vs).toArray)
  |none=>lA Q t (parts.toList.map λx=>(x.1,s.eg g x.2))
 | .makeFunc (.func f) first bV=>match first.toList with
  | []=>some (.fn f (bV.toList.map (s.eg g)))
  |_=>none
 | .call c=>match c.callee with
  | .builtin .len=>match c.args.toList with
   | [x]=>match(s.eg g x).aV with
    |some v=>bC Q (Builtin.len_ c.argTypes o.type #[v])
    |none=>match(c.argTypes[0]?).bind (aX Q) with
     |some _=>pk s (s.eg g x)
     |none=>match(c.argTypes[0]?).bind (cm Q) with |some _=>pn s (s.eg g x)|none=>none
   |_=>none
  | .builtin .min=>match bc (c.args.toList.map (s.eg g)) with |some vs=>bC Q (Builtin.min_ c.argTypes o.type vs.toArray)|none=>none
  | .builtin .max=>match bc (c.args.toList.map (s.eg g)) with |some vs=>bC Q (Builtin.max_ c.argTypes o.type vs.toArray)|none=>none
  |_=>none
 |_=>none
end Pi
