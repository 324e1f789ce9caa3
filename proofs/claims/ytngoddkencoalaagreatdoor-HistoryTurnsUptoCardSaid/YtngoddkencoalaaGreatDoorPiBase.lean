/- The text PiBase. -/
import GoSem.Dispatch
abbrev zaa:=@List.length_map
abbrev zab:=@Bool.and_eq_true
abbrev zac:=@List.getElem?_eq_getElem
abbrev zad:=@List.getD_eq_getElem?_getD
abbrev zae:=@List.take_succ_eq_append_getElem
abbrev zaf:=@List.getElem?_eq_some_iff
abbrev zag:=@Nat.eq_of_beq_eq_true
abbrev zah:=@List.length_append
abbrev zai:=@decide_eq_true_eq
abbrev zaj:=@List.take_length
abbrev zak:=@Nat.le_refl
abbrev zal:=@List.take_of_length_le
abbrev zam:=@Option.some.injEq
abbrev zan:=@if_neg
abbrev zao:=@List.length_cons
abbrev zap:=@if_pos
abbrev zaq:=@List.getElem_mem
abbrev zar:=@Nat.mul_le_mul_right
abbrev zas:=@List.length_take
abbrev zat:=@List.length_nil
abbrev zau:=@List.map_append
abbrev zav:=@List.mem_cons
abbrev zaw:=@Option.bind_some
abbrev zax:=@Option.map_eq_some_iff
abbrev zay:=@List.mem_append
abbrev zaz:=@Array.getElem?_eq_some_iff
abbrev zaA:=@List.eq_nil_of_length_eq_zero
abbrev zaB:=@List.mem_map
abbrev zaC:=@List.mem_of_getElem?
abbrev zaD:=@List.getElem?_map
abbrev zaE:=@Nat.le_trans
abbrev zaF:=@Nat.zero_add
abbrev zaG:=@List.length_filter_le
abbrev zaH:=@Bool.eq_iff_iff
abbrev zaI:=@Array.getD_eq_getD_getElem?
abbrev zaJ:=@Option.map_some
abbrev zaK:=@Bool.false_eq_true
abbrev zaL:=@List.mem_cons_of_mem
abbrev zaM:=@List.append_assoc
abbrev zaN:=@Classical.byContradiction
abbrev zaO:=@decide_eq_false
abbrev zaP:=@decide_eq_false_iff_not
abbrev zaQ:=@Bool.not_eq_true
abbrev zaR:=@List.getElem?_append_left
abbrev zaS:=@Bool.true_and
abbrev zaT:=@List.getElem_of_mem
abbrev zaU:=@List.foldl_cons
abbrev zaV:=@List.append_nil
abbrev zaW:=@beq_iff_eq
abbrev zaX:=@List.getElem?_of_mem
abbrev zaY:=@decide_eq_true
abbrev zaZ:=@Nat.add_mul
abbrev za0:=@List.mem_singleton
abbrev za1:=@Nat.zero_le
abbrev za2:=@List.getElem?_append_right
abbrev za3:=@List.getElem?_set_ne
abbrev za4:=@List.drop_eq_getElem_cons
abbrev za5:=@Array.getElem?_setIfInBounds_ne
abbrev za6:=@List.nodup_append
abbrev za7:=@List.foldl_append
abbrev za8:=@List.mem_map_of_mem
abbrev za9:=@List.flatMap_append
abbrev zba:=@List.mem_of_mem_take
abbrev zbb:=@Nat.lt_of_lt_of_le
abbrev zbc:=@List.mem_append_right
abbrev zbd:=@List.nodup_cons
abbrev zbe:=@List.length_drop
abbrev zbf:=@List.pairwise_iff_getElem
abbrev zbg:=@List.map_cons
abbrev zbh:=@Bool.or_eq_true
abbrev zbi:=@List.take_append_drop
abbrev zbj:=@List.length_set
abbrev zbk:=@List.nil_append
abbrev zbl:=@List.length_singleton
abbrev zbm:=@List.all_eq_true
abbrev zbn:=@List.mem_append_left
abbrev zbo:=@List.any_eq_true
abbrev zbp:=@List.getElem?_eq_none
abbrev zbq:=@cond_false
abbrev zbr:=@if_true
abbrev zbs:=@Nat.one_mul
abbrev zbt:=@if_false
abbrev zbu:=@Bool.false_or
abbrev zbv:=@List.mem_filter
abbrev zbw:=@List.filter_append
abbrev zbx:=@Bool.and_true
abbrev zby:=@Array.toList_inj
abbrev zbz:=@Bool.not_eq_true'
abbrev zbA:=@List.flatMap_cons
abbrev zbB:=@List.length_replicate
abbrev zbC:=@Array.getElem?_setIfInBounds_self_of_lt
abbrev zbD:=@List.getElem?_take
abbrev zbE:=@beq_self_eq_true
abbrev zbF:=@Int.le_refl
abbrev zbG:=@Nat.add_assoc
abbrev zbH:=@Option.bind_eq_some_iff
abbrev zbI:=@Ne.symm
abbrev zbJ:=@of_decide_eq_true
abbrev zbK:=@List.map_congr_left
abbrev zbL:=@decide_eq_decide
abbrev zbM:=@List.mem_reverse
abbrev zbN:=@Prod.mk.injEq
abbrev zbO:=@Nat.le_of_ble_eq_true
abbrev zbP:=@List.findIdx?_eq_some_iff_getElem
abbrev zbQ:=@Array.getElem?_eq_getElem
abbrev zbR:=@List.mem_of_mem_drop
abbrev zbS:=@List.take_add_one
abbrev zbT:=@List.length_pos_iff
abbrev zbU:=@List.filter_cons_of_pos
abbrev zbV:=@List.filter_cons_of_neg
abbrev zbW:=@List.isEmpty_iff
abbrev zbX:=@List.getElem?_set_self
abbrev zbY:=@List.getElem?_drop
abbrev zbZ:=@List.mem_cons_self
abbrev zb0:=@Nat.add_zero
abbrev zb1:=@cond_true
abbrev zb2:=@List.pairwise_reverse
abbrev zb3:=@Bool.or_false
abbrev zb4:=@List.count_le_length
abbrev zb5:=@List.drop_zero
abbrev zb6:=@List.mem_of_find?_eq_some
abbrev zb7:=@List.findIdx?_eq_none_iff
abbrev zb8:=@List.ext_getElem
abbrev zb9:=@Option.getD_some
abbrev zca:=@Nat.succ_le_succ
abbrev zcb:=@List.filter_sublist
abbrev zcc:=@Nat.ble_eq
abbrev zcd:=@List.map_set
abbrev zce:=@Option.some.inj
abbrev zcf:=@List.getElem?_cons_succ
abbrev zcg:=@List.take_left'
abbrev zch:=@List.find?_eq_none
abbrev zci:=@List.drop_eq_nil_of_le
abbrev zcj:=@Function.comp_def
abbrev zck:=@List.pairwise_map
abbrev zcl:=@Int.toNat_natCast
abbrev zcm:=@Nat.mul_comm
abbrev zcn:=@List.singleton_append
abbrev zco:=@Bool.true_or
abbrev zcp:=@List.count_cons_self
abbrev zcq:=@Nat.min_eq_left
abbrev zcr:=@Array.length_toList
abbrev zcs:=@List.filter_nil
abbrev zct:=@List.reverse_append
abbrev zcu:=@List.any_append
abbrev zcv:=@Array.getElem?_append_left
abbrev zcw:=@Nat.lt_or_gt_of_ne
abbrev zcx:=@of_decide_eq_false
abbrev zcy:=@getElem!_pos
abbrev zcz:=@List.pairwise_cons
abbrev zcA:=@Bool.and_false
abbrev zcB:=@List.mem_take_iff_getElem
abbrev zcC:=@List.ext_getElem?
abbrev zcD:=@List.size_toArray
abbrev zcE:=@List.reverse_perm
abbrev zcF:=@List.any_eq_false
abbrev zcG:=@Bool.not_eq_false
abbrev zcH:=@List.flatMap_eq_nil_iff
abbrev zcI:=@List.cons_append
abbrev zcJ:=@List.mem_flatMap
abbrev zcK:=@Array.size_range
abbrev zcL:=@List.getElem_map
abbrev zcM:=@Nat.lt_succ_self
abbrev zcN:=@List.drop_of_length_le
abbrev zcO:=@Array.getElem?_toList
abbrev zcP:=@Option.map_none
abbrev zcQ:=@Nat.div_lt_iff_lt_mul
abbrev zcR:=@Array.getElem?_modify
abbrev zcS:=@List.find?_some
abbrev zcT:=@List.eq_nil_or_concat
abbrev zcU:=@List.set_append_right
abbrev zcV:=@List.cons.injEq
abbrev zcW:=@List.drop_drop
abbrev zcX:=@List.drop_take
abbrev zcY:=@not_or
abbrev zcZ:=@List.getElem?_range
abbrev zc0:=@beq_eq_false_iff_ne
abbrev zc1:=@List.filter_eq_self
abbrev zc2:=@Array.foldl_toList
abbrev zc3:=@Nat.eq_or_lt_of_le
abbrev zc4:=@Array.ext_getElem?
abbrev zc5:=@Bool.not_eq_false'
abbrev zc6:=@List.zipIdx_append
abbrev zc7:=@List.count_eq_zero
abbrev zc8:=@Nat.mod_lt
abbrev zc9:=@Nat.le_succ_of_le
abbrev zda:=@List.take_sublist
abbrev zdb:=@Nat.le_of_eq
abbrev zdc:=@List.eq_nil_iff_forall_not_mem
abbrev zdd:=@List.map_nil
abbrev zde:=@Array.toList_map
abbrev zdf:=@List.not_mem_nil
abbrev zdg:=@Nat.le_add_right
abbrev zdh:=@List.drop_length
abbrev zdi:=@true_and
abbrev zdj:=@and_true
abbrev zdk:=@List.mem_zipIdx_iff_getElem?
abbrev zdl:=@Nat.div_add_mod
abbrev zdm:=@Nat.le_succ
abbrev zdn:=@Nat.mul_one
abbrev zdo:=@List.mem_or_eq_of_mem_set
abbrev zdp:=@Array.getElem?_replicate
abbrev zdq:=@List.getElem?_take_of_lt
abbrev zdr:=@Bool.not_true
abbrev zds:=@dif_pos
abbrev zdt:=@List.getElem?_cons_zero
abbrev zdu:=@Bool.or_assoc
abbrev zdv:=@List.any_cons
abbrev zdw:=@Prod.ext
namespace Pi
open Go
inductive D where
 |bool (b:Bool)
 |int (k:IntKind) (n:Int)
 |str (s:List UInt8)
 |agg (cs:List D)
 |sl (k:Nat) (es:List D)
 |fk
 |p9
 |rp
 |yq
 |yr
 deriving Inhabited
def D.cells:D->List D
 | .agg cs=>cs
 |x=>[x]
def D.bA:D->Bool
 | .agg _=>false
 |_=>true
inductive P where
 |d (x:D)
 |agg (ps:List P)
 |ref (n v off:Nat)
 |dD (n v i k off:Nat)
 |fe (x:D) (off:Nat)
 |sl (n v len:Nat)
 |mb (n v k off len:Nat)
 |mp (n v:Nat)
 |fn (f:FuncId) (cQ:List P)
 |cH (ps:List P)
 |when (slot:Nat) (want:Bool) (p:P)
 |bad
 deriving Inhabited
def P.skip:P:= .when 0 false .bad
def P.bA:P->Bool
 | .d x=>x.bA
 | .ref .. | .dD .. | .fe .. | .sl .. | .mb .. | .mp .. | .fn ..=>true
 |_=>false
inductive Obj where
 |gone
 |box (ty:TypeId) (ps:List P)
 |arr (ty:TypeId) (fz:Bool) (es:List D)
 |map (kt:Nat) (get:D->Option D) (n:Int) (fz:Bool)
 |iter (kt vt:Nat) (left:D->Option D) (cur:Option (D×D))
 |ey
 |kD (kt:Nat) (get:D->Option D) (n:Int) (p:P) (kd:D)
 deriving Inhabited
structure En where
 aV:Nat
 tag:Option Nat
 obj:Obj
def lk{α:Type}:List (Nat×α)->Nat->Option α
 | [],_=>none
 | (k,v)::r,j=>if Nat.beq k j then some v else lk r j
def ins{α:Type}(k:Nat)(v:α):List (Nat×α)->List (Nat×α)
 | []=>[(k,v)]
 | (j,u)::r=>if Nat.blt k j then(k,v)::(j,u)::r else if Nat.beq k j then(k,v)::r else(j,u)::ins k v r
structure S where
 n:Nat
 tm:List (Nat×P)
 rg:List (Nat×En)
def D.gj:D->Option Value
 | .bool b=>some (.bool b)
 | .int k n=>some (.int k n)
 | .str s=>some (.string ⟨⟨s⟩⟩)
 | .fk=>some (.slice none 0 0)
 | .p9=>some (.pointer none)
 | .rp=>some (.map none)
 | .yq=>some .nilFunc
 | .yr=>some .nilIface
 | .agg _ | .sl _ _=>none
def D.df:List D->Option (List Value)
 | []=>some []
 |x::r=>match x.gj,D.df r with |some v,some vs=>some (v::vs)|_,_=>none
def D.cF:D->Option Value
 | .agg cs=>match D.df cs with |some vs=>some (.agg ⟨vs⟩)|none=>none
 |x=>x.gj
def P.cF:P->Option Value
 | .d x=>x.cF
 |_=>none
def D.mO:Value->Option D
 | .bool b=>some (.bool b)
 | .int k n=>some (.int k n)
 | .string s=>some (.str s.data.toList)
 | .slice none 0 0=>some .fk
 | .pointer none=>some .p9
 | .map none=>some .rp
 | .nilFunc=>some .yq
 | .nilIface=>some .yr
 |_=>none
def D.DH:List Value->Option (List D)
 | []=>some []
 |v::r=>match D.mO v,D.DH r with |some x,some xs=>some (x::xs)|_,_=>none
def D.vi:Value->Option D
 | .agg cs=>match D.DH cs.toList with |some xs=>some (.agg xs)|none=>none
 |v=>D.mO v
def aC{α:Type}(Q:Program):Sem α->Option α
 | .pure a=>some a
 | .program k=>aC Q (k Q)
 | .mark _ k=>aC Q k
 |_=>none
def dY(Q:Program)(m:Sem Value):Option P:=
 match aC Q m with
 |some v=>match D.vi v with |some x=>some (.d x)|none=>none
 |none=>none
def S.ev(s:S):Operand->P
 | .tmp t=>(lk s.tm t).getD .bad
 | .const v=>match D.vi v with |some x=> .d x |none=> .bad
 | .func f=> .fn f []
 | .global _=> .bad
def P.under(_:Option (Nat×Bool)):P->P
 | .when ..=> .bad
 |p=>p
def S.eg(s:S)(g:Option (Nat×Bool))(x:Operand):P:=(s.ev x).under g
def S.put(s:S)(dst:Option Nat)(p:P):Option S:=
 match dst with
 |none=>some s
 |some t=>if Nat.blt t s.n then some ⟨s.n,ins t p s.tm,s.rg⟩ else none
def Bt:List P->Option (List D)
 | []=>some []
 | .d x::r=>match Bt r with |some xs=>some (x::xs)|none=>none
 |_=>none
def Md(ps:List P):P:=match Bt ps with |some xs=> .d (.agg xs)|none=> .agg ps
def P.cells:P->List P
 | .agg ps=>ps
 | .d (.agg cs)=>cs.map .d
 |p=>[p]
def P.ot:P->Bool
 | .agg _ | .d _=>true
 |p=>p.bA
mutual
def D.pg:D->D->Bool
 | .bool a,.bool b=>a==b
 | .int k a,.int k' b=>k==k'&&a==b
 | .str a,.str b=>a==b
 | .agg a,.agg b=>D.JR a b
 | .sl k a,.sl k' b=>k==k'&&D.JR a b
 | .fk,.fk | .p9,.p9 | .rp,.rp | .yq,.yq | .yr,.yr=>true
 |_,_=>false
def D.JR:List D->List D->Bool
 | [],[]=>true
 |x::xs,y::ys=>D.pg x y&&D.JR xs ys
 |_,_=>false
end
def da(k v:D)(get:D->Option D):D->Option D:=λk'=>bif D.pg k k' then some v else get k'
def Gp(k:D)(get:D->Option D):D->Option D:=λk'=>bif D.pg k k' then none else get k'
def sz(Q:Program)(t:TypeId):Option Nat:=match Q.info? t,Q.underlying t with |some i,some _=>some i.size |_,_=>none
def dE(Q:Program)(t:TypeId):Bool:=match Q.underlying t with |some (.struct _)|some (.array _ _)=>true |_=>false
def cR(Q:Program)(t:TypeId):Option TypeId:=match Q.underlying t with |some (.slice e)=>some e |_=>none
def Ce(Q:Program)(t:TypeId)(ps:List P)(off:Nat):Option P:=
 match sz Q t with
 |none=>none
 |some k=>if dE Q t then(if Nat.ble (off+k) ps.length then some (Md ((ps.drop off).take k)) else none) else ps[off]?
def jB(Q:Program)(t:TypeId)(cs:List D)(off:Nat):Option D:=
 match sz Q t with
 |none=>none
 |some k=>if dE Q t then(if Nat.ble (off+k) cs.length then some (.agg ((cs.drop off).take k)) else none) else cs[off]?
def S.obj(s:S)(n v:Nat):Option Obj:=
 match lk s.rg n with
 |some e=>if Nat.beq e.aV v then some e.obj else none
 |none=>none
def Gq(Q:Program)(go:TypeId->D->D->Option Bool):List Field->List D->List D->Option Bool
 | [],_,_=>some true
 |f::r,xs,ys=>match f.name== "_" with
  |true=>Gq Q go r xs ys
  |false=>match jB Q f.type xs f.offset,jB Q f.type ys f.offset with
   |some x,some y=>match go f.type x y,Gq Q go r xs ys with
    |some a,some b=>some (a&&b)
    |_,_=>none
   |_,_=>none
def YQ(Q:Program):Nat->TypeId->D->D->Option Bool
 |0,_,_,_=>none
 |n+1,t,x,y=>match Q.underlying t with
  |some .bool=>match x,y with | .bool a,.bool b=>some (a==b)|_,_=>none
  |some (.int _)=>match x,y with | .int k a,.int k' b=>(match k==k' with |true=>some (a==b)|false=>none)|_,_=>none
  |some .string=>match x,y with | .str a,.str b=>some (a==b)|_,_=>none
  |some (.struct fs)=>match x,y with
   | .agg xs,.agg ys=>match Q.stoodInHeld t with
    |true=>none
    |false=>Gq Q (YQ Q n) fs.toList xs ys
   |_,_=>none
  |_=>none
def lh(Q:Program):Nat->List Field->Nat->Bool
 |off,[],nx=>Nat.beq off nx
 |off,f::r,nx=>Nat.beq f.offset off&&lh Q (off+Q.cellsOf f.type) r nx
def iU(Q:Program):Nat->TypeId->D->Bool
 |0,_,_=>false
 |n+1,t,x=>match Q.underlying t with
  |some .bool=>(match x with | .bool _=>true |_=>false)
  |some (.int k)=>(match x with | .int k' _=>k==k' |_=>false)
  |some .string=>(match x with | .str _=>true |_=>false)
  |some (.struct fs)=>(match x with
   | .agg cs=>Nat.beq cs.length (Q.cellsOf t)&&lh Q 0 fs.toList (Q.cellsOf t)&& !Q.stoodInHeld t&&fs.toList.all λf=> !(f.name== "_")&&(dE Q f.type ||Nat.beq (Q.cellsOf f.type) 1)&&(match jB Q f.type cs f.offset with |some y=>iU Q n f.type y |none=>false)
   |_=>false)
  |_=>false
def D.Om:D->Bool
 | .bool _ | .int _ _ | .str _=>true
 |_=>false
def fY(Q:Program)(kt:TypeId)(k:D):Bool:=iU Q 20 kt k&&k.cells.all D.Om&&(match k.cF with
 |some v=>(match aC Q (Instr.checkKey false 10000 kt v),aC Q (Instr.checkKey true 10000 kt v) with |some _,some _=>true |_,_=>false)
 |none=>false)
def kj(Q:Program)(t:TypeId):Option (TypeId×TypeId):=match Q.underlying t with |some (.map k e)=>some (k,e)|_=>none
def S.setObj(s:S)(n:Nat)(o:Obj):S:=
 match lk s.rg n with
 |some e=>{s with rg:=ins n ⟨e.aV,e.tag,o⟩ s.rg}
 |none=>s
def S.new(s:S)(n:Nat)(o:Obj):Option (S×Nat):=
 match lk s.rg n with
 |none=>some ({s with rg:=ins n ⟨0,none,o⟩ s.rg},0)
 |some e=>match e.obj with
  | .gone=>some ({s with rg:=ins n ⟨e.aV+1,none,o⟩ s.rg},e.aV+1)
  |_=>match e.tag with
   |none=>some ({s with rg:=ins n ⟨e.aV+1,none,o⟩ s.rg},e.aV+1)
   |some _=>none
def splice(ps:List P)(off:Nat)(qs:List P):List P:=ps.take off++qs++ps.drop (off+qs.length)
def site(dst:Option Nat):Nat:=1000+dst.getD 999
def S.live(s:S)(n v:Nat):Bool:=
 match s.obj n v with
 |some .gone=>false
 |some _=>true
 |none=>false
def kU(s:S)(p:P):Option P:=
 match p with
 | .ref n v _ | .dD n v _ _ _=>if s.live n v then some p else none
 | .fe .. | .fn ..=>some p
 |_=>none
def rL(Q:Program)(s:S)(t:TypeId):P->Option P
 | .ref n v off=>match s.obj n v with |some (.box _ ps)=>Ce Q t ps off |_=>none
 | .dD n v i k off=>match s.obj n v with
  |some (.arr ty _ es)=>match sz Q ty,es[i]? with
   |some k',some x=>if Nat.beq k k' then(match jB Q t x.cells off with |some y=>some (.d y)|none=>none) else none
   |_,_=>none
  |_=>none
 | .fe x off=>match jB Q t x.cells off with |some y=>some (.d y)|none=>none
 |_=>none
def yu(Q:Program)(t:TypeId)(f:Nat):Option Nat:=
 match Q.underlying t with
 |some (.struct fs)=>match fs[f]? with
  |some fl=>match sz Q fl.type with |some (_+1)=>some fl.offset |_=>none
  |none=>none
 |_=>none
def iV(Q:Program)(s:S)(t:TypeId)(f:Nat)(p:P):Option P:=
 match yu Q t f with
 |none=>none
 |some o=>match p with
  | .ref n v off=>if s.live n v then some (.ref n v (off+o)) else none
  | .dD n v i k off=>if s.live n v then some (.dD n v i k (off+o)) else none
  | .fe x off=>some (.fe x (off+o))
  |_=>none
def qa(Q:Program)(s:S)(len:Nat)(e:TypeId)(p:P)(i:P):Option P:=
 match i,sz Q e with
 | .d (.int _ j),some (k+1)=>if 0<=j/\j<(len:Int) then(match p with
  | .ref n v off=>if s.live n v then some (.ref n v (off+j.toNat*(k+1))) else none
  | .dD n v i k' off=>if s.live n v then some (.dD n v i k' (off+j.toNat*(k+1))) else none
  | .fe x off=>some (.fe x (off+j.toNat*(k+1)))
  |_=>none) else none
 |_,_=>none
def Me(Q:Program)(t:TypeId):Option (Nat×TypeId):=match Q.underlying t with |some (.array n e)=>some (n,e)|_=>none
def fm(Q:Program)(s:S)(t:TypeId)(p:P)(i:P):Option P:=
 match Me Q t with
 |some (n,e)=>qa Q s n e p i
 |none=>match cR Q t,i with
 |some e,.d (.int _ j)=>match sz Q e with
  |some (k+1)=>match p with
   | .sl n v len=>match s.obj n v with
    |some (.arr ty _ _)=>if Nat.beq ty e then(if 0<=j/\j<(len:Int) then some (.dD n v j.toNat (k+1) 0) else none) else none
    |_=>none
   | .mb n v k' off len=>match s.obj n v with
    |some (.arr ty _ _)=>if Nat.beq ty e&&Nat.beq k' (k+1) then(if 0<=j/\j<(len:Int) then some (.dD n v (off+j.toNat) (k+1) 0) else none) else none
    |_=>none
   | .d (.sl k' es)=>if Nat.beq k' (k+1) then(if 0<=j then(match es[j.toNat]? with |some x=>some (.fe x 0)|none=>none) else none) else none
   |_=>none
  |_=>none
 |_,_=>none
def dF(len:Nat)(lo hi:Option P):Option (Nat×Nat):=
 match(match hi with |none=>some len |some (.d (.int _ j))=>if 0<=j/\j<=(len:Int) then some j.toNat else none |_=>none) with
 |none=>none
 |some h=>match lo with
  |none=>some (0,h)
  |some (.d (.int _ j))=>if 0<=j/\j<=(h:Int) then some (j.toNat,h) else none
  |_=>none
def ph(Q:Program)(s:S)(t:TypeId)(p:P)(lo:Option P):P:=
 match p with
 | .sl n v len=>match lo,s.obj n v,(cR Q t).bind (sz Q) with
  |some _,some (.arr ty true es),some (k+1)=>(match sz Q ty with |some k'=>if Nat.beq k' (k+1) then .d (.sl (k+1) (es.take len)) else p |none=>p)
  |_,_,_=>p
 |_=>p
def xJ(Q:Program)(s:S)(t:TypeId)(p:P)(lo hi:Option P):Option P:=
 match cR Q t with
 |none=>none
 |some e=>match sz Q e with
  |some (k+1)=>match p with
   | .d (.sl k' es)=>if Nat.beq k' (k+1) then(match dF es.length lo hi with |some (l,h)=>some (.d (.sl k' ((es.take h).drop l)))|none=>none) else none
   | .sl n v len=>match s.obj n v,lo with
    |some (.arr _ _ _),none=>match dF len none hi with |some (_,h)=>some (.sl n v h)|none=>none
    |some (.arr ty _ _),some lo=>match sz Q ty with
     |some k'=>if Nat.beq k' (k+1) then(match dF len (some lo) hi with |some (l,h)=>some (.mb n v (k+1) l (h-l))|none=>none) else none
     |none=>none
    |_,_=>none
   | .mb n v k' off len=>match s.obj n v with
    |some (.arr _ _ _)=>if Nat.beq k' (k+1) then(match dF len lo hi with |some (l,h)=>some (.mb n v (k+1) (off+l) (h-l))|none=>none) else none
    |_=>none
   |_=>none
  |_=>none
def mP(Q:Program)(s:S)(t:TypeId)(p:P)(lo hi:Option P):Option P:=xJ Q s t (ph Q s t p lo) lo hi
def Gr(s:S)(p:P):Option P:=
 match p with
 | .sl n v len | .mb n v _ _ len=>if s.live n v then some (.d (.int .i64 len)) else none
 | .d (.sl _ es)=>some (.d (.int .i64 es.length))
 |_=>none
def Gs(s:S)(p:P):Option P:=
 match p with
 | .mp n v=>match s.obj n v with |some (.map _ _ c _)=>some (.d (.int .i64 c))|_=>none
 |_=>none
def vj(s:S)(p q:P):Option Bool:=
 match p,q with
 | .ref n v _,.d .p9 | .dD n v _ _ _,.d .p9 | .d .p9,.ref n v _ | .d .p9,.dD n v _ _ _=>if s.live n v then some false else none
 | .fe _ _,.d .p9 | .d .p9,.fe _ _=>some false
 |_,_=>none
def pD(Q:Program)(s:S)(op:BinOp)(t:TypeId)(x y:Operand)(p q:P):Option P:=
 match p.cF,q.cF with
 |some a,some b=>dY Q (do eqGuard op t x y a b;binOp op t a b)
 |_,_=>match Q.underlying t,vj s p q,op with
  |some (.pointer _),some r,.eql=>some (.d (.bool r))
  |some (.pointer _),some r,.neq=>some (.d (.bool (!r)))
  |_,_,_=>none
def df:List P->Option (List Value)
 | []=>some []
 |p::r=>match p.cF,df r with |some v,some vs=>some (v::vs)|_,_=>none
def P.JS:P->Option (List P)
 | .agg ps=>some ps
 | .d (.agg cs)=>some (cs.map .d)
 |_=>none
def JT(Q:Program)(t:TypeId)(f:Nat)(p:P):Option P:=
 match Q.underlying t,p.JS with
 |some (.struct fs),some ps=>match fs[f]? with
  |some fl=>Ce Q fl.type ps fl.offset
  |none=>none
 |_,_=>none
def JU(Q:Program)(n:Nat)(e:TypeId)(p:P)(i:P):Option P:=
 match p.JS,i,sz Q e with
 |some ps,.d (.int _ j),some k=>if 0<=j/\j<(n:Int) then Ce Q e ps (j.toNat*k) else none
 |_,_,_=>none
def cJ(o:Option D)(z:D):D:=o.getD z
def eE(Q:Program)(s:S)(t:TypeId)(p i:P)(ok:Bool)(z:D):Option P:=
 match kj Q t,p,i with
 |some (kt,_),.mp n v,.d k=>match s.obj n v with
  |some (.map Bu get _ _)=>if Nat.beq kt Bu&&fY Q kt k then some (if ok then .cH [.d ((get k).getD z),.d (.bool (get k).isSome)] else .d ((get k).getD z)) else none
  |some (.kD Bu get _ _ _)=>if !ok&&Nat.beq kt Bu&&fY Q kt k then some (.d ((get k).getD z)) else none
  |_=>none
 |some (kt,_),.d .rp,.d k=>if fY Q kt k then some (if ok then .cH [.d z,.d (.bool false)] else .d z) else none
 |_,_,_=>none
def qb(s:S)(p:P):Option P:=
 match p with
 | .ref n v 0=>match s.obj n v with
  |some (.iter _ _ _ (some (k,x)))=>some (.cH [.d k,.d x])
  |_=>none
 |_=>none
def ez(Q:Program)(t:TypeId):Option D:=
 match Q.info? t with
 |some i=>match i.zero with |some z=>D.vi z |none=>none
 |none=>none
def Mf(fs:Array Field):Sem (Array (Nat×Nat)):=fs.mapM λf=>do pure (f.offset,<-sizeOf f.type)
def Gt(pl:Array (Nat×Nat)):List P->List (Nat×P)->Option (List P)
 |ps,[]=>some ps
 |ps,(i,p)::r=>match pl[i]? with
  |some (off,k)=>if Nat.beq p.cells.length k&&Nat.ble (off+k) ps.length&&p.ot then Gt pl (splice ps off p.cells) r else none
  |none=>none
def yw(Q:Program)(t:TypeId)(parts:List (Nat×P)):Option P:=
 match Q.underlying t,ez Q t with
 |some (.struct fs),some z=>match aC Q (Mf fs) with
  |some pl=>match Gt pl (z.cells.map .d) parts with
   |some qs=>some (Md qs)
   |none=>none
  |none=>none
 |_,_=>none
def pv(Q:Program)(s:S)(o:Oper)(g:Option (Nat×Bool)):Option P:=
 match o.op with
 | .move x | .assign x=>some (s.eg g x)
 | .pick c a b=>match s.eg g c with | .d (.bool r)=>some (if r then s.eg g a else s.eg g b)|_=>none
 | .nilCheck x=>kU s (s.eg g x)
 | .binOp op t x y _=>pD Q s op t x y (s.eg g x) (s.eg g y)
 | .unOp op _ x=>match(s.eg g x).cF with |some v=>dY Q (Op.unary op v)|none=>none
 | .convert a b x=>match(s.eg g x).cF with |some v=>dY Q (Go.convert a b v)|none=>none
 | .load t x=>rL Q s t (s.eg g x)
 | .fieldAddr t x f=>iV Q s t f (s.eg g x)
 | .indexAddr t x i=>fm Q s t (s.eg g x) (s.eg g i)
 | .index t x i=>match Q.underlying t with
  |some (.array n e)=>JU Q n e (s.eg g x) (s.eg g i)
  |_=>match(s.eg g x).cF,(s.eg g i).cF with |some a,some b=>dY Q (Instr.index t a b)|_,_=>none
 | .field t x f=>JT Q t f (s.eg g x)
 | .extract x i=>match s.eg g x with | .cH ps=>ps[i]? |_=>none
 | .lookup t x i ok=>match(kj Q t).bind λy=>ez Q y.2 with
  |some z=>eE Q s t (s.eg g x) (s.eg g i) ok z
  |none=>none
 | .entry x=>qb s (s.eg g x)
 | .slice t x lo hi none=>match(s.eg g x).cF with
  |some (.string b)=>match(match lo with |none=>some none |some l=>(s.eg g l).cF.map some),(match hi with |none=>some none |some h=>(s.eg g h).cF.map some) with
   |some l,some h=>dY Q (Instr.sliceAt t (.string b) l h none)
   |_,_=>none
  |_=>mP Q s t (s.eg g x) (lo.map (s.eg g)) (hi.map (s.eg g))
 | .build t parts=>match df (parts.toList.map λx=>s.eg g x.2) with
  |some vs=>dY Q (Instr.build t ((parts.toList.map (·.1)).zip vs).toArray)
  |none=>yw Q t (parts.toList.map λx=>(x.1,s.eg g x.2))
 | .makeFunc (.func f) first cQ=>match first.toList with
  | []=>some (.fn f (cQ.toList.map (s.eg g)))
  |_=>none
 | .call c=>match c.callee with
  | .builtin .len=>match c.args.toList with
   | [x]=>match(s.eg g x).cF with
    |some v=>dY Q (Builtin.len_ c.argTypes o.type #[v])
    |none=>match(c.argTypes[0]?).bind (cR Q) with
     |some _=>Gr s (s.eg g x)
     |none=>match(c.argTypes[0]?).bind (kj Q) with |some _=>Gs s (s.eg g x)|none=>none
   |_=>none
  | .builtin .min=>match df (c.args.toList.map (s.eg g)) with |some vs=>dY Q (Builtin.min_ c.argTypes o.type vs.toArray)|none=>none
  | .builtin .max=>match df (c.args.toList.map (s.eg g)) with |some vs=>dY Q (Builtin.max_ c.argTypes o.type vs.toArray)|none=>none
  |_=>none
 |_=>none
end Pi
