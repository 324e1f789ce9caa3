/- The text PiBase. -/
import GoSem.Dispatch
abbrev zaa:=@List.length_map
abbrev zab:=@List.getD_eq_getElem?_getD
abbrev zac:=@Bool.and_eq_true
abbrev zad:=@List.getElem?_eq_getElem
abbrev zae:=@List.getElem?_eq_some_iff
abbrev zaf:=@List.take_succ_eq_append_getElem
abbrev zag:=@Nat.eq_of_beq_eq_true
abbrev zah:=@decide_eq_true_eq
abbrev zai:=@List.take_length
abbrev zaj:=@List.length_append
abbrev zak:=@List.take_of_length_le
abbrev zal:=@Nat.le_refl
abbrev zam:=@Option.some.injEq
abbrev zan:=@if_neg
abbrev zao:=@List.length_cons
abbrev zap:=@if_pos
abbrev zaq:=@List.mem_map
abbrev zar:=@Nat.mul_le_mul_right
abbrev zas:=@List.getElem_mem
abbrev zat:=@List.mem_cons
abbrev zau:=@List.length_take
abbrev zav:=@List.length_nil
abbrev zaw:=@Option.bind_some
abbrev zax:=@Array.getElem?_eq_some_iff
abbrev zay:=@Option.map_eq_some_iff
abbrev zaz:=@List.mem_append
abbrev zaA:=@List.mem_of_getElem?
abbrev zaB:=@List.eq_nil_of_length_eq_zero
abbrev zaC:=@List.map_append
abbrev zaD:=@Nat.zero_add
abbrev zaE:=@Bool.false_eq_true
abbrev zaF:=@Array.getD_eq_getD_getElem?
abbrev zaG:=@Bool.eq_iff_iff
abbrev zaH:=@Option.map_some
abbrev zaI:=@List.mem_cons_of_mem
abbrev zaJ:=@List.mem_singleton
abbrev zaK:=@List.append_assoc
abbrev zaL:=@Nat.le_trans
abbrev zaM:=@List.length_filter_le
abbrev zaN:=@List.getElem?_map
abbrev zaO:=@List.foldl_cons
abbrev zaP:=@decide_eq_false_iff_not
abbrev zaQ:=@List.getElem_of_mem
abbrev zaR:=@List.nodup_append
abbrev zaS:=@decide_eq_false
abbrev zaT:=@List.getElem?_append_left
abbrev zaU:=@List.mem_map_of_mem
abbrev zaV:=@List.getElem?_of_mem
abbrev zaW:=@Bool.true_and
abbrev zaX:=@Array.getElem?_setIfInBounds_ne
abbrev zaY:=@List.foldl_append
abbrev zaZ:=@Classical.byContradiction
abbrev za0:=@decide_eq_true
abbrev za1:=@beq_iff_eq
abbrev za2:=@Nat.add_mul
abbrev za3:=@List.any_eq_true
abbrev za4:=@List.map_cons
abbrev za5:=@List.drop_eq_getElem_cons
abbrev za6:=@Bool.not_eq_true
abbrev za7:=@List.getElem?_append_right
abbrev za8:=@Bool.or_eq_true
abbrev za9:=@List.nodup_cons
abbrev zba:=@List.mem_append_right
abbrev zbb:=@List.pairwise_iff_getElem
abbrev zbc:=@List.getElem?_set_ne
abbrev zbd:=@Nat.zero_le
abbrev zbe:=@List.pairwise_map
abbrev zbf:=@Nat.lt_of_lt_of_le
abbrev zbg:=@List.mem_append_left
abbrev zbh:=@Array.getElem?_setIfInBounds_self_of_lt
abbrev zbi:=@List.append_nil
abbrev zbj:=@List.all_eq_true
abbrev zbk:=@List.length_drop
abbrev zbl:=@cond_false
abbrev zbm:=@List.mem_of_mem_take
abbrev zbn:=@if_false
abbrev zbo:=@if_true
abbrev zbp:=@List.length_set
abbrev zbq:=@List.nil_append
abbrev zbr:=@List.cons.injEq
abbrev zbs:=@Array.toList_inj
abbrev zbt:=@Prod.mk.injEq
abbrev zbu:=@List.map_congr_left
abbrev zbv:=@Bool.not_eq_true'
abbrev zbw:=@List.getElem?_eq_none
abbrev zbx:=@Ne.symm
abbrev zby:=@Bool.false_or
abbrev zbz:=@List.findIdx?_eq_some_iff_getElem
abbrev zbA:=@beq_self_eq_true
abbrev zbB:=@Nat.one_mul
abbrev zbC:=@of_decide_eq_true
abbrev zbD:=@List.length_replicate
abbrev zbE:=@List.mem_cons_self
abbrev zbF:=@Int.le_refl
abbrev zbG:=@decide_eq_decide
abbrev zbH:=@List.map_reverse
abbrev zbI:=@Nat.add_assoc
abbrev zbJ:=@List.take_append_drop
abbrev zbK:=@List.getElem?_take
abbrev zbL:=@Nat.le_of_ble_eq_true
abbrev zbM:=@List.length_singleton
abbrev zbN:=@Array.getElem?_eq_getElem
abbrev zbO:=@List.findIdx?_eq_none_iff
abbrev zbP:=@List.count_cons_self
abbrev zbQ:=@Option.some.inj
abbrev zbR:=@Int.toNat_natCast
abbrev zbS:=@List.take_add_one
abbrev zbT:=@List.mem_filter
abbrev zbU:=@Option.bind_eq_some_iff
abbrev zbV:=@List.length_pos_iff
abbrev zbW:=@Bool.or_false
abbrev zbX:=@List.ext_getElem
abbrev zbY:=@cond_true
abbrev zbZ:=@List.isEmpty_iff
abbrev zb0:=@List.length_pos_of_mem
abbrev zb1:=@Nat.add_zero
abbrev zb2:=@Option.map_none
abbrev zb3:=@List.map_map
abbrev zb4:=@List.map_set
abbrev zb5:=@Function.comp_def
abbrev zb6:=@Bool.and_true
abbrev zb7:=@Array.getElem?_append_left
abbrev zb8:=@List.mem_of_mem_drop
abbrev zb9:=@List.count_le_length
abbrev zca:=@Option.getD_some
abbrev zcb:=@Nat.succ_le_succ
abbrev zcc:=@beq_eq_false_iff_ne
abbrev zcd:=@List.filter_sublist
abbrev zce:=@List.flatMap_append
abbrev zcf:=@Nat.ble_eq
abbrev zcg:=@List.length_erase_of_mem
abbrev zch:=@List.getElem?_drop
abbrev zci:=@List.take_left'
abbrev zcj:=@of_decide_eq_false
abbrev zck:=@List.any_append
abbrev zcl:=@List.getElem?_set_self
abbrev zcm:=@List.any_eq_false
abbrev zcn:=@Array.getElem?_toList
abbrev zco:=@Nat.mul_comm
abbrev zcp:=@List.singleton_append
abbrev zcq:=@List.pairwise_reverse
abbrev zcr:=@Bool.true_or
abbrev zcs:=@List.set_append_right
abbrev zct:=@List.drop_length
abbrev zcu:=@List.mem_reverse
abbrev zcv:=@Nat.min_eq_left
abbrev zcw:=@Nat.lt_or_gt_of_ne
abbrev zcx:=@getElem!_pos
abbrev zcy:=@List.pairwise_cons
abbrev zcz:=@List.map_nil
abbrev zcA:=@and_true
abbrev zcB:=@List.find?_eq_none
abbrev zcC:=@List.filter_append
abbrev zcD:=@List.drop_zero
abbrev zcE:=@List.mem_take_iff_getElem
abbrev zcF:=@List.mem_or_eq_of_mem_set
abbrev zcG:=@List.ext_getElem?
abbrev zcH:=@List.size_toArray
abbrev zcI:=@List.flatMap_cons
abbrev zcJ:=@Bool.not_eq_false
abbrev zcK:=@List.getElem?_cons_succ
abbrev zcL:=@true_and
abbrev zcM:=@List.map_id
abbrev zcN:=@List.filter_cons_of_pos
abbrev zcO:=@List.filter_cons_of_neg
abbrev zcP:=@List.mem_flatMap
abbrev zcQ:=@Array.size_range
abbrev zcR:=@Nat.lt_succ_self
abbrev zcS:=@List.getElem_set
abbrev zcT:=@List.drop_eq_nil_of_le
abbrev zcU:=@Array.getElem?_eq_none
abbrev zcV:=@Nat.div_lt_iff_lt_mul
abbrev zcW:=@Array.getElem?_modify
abbrev zcX:=@not_or
abbrev zcY:=@List.count_cons_of_ne
abbrev zcZ:=@List.eq_nil_or_concat
abbrev zc0:=@List.length_eraseIdx
abbrev zc1:=@Bool.or_eq_false_iff
abbrev zc2:=@List.perm_cons_erase
abbrev zc3:=@List.mem_iff_getElem
abbrev zc4:=@List.drop_take
abbrev zc5:=@Array.length_toList
abbrev zc6:=@List.filter_eq_self
abbrev zc7:=@Array.foldl_toList
abbrev zc8:=@Nat.eq_or_lt_of_le
abbrev zc9:=@Array.ext_getElem?
abbrev zda:=@Nat.lt_of_le_of_ne
abbrev zdb:=@and_assoc
abbrev zdc:=@List.Nodup.sublist
abbrev zdd:=@List.any_cons
abbrev zde:=@List.count_eq_zero
abbrev zdf:=@List.map_singleton
abbrev zdg:=@List.length_filter_eq_length_iff
abbrev zdh:=@Nat.mod_lt
abbrev zdi:=@Nat.lt_trichotomy
abbrev zdj:=@Option.isSome_map
abbrev zdk:=@List.reverse_perm
abbrev zdl:=@List.getElem_take
abbrev zdm:=@List.eq_nil_iff_forall_not_mem
abbrev zdn:=@Nat.sub_self
abbrev zdo:=@List.any_nil
abbrev zdp:=@List.find?_eq_some_iff_getElem
abbrev zdq:=@Array.toList_map
abbrev zdr:=@List.cons_append
abbrev zds:=@List.not_mem_nil
abbrev zdt:=@Nat.le_add_right
abbrev zdu:=@Nat.div_add_mod
abbrev zdv:=@Nat.le_succ
abbrev zdw:=@List.perm_ext_iff_of_nodup
abbrev zdx:=@List.drop_drop
abbrev zdy:=@List.getElem_append_right
abbrev zdz:=@Array.getElem?_replicate
abbrev zdA:=@List.Perm.eq_of_pairwise
abbrev zdB:=@Bool.not_true
abbrev zdC:=@eq_comm
abbrev zdD:=@Bool.or_assoc
namespace Pi
open Go
inductive D where
 |bool (b:Bool)
 |int (k:IntKind) (n:Int)
 |str (s:List UInt8)
 |agg (cs:List D)
 |sl (k:Nat) (es:List D)
 |e9
 |sW
 |ui
 |ES
 |ET
 deriving Inhabited
def D.cells:D->List D
 | .agg cs=>cs
 |x=>[x]
def D.bL:D->Bool
 | .agg _=>false
 |_=>true
inductive P where
 |d (x:D)
 |agg (ps:List P)
 |ref (n v off:Nat)
 |dJ (n v i k off:Nat)
 |fh (x:D) (off:Nat)
 |sl (n v len:Nat)
 |mG (n v k off len:Nat)
 |mp (n v:Nat)
 |fn (f:FuncId) (cW:List P)
 |dz (ps:List P)
 |when (slot:Nat) (want:Bool) (p:P)
 |bad
 deriving Inhabited
def P.skip:P:= .when 0 false .bad
def P.bL:P->Bool
 | .d x=>x.bL
 | .ref .. | .dJ .. | .fh .. | .sl .. | .mG .. | .mp .. | .fn ..=>true
 |_=>false
inductive Obj where
 |gone
 |box (ty:TypeId) (ps:List P)
 |arr (ty:TypeId) (fz:Bool) (es:List D)
 |map (kt:Nat) (get:D->Option D) (n:Int) (fz:Bool)
 |iter (kt vt:Nat) (left:D->Option D) (cur:Option (D×D))
 |eJ
 |kM (kt:Nat) (get:D->Option D) (n:Int) (p:P) (kd:D)
 deriving Inhabited
structure En where
 aV:Nat
 tag:Option Nat
 obj:Obj
def lk{α:Type}:List (Nat×α)->Nat->Option α
 | [],_=>none
 | (k,v)::r,j=>if Nat.beq k j then some v else lk r j
def ins{α:Type}(k:Nat)(v:α):List (Nat×α)->List (Nat×α)
 | []=>[(k,v)]
 | (j,u)::r=>if Nat.blt k j then(k,v)::(j,u)::r else if Nat.beq k j then(k,v)::r else(j,u)::ins k v r
structure S where
 n:Nat
 tm:List (Nat×P)
 rg:List (Nat×En)
def D.gG:D->Option Value
 | .bool b=>some (.bool b)
 | .int k n=>some (.int k n)
 | .str s=>some (.string ⟨⟨s⟩⟩)
 | .e9=>some (.slice none 0 0)
 | .sW=>some (.pointer none)
 | .ui=>some (.map none)
 | .ES=>some .nilFunc
 | .ET=>some .nilIface
 | .agg _ | .sl _ _=>none
def D.dt:List D->Option (List Value)
 | []=>some []
 |x::r=>match x.gG,D.dt r with |some v,some vs=>some (v::vs)|_,_=>none
def D.cD:D->Option Value
 | .agg cs=>match D.dt cs with |some vs=>some (.agg ⟨vs⟩)|none=>none
 |x=>x.gG
def P.cD:P->Option Value
 | .d x=>x.cD
 |_=>none
def D.nr:Value->Option D
 | .bool b=>some (.bool b)
 | .int k n=>some (.int k n)
 | .string s=>some (.str s.data.toList)
 | .slice none 0 0=>some .e9
 | .pointer none=>some .sW
 | .map none=>some .ui
 | .nilFunc=>some .ES
 | .nilIface=>some .ET
 |_=>none
def D.EU:List Value->Option (List D)
 | []=>some []
 |v::r=>match D.nr v,D.EU r with |some x,some xs=>some (x::xs)|_,_=>none
def D.vQ:Value->Option D
 | .agg cs=>match D.EU cs.toList with |some xs=>some (.agg xs)|none=>none
 |v=>D.nr v
def ax{α:Type}(Q:Program):Sem α->Option α
 | .pure a=>some a
 | .program k=>ax Q (k Q)
 | .mark _ k=>ax Q k
 |_=>none
def ey(Q:Program)(m:Sem Value):Option P:=
 match ax Q m with
 |some v=>match D.vQ v with |some x=>some (.d x)|none=>none
 |none=>none
def S.ev(s:S):Operand->P
 | .tmp t=>(lk s.tm t).getD .bad
 | .const v=>match D.vQ v with |some x=> .d x |none=> .bad
 | .func f=> .fn f []
 | .global _=> .bad
def P.under(_:Option (Nat×Bool)):P->P
 | .when ..=> .bad
 |p=>p
def S.eg(s:S) g x:=(s.ev x).under g
def S.put(s:S)(dst:Option Nat)(p:P):=
 match dst with
 |none=>some s
 |some t=>if Nat.blt t s.n then some ⟨s.n,ins t p s.tm,s.rg⟩ else none
def Cj:List P->Option (List D)
 | []=>some []
 | .d x::r=>match Cj r with |some xs=>some (x::xs)|none=>none
 |_=>none
def Nx(ps:List P):P:=match Cj ps with |some xs=> .d (.agg xs)|none=> .agg ps
def P.cells:P->List P
 | .agg ps=>ps
 | .d (.agg cs)=>cs.map .d
 |p=>[p]
def P.oU:P->Bool
 | .agg _ | .d _=>true
 |p=>p.bL
mutual
def D.gH:D->D->Bool
 | .bool a,.bool b=>a==b
 | .int k a,.int k' b=>k==k'&&a==b
 | .str a,.str b=>a==b
 | .agg a,.agg b=>D.Lh a b
 | .sl k a,.sl k' b=>k==k'&&D.Lh a b
 | .e9,.e9 | .sW,.sW | .ui,.ui | .ES,.ES | .ET,.ET=>true
 |_,_=>false
def D.Lh:List D->List D->Bool
 | [],[]=>true
 |x::xs,y::ys=>D.gH x y&&D.Lh xs ys
 |_,_=>false
end
def aX k v (get:D->Option D):=λk'=>bif D.gH k k' then some v else get k'
def jg k (get:D->Option D):=λk'=>bif D.gH k k' then none else get k'
def sz(Q:Program)(t:TypeId):Option Nat:=match Q.info? t,Q.underlying t with |some i,some _=>some i.size |_,_=>none
def dT(Q:Program)(t:TypeId):Bool:=match Q.underlying t with |some (.struct _)|some (.array _ _)=>true |_=>false
def cX(Q:Program)(t:TypeId):Option TypeId:=match Q.underlying t with |some (.slice e)=>some e |_=>none
def Dd(Q:Program)(t:TypeId)(ps:List P)(off:Nat):Option P:=
 match sz Q t with
 |none=>none
 |some k=>if dT Q t then(if Nat.ble (off+k) ps.length then some (Nx ((ps.drop off).take k)) else none) else ps[off]?
def jI(Q:Program)(t:TypeId)(cs:List D)(off:Nat):Option D:=
 match sz Q t with
 |none=>none
 |some k=>if dT Q t then(if Nat.ble (off+k) cs.length then some (.agg ((cs.drop off).take k)) else none) else cs[off]?
def S.obj(s:S)(n v:Nat):Option Obj:=
 match lk s.rg n with
 |some e=>if Nat.beq e.aV v then some e.obj else none
 |none=>none
def HO(Q:Program)(go:TypeId->D->D->Option Bool):List Field->List D->List D->Option Bool
 | [],_,_=>some true
 |f::r,xs,ys=>match f.name== "_" with
  |true=>HO Q go r xs ys
  |false=>match jI Q f.type xs f.offset,jI Q f.type ys f.offset with
   |some x,some y=>match go f.type x y,HO Q go r xs ys with
    |some a,some b=>some (a&&b)
    |_,_=>none
   |_,_=>none
def eqD(Q:Program):Nat->TypeId->D->D->Option Bool
 |0,_,_,_=>none
 |n+1,t,x,y=>match Q.underlying t with
  |some .bool=>match x,y with | .bool a,.bool b=>some (a==b)|_,_=>none
  |some (.int _)=>match x,y with | .int k a,.int k' b=>(match k==k' with |true=>some (a==b)|false=>none)|_,_=>none
  |some .string=>match x,y with | .str a,.str b=>some (a==b)|_,_=>none
  |some (.struct fs)=>match x,y with
   | .agg xs,.agg ys=>match Q.stoodInHeld t with
    |true=>none
    |false=>HO Q (eqD Q n) fs.toList xs ys
   |_,_=>none
  |_=>none
def qp(Q:Program):Nat->List Field->Nat->Bool
 |off,[],rU=>Nat.beq off rU
 |off,f::r,rU=>Nat.beq f.offset off&&qp Q (off+Q.cellsOf f.type) r rU
def jh(Q:Program):Nat->TypeId->D->Bool
 |0,_,_=>false
 |n+1,t,x=>match Q.underlying t with
  |some .bool=>(match x with | .bool _=>true |_=>false)
  |some (.int k)=>(match x with | .int k' _=>k==k' |_=>false)
  |some .string=>(match x with | .str _=>true |_=>false)
  |some (.struct fs)=>(match x with
   | .agg cs=>Nat.beq cs.length (Q.cellsOf t)&&qp Q 0 fs.toList (Q.cellsOf t)&& !Q.stoodInHeld t&&fs.toList.all λf=> !(f.name== "_")&&(dT Q f.type ||Nat.beq (Q.cellsOf f.type) 1)&&(match jI Q f.type cs f.offset with |some y=>jh Q n f.type y |none=>false)
   |_=>false)
  |_=>false
def D.Qb:D->Bool
 | .bool _ | .int _ _ | .str _=>true
 |_=>false
def fp Q kt k:=jh Q 20 kt k&&k.cells.all D.Qb&&(match k.cD with
 |some v=>(match ax Q (Instr.checkKey false 10000 kt v),ax Q (Instr.checkKey true 10000 kt v) with |some _,some _=>true |_,_=>false)
 |none=>false)
def jJ(Q:Program)(t:TypeId):Option (TypeId×TypeId):=match Q.underlying t with |some (.map k e)=>some (k,e)|_=>none
def S.setObj(s:S)(n:Nat)(o:Obj):S:=
 match lk s.rg n with
 |some e=>{s with rg:=ins n ⟨e.aV,e.tag,o⟩ s.rg}
 |none=>s
def S.new(s:S)(n:Nat)(o:Obj):Option (S×Nat):=
 match lk s.rg n with
 |none=>some ({s with rg:=ins n ⟨0,none,o⟩ s.rg},0)
 |some e=>match e.obj with
  | .gone=>some ({s with rg:=ins n ⟨e.aV+1,none,o⟩ s.rg},e.aV+1)
  |_=>match e.tag with
   |none=>some ({s with rg:=ins n ⟨e.aV+1,none,o⟩ s.rg},e.aV+1)
   |some _=>none
def splice(ps:List P) off qs:=ps.take off++qs++ps.drop (off+qs.length)
def site(dst:Option Nat):=1000+dst.getD 999
def S.live(s:S)(n v:Nat):Bool:=
 match s.obj n v with
 |some .gone=>false
 |some _=>true
 |none=>false
def k8(s:S)(p:P):=
 match p with
 | .ref n v _ | .dJ n v _ _ _=>if s.live n v then some p else none
 | .fh .. | .fn ..=>some p
 |_=>none
def sf(Q:Program)(s:S)(t:TypeId):P->Option P
 | .ref n v off=>match s.obj n v with |some (.box _ ps)=>Dd Q t ps off |_=>none
 | .dJ n v i k off=>match s.obj n v with
  |some (.arr ty _ es)=>match sz Q ty,es[i]? with
   |some k',some x=>if Nat.beq k k' then(match jI Q t x.cells off with |some y=>some (.d y)|none=>none) else none
   |_,_=>none
  |_=>none
 | .fh x off=>match jI Q t x.cells off with |some y=>some (.d y)|none=>none
 |_=>none
def zp(Q:Program)(t:TypeId)(f:Nat):Option Nat:=
 match Q.underlying t with
 |some (.struct fs)=>match fs[f]? with
  |some fl=>match sz Q fl.type with |some (_+1)=>some fl.offset |_=>none
  |none=>none
 |_=>none
def ji(Q:Program)(s:S)(t:TypeId)(f:Nat)(p:P):Option P:=
 match zp Q t f with
 |none=>none
 |some o=>match p with
  | .ref n v off=>if s.live n v then some (.ref n v (off+o)) else none
  | .dJ n v i k off=>if s.live n v then some (.dJ n v i k (off+o)) else none
  | .fh x off=>some (.fh x (off+o))
  |_=>none
def qq(Q:Program)(s:S)(len:Nat)(e:TypeId)(p:P)(i:P):Option P:=
 match i,sz Q e with
 | .d (.int _ j),some (k+1)=>if 0<=j/\j<(len:Int) then(match p with
  | .ref n v off=>if s.live n v then some (.ref n v (off+j.toNat*(k+1))) else none
  | .dJ n v i k' off=>if s.live n v then some (.dJ n v i k' (off+j.toNat*(k+1))) else none
  | .fh x off=>some (.fh x (off+j.toNat*(k+1)))
  |_=>none) else none
 |_,_=>none
def Ny(Q:Program)(t:TypeId):Option (Nat×TypeId):=match Q.underlying t with |some (.array n e)=>some (n,e)|_=>none
def fq(Q:Program)(s:S)(t:TypeId)(p:P)(i:P):Option P:=
 match Ny Q t with
 |some (n,e)=>qq Q s n e p i
 |none=>match cX Q t,i with
 |some e,.d (.int _ j)=>match sz Q e with
  |some (k+1)=>match p with
   | .sl n v len=>match s.obj n v with
    |some (.arr ty _ _)=>if Nat.beq ty e then(if 0<=j/\j<(len:Int) then some (.dJ n v j.toNat (k+1) 0) else none) else none
    |_=>none
   | .mG n v k' off len=>match s.obj n v with
    |some (.arr ty _ _)=>if Nat.beq ty e&&Nat.beq k' (k+1) then(if 0<=j/\j<(len:Int) then some (.dJ n v (off+j.toNat) (k+1) 0) else none) else none
    |_=>none
   | .d (.sl k' es)=>if Nat.beq k' (k+1) then(if 0<=j then(match es[j.toNat]? with |some x=>some (.fh x 0)|none=>none) else none) else none
   |_=>none
  |_=>none
 |_,_=>none
def dK(len:Nat)(lo hi:Option P):=
 match(match hi with |none=>some len |some (.d (.int _ j))=>if 0<=j/\j<=(len:Int) then some j.toNat else none |_=>none) with
 |none=>none
 |some h=>match lo with
  |none=>some (0,h)
  |some (.d (.int _ j))=>if 0<=j/\j<=(h:Int) then some (j.toNat,h) else none
  |_=>none
def pP(Q:Program)(s:S)(t:TypeId)(p:P)(lo:Option P):P:=
 match p with
 | .sl n v len=>match lo,s.obj n v,(cX Q t).bind (sz Q) with
  |some _,some (.arr ty true es),some (k+1)=>(match sz Q ty with |some k'=>if Nat.beq k' (k+1) then .d (.sl (k+1) (es.take len)) else p |none=>p)
  |_,_,_=>p
 |_=>p
def yB(Q:Program)(s:S)(t:TypeId)(p:P)(lo hi:Option P):Option P:=
 match cX Q t with
 |none=>none
 |some e=>match sz Q e with
  |some (k+1)=>match p with
   | .d (.sl k' es)=>if Nat.beq k' (k+1) then(match dK es.length lo hi with |some (l,h)=>some (.d (.sl k' ((es.take h).drop l)))|none=>none) else none
   | .sl n v len=>match s.obj n v,lo with
    |some (.arr _ _ _),none=>match dK len none hi with |some (_,h)=>some (.sl n v h)|none=>none
    |some (.arr ty _ _),some lo=>match sz Q ty with
     |some k'=>if Nat.beq k' (k+1) then(match dK len (some lo) hi with |some (l,h)=>some (.mG n v (k+1) l (h-l))|none=>none) else none
     |none=>none
    |_,_=>none
   | .mG n v k' off len=>match s.obj n v with
    |some (.arr _ _ _)=>if Nat.beq k' (k+1) then(match dK len lo hi with |some (l,h)=>some (.mG n v (k+1) (off+l) (h-l))|none=>none) else none
    |_=>none
   |_=>none
  |_=>none
def nt Q s t p lo hi:=yB Q s t (pP Q s t p lo) lo hi
def HP(s:S)(p:P):Option P:=
 match p with
 | .sl n v len | .mG n v _ _ len=>if s.live n v then some (.d (.int .i64 len)) else none
 | .d (.sl _ es)=>some (.d (.int .i64 es.length))
 |_=>none
def HQ(s:S)(p:P):Option P:=
 match p with
 | .mp n v=>match s.obj n v with |some (.map _ _ c _)=>some (.d (.int .i64 c))|_=>none
 |_=>none
def vR(s:S)(p q:P):=
 match p,q with
 | .ref n v _,.d .sW | .dJ n v _ _ _,.d .sW | .d .sW,.ref n v _ | .d .sW,.dJ n v _ _ _=>if s.live n v then some false else none
 | .fh _ _,.d .sW | .d .sW,.fh _ _=>some false
 |_,_=>none
def pY Q s op t x y (p q:P):=
 match p.cD,q.cD with
 |some a,some b=>ey Q (do eqGuard op t x y a b;binOp op t a b)
 |_,_=>match Q.underlying t,vR s p q,op with
  |some (.pointer _),some r,.eql=>some (.d (.bool r))
  |some (.pointer _),some r,.neq=>some (.d (.bool (!r)))
  |_,_,_=>none
def dt:List P->Option (List Value)
 | []=>some []
 |p::r=>match p.cD,dt r with |some v,some vs=>some (v::vs)|_,_=>none
def P.Li:P->Option (List P)
 | .agg ps=>some ps
 | .d (.agg cs)=>some (cs.map .d)
 |_=>none
def Lj(Q:Program)(t:TypeId)(f:Nat)(p:P):Option P:=
 match Q.underlying t,p.Li with
 |some (.struct fs),some ps=>match fs[f]? with
  |some fl=>Dd Q fl.type ps fl.offset
  |none=>none
 |_,_=>none
def Lk(Q:Program)(n:Nat)(e:TypeId)(p:P)(i:P):Option P:=
 match p.Li,i,sz Q e with
 |some ps,.d (.int _ j),some k=>if 0<=j/\j<(n:Int) then Dd Q e ps (j.toNat*k) else none
 |_,_,_=>none
def aQ(o:Option D) z:=o.getD z
def eM(Q:Program)(s:S)(t:TypeId)(p i:P)(ok:Bool)(z:D):Option P:=
 match jJ Q t,p,i with
 |some (kt,_),.mp n v,.d k=>match s.obj n v with
  |some (.map zq get _ _)=>if Nat.beq kt zq&&fp Q kt k then some (if ok then .dz [.d ((get k).getD z),.d (.bool (get k).isSome)] else .d ((get k).getD z)) else none
  |some (.kM zq get _ _ _)=>if !ok&&Nat.beq kt zq&&fp Q kt k then some (.d ((get k).getD z)) else none
  |_=>none
 |some (kt,_),.d .ui,.d k=>if fp Q kt k then some (if ok then .dz [.d z,.d (.bool false)] else .d z) else none
 |_,_,_=>none
def qt(s:S)(p:P):Option P:=
 match p with
 | .ref n v 0=>match s.obj n v with
  |some (.iter _ _ _ (some (k,x)))=>some (.dz [.d k,.d x])
  |_=>none
 |_=>none
def eK(Q:Program)(t:TypeId):Option D:=
 match Q.info? t with
 |some i=>match i.zero with |some z=>D.vQ z |none=>none
 |none=>none
def Nz(fs:Array Field):=fs.mapM λf=>do pure (f.offset,<-sizeOf f.type)
def HR(pl:Array (Nat×Nat)):List P->List (Nat×P)->Option (List P)
 |ps,[]=>some ps
 |ps,(i,p)::r=>match pl[i]? with
  |some (off,k)=>if Nat.beq p.cells.length k&&Nat.ble (off+k) ps.length&&p.oU then HR pl (splice ps off p.cells) r else none
  |none=>none
def zr(Q:Program)(t:TypeId)(parts:List (Nat×P)):Option P:=
 match Q.underlying t,eK Q t with
 |some (.struct fs),some z=>match ax Q (Nz fs) with
  |some pl=>match HR pl (z.cells.map .d) parts with
   |some qs=>some (Nx qs)
   |none=>none
  |none=>none
 |_,_=>none
def pv(Q:Program)(s:S)(o:Oper)(g:Option (Nat×Bool)):Option P:=
 match o.op with
 | .move x | .assign x=>some (s.eg g x)
 | .pick c a b=>match s.eg g c with | .d (.bool r)=>some (if r then s.eg g a else s.eg g b)|_=>none
 | .nilCheck x=>k8 s (s.eg g x)
 | .binOp op t x y _=>pY Q s op t x y (s.eg g x) (s.eg g y)
 | .unOp op _ x=>match(s.eg g x).cD with |some v=>ey Q (Op.unary op v)|none=>none
 | .convert a b x=>match(s.eg g x).cD with |some v=>ey Q (Go.convert a b v)|none=>none
 | .load t x=>sf Q s t (s.eg g x)
 | .fieldAddr t x f=>ji Q s t f (s.eg g x)
 | .indexAddr t x i=>fq Q s t (s.eg g x) (s.eg g i)
 | .index t x i=>match Q.underlying t with
  |some (.array n e)=>Lk Q n e (s.eg g x) (s.eg g i)
  |_=>match(s.eg g x).cD,(s.eg g i).cD with |some a,some b=>ey Q (Instr.index t a b)|_,_=>none
 | .field t x f=>Lj Q t f (s.eg g x)
 | .extract x i=>match s.eg g x with | .dz ps=>ps[i]? |_=>none
 | .lookup t x i ok=>match(jJ Q t).bind λy=>eK Q y.2 with
  |some z=>eM Q s t (s.eg g x) (s.eg g i) ok z
  |none=>none
 | .entry x=>qt s (s.eg g x)
 | .slice t x lo hi none=>match(s.eg g x).cD with
  |some (.string b)=>match(match lo with |none=>some none |some l=>(s.eg g l).cD.map some),(match hi with |none=>some none |some h=>(s.eg g h).cD.map some) with
   |some l,some h=>ey Q (Instr.sliceAt t (.string b) l h none)
   |_,_=>none
  |_=>nt Q s t (s.eg g x) (lo.map (s.eg g)) (hi.map (s.eg g))
 | .build t parts=>match dt (parts.toList.map λx=>s.eg g x.2) with
  |some vs=>ey Q (Instr.build t ((parts.toList.map (·.1)).zip vs).toArray)
  |none=>zr Q t (parts.toList.map λx=>(x.1,s.eg g x.2))
 | .makeFunc (.func f) first cW=>match first.toList with
  | []=>some (.fn f (cW.toList.map (s.eg g)))
  |_=>none
 | .call c=>match c.callee with
  | .builtin .len=>match c.args.toList with
   | [x]=>match(s.eg g x).cD with
    |some v=>ey Q (Builtin.len_ c.argTypes o.type #[v])
    |none=>match(c.argTypes[0]?).bind (cX Q) with
     |some _=>HP s (s.eg g x)
     |none=>match(c.argTypes[0]?).bind (jJ Q) with |some _=>HQ s (s.eg g x)|none=>none
   |_=>none
  | .builtin .min=>match dt (c.args.toList.map (s.eg g)) with |some vs=>ey Q (Builtin.min_ c.argTypes o.type vs.toArray)|none=>none
  | .builtin .max=>match dt (c.args.toList.map (s.eg g)) with |some vs=>ey Q (Builtin.max_ c.argTypes o.type vs.toArray)|none=>none
  |_=>none
 |_=>none
end Pi
