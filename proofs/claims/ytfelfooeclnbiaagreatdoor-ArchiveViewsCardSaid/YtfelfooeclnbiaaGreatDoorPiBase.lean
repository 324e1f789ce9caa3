/- The text PiBase. -/
import GoSem.Dispatch
abbrev zaa:=@List.length_map
abbrev zab:=@List.getD_eq_getElem?_getD
abbrev zac:=@List.getElem?_eq_getElem
abbrev zad:=@Bool.and_eq_true
abbrev zae:=@List.getElem?_eq_some_iff
abbrev zaf:=@List.take_succ_eq_append_getElem
abbrev zag:=@List.take_length
abbrev zah:=@Nat.eq_of_beq_eq_true
abbrev zai:=@Nat.le_refl
abbrev zaj:=@List.length_append
abbrev zak:=@Option.some.injEq
abbrev zal:=@decide_eq_true_eq
abbrev zam:=@List.length_cons
abbrev zan:=@List.take_of_length_le
abbrev zao:=@Nat.mul_le_mul_right
abbrev zap:=@if_neg
abbrev zaq:=@if_pos
abbrev zar:=@List.getElem_mem
abbrev zas:=@List.mem_cons
abbrev zat:=@List.length_take
abbrev zau:=@Array.getElem?_eq_some_iff
abbrev zav:=@Option.map_eq_some_iff
abbrev zaw:=@Option.bind_some
abbrev zax:=@List.eq_nil_of_length_eq_zero
abbrev zay:=@List.length_nil
abbrev zaz:=@List.mem_of_getElem?
abbrev zaA:=@Array.getD_eq_getD_getElem?
abbrev zaB:=@List.mem_append
abbrev zaC:=@Bool.false_eq_true
abbrev zaD:=@List.getElem?_map
abbrev zaE:=@Nat.le_trans
abbrev zaF:=@List.append_assoc
abbrev zaG:=@List.map_append
abbrev zaH:=@List.mem_cons_of_mem
abbrev zaI:=@Nat.zero_add
abbrev zaJ:=@Option.map_some
abbrev zaK:=@Classical.byContradiction
abbrev zaL:=@Prod.mk.injEq
abbrev zaM:=@decide_eq_false_iff_not
abbrev zaN:=@List.getElem_of_mem
abbrev zaO:=@List.map_cons
abbrev zaP:=@List.getElem?_of_mem
abbrev zaQ:=@List.getElem?_append_left
abbrev zaR:=@Nat.add_mul
abbrev zaS:=@List.getElem?_append_right
abbrev zaT:=@List.nil_append
abbrev zaU:=@List.length_singleton
abbrev zaV:=@Array.getElem?_setIfInBounds_ne
abbrev zaW:=@Nat.lt_of_lt_of_le
abbrev zaX:=@List.mem_map
abbrev zaY:=@List.getElem?_set_ne
abbrev zaZ:=@List.all_eq_true
abbrev za0:=@List.length_drop
abbrev za1:=@Bool.or_eq_true
abbrev za2:=@List.length_filter_le
abbrev za3:=@List.mem_of_mem_take
abbrev za4:=@List.foldl_cons
abbrev za5:=@decide_eq_false
abbrev za6:=@List.mem_singleton
abbrev za7:=@Nat.zero_le
abbrev za8:=@List.nodup_cons
abbrev za9:=@List.drop_eq_getElem_cons
abbrev zba:=@List.pairwise_iff_getElem
abbrev zbb:=@List.nodup_append
abbrev zbc:=@Int.toNat_natCast
abbrev zbd:=@List.foldl_append
abbrev zbe:=@List.mem_append_left
abbrev zbf:=@Bool.true_and
abbrev zbg:=@if_true
abbrev zbh:=@Bool.eq_iff_iff
abbrev zbi:=@List.length_set
abbrev zbj:=@List.getElem?_eq_none
abbrev zbk:=@List.mem_append_right
abbrev zbl:=@List.append_nil
abbrev zbm:=@List.length_pos_iff
abbrev zbn:=@List.drop_zero
abbrev zbo:=@List.take_add_one
abbrev zbp:=@beq_iff_eq
abbrev zbq:=@if_false
abbrev zbr:=@List.getElem?_take
abbrev zbs:=@Ne.symm
abbrev zbt:=@List.mem_map_of_mem
abbrev zbu:=@List.flatMap_append
abbrev zbv:=@List.take_append_drop
abbrev zbw:=@decide_eq_true
abbrev zbx:=@Array.toList_inj
abbrev zby:=@Option.getD_some
abbrev zbz:=@Nat.one_mul
abbrev zbA:=@Bool.not_eq_true'
abbrev zbB:=@List.flatMap_cons
abbrev zbC:=@List.length_replicate
abbrev zbD:=@Array.getElem?_setIfInBounds_self_of_lt
abbrev zbE:=@Array.getElem?_modify
abbrev zbF:=@List.cons_append
abbrev zbG:=@List.any_eq_true
abbrev zbH:=@Nat.add_assoc
abbrev zbI:=@Int.le_refl
abbrev zbJ:=@Nat.le_of_ble_eq_true
abbrev zbK:=@Nat.mul_comm
abbrev zbL:=@UInt8.toNat_ofNat'
abbrev zbM:=@List.findIdx?_eq_some_iff_getElem
abbrev zbN:=@Array.getElem?_eq_getElem
abbrev zbO:=@Option.bind_eq_some_iff
abbrev zbP:=@List.map_congr_left
abbrev zbQ:=@beq_eq_false_iff_ne
abbrev zbR:=@List.getD_cons_zero
abbrev zbS:=@Bool.not_eq_true
abbrev zbT:=@List.mem_cons_self
abbrev zbU:=@Array.getElem?_toList
abbrev zbV:=@Nat.add_zero
abbrev zbW:=@Nat.min_eq_left
abbrev zbX:=@List.cons.injEq
abbrev zbY:=@UInt8.toNat_inj
abbrev zbZ:=@List.takeWhile_prefix
abbrev zb0:=@List.mem_filter
abbrev zb1:=@of_decide_eq_true
abbrev zb2:=@Array.getElem?_append_left
abbrev zb3:=@List.mem_of_mem_drop
abbrev zb4:=@List.findIdx?_eq_none_iff
abbrev zb5:=@List.isEmpty_iff
abbrev zb6:=@List.drop_succ_cons
abbrev zb7:=@Nat.ble_eq
abbrev zb8:=@List.map_nil
abbrev zb9:=@Option.some.inj
abbrev zca:=@List.getElem?_drop
abbrev zcb:=@Bool.false_or
abbrev zcc:=@List.any_append
abbrev zcd:=@List.filter_append
abbrev zce:=@List.filter_cons_of_pos
abbrev zcf:=@List.filter_cons_of_neg
abbrev zcg:=@List.drop_eq_nil_of_le
abbrev zch:=@List.getElem?_set_self
abbrev zci:=@Array.getElem?_eq_none
abbrev zcj:=@cond_false
abbrev zck:=@List.singleton_append
abbrev zcl:=@List.not_mem_nil
abbrev zcm:=@decide_eq_decide
abbrev zcn:=@List.getD_cons_succ
abbrev zco:=@List.filter_sublist
abbrev zcp:=@List.filter_nil
abbrev zcq:=@Nat.lt_or_gt_of_ne
abbrev zcr:=@of_decide_eq_false
abbrev zcs:=@List.all_takeWhile
abbrev zct:=@List.ext_getElem?
abbrev zcu:=@List.size_toArray
abbrev zcv:=@List.getElem_take
abbrev zcw:=@List.any_eq_false
abbrev zcx:=@Bool.not_eq_false
abbrev zcy:=@List.getElem?_cons_succ
abbrev zcz:=@List.prefix_iff_eq_take
abbrev zcA:=@Nat.mod_eq_of_lt
abbrev zcB:=@List.mem_flatMap
abbrev zcC:=@List.map_reverse
abbrev zcD:=@Option.map_none
abbrev zcE:=@Nat.div_lt_iff_lt_mul
abbrev zcF:=@not_or
abbrev zcG:=@cond_true
abbrev zcH:=@List.take_left'
abbrev zcI:=@Nat.pow_succ
abbrev zcJ:=@List.pairwise_reverse
abbrev zcK:=@List.eq_nil_or_concat
abbrev zcL:=@Nat.mod_lt
abbrev zcM:=@true_and
abbrev zcN:=@Bool.or_eq_false_iff
abbrev zcO:=@Nat.pow_le_pow_right
abbrev zcP:=@List.drop_take
abbrev zcQ:=@Array.length_toList
abbrev zcR:=@Nat.le_succ
abbrev zcS:=@Nat.mul_one
abbrev zcT:=@Array.foldl_toList
abbrev zcU:=@Nat.eq_or_lt_of_le
abbrev zcV:=@Array.ext_getElem?
abbrev zcW:=@Option.toList_some
abbrev zcX:=@List.any_cons
abbrev zcY:=@Bool.or_false
abbrev zcZ:=@Bool.or_assoc
abbrev zc0:=@List.pairwise_cons
abbrev zc1:=@Bool.and_true
abbrev zc2:=@Function.comp_def
abbrev zc3:=@List.reverse_perm
abbrev zc4:=@List.eq_nil_iff_forall_not_mem
abbrev zc5:=@getElem!_pos
abbrev zc6:=@List.any_nil
abbrev zc7:=@beq_self_eq_true
abbrev zc8:=@Array.toList_map
abbrev zc9:=@List.take_append
abbrev zda:=@List.drop_append
abbrev zdb:=@Array.size_range
abbrev zdc:=@Array.getElem?_setIfInBounds
abbrev zdd:=@and_true
abbrev zde:=@Nat.div_add_mod
abbrev zdf:=@Nat.mul_add
abbrev zdg:=@List.drop_drop
abbrev zdh:=@List.mem_or_eq_of_mem_set
abbrev zdi:=@Array.getElem?_replicate
abbrev zdj:=@Bool.not_true
abbrev zdk:=@or_false
abbrev zdl:=@List.length_eq_zero_iff
namespace Pi
open Go
inductive D where
 |bool (b:Bool)
 |int (k:IntKind) (n:Int)
 |str (s:List UInt8)
 |agg (cs:List D)
 |sl (k:Nat) (es:List D)
 |dS
 |ni
 |se
 |BX
 |oY
 deriving Inhabited
def D.cells:D->List D
 | .agg cs=>cs
 |x=>[x]
def D.bt:D->Bool
 | .agg _=>false
 |_=>true
inductive P where
 |d (x:D)
 |agg (ps:List P)
 |ref (n v off:Nat)
 |dj (n v i k off:Nat)
 |eX (x:D) (off:Nat)
 |sl (n v len:Nat)
 |lu (n v k off len:Nat)
 |mp (n v:Nat)
 |fn (f:FuncId) (cF:List P)
 |bI (ps:List P)
 |when (slot:Nat) (want:Bool) (p:P)
 |bad
 deriving Inhabited
def P.skip:P:= .when 0 false .bad
def P.bt:P->Bool
 | .d x=>x.bt
 | .ref .. | .dj .. | .eX .. | .sl .. | .lu .. | .mp .. | .fn ..=>true
 |_=>false
inductive Obj where
 |gone
 |box (ty:TypeId) (ps:List P)
 |arr (ty:TypeId) (fz:Bool) (es:List D)
 |map (kt:Nat) (get:D->Option D) (n:Int) (fz:Bool)
 |iter (kt vt:Nat) (left:D->Option D) (cur:Option (D×D))
 |je
 |jV (kt:Nat) (get:D->Option D) (n:Int) (p:P) (kd:D)
 deriving Inhabited
structure En where
 aR:Nat
 tag:Option Nat
 obj:Obj
def lk{α:Type}:List (Nat×α)->Nat->Option α
 | [],_=>none
 | (k,v)::r,j=>if Nat.beq k j then some v else lk r j
def ins{α:Type}(k:Nat)(v:α):List (Nat×α)->List (Nat×α)
 | []=>[(k,v)]
 | (j,u)::r=>if Nat.blt k j then(k,v)::(j,u)::r else if Nat.beq k j then(k,v)::r else(j,u)::ins k v r
structure S where
 n:Nat
 tm:List (Nat×P)
 rg:List (Nat×En)
def D.fE:D->Option Value
 | .bool b=>some (.bool b)
 | .int k n=>some (.int k n)
 | .str s=>some (.string ⟨⟨s⟩⟩)
 | .dS=>some (.slice none 0 0)
 | .ni=>some (.pointer none)
 | .se=>some (.map none)
 | .BX=>some .nilFunc
 | .oY=>some .nilIface
 | .agg _ | .sl _ _=>none
def D.cW:List D->Option (List Value)
 | []=>some []
 |x::r=>match x.fE,D.cW r with |some v,some vs=>some (v::vs)|_,_=>none
def D.cp:D->Option Value
 | .agg cs=>match D.cW cs with |some vs=>some (.agg ⟨vs⟩)|none=>none
 |x=>x.fE
def P.cp:P->Option Value
 | .d x=>x.cp
 |_=>none
def D.lT:Value->Option D
 | .bool b=>some (.bool b)
 | .int k n=>some (.int k n)
 | .string s=>some (.str s.data.toList)
 | .slice none 0 0=>some .dS
 | .pointer none=>some .ni
 | .map none=>some .se
 | .nilFunc=>some .BX
 | .nilIface=>some .oY
 |_=>none
def D.BY:List Value->Option (List D)
 | []=>some []
 |v::r=>match D.lT v,D.BY r with |some x,some xs=>some (x::xs)|_,_=>none
def D.tX:Value->Option D
 | .agg cs=>match D.BY cs.toList with |some xs=>some (.agg xs)|none=>none
 |v=>D.lT v
def ay{α:Type}(Q:Program):Sem α->Option α
 | .pure a=>some a
 | .program k=>ay Q (k Q)
 | .mark _ k=>ay Q k
 |_=>none
def dI(Q:Program)(m:Sem Value):Option P:=
 match ay Q m with
 |some v=>match D.tX v with |some x=>some (.d x)|none=>none
 |none=>none
def S.ev(s:S):Operand->P
 | .tmp t=>(lk s.tm t).getD .bad
 | .const v=>match D.tX v with |some x=> .d x |none=> .bad
 | .func f=> .fn f []
 | .global _=> .bad
def P.under(_:Option (Nat×Bool)):P->P
 | .when ..=> .bad
 |p=>p
def S.eg(s:S)(g:Option (Nat×Bool))(x:Operand):P:=(s.ev x).under g
def S.put(s:S)(dst:Option Nat)(p:P):Option S:=
 match dst with
 |none=>some s
 |some t=>if Nat.blt t s.n then some ⟨s.n,ins t p s.tm,s.rg⟩ else none
def zA:List P->Option (List D)
 | []=>some []
 | .d x::r=>match zA r with |some xs=>some (x::xs)|none=>none
 |_=>none
def J5(ps:List P):P:=match zA ps with |some xs=> .d (.agg xs)|none=> .agg ps
def P.cells:P->List P
 | .agg ps=>ps
 | .d (.agg cs)=>cs.map .d
 |p=>[p]
def P.nj:P->Bool
 | .agg _ | .d _=>true
 |p=>p.bt
mutual
def D.tY:D->D->Bool
 | .bool a,.bool b=>a==b
 | .int k a,.int k' b=>k==k'&&a==b
 | .str a,.str b=>a==b
 | .agg a,.agg b=>D.HM a b
 | .sl k a,.sl k' b=>k==k'&&D.HM a b
 | .dS,.dS | .ni,.ni | .se,.se | .BX,.BX | .oY,.oY=>true
 |_,_=>false
def D.HM:List D->List D->Bool
 | [],[]=>true
 |x::xs,y::ys=>D.tY x y&&D.HM xs ys
 |_,_=>false
end
def gu(k v:D)(get:D->Option D):D->Option D:=λk'=>bif D.tY k k' then some v else get k'
def Ef(k:D)(get:D->Option D):D->Option D:=λk'=>bif D.tY k k' then none else get k'
def sz(Q:Program)(t:TypeId):Option Nat:=match Q.info? t,Q.underlying t with |some i,some _=>some i.size |_,_=>none
def dx(Q:Program)(t:TypeId):Bool:=match Q.underlying t with |some (.struct _)|some (.array _ _)=>true |_=>false
def cG(Q:Program)(t:TypeId):Option TypeId:=match Q.underlying t with |some (.slice e)=>some e |_=>none
def Ap(Q:Program)(t:TypeId)(ps:List P)(off:Nat):Option P:=
 match sz Q t with
 |none=>none
 |some k=>if dx Q t then(if Nat.ble (off+k) ps.length then some (J5 ((ps.drop off).take k)) else none) else ps[off]?
def jf(Q:Program)(t:TypeId)(cs:List D)(off:Nat):Option D:=
 match sz Q t with
 |none=>none
 |some k=>if dx Q t then(if Nat.ble (off+k) cs.length then some (.agg ((cs.drop off).take k)) else none) else cs[off]?
def S.obj(s:S)(n v:Nat):Option Obj:=
 match lk s.rg n with
 |some e=>if Nat.beq e.aR v then some e.obj else none
 |none=>none
def Eg(Q:Program)(go:TypeId->D->D->Option Bool):List Field->List D->List D->Option Bool
 | [],_,_=>some true
 |f::r,xs,ys=>match f.name== "_" with
  |true=>Eg Q go r xs ys
  |false=>match jf Q f.type xs f.offset,jf Q f.type ys f.offset with
   |some x,some y=>match go f.type x y,Eg Q go r xs ys with
    |some a,some b=>some (a&&b)
    |_,_=>none
   |_,_=>none
def VW(Q:Program):Nat->TypeId->D->D->Option Bool
 |0,_,_,_=>none
 |n+1,t,x,y=>match Q.underlying t with
  |some .bool=>match x,y with | .bool a,.bool b=>some (a==b)|_,_=>none
  |some (.int _)=>match x,y with | .int k a,.int k' b=>(match k==k' with |true=>some (a==b)|false=>none)|_,_=>none
  |some .string=>match x,y with | .str a,.str b=>some (a==b)|_,_=>none
  |some (.struct fs)=>match x,y with
   | .agg xs,.agg ys=>match Q.stoodInHeld t with
    |true=>none
    |false=>Eg Q (VW Q n) fs.toList xs ys
   |_,_=>none
  |_=>none
def oZ(Q:Program):Nat->List Field->Nat->Bool
 |off,[],q9=>Nat.beq off q9
 |off,f::r,q9=>Nat.beq f.offset off&&oZ Q (off+Q.cellsOf f.type) r q9
def iA(Q:Program):Nat->TypeId->D->Bool
 |0,_,_=>false
 |n+1,t,x=>match Q.underlying t with
  |some .bool=>(match x with | .bool _=>true |_=>false)
  |some (.int k)=>(match x with | .int k' _=>k==k' |_=>false)
  |some .string=>(match x with | .str _=>true |_=>false)
  |some (.struct fs)=>(match x with
   | .agg cs=>Nat.beq cs.length (Q.cellsOf t)&&oZ Q 0 fs.toList (Q.cellsOf t)&& !Q.stoodInHeld t&&fs.toList.all λf=> !(f.name== "_")&&(dx Q f.type ||Nat.beq (Q.cellsOf f.type) 1)&&(match jf Q f.type cs f.offset with |some y=>iA Q n f.type y |none=>false)
   |_=>false)
  |_=>false
def D.LZ:D->Bool
 | .bool _ | .int _ _ | .str _=>true
 |_=>false
def fS(Q:Program)(kt:TypeId)(k:D):Bool:=iA Q 20 kt k&&k.cells.all D.LZ&&(match k.cp with
 |some v=>(match ay Q (Instr.checkKey false 10000 kt v),ay Q (Instr.checkKey true 10000 kt v) with |some _,some _=>true |_,_=>false)
 |none=>false)
def jQ(Q:Program)(t:TypeId):Option (TypeId×TypeId):=match Q.underlying t with |some (.map k e)=>some (k,e)|_=>none
def S.setObj(s:S)(n:Nat)(o:Obj):S:=
 match lk s.rg n with
 |some e=>{s with rg:=ins n ⟨e.aR,e.tag,o⟩ s.rg}
 |none=>s
def S.new(s:S)(n:Nat)(o:Obj):Option (S×Nat):=
 match lk s.rg n with
 |none=>some ({s with rg:=ins n ⟨0,none,o⟩ s.rg},0)
 |some e=>match e.obj with
  | .gone=>some ({s with rg:=ins n ⟨e.aR+1,none,o⟩ s.rg},e.aR+1)
  |_=>match e.tag with
   |none=>some ({s with rg:=ins n ⟨e.aR+1,none,o⟩ s.rg},e.aR+1)
   |some _=>none
def splice(ps:List P)(off:Nat)(qs:List P):List P:=ps.take off++qs++ps.drop (off+qs.length)
def site(dst:Option Nat):Nat:=1000+dst.getD 999
def S.live(s:S)(n v:Nat):Bool:=
 match s.obj n v with
 |some .gone=>false
 |some _=>true
 |none=>false
def ko(s:S)(p:P):Option P:=
 match p with
 | .ref n v _ | .dj n v _ _ _=>if s.live n v then some p else none
 | .eX .. | .fn ..=>some p
 |_=>none
def qE(Q:Program)(s:S)(t:TypeId):P->Option P
 | .ref n v off=>match s.obj n v with |some (.box _ ps)=>Ap Q t ps off |_=>none
 | .dj n v i k off=>match s.obj n v with
  |some (.arr ty _ es)=>match sz Q ty,es[i]? with
   |some k',some x=>if Nat.beq k k' then(match jf Q t x.cells off with |some y=>some (.d y)|none=>none) else none
   |_,_=>none
  |_=>none
 | .eX x off=>match jf Q t x.cells off with |some y=>some (.d y)|none=>none
 |_=>none
def wZ(Q:Program)(t:TypeId)(f:Nat):Option Nat:=
 match Q.underlying t with
 |some (.struct fs)=>match fs[f]? with
  |some fl=>match sz Q fl.type with |some (_+1)=>some fl.offset |_=>none
  |none=>none
 |_=>none
def iB(Q:Program)(s:S)(t:TypeId)(f:Nat)(p:P):Option P:=
 match wZ Q t f with
 |none=>none
 |some o=>match p with
  | .ref n v off=>if s.live n v then some (.ref n v (off+o)) else none
  | .dj n v i k off=>if s.live n v then some (.dj n v i k (off+o)) else none
  | .eX x off=>some (.eX x (off+o))
  |_=>none
def o4(Q:Program)(s:S)(len:Nat)(e:TypeId)(p:P)(i:P):Option P:=
 match i,sz Q e with
 | .d (.int _ j),some (k+1)=>if 0<=j/\j<(len:Int) then(match p with
  | .ref n v off=>if s.live n v then some (.ref n v (off+j.toNat*(k+1))) else none
  | .dj n v i k' off=>if s.live n v then some (.dj n v i k' (off+j.toNat*(k+1))) else none
  | .eX x off=>some (.eX x (off+j.toNat*(k+1)))
  |_=>none) else none
 |_,_=>none
def J6(Q:Program)(t:TypeId):Option (Nat×TypeId):=match Q.underlying t with |some (.array n e)=>some (n,e)|_=>none
def fb(Q:Program)(s:S)(t:TypeId)(p:P)(i:P):Option P:=
 match J6 Q t with
 |some (n,e)=>o4 Q s n e p i
 |none=>match cG Q t,i with
 |some e,.d (.int _ j)=>match sz Q e with
  |some (k+1)=>match p with
   | .sl n v len=>match s.obj n v with
    |some (.arr ty _ _)=>if Nat.beq ty e then(if 0<=j/\j<(len:Int) then some (.dj n v j.toNat (k+1) 0) else none) else none
    |_=>none
   | .lu n v k' off len=>match s.obj n v with
    |some (.arr ty _ _)=>if Nat.beq ty e&&Nat.beq k' (k+1) then(if 0<=j/\j<(len:Int) then some (.dj n v (off+j.toNat) (k+1) 0) else none) else none
    |_=>none
   | .d (.sl k' es)=>if Nat.beq k' (k+1) then(if 0<=j then(match es[j.toNat]? with |some x=>some (.eX x 0)|none=>none) else none) else none
   |_=>none
  |_=>none
 |_,_=>none
def dm(len:Nat)(lo hi:Option P):Option (Nat×Nat):=
 match(match hi with |none=>some len |some (.d (.int _ j))=>if 0<=j/\j<=(len:Int) then some j.toNat else none |_=>none) with
 |none=>none
 |some h=>match lo with
  |none=>some (0,h)
  |some (.d (.int _ j))=>if 0<=j/\j<=(h:Int) then some (j.toNat,h) else none
  |_=>none
def og(Q:Program)(s:S)(t:TypeId)(p:P)(lo:Option P):P:=
 match p with
 | .sl n v len=>match lo,s.obj n v,(cG Q t).bind (sz Q) with
  |some _,some (.arr ty true es),some (k+1)=>(match sz Q ty with |some k'=>if Nat.beq k' (k+1) then .d (.sl (k+1) (es.take len)) else p |none=>p)
  |_,_,_=>p
 |_=>p
def wz(Q:Program)(s:S)(t:TypeId)(p:P)(lo hi:Option P):Option P:=
 match cG Q t with
 |none=>none
 |some e=>match sz Q e with
  |some (k+1)=>match p with
   | .d (.sl k' es)=>if Nat.beq k' (k+1) then(match dm es.length lo hi with |some (l,h)=>some (.d (.sl k' ((es.take h).drop l)))|none=>none) else none
   | .sl n v len=>match s.obj n v,lo with
    |some (.arr _ _ _),none=>match dm len none hi with |some (_,h)=>some (.sl n v h)|none=>none
    |some (.arr ty _ _),some lo=>match sz Q ty with
     |some k'=>if Nat.beq k' (k+1) then(match dm len (some lo) hi with |some (l,h)=>some (.lu n v (k+1) l (h-l))|none=>none) else none
     |none=>none
    |_,_=>none
   | .lu n v k' off len=>match s.obj n v with
    |some (.arr _ _ _)=>if Nat.beq k' (k+1) then(match dm len lo hi with |some (l,h)=>some (.lu n v (k+1) (off+l) (h-l))|none=>none) else none
    |_=>none
   |_=>none
  |_=>none
def lU(Q:Program)(s:S)(t:TypeId)(p:P)(lo hi:Option P):Option P:=wz Q s t (og Q s t p lo) lo hi
def Eh(s:S)(p:P):Option P:=
 match p with
 | .sl n v len | .lu n v _ _ len=>if s.live n v then some (.d (.int .i64 len)) else none
 | .d (.sl _ es)=>some (.d (.int .i64 es.length))
 |_=>none
def Ei(s:S)(p:P):Option P:=
 match p with
 | .mp n v=>match s.obj n v with |some (.map _ _ c _)=>some (.d (.int .i64 c))|_=>none
 |_=>none
def tZ(s:S)(p q:P):Option Bool:=
 match p,q with
 | .ref n v _,.d .ni | .dj n v _ _ _,.d .ni | .d .ni,.ref n v _ | .d .ni,.dj n v _ _ _=>if s.live n v then some false else none
 | .eX _ _,.d .ni | .d .ni,.eX _ _=>some false
 |_,_=>none
def oG(Q:Program)(s:S)(op:BinOp)(t:TypeId)(x y:Operand)(p q:P):Option P:=
 match p.cp,q.cp with
 |some a,some b=>dI Q (do eqGuard op t x y a b;binOp op t a b)
 |_,_=>match Q.underlying t,tZ s p q,op with
  |some (.pointer _),some r,.eql=>some (.d (.bool r))
  |some (.pointer _),some r,.neq=>some (.d (.bool (!r)))
  |_,_,_=>none
def cW:List P->Option (List Value)
 | []=>some []
 |p::r=>match p.cp,cW r with |some v,some vs=>some (v::vs)|_,_=>none
def P.HO:P->Option (List P)
 | .agg ps=>some ps
 | .d (.agg cs)=>some (cs.map .d)
 |_=>none
def HP(Q:Program)(t:TypeId)(f:Nat)(p:P):Option P:=
 match Q.underlying t,p.HO with
 |some (.struct fs),some ps=>match fs[f]? with
  |some fl=>Ap Q fl.type ps fl.offset
  |none=>none
 |_,_=>none
def HQ(Q:Program)(n:Nat)(e:TypeId)(p:P)(i:P):Option P:=
 match p.HO,i,sz Q e with
 |some ps,.d (.int _ j),some k=>if 0<=j/\j<(n:Int) then Ap Q e ps (j.toNat*k) else none
 |_,_,_=>none
def oH(o:Option D)(z:D):D:=o.getD z
def eo(Q:Program)(s:S)(t:TypeId)(p i:P)(ok:Bool)(z:D):Option P:=
 match jQ Q t,p,i with
 |some (kt,_),.mp n v,.d k=>match s.obj n v with
  |some (.map zB get _ _)=>if Nat.beq kt zB&&fS Q kt k then some (if ok then .bI [.d ((get k).getD z),.d (.bool (get k).isSome)] else .d ((get k).getD z)) else none
  |some (.jV zB get _ _ _)=>if !ok&&Nat.beq kt zB&&fS Q kt k then some (.d ((get k).getD z)) else none
  |_=>none
 |some (kt,_),.d .se,.d k=>if fS Q kt k then some (if ok then .bI [.d z,.d (.bool false)] else .d z) else none
 |_,_,_=>none
def o5(s:S)(p:P):Option P:=
 match p with
 | .ref n v 0=>match s.obj n v with
  |some (.iter _ _ _ (some (k,x)))=>some (.bI [.d k,.d x])
  |_=>none
 |_=>none
def dX(Q:Program)(t:TypeId):Option D:=
 match Q.info? t with
 |some i=>match i.zero with |some z=>D.tX z |none=>none
 |none=>none
def J7(fs:Array Field):Sem (Array (Nat×Nat)):=fs.mapM λf=>do pure (f.offset,<-sizeOf f.type)
def Ej(pl:Array (Nat×Nat)):List P->List (Nat×P)->Option (List P)
 |ps,[]=>some ps
 |ps,(i,p)::r=>match pl[i]? with
  |some (off,k)=>if Nat.beq p.cells.length k&&Nat.ble (off+k) ps.length&&p.nj then Ej pl (splice ps off p.cells) r else none
  |none=>none
def w5(Q:Program)(t:TypeId)(parts:List (Nat×P)):Option P:=
 match Q.underlying t,dX Q t with
 |some (.struct fs),some z=>match ay Q (J7 fs) with
  |some pl=>match Ej pl (z.cells.map .d) parts with
   |some qs=>some (J5 qs)
   |none=>none
  |none=>none
 |_,_=>none
def pv(Q:Program)(s:S)(o:Oper)(g:Option (Nat×Bool)):Option P:=
 match o.op with
 | .move x | .assign x=>some (s.eg g x)
 | .pick c a b=>match s.eg g c with | .d (.bool r)=>some (if r then s.eg g a else s.eg g b)|_=>none
 | .nilCheck x=>ko s (s.eg g x)
 | .binOp op t x y _=>oG Q s op t x y (s.eg g x) (s.eg g y)
 | .unOp op _ x=>match(s.eg g x).cp with |some v=>dI Q (Op.unary op v)|none=>none
 | .convert a b x=>match(s.eg g x).cp with |some v=>dI Q (Go.convert a b v)|none=>none
 | .load t x=>qE Q s t (s.eg g x)
 | .fieldAddr t x f=>iB Q s t f (s.eg g x)
 | .indexAddr t x i=>fb Q s t (s.eg g x) (s.eg g i)
 | .index t x i=>match Q.underlying t with
  |some (.array n e)=>HQ Q n e (s.eg g x) (s.eg g i)
  |_=>match(s.eg g x).cp,(s.eg g i).cp with |some a,some b=>dI Q (Instr.index t a b)|_,_=>none
 | .field t x f=>HP Q t f (s.eg g x)
 | .extract x i=>match s.eg g x with | .bI ps=>ps[i]? |_=>none
 | .lookup t x i ok=>match(jQ Q t).bind λy=>dX Q y.2 with
  |some z=>eo Q s t (s.eg g x) (s.eg g i) ok z
  |none=>none
 | .entry x=>o5 s (s.eg g x)
 | .slice t x lo hi none=>match(s.eg g x).cp with
  |some (.string b)=>match(match lo with |none=>some none |some l=>(s.eg g l).cp.map some),(match hi with |none=>some none |some h=>(s.eg g h).cp.map some) with
   |some l,some h=>dI Q (Instr.sliceAt t (.string b) l h none)
   |_,_=>none
  |_=>lU Q s t (s.eg g x) (lo.map (s.eg g)) (hi.map (s.eg g))
 | .build t parts=>match cW (parts.toList.map λx=>s.eg g x.2) with
  |some vs=>dI Q (Instr.build t ((parts.toList.map (·.1)).zip vs).toArray)
  |none=>w5 Q t (parts.toList.map λx=>(x.1,s.eg g x.2))
 | .makeFunc (.func f) first cF=>match first.toList with
  | []=>some (.fn f (cF.toList.map (s.eg g)))
  |_=>none
 | .call c=>match c.callee with
  | .builtin .len=>match c.args.toList with
   | [x]=>match(s.eg g x).cp with
    |some v=>dI Q (Builtin.len_ c.argTypes o.type #[v])
    |none=>match(c.argTypes[0]?).bind (cG Q) with
     |some _=>Eh s (s.eg g x)
     |none=>match(c.argTypes[0]?).bind (jQ Q) with |some _=>Ei s (s.eg g x)|none=>none
   |_=>none
  | .builtin .min=>match cW (c.args.toList.map (s.eg g)) with |some vs=>dI Q (Builtin.min_ c.argTypes o.type vs.toArray)|none=>none
  | .builtin .max=>match cW (c.args.toList.map (s.eg g)) with |some vs=>dI Q (Builtin.max_ c.argTypes o.type vs.toArray)|none=>none
  |_=>none
 |_=>none
end Pi
