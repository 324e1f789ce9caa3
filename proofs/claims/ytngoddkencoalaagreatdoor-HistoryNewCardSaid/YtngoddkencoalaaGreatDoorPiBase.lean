/- The text PiBase. -/
import GoSem.Dispatch
abbrev zaa:=@List.length_map
abbrev zab:=@Bool.and_eq_true
abbrev zac:=@List.getD_eq_getElem?_getD
abbrev zad:=@List.getElem?_eq_some_iff
abbrev zae:=@List.getElem?_eq_getElem
abbrev zaf:=@Nat.eq_of_beq_eq_true
abbrev zag:=@List.take_succ_eq_append_getElem
abbrev zah:=@decide_eq_true_eq
abbrev zai:=@List.take_of_length_le
abbrev zaj:=@Nat.le_refl
abbrev zak:=@List.take_length
abbrev zal:=@Option.some.injEq
abbrev zam:=@if_neg
abbrev zan:=@List.length_append
abbrev zao:=@if_pos
abbrev zap:=@List.length_cons
abbrev zaq:=@Nat.mul_le_mul_right
abbrev zar:=@Array.getElem?_eq_some_iff
abbrev zas:=@List.getElem_mem
abbrev zat:=@List.length_nil
abbrev zau:=@Option.bind_some
abbrev zav:=@List.mem_cons
abbrev zaw:=@Option.map_eq_some_iff
abbrev zax:=@List.eq_nil_of_length_eq_zero
abbrev zay:=@List.length_take
abbrev zaz:=@List.map_append
abbrev zaA:=@List.mem_map
abbrev zaB:=@Bool.false_eq_true
abbrev zaC:=@List.mem_of_getElem?
abbrev zaD:=@Array.getD_eq_getD_getElem?
abbrev zaE:=@List.mem_append
abbrev zaF:=@Bool.eq_iff_iff
abbrev zaG:=@Nat.zero_add
abbrev zaH:=@List.mem_cons_of_mem
abbrev zaI:=@Nat.le_trans
abbrev zaJ:=@List.getElem?_map
abbrev zaK:=@Option.map_some
abbrev zaL:=@decide_eq_false
abbrev zaM:=@List.getElem?_append_left
abbrev zaN:=@Classical.byContradiction
abbrev zaO:=@decide_eq_false_iff_not
abbrev zaP:=@Bool.not_eq_true
abbrev zaQ:=@Bool.true_and
abbrev zaR:=@beq_iff_eq
abbrev zaS:=@List.getElem?_of_mem
abbrev zaT:=@decide_eq_true
abbrev zaU:=@List.nodup_append
abbrev zaV:=@Nat.add_mul
abbrev zaW:=@List.getElem_of_mem
abbrev zaX:=@List.getElem?_set_ne
abbrev zaY:=@Array.getElem?_setIfInBounds_ne
abbrev zaZ:=@List.append_assoc
abbrev za0:=@List.mem_singleton
abbrev za1:=@List.getElem?_append_right
abbrev za2:=@List.foldl_append
abbrev za3:=@List.drop_eq_getElem_cons
abbrev za4:=@Nat.lt_of_lt_of_le
abbrev za5:=@List.length_filter_le
abbrev za6:=@Nat.zero_le
abbrev za7:=@List.mem_map_of_mem
abbrev za8:=@List.nodup_cons
abbrev za9:=@List.foldl_cons
abbrev zba:=@Bool.or_eq_true
abbrev zbb:=@if_true
abbrev zbc:=@List.mem_append_right
abbrev zbd:=@List.length_drop
abbrev zbe:=@List.getElem?_take
abbrev zbf:=@List.length_set
abbrev zbg:=@List.nil_append
abbrev zbh:=@List.pairwise_iff_getElem
abbrev zbi:=@List.append_nil
abbrev zbj:=@if_false
abbrev zbk:=@List.all_eq_true
abbrev zbl:=@beq_self_eq_true
abbrev zbm:=@List.map_cons
abbrev zbn:=@List.getElem?_eq_none
abbrev zbo:=@cond_false
abbrev zbp:=@Bool.false_or
abbrev zbq:=@List.mem_of_mem_take
abbrev zbr:=@List.mem_append_left
abbrev zbs:=@Array.toList_inj
abbrev zbt:=@Nat.one_mul
abbrev zbu:=@Bool.not_eq_true'
abbrev zbv:=@Bool.and_true
abbrev zbw:=@List.length_replicate
abbrev zbx:=@Array.getElem?_setIfInBounds_self_of_lt
abbrev zby:=@List.getElem?_drop
abbrev zbz:=@List.any_eq_true
abbrev zbA:=@Int.le_refl
abbrev zbB:=@Nat.add_assoc
abbrev zbC:=@Prod.mk.injEq
abbrev zbD:=@Ne.symm
abbrev zbE:=@of_decide_eq_true
abbrev zbF:=@List.map_congr_left
abbrev zbG:=@List.flatMap_append
abbrev zbH:=@decide_eq_decide
abbrev zbI:=@Nat.le_of_ble_eq_true
abbrev zbJ:=@List.findIdx?_eq_some_iff_getElem
abbrev zbK:=@Array.getElem?_eq_getElem
abbrev zbL:=@Option.bind_eq_some_iff
abbrev zbM:=@List.length_pos_iff
abbrev zbN:=@List.isEmpty_iff
abbrev zbO:=@List.getElem?_set_self
abbrev zbP:=@List.mem_cons_self
abbrev zbQ:=@Nat.add_zero
abbrev zbR:=@List.take_append_drop
abbrev zbS:=@cond_true
abbrev zbT:=@List.mem_filter
abbrev zbU:=@Bool.or_false
abbrev zbV:=@List.mem_of_mem_drop
abbrev zbW:=@List.count_le_length
abbrev zbX:=@List.findIdx?_eq_none_iff
abbrev zbY:=@List.ext_getElem
abbrev zbZ:=@Nat.succ_le_succ
abbrev zb0:=@Nat.ble_eq
abbrev zb1:=@List.map_set
abbrev zb2:=@Option.some.inj
abbrev zb3:=@List.take_left'
abbrev zb4:=@List.filter_append
abbrev zb5:=@Function.comp_def
abbrev zb6:=@Int.toNat_natCast
abbrev zb7:=@List.take_add_one
abbrev zb8:=@Nat.mul_comm
abbrev zb9:=@List.singleton_append
abbrev zca:=@Bool.true_or
abbrev zcb:=@Option.getD_some
abbrev zcc:=@List.count_cons_self
abbrev zcd:=@List.getElem?_range
abbrev zce:=@Nat.min_eq_left
abbrev zcf:=@List.filter_sublist
abbrev zcg:=@List.any_append
abbrev zch:=@Array.getElem?_append_left
abbrev zci:=@Nat.lt_or_gt_of_ne
abbrev zcj:=@of_decide_eq_false
abbrev zck:=@getElem!_pos
abbrev zcl:=@List.pairwise_cons
abbrev zcm:=@List.find?_eq_none
abbrev zcn:=@List.drop_zero
abbrev zco:=@List.mem_of_find?_eq_some
abbrev zcp:=@List.ext_getElem?
abbrev zcq:=@List.size_toArray
abbrev zcr:=@List.flatMap_cons
abbrev zcs:=@List.pairwise_map
abbrev zct:=@List.any_eq_false
abbrev zcu:=@Bool.not_eq_false
abbrev zcv:=@List.getElem?_cons_succ
abbrev zcw:=@List.mem_flatMap
abbrev zcx:=@Array.size_range
abbrev zcy:=@Nat.lt_succ_self
abbrev zcz:=@List.drop_eq_nil_of_le
abbrev zcA:=@Array.getElem?_toList
abbrev zcB:=@Option.map_none
abbrev zcC:=@Nat.div_lt_iff_lt_mul
abbrev zcD:=@Array.getElem?_modify
abbrev zcE:=@List.pairwise_reverse
abbrev zcF:=@List.set_append_right
abbrev zcG:=@List.eq_nil_or_concat
abbrev zcH:=@List.length_singleton
abbrev zcI:=@List.cons.injEq
abbrev zcJ:=@List.drop_take
abbrev zcK:=@not_or
abbrev zcL:=@Bool.and_false
abbrev zcM:=@Array.length_toList
abbrev zcN:=@beq_eq_false_iff_ne
abbrev zcO:=@List.reverse_append
abbrev zcP:=@Array.foldl_toList
abbrev zcQ:=@Nat.eq_or_lt_of_le
abbrev zcR:=@Array.ext_getElem?
abbrev zcS:=@Bool.not_eq_false'
abbrev zcT:=@List.count_eq_zero
abbrev zcU:=@Nat.mod_lt
abbrev zcV:=@Nat.le_succ_of_le
abbrev zcW:=@List.reverse_perm
abbrev zcX:=@List.take_sublist
abbrev zcY:=@List.eq_nil_iff_forall_not_mem
abbrev zcZ:=@Array.toList_map
abbrev zc0:=@List.not_mem_nil
abbrev zc1:=@Nat.le_add_right
abbrev zc2:=@List.drop_length
abbrev zc3:=@true_and
abbrev zc4:=@and_true
abbrev zc5:=@Nat.div_add_mod
abbrev zc6:=@Nat.le_succ
abbrev zc7:=@List.find?_some
abbrev zc8:=@List.drop_drop
abbrev zc9:=@List.mem_take_iff_getElem
abbrev zda:=@List.mem_or_eq_of_mem_set
abbrev zdb:=@Array.getElem?_replicate
abbrev zdc:=@Bool.not_true
abbrev zdd:=@List.any_cons
abbrev zde:=@Bool.or_assoc
abbrev zdf:=@Prod.ext
abbrev zdg:=@List.filter_cons_of_pos
abbrev zdh:=@List.filter_cons_of_neg
namespace Pi
open Go
inductive D where
 |bool (b:Bool)
 |int (k:IntKind) (n:Int)
 |str (s:List UInt8)
 |agg (cs:List D)
 |sl (k:Nat) (es:List D)
 |fP
 |rh
 |sg
 |BZ
 |B0
 deriving Inhabited
def D.cells:D->List D
 | .agg cs=>cs
 |x=>[x]
def D.bF:D->Bool
 | .agg _=>false
 |_=>true
inductive P where
 |d (x:D)
 |agg (ps:List P)
 |ref (n v off:Nat)
 |dz (n v i k off:Nat)
 |e8 (x:D) (off:Nat)
 |sl (n v len:Nat)
 |lG (n v k off len:Nat)
 |mp (n v:Nat)
 |fn (f:FuncId) (cI:List P)
 |cX (ps:List P)
 |when (slot:Nat) (want:Bool) (p:P)
 |bad
 deriving Inhabited
def P.skip:P:= .when 0 false .bad
def P.bF:P->Bool
 | .d x=>x.bF
 | .ref .. | .dz .. | .e8 .. | .sl .. | .lG .. | .mp .. | .fn ..=>true
 |_=>false
inductive Obj where
 |gone
 |box (ty:TypeId) (ps:List P)
 |arr (ty:TypeId) (fz:Bool) (es:List D)
 |map (kt:Nat) (get:D->Option D) (n:Int) (fz:Bool)
 |iter (kt vt:Nat) (left:D->Option D) (cur:Option (D×D))
 |ew
 |j7 (kt:Nat) (get:D->Option D) (n:Int) (p:P) (kd:D)
 deriving Inhabited
structure En where
 aY:Nat
 tag:Option Nat
 obj:Obj
def lk{α:Type}:List (Nat×α)->Nat->Option α
 | [],_=>none
 | (k,v)::r,j=>if Nat.beq k j then some v else lk r j
def ins{α:Type}(k:Nat)(v:α):List (Nat×α)->List (Nat×α)
 | []=>[(k,v)]
 | (j,u)::r=>if Nat.blt k j then(k,v)::(j,u)::r else if Nat.beq k j then(k,v)::r else(j,u)::ins k v r
structure S where
 n:Nat
 tm:List (Nat×P)
 rg:List (Nat×En)
def D.gw:D->Option Value
 | .bool b=>some (.bool b)
 | .int k n=>some (.int k n)
 | .str s=>some (.string ⟨⟨s⟩⟩)
 | .fP=>some (.slice none 0 0)
 | .rh=>some (.pointer none)
 | .sg=>some (.map none)
 | .BZ=>some .nilFunc
 | .B0=>some .nilIface
 | .agg _ | .sl _ _=>none
def D.c8:List D->Option (List Value)
 | []=>some []
 |x::r=>match x.gw,D.c8 r with |some v,some vs=>some (v::vs)|_,_=>none
def D.cA:D->Option Value
 | .agg cs=>match D.c8 cs with |some vs=>some (.agg ⟨vs⟩)|none=>none
 |x=>x.gw
def P.cA:P->Option Value
 | .d x=>x.cA
 |_=>none
def D.l5:Value->Option D
 | .bool b=>some (.bool b)
 | .int k n=>some (.int k n)
 | .string s=>some (.str s.data.toList)
 | .slice none 0 0=>some .fP
 | .pointer none=>some .rh
 | .map none=>some .sg
 | .nilFunc=>some .BZ
 | .nilIface=>some .B0
 |_=>none
def D.B1:List Value->Option (List D)
 | []=>some []
 |v::r=>match D.l5 v,D.B1 r with |some x,some xs=>some (x::xs)|_,_=>none
def D.tM:Value->Option D
 | .agg cs=>match D.B1 cs.toList with |some xs=>some (.agg xs)|none=>none
 |v=>D.l5 v
def ax{α:Type}(Q:Program):Sem α->Option α
 | .pure a=>some a
 | .program k=>ax Q (k Q)
 | .mark _ k=>ax Q k
 |_=>none
def dV(Q:Program)(m:Sem Value):Option P:=
 match ax Q m with
 |some v=>match D.tM v with |some x=>some (.d x)|none=>none
 |none=>none
def S.ev(s:S):Operand->P
 | .tmp t=>(lk s.tm t).getD .bad
 | .const v=>match D.tM v with |some x=> .d x |none=> .bad
 | .func f=> .fn f []
 | .global _=> .bad
def P.under(_:Option (Nat×Bool)):P->P
 | .when ..=> .bad
 |p=>p
def S.eg(s:S)(g:Option (Nat×Bool))(x:Operand):P:=(s.ev x).under g
def S.put(s:S)(dst:Option Nat)(p:P):Option S:=
 match dst with
 |none=>some s
 |some t=>if Nat.blt t s.n then some ⟨s.n,ins t p s.tm,s.rg⟩ else none
def zJ:List P->Option (List D)
 | []=>some []
 | .d x::r=>match zJ r with |some xs=>some (x::xs)|none=>none
 |_=>none
def J3(ps:List P):P:=match zJ ps with |some xs=> .d (.agg xs)|none=> .agg ps
def P.cells:P->List P
 | .agg ps=>ps
 | .d (.agg cs)=>cs.map .d
 |p=>[p]
def P.nt:P->Bool
 | .agg _ | .d _=>true
 |p=>p.bF
mutual
def D.ob:D->D->Bool
 | .bool a,.bool b=>a==b
 | .int k a,.int k' b=>k==k'&&a==b
 | .str a,.str b=>a==b
 | .agg a,.agg b=>D.HB a b
 | .sl k a,.sl k' b=>k==k'&&D.HB a b
 | .fP,.fP | .rh,.rh | .sg,.sg | .BZ,.BZ | .B0,.B0=>true
 |_,_=>false
def D.HB:List D->List D->Bool
 | [],[]=>true
 |x::xs,y::ys=>D.ob x y&&D.HB xs ys
 |_,_=>false
end
def cZ(k v:D)(get:D->Option D):D->Option D:=λk'=>bif D.ob k k' then some v else get k'
def Ej(k:D)(get:D->Option D):D->Option D:=λk'=>bif D.ob k k' then none else get k'
def sz(Q:Program)(t:TypeId):Option Nat:=match Q.info? t,Q.underlying t with |some i,some _=>some i.size |_,_=>none
def dA(Q:Program)(t:TypeId):Bool:=match Q.underlying t with |some (.struct _)|some (.array _ _)=>true |_=>false
def cJ(Q:Program)(t:TypeId):Option TypeId:=match Q.underlying t with |some (.slice e)=>some e |_=>none
def Az(Q:Program)(t:TypeId)(ps:List P)(off:Nat):Option P:=
 match sz Q t with
 |none=>none
 |some k=>if dA Q t then(if Nat.ble (off+k) ps.length then some (J3 ((ps.drop off).take k)) else none) else ps[off]?
def jf(Q:Program)(t:TypeId)(cs:List D)(off:Nat):Option D:=
 match sz Q t with
 |none=>none
 |some k=>if dA Q t then(if Nat.ble (off+k) cs.length then some (.agg ((cs.drop off).take k)) else none) else cs[off]?
def S.obj(s:S)(n v:Nat):Option Obj:=
 match lk s.rg n with
 |some e=>if Nat.beq e.aY v then some e.obj else none
 |none=>none
def Ek(Q:Program)(go:TypeId->D->D->Option Bool):List Field->List D->List D->Option Bool
 | [],_,_=>some true
 |f::r,xs,ys=>match f.name== "_" with
  |true=>Ek Q go r xs ys
  |false=>match jf Q f.type xs f.offset,jf Q f.type ys f.offset with
   |some x,some y=>match go f.type x y,Ek Q go r xs ys with
    |some a,some b=>some (a&&b)
    |_,_=>none
   |_,_=>none
def VT(Q:Program):Nat->TypeId->D->D->Option Bool
 |0,_,_,_=>none
 |n+1,t,x,y=>match Q.underlying t with
  |some .bool=>match x,y with | .bool a,.bool b=>some (a==b)|_,_=>none
  |some (.int _)=>match x,y with | .int k a,.int k' b=>(match k==k' with |true=>some (a==b)|false=>none)|_,_=>none
  |some .string=>match x,y with | .str a,.str b=>some (a==b)|_,_=>none
  |some (.struct fs)=>match x,y with
   | .agg xs,.agg ys=>match Q.stoodInHeld t with
    |true=>none
    |false=>Ek Q (VT Q n) fs.toList xs ys
   |_,_=>none
  |_=>none
def oT(Q:Program):Nat->List Field->Nat->Bool
 |off,[],ri=>Nat.beq off ri
 |off,f::r,ri=>Nat.beq f.offset off&&oT Q (off+Q.cellsOf f.type) r ri
def iH(Q:Program):Nat->TypeId->D->Bool
 |0,_,_=>false
 |n+1,t,x=>match Q.underlying t with
  |some .bool=>(match x with | .bool _=>true |_=>false)
  |some (.int k)=>(match x with | .int k' _=>k==k' |_=>false)
  |some .string=>(match x with | .str _=>true |_=>false)
  |some (.struct fs)=>(match x with
   | .agg cs=>Nat.beq cs.length (Q.cellsOf t)&&oT Q 0 fs.toList (Q.cellsOf t)&& !Q.stoodInHeld t&&fs.toList.all λf=> !(f.name== "_")&&(dA Q f.type ||Nat.beq (Q.cellsOf f.type) 1)&&(match jf Q f.type cs f.offset with |some y=>iH Q n f.type y |none=>false)
   |_=>false)
  |_=>false
def D.LV:D->Bool
 | .bool _ | .int _ _ | .str _=>true
 |_=>false
def fQ(Q:Program)(kt:TypeId)(k:D):Bool:=iH Q 20 kt k&&k.cells.all D.LV&&(match k.cA with
 |some v=>(match ax Q (Instr.checkKey false 10000 kt v),ax Q (Instr.checkKey true 10000 kt v) with |some _,some _=>true |_,_=>false)
 |none=>false)
def jW(Q:Program)(t:TypeId):Option (TypeId×TypeId):=match Q.underlying t with |some (.map k e)=>some (k,e)|_=>none
def S.setObj(s:S)(n:Nat)(o:Obj):S:=
 match lk s.rg n with
 |some e=>{s with rg:=ins n ⟨e.aY,e.tag,o⟩ s.rg}
 |none=>s
def S.new(s:S)(n:Nat)(o:Obj):Option (S×Nat):=
 match lk s.rg n with
 |none=>some ({s with rg:=ins n ⟨0,none,o⟩ s.rg},0)
 |some e=>match e.obj with
  | .gone=>some ({s with rg:=ins n ⟨e.aY+1,none,o⟩ s.rg},e.aY+1)
  |_=>match e.tag with
   |none=>some ({s with rg:=ins n ⟨e.aY+1,none,o⟩ s.rg},e.aY+1)
   |some _=>none
def splice(ps:List P)(off:Nat)(qs:List P):List P:=ps.take off++qs++ps.drop (off+qs.length)
def site(dst:Option Nat):Nat:=1000+dst.getD 999
def S.live(s:S)(n v:Nat):Bool:=
 match s.obj n v with
 |some .gone=>false
 |some _=>true
 |none=>false
def kr(s:S)(p:P):Option P:=
 match p with
 | .ref n v _ | .dz n v _ _ _=>if s.live n v then some p else none
 | .e8 .. | .fn ..=>some p
 |_=>none
def qM(Q:Program)(s:S)(t:TypeId):P->Option P
 | .ref n v off=>match s.obj n v with |some (.box _ ps)=>Az Q t ps off |_=>none
 | .dz n v i k off=>match s.obj n v with
  |some (.arr ty _ es)=>match sz Q ty,es[i]? with
   |some k',some x=>if Nat.beq k k' then(match jf Q t x.cells off with |some y=>some (.d y)|none=>none) else none
   |_,_=>none
  |_=>none
 | .e8 x off=>match jf Q t x.cells off with |some y=>some (.d y)|none=>none
 |_=>none
def wY(Q:Program)(t:TypeId)(f:Nat):Option Nat:=
 match Q.underlying t with
 |some (.struct fs)=>match fs[f]? with
  |some fl=>match sz Q fl.type with |some (_+1)=>some fl.offset |_=>none
  |none=>none
 |_=>none
def iI(Q:Program)(s:S)(t:TypeId)(f:Nat)(p:P):Option P:=
 match wY Q t f with
 |none=>none
 |some o=>match p with
  | .ref n v off=>if s.live n v then some (.ref n v (off+o)) else none
  | .dz n v i k off=>if s.live n v then some (.dz n v i k (off+o)) else none
  | .e8 x off=>some (.e8 x (off+o))
  |_=>none
def oU(Q:Program)(s:S)(len:Nat)(e:TypeId)(p:P)(i:P):Option P:=
 match i,sz Q e with
 | .d (.int _ j),some (k+1)=>if 0<=j/\j<(len:Int) then(match p with
  | .ref n v off=>if s.live n v then some (.ref n v (off+j.toNat*(k+1))) else none
  | .dz n v i k' off=>if s.live n v then some (.dz n v i k' (off+j.toNat*(k+1))) else none
  | .e8 x off=>some (.e8 x (off+j.toNat*(k+1)))
  |_=>none) else none
 |_,_=>none
def J4(Q:Program)(t:TypeId):Option (Nat×TypeId):=match Q.underlying t with |some (.array n e)=>some (n,e)|_=>none
def fb(Q:Program)(s:S)(t:TypeId)(p:P)(i:P):Option P:=
 match J4 Q t with
 |some (n,e)=>oU Q s n e p i
 |none=>match cJ Q t,i with
 |some e,.d (.int _ j)=>match sz Q e with
  |some (k+1)=>match p with
   | .sl n v len=>match s.obj n v with
    |some (.arr ty _ _)=>if Nat.beq ty e then(if 0<=j/\j<(len:Int) then some (.dz n v j.toNat (k+1) 0) else none) else none
    |_=>none
   | .lG n v k' off len=>match s.obj n v with
    |some (.arr ty _ _)=>if Nat.beq ty e&&Nat.beq k' (k+1) then(if 0<=j/\j<(len:Int) then some (.dz n v (off+j.toNat) (k+1) 0) else none) else none
    |_=>none
   | .d (.sl k' es)=>if Nat.beq k' (k+1) then(if 0<=j then(match es[j.toNat]? with |some x=>some (.e8 x 0)|none=>none) else none) else none
   |_=>none
  |_=>none
 |_,_=>none
def dB(len:Nat)(lo hi:Option P):Option (Nat×Nat):=
 match(match hi with |none=>some len |some (.d (.int _ j))=>if 0<=j/\j<=(len:Int) then some j.toNat else none |_=>none) with
 |none=>none
 |some h=>match lo with
  |none=>some (0,h)
  |some (.d (.int _ j))=>if 0<=j/\j<=(h:Int) then some (j.toNat,h) else none
  |_=>none
def oc(Q:Program)(s:S)(t:TypeId)(p:P)(lo:Option P):P:=
 match p with
 | .sl n v len=>match lo,s.obj n v,(cJ Q t).bind (sz Q) with
  |some _,some (.arr ty true es),some (k+1)=>(match sz Q ty with |some k'=>if Nat.beq k' (k+1) then .d (.sl (k+1) (es.take len)) else p |none=>p)
  |_,_,_=>p
 |_=>p
def wm(Q:Program)(s:S)(t:TypeId)(p:P)(lo hi:Option P):Option P:=
 match cJ Q t with
 |none=>none
 |some e=>match sz Q e with
  |some (k+1)=>match p with
   | .d (.sl k' es)=>if Nat.beq k' (k+1) then(match dB es.length lo hi with |some (l,h)=>some (.d (.sl k' ((es.take h).drop l)))|none=>none) else none
   | .sl n v len=>match s.obj n v,lo with
    |some (.arr _ _ _),none=>match dB len none hi with |some (_,h)=>some (.sl n v h)|none=>none
    |some (.arr ty _ _),some lo=>match sz Q ty with
     |some k'=>if Nat.beq k' (k+1) then(match dB len (some lo) hi with |some (l,h)=>some (.lG n v (k+1) l (h-l))|none=>none) else none
     |none=>none
    |_,_=>none
   | .lG n v k' off len=>match s.obj n v with
    |some (.arr _ _ _)=>if Nat.beq k' (k+1) then(match dB len lo hi with |some (l,h)=>some (.lG n v (k+1) (off+l) (h-l))|none=>none) else none
    |_=>none
   |_=>none
  |_=>none
def l6(Q:Program)(s:S)(t:TypeId)(p:P)(lo hi:Option P):Option P:=wm Q s t (oc Q s t p lo) lo hi
def El(s:S)(p:P):Option P:=
 match p with
 | .sl n v len | .lG n v _ _ len=>if s.live n v then some (.d (.int .i64 len)) else none
 | .d (.sl _ es)=>some (.d (.int .i64 es.length))
 |_=>none
def Em(s:S)(p:P):Option P:=
 match p with
 | .mp n v=>match s.obj n v with |some (.map _ _ c _)=>some (.d (.int .i64 c))|_=>none
 |_=>none
def tN(s:S)(p q:P):Option Bool:=
 match p,q with
 | .ref n v _,.d .rh | .dz n v _ _ _,.d .rh | .d .rh,.ref n v _ | .d .rh,.dz n v _ _ _=>if s.live n v then some false else none
 | .e8 _ _,.d .rh | .d .rh,.e8 _ _=>some false
 |_,_=>none
def oz(Q:Program)(s:S)(op:BinOp)(t:TypeId)(x y:Operand)(p q:P):Option P:=
 match p.cA,q.cA with
 |some a,some b=>dV Q (do eqGuard op t x y a b;binOp op t a b)
 |_,_=>match Q.underlying t,tN s p q,op with
  |some (.pointer _),some r,.eql=>some (.d (.bool r))
  |some (.pointer _),some r,.neq=>some (.d (.bool (!r)))
  |_,_,_=>none
def c8:List P->Option (List Value)
 | []=>some []
 |p::r=>match p.cA,c8 r with |some v,some vs=>some (v::vs)|_,_=>none
def P.HE:P->Option (List P)
 | .agg ps=>some ps
 | .d (.agg cs)=>some (cs.map .d)
 |_=>none
def HF(Q:Program)(t:TypeId)(f:Nat)(p:P):Option P:=
 match Q.underlying t,p.HE with
 |some (.struct fs),some ps=>match fs[f]? with
  |some fl=>Az Q fl.type ps fl.offset
  |none=>none
 |_,_=>none
def HG(Q:Program)(n:Nat)(e:TypeId)(p:P)(i:P):Option P:=
 match p.HE,i,sz Q e with
 |some ps,.d (.int _ j),some k=>if 0<=j/\j<(n:Int) then Az Q e ps (j.toNat*k) else none
 |_,_,_=>none
def cF(o:Option D)(z:D):D:=o.getD z
def eB(Q:Program)(s:S)(t:TypeId)(p i:P)(ok:Bool)(z:D):Option P:=
 match jW Q t,p,i with
 |some (kt,_),.mp n v,.d k=>match s.obj n v with
  |some (.map zK get _ _)=>if Nat.beq kt zK&&fQ Q kt k then some (if ok then .cX [.d ((get k).getD z),.d (.bool (get k).isSome)] else .d ((get k).getD z)) else none
  |some (.j7 zK get _ _ _)=>if !ok&&Nat.beq kt zK&&fQ Q kt k then some (.d ((get k).getD z)) else none
  |_=>none
 |some (kt,_),.d .sg,.d k=>if fQ Q kt k then some (if ok then .cX [.d z,.d (.bool false)] else .d z) else none
 |_,_,_=>none
def oV(s:S)(p:P):Option P:=
 match p with
 | .ref n v 0=>match s.obj n v with
  |some (.iter _ _ _ (some (k,x)))=>some (.cX [.d k,.d x])
  |_=>none
 |_=>none
def ey(Q:Program)(t:TypeId):Option D:=
 match Q.info? t with
 |some i=>match i.zero with |some z=>D.tM z |none=>none
 |none=>none
def J5(fs:Array Field):Sem (Array (Nat×Nat)):=fs.mapM λf=>do pure (f.offset,<-sizeOf f.type)
def Eo(pl:Array (Nat×Nat)):List P->List (Nat×P)->Option (List P)
 |ps,[]=>some ps
 |ps,(i,p)::r=>match pl[i]? with
  |some (off,k)=>if Nat.beq p.cells.length k&&Nat.ble (off+k) ps.length&&p.nt then Eo pl (splice ps off p.cells) r else none
  |none=>none
def wZ(Q:Program)(t:TypeId)(parts:List (Nat×P)):Option P:=
 match Q.underlying t,ey Q t with
 |some (.struct fs),some z=>match ax Q (J5 fs) with
  |some pl=>match Eo pl (z.cells.map .d) parts with
   |some qs=>some (J3 qs)
   |none=>none
  |none=>none
 |_,_=>none
def pv(Q:Program)(s:S)(o:Oper)(g:Option (Nat×Bool)):Option P:=
 match o.op with
 | .move x | .assign x=>some (s.eg g x)
 | .pick c a b=>match s.eg g c with | .d (.bool r)=>some (if r then s.eg g a else s.eg g b)|_=>none
 | .nilCheck x=>kr s (s.eg g x)
 | .binOp op t x y _=>oz Q s op t x y (s.eg g x) (s.eg g y)
 | .unOp op _ x=>match(s.eg g x).cA with |some v=>dV Q (Op.unary op v)|none=>none
 | .convert a b x=>match(s.eg g x).cA with |some v=>dV Q (Go.convert a b v)|none=>none
 | .load t x=>qM Q s t (s.eg g x)
 | .fieldAddr t x f=>iI Q s t f (s.eg g x)
 | .indexAddr t x i=>fb Q s t (s.eg g x) (s.eg g i)
 | .index t x i=>match Q.underlying t with
  |some (.array n e)=>HG Q n e (s.eg g x) (s.eg g i)
  |_=>match(s.eg g x).cA,(s.eg g i).cA with |some a,some b=>dV Q (Instr.index t a b)|_,_=>none
 | .field t x f=>HF Q t f (s.eg g x)
 | .extract x i=>match s.eg g x with | .cX ps=>ps[i]? |_=>none
 | .lookup t x i ok=>match(jW Q t).bind λy=>ey Q y.2 with
  |some z=>eB Q s t (s.eg g x) (s.eg g i) ok z
  |none=>none
 | .entry x=>oV s (s.eg g x)
 | .slice t x lo hi none=>match(s.eg g x).cA with
  |some (.string b)=>match(match lo with |none=>some none |some l=>(s.eg g l).cA.map some),(match hi with |none=>some none |some h=>(s.eg g h).cA.map some) with
   |some l,some h=>dV Q (Instr.sliceAt t (.string b) l h none)
   |_,_=>none
  |_=>l6 Q s t (s.eg g x) (lo.map (s.eg g)) (hi.map (s.eg g))
 | .build t parts=>match c8 (parts.toList.map λx=>s.eg g x.2) with
  |some vs=>dV Q (Instr.build t ((parts.toList.map (·.1)).zip vs).toArray)
  |none=>wZ Q t (parts.toList.map λx=>(x.1,s.eg g x.2))
 | .makeFunc (.func f) first cI=>match first.toList with
  | []=>some (.fn f (cI.toList.map (s.eg g)))
  |_=>none
 | .call c=>match c.callee with
  | .builtin .len=>match c.args.toList with
   | [x]=>match(s.eg g x).cA with
    |some v=>dV Q (Builtin.len_ c.argTypes o.type #[v])
    |none=>match(c.argTypes[0]?).bind (cJ Q) with
     |some _=>El s (s.eg g x)
     |none=>match(c.argTypes[0]?).bind (jW Q) with |some _=>Em s (s.eg g x)|none=>none
   |_=>none
  | .builtin .min=>match c8 (c.args.toList.map (s.eg g)) with |some vs=>dV Q (Builtin.min_ c.argTypes o.type vs.toArray)|none=>none
  | .builtin .max=>match c8 (c.args.toList.map (s.eg g)) with |some vs=>dV Q (Builtin.max_ c.argTypes o.type vs.toArray)|none=>none
  |_=>none
 |_=>none
end Pi
