/- The text PiBase. -/
import GoSem.Dispatch
abbrev zaa:=@List.length_map
abbrev zab:=@Bool.and_eq_true
abbrev zac:=@List.getD_eq_getElem?_getD
abbrev zad:=@List.getElem?_eq_some_iff
abbrev zae:=@List.getElem?_eq_getElem
abbrev zaf:=@Nat.eq_of_beq_eq_true
abbrev zag:=@List.take_succ_eq_append_getElem
abbrev zah:=@List.take_of_length_le
abbrev zai:=@decide_eq_true_eq
abbrev zaj:=@List.take_length
abbrev zak:=@Nat.le_refl
abbrev zal:=@if_neg
abbrev zam:=@Option.some.injEq
abbrev zan:=@List.length_append
abbrev zao:=@if_pos
abbrev zap:=@List.length_cons
abbrev zaq:=@Nat.mul_le_mul_right
abbrev zar:=@Array.getElem?_eq_some_iff
abbrev zas:=@List.getElem_mem
abbrev zat:=@List.length_nil
abbrev zau:=@List.eq_nil_of_length_eq_zero
abbrev zav:=@Option.bind_some
abbrev zaw:=@List.mem_cons
abbrev zax:=@Option.map_eq_some_iff
abbrev zay:=@List.length_take
abbrev zaz:=@Bool.false_eq_true
abbrev zaA:=@List.mem_map
abbrev zaB:=@List.map_append
abbrev zaC:=@List.mem_of_getElem?
abbrev zaD:=@Array.getD_eq_getD_getElem?
abbrev zaE:=@decide_eq_false_iff_not
abbrev zaF:=@Nat.zero_add
abbrev zaG:=@Nat.le_trans
abbrev zaH:=@Bool.eq_iff_iff
abbrev zaI:=@List.mem_append
abbrev zaJ:=@List.mem_cons_of_mem
abbrev zaK:=@List.getElem?_map
abbrev zaL:=@Option.map_some
abbrev zaM:=@Classical.byContradiction
abbrev zaN:=@decide_eq_false
abbrev zaO:=@List.getElem?_append_left
abbrev zaP:=@decide_eq_true
abbrev zaQ:=@List.getElem?_of_mem
abbrev zaR:=@List.getElem?_set_ne
abbrev zaS:=@Bool.true_and
abbrev zaT:=@beq_iff_eq
abbrev zaU:=@List.length_filter_le
abbrev zaV:=@Nat.add_mul
abbrev zaW:=@List.getElem_of_mem
abbrev zaX:=@Bool.not_eq_true
abbrev zaY:=@List.drop_eq_getElem_cons
abbrev zaZ:=@Array.getElem?_setIfInBounds_ne
abbrev za0:=@List.append_assoc
abbrev za1:=@List.getElem?_append_right
abbrev za2:=@List.nodup_append
abbrev za3:=@List.foldl_append
abbrev za4:=@Nat.lt_of_lt_of_le
abbrev za5:=@Nat.zero_le
abbrev za6:=@List.mem_map_of_mem
abbrev za7:=@List.nodup_cons
abbrev za8:=@List.foldl_cons
abbrev za9:=@Bool.or_eq_true
abbrev zba:=@if_true
abbrev zbb:=@List.length_set
abbrev zbc:=@List.getElem?_eq_none
abbrev zbd:=@List.mem_append_right
abbrev zbe:=@List.append_nil
abbrev zbf:=@List.length_drop
abbrev zbg:=@List.getElem?_take
abbrev zbh:=@List.mem_singleton
abbrev zbi:=@List.nil_append
abbrev zbj:=@List.pairwise_iff_getElem
abbrev zbk:=@if_false
abbrev zbl:=@List.all_eq_true
abbrev zbm:=@List.map_cons
abbrev zbn:=@cond_false
abbrev zbo:=@Bool.false_or
abbrev zbp:=@List.findIdx?_eq_some_iff_getElem
abbrev zbq:=@List.mem_of_mem_take
abbrev zbr:=@Array.toList_inj
abbrev zbs:=@Nat.one_mul
abbrev zbt:=@Bool.not_eq_true'
abbrev zbu:=@Bool.and_true
abbrev zbv:=@List.length_replicate
abbrev zbw:=@Array.getElem?_setIfInBounds_self_of_lt
abbrev zbx:=@List.getElem?_drop
abbrev zby:=@List.any_eq_true
abbrev zbz:=@Int.le_refl
abbrev zbA:=@List.mem_append_left
abbrev zbB:=@Nat.add_assoc
abbrev zbC:=@Prod.mk.injEq
abbrev zbD:=@Ne.symm
abbrev zbE:=@of_decide_eq_true
abbrev zbF:=@List.map_congr_left
abbrev zbG:=@List.flatMap_append
abbrev zbH:=@beq_self_eq_true
abbrev zbI:=@decide_eq_decide
abbrev zbJ:=@Nat.le_of_ble_eq_true
abbrev zbK:=@Array.getElem?_eq_getElem
abbrev zbL:=@List.findIdx?_eq_none_iff
abbrev zbM:=@Option.bind_eq_some_iff
abbrev zbN:=@List.length_pos_iff
abbrev zbO:=@List.isEmpty_iff
abbrev zbP:=@List.getElem?_set_self
abbrev zbQ:=@List.mem_cons_self
abbrev zbR:=@Nat.add_zero
abbrev zbS:=@List.take_append_drop
abbrev zbT:=@cond_true
abbrev zbU:=@Bool.or_false
abbrev zbV:=@List.mem_of_mem_drop
abbrev zbW:=@List.count_le_length
abbrev zbX:=@List.ext_getElem
abbrev zbY:=@Nat.lt_succ_self
abbrev zbZ:=@Nat.succ_le_succ
abbrev zb0:=@Nat.ble_eq
abbrev zb1:=@List.map_set
abbrev zb2:=@Option.some.inj
abbrev zb3:=@List.take_left'
abbrev zb4:=@List.mem_filter
abbrev zb5:=@List.find?_eq_none
abbrev zb6:=@Function.comp_def
abbrev zb7:=@Int.toNat_natCast
abbrev zb8:=@List.take_add_one
abbrev zb9:=@List.drop_zero
abbrev zca:=@Bool.and_false
abbrev zcb:=@Nat.mul_comm
abbrev zcc:=@List.singleton_append
abbrev zcd:=@List.pairwise_reverse
abbrev zce:=@Bool.true_or
abbrev zcf:=@Option.getD_some
abbrev zcg:=@List.count_cons_self
abbrev zch:=@List.getElem?_range
abbrev zci:=@Nat.min_eq_left
abbrev zcj:=@List.filter_sublist
abbrev zck:=@List.any_append
abbrev zcl:=@Array.getElem?_append_left
abbrev zcm:=@Nat.lt_or_gt_of_ne
abbrev zcn:=@of_decide_eq_false
abbrev zco:=@getElem!_pos
abbrev zcp:=@List.filter_append
abbrev zcq:=@List.mem_of_find?_eq_some
abbrev zcr:=@List.ext_getElem?
abbrev zcs:=@List.size_toArray
abbrev zct:=@List.flatMap_cons
abbrev zcu:=@List.pairwise_map
abbrev zcv:=@List.reverse_perm
abbrev zcw:=@List.any_eq_false
abbrev zcx:=@Bool.not_eq_false
abbrev zcy:=@List.getElem?_cons_succ
abbrev zcz:=@List.mem_flatMap
abbrev zcA:=@Array.size_range
abbrev zcB:=@List.drop_length
abbrev zcC:=@List.drop_eq_nil_of_le
abbrev zcD:=@Array.getElem?_toList
abbrev zcE:=@Option.map_none
abbrev zcF:=@Nat.div_lt_iff_lt_mul
abbrev zcG:=@Array.getElem?_modify
abbrev zcH:=@List.set_append_right
abbrev zcI:=@List.eq_nil_or_concat
abbrev zcJ:=@List.cons.injEq
abbrev zcK:=@List.drop_take
abbrev zcL:=@not_or
abbrev zcM:=@Array.length_toList
abbrev zcN:=@beq_eq_false_iff_ne
abbrev zcO:=@List.reverse_append
abbrev zcP:=@Array.foldl_toList
abbrev zcQ:=@Nat.eq_or_lt_of_le
abbrev zcR:=@Array.ext_getElem?
abbrev zcS:=@Bool.not_eq_false'
abbrev zcT:=@List.pairwise_cons
abbrev zcU:=@List.count_eq_zero
abbrev zcV:=@Nat.mod_lt
abbrev zcW:=@Nat.le_succ_of_le
abbrev zcX:=@List.take_sublist
abbrev zcY:=@List.eq_nil_iff_forall_not_mem
abbrev zcZ:=@Nat.sub_self
abbrev zc0:=@List.find?_eq_some_iff_getElem
abbrev zc1:=@Array.toList_map
abbrev zc2:=@List.not_mem_nil
abbrev zc3:=@Nat.le_add_right
abbrev zc4:=@Nat.div_add_mod
abbrev zc5:=@Nat.le_succ
abbrev zc6:=@List.find?_some
abbrev zc7:=@List.drop_drop
abbrev zc8:=@List.mem_take_iff_getElem
abbrev zc9:=@List.mem_or_eq_of_mem_set
abbrev zda:=@Array.getElem?_replicate
abbrev zdb:=@Bool.not_true
abbrev zdc:=@true_and
abbrev zdd:=@List.any_cons
abbrev zde:=@Bool.or_assoc
abbrev zdf:=@and_true
abbrev zdg:=@Prod.ext
abbrev zdh:=@List.filter_cons_of_pos
abbrev zdi:=@List.filter_cons_of_neg
namespace Pi
open Go
inductive D where
 |bool (b:Bool)
 |int (k:IntKind) (n:Int)
 |str (s:List UInt8)
 |agg (cs:List D)
 |sl (k:Nat) (es:List D)
 |fX
 |r3
 |tf
 |Cz
 |CA
 deriving Inhabited
def D.cells:D->List D
 | .agg cs=>cs
 |x=>[x]
def D.bJ:D->Bool
 | .agg _=>false
 |_=>true
inductive P where
 |d (x:D)
 |agg (ps:List P)
 |ref (n v off:Nat)
 |dG (n v i k off:Nat)
 |fe (x:D) (off:Nat)
 |sl (n v len:Nat)
 |l0 (n v k off len:Nat)
 |mp (n v:Nat)
 |fn (f:FuncId) (cP:List P)
 |cT (ps:List P)
 |when (slot:Nat) (want:Bool) (p:P)
 |bad
 deriving Inhabited
def P.skip:P:= .when 0 false .bad
def P.bJ:P->Bool
 | .d x=>x.bJ
 | .ref .. | .dG .. | .fe .. | .sl .. | .l0 .. | .mp .. | .fn ..=>true
 |_=>false
inductive Obj where
 |gone
 |box (ty:TypeId) (ps:List P)
 |arr (ty:TypeId) (fz:Bool) (es:List D)
 |map (kt:Nat) (get:D->Option D) (n:Int) (fz:Bool)
 |iter (kt vt:Nat) (left:D->Option D) (cur:Option (D×D))
 |eE
 |kB (kt:Nat) (get:D->Option D) (n:Int) (p:P) (kd:D)
 deriving Inhabited
structure En where
 aZ:Nat
 tag:Option Nat
 obj:Obj
def lk{α:Type}:List (Nat×α)->Nat->Option α
 | [],_=>none
 | (k,v)::r,j=>if Nat.beq k j then some v else lk r j
def ins{α:Type}(k:Nat)(v:α):List (Nat×α)->List (Nat×α)
 | []=>[(k,v)]
 | (j,u)::r=>if Nat.blt k j then(k,v)::(j,u)::r else if Nat.beq k j then(k,v)::r else(j,u)::ins k v r
structure S where
 n:Nat
 tm:List (Nat×P)
 rg:List (Nat×En)
def D.gE:D->Option Value
 | .bool b=>some (.bool b)
 | .int k n=>some (.int k n)
 | .str s=>some (.string ⟨⟨s⟩⟩)
 | .fX=>some (.slice none 0 0)
 | .r3=>some (.pointer none)
 | .tf=>some (.map none)
 | .Cz=>some .nilFunc
 | .CA=>some .nilIface
 | .agg _ | .sl _ _=>none
def D.dj:List D->Option (List Value)
 | []=>some []
 |x::r=>match x.gE,D.dj r with |some v,some vs=>some (v::vs)|_,_=>none
def D.cG:D->Option Value
 | .agg cs=>match D.dj cs with |some vs=>some (.agg ⟨vs⟩)|none=>none
 |x=>x.gE
def P.cG:P->Option Value
 | .d x=>x.cG
 |_=>none
def D.mC:Value->Option D
 | .bool b=>some (.bool b)
 | .int k n=>some (.int k n)
 | .string s=>some (.str s.data.toList)
 | .slice none 0 0=>some .fX
 | .pointer none=>some .r3
 | .map none=>some .tf
 | .nilFunc=>some .Cz
 | .nilIface=>some .CA
 |_=>none
def D.CB:List Value->Option (List D)
 | []=>some []
 |v::r=>match D.mC v,D.CB r with |some x,some xs=>some (x::xs)|_,_=>none
def D.uK:Value->Option D
 | .agg cs=>match D.CB cs.toList with |some xs=>some (.agg xs)|none=>none
 |v=>D.mC v
def aA{α:Type}(Q:Program):Sem α->Option α
 | .pure a=>some a
 | .program k=>aA Q (k Q)
 | .mark _ k=>aA Q k
 |_=>none
def eo(Q:Program)(m:Sem Value):Option P:=
 match aA Q m with
 |some v=>match D.uK v with |some x=>some (.d x)|none=>none
 |none=>none
def S.ev(s:S):Operand->P
 | .tmp t=>(lk s.tm t).getD .bad
 | .const v=>match D.uK v with |some x=> .d x |none=> .bad
 | .func f=> .fn f []
 | .global _=> .bad
def P.under(_:Option (Nat×Bool)):P->P
 | .when ..=> .bad
 |p=>p
def S.eg(s:S)(g:Option (Nat×Bool))(x:Operand):P:=(s.ev x).under g
def S.put(s:S)(dst:Option Nat)(p:P):Option S:=
 match dst with
 |none=>some s
 |some t=>if Nat.blt t s.n then some ⟨s.n,ins t p s.tm,s.rg⟩ else none
def As:List P->Option (List D)
 | []=>some []
 | .d x::r=>match As r with |some xs=>some (x::xs)|none=>none
 |_=>none
def KB(ps:List P):P:=match As ps with |some xs=> .d (.agg xs)|none=> .agg ps
def P.cells:P->List P
 | .agg ps=>ps
 | .d (.agg cs)=>cs.map .d
 |p=>[p]
def P.nR:P->Bool
 | .agg _ | .d _=>true
 |p=>p.bJ
mutual
def D.oO:D->D->Bool
 | .bool a,.bool b=>a==b
 | .int k a,.int k' b=>k==k'&&a==b
 | .str a,.str b=>a==b
 | .agg a,.agg b=>D.Ih a b
 | .sl k a,.sl k' b=>k==k'&&D.Ih a b
 | .fX,.fX | .r3,.r3 | .tf,.tf | .Cz,.Cz | .CA,.CA=>true
 |_,_=>false
def D.Ih:List D->List D->Bool
 | [],[]=>true
 |x::xs,y::ys=>D.oO x y&&D.Ih xs ys
 |_,_=>false
end
def df(k v:D)(get:D->Option D):D->Option D:=λk'=>bif D.oO k k' then some v else get k'
def EY(k:D)(get:D->Option D):D->Option D:=λk'=>bif D.oO k k' then none else get k'
def sz(Q:Program)(t:TypeId):Option Nat:=match Q.info? t,Q.underlying t with |some i,some _=>some i.size |_,_=>none
def dH(Q:Program)(t:TypeId):Bool:=match Q.underlying t with |some (.struct _)|some (.array _ _)=>true |_=>false
def cQ(Q:Program)(t:TypeId):Option TypeId:=match Q.underlying t with |some (.slice e)=>some e |_=>none
def Bh(Q:Program)(t:TypeId)(ps:List P)(off:Nat):Option P:=
 match sz Q t with
 |none=>none
 |some k=>if dH Q t then(if Nat.ble (off+k) ps.length then some (KB ((ps.drop off).take k)) else none) else ps[off]?
def jv(Q:Program)(t:TypeId)(cs:List D)(off:Nat):Option D:=
 match sz Q t with
 |none=>none
 |some k=>if dH Q t then(if Nat.ble (off+k) cs.length then some (.agg ((cs.drop off).take k)) else none) else cs[off]?
def S.obj(s:S)(n v:Nat):Option Obj:=
 match lk s.rg n with
 |some e=>if Nat.beq e.aZ v then some e.obj else none
 |none=>none
def EZ(Q:Program)(go:TypeId->D->D->Option Bool):List Field->List D->List D->Option Bool
 | [],_,_=>some true
 |f::r,xs,ys=>match f.name== "_" with
  |true=>EZ Q go r xs ys
  |false=>match jv Q f.type xs f.offset,jv Q f.type ys f.offset with
   |some x,some y=>match go f.type x y,EZ Q go r xs ys with
    |some a,some b=>some (a&&b)
    |_,_=>none
   |_,_=>none
def WC(Q:Program):Nat->TypeId->D->D->Option Bool
 |0,_,_,_=>none
 |n+1,t,x,y=>match Q.underlying t with
  |some .bool=>match x,y with | .bool a,.bool b=>some (a==b)|_,_=>none
  |some (.int _)=>match x,y with | .int k a,.int k' b=>(match k==k' with |true=>some (a==b)|false=>none)|_,_=>none
  |some .string=>match x,y with | .str a,.str b=>some (a==b)|_,_=>none
  |some (.struct fs)=>match x,y with
   | .agg xs,.agg ys=>match Q.stoodInHeld t with
    |true=>none
    |false=>EZ Q (WC Q n) fs.toList xs ys
   |_,_=>none
  |_=>none
def pr(Q:Program):Nat->List Field->Nat->Bool
 |off,[],r4=>Nat.beq off r4
 |off,f::r,r4=>Nat.beq f.offset off&&pr Q (off+Q.cellsOf f.type) r r4
def iS(Q:Program):Nat->TypeId->D->Bool
 |0,_,_=>false
 |n+1,t,x=>match Q.underlying t with
  |some .bool=>(match x with | .bool _=>true |_=>false)
  |some (.int k)=>(match x with | .int k' _=>k==k' |_=>false)
  |some .string=>(match x with | .str _=>true |_=>false)
  |some (.struct fs)=>(match x with
   | .agg cs=>Nat.beq cs.length (Q.cellsOf t)&&pr Q 0 fs.toList (Q.cellsOf t)&& !Q.stoodInHeld t&&fs.toList.all λf=> !(f.name== "_")&&(dH Q f.type ||Nat.beq (Q.cellsOf f.type) 1)&&(match jv Q f.type cs f.offset with |some y=>iS Q n f.type y |none=>false)
   |_=>false)
  |_=>false
def D.Mu:D->Bool
 | .bool _ | .int _ _ | .str _=>true
 |_=>false
def fY(Q:Program)(kt:TypeId)(k:D):Bool:=iS Q 20 kt k&&k.cells.all D.Mu&&(match k.cG with
 |some v=>(match aA Q (Instr.checkKey false 10000 kt v),aA Q (Instr.checkKey true 10000 kt v) with |some _,some _=>true |_,_=>false)
 |none=>false)
def kq(Q:Program)(t:TypeId):Option (TypeId×TypeId):=match Q.underlying t with |some (.map k e)=>some (k,e)|_=>none
def S.setObj(s:S)(n:Nat)(o:Obj):S:=
 match lk s.rg n with
 |some e=>{s with rg:=ins n ⟨e.aZ,e.tag,o⟩ s.rg}
 |none=>s
def S.new(s:S)(n:Nat)(o:Obj):Option (S×Nat):=
 match lk s.rg n with
 |none=>some ({s with rg:=ins n ⟨0,none,o⟩ s.rg},0)
 |some e=>match e.obj with
  | .gone=>some ({s with rg:=ins n ⟨e.aZ+1,none,o⟩ s.rg},e.aZ+1)
  |_=>match e.tag with
   |none=>some ({s with rg:=ins n ⟨e.aZ+1,none,o⟩ s.rg},e.aZ+1)
   |some _=>none
def splice(ps:List P)(off:Nat)(qs:List P):List P:=ps.take off++qs++ps.drop (off+qs.length)
def site(dst:Option Nat):Nat:=1000+dst.getD 999
def S.live(s:S)(n v:Nat):Bool:=
 match s.obj n v with
 |some .gone=>false
 |some _=>true
 |none=>false
def kO(s:S)(p:P):Option P:=
 match p with
 | .ref n v _ | .dG n v _ _ _=>if s.live n v then some p else none
 | .fe .. | .fn ..=>some p
 |_=>none
def rz(Q:Program)(s:S)(t:TypeId):P->Option P
 | .ref n v off=>match s.obj n v with |some (.box _ ps)=>Bh Q t ps off |_=>none
 | .dG n v i k off=>match s.obj n v with
  |some (.arr ty _ es)=>match sz Q ty,es[i]? with
   |some k',some x=>if Nat.beq k k' then(match jv Q t x.cells off with |some y=>some (.d y)|none=>none) else none
   |_,_=>none
  |_=>none
 | .fe x off=>match jv Q t x.cells off with |some y=>some (.d y)|none=>none
 |_=>none
def xJ(Q:Program)(t:TypeId)(f:Nat):Option Nat:=
 match Q.underlying t with
 |some (.struct fs)=>match fs[f]? with
  |some fl=>match sz Q fl.type with |some (_+1)=>some fl.offset |_=>none
  |none=>none
 |_=>none
def iT(Q:Program)(s:S)(t:TypeId)(f:Nat)(p:P):Option P:=
 match xJ Q t f with
 |none=>none
 |some o=>match p with
  | .ref n v off=>if s.live n v then some (.ref n v (off+o)) else none
  | .dG n v i k off=>if s.live n v then some (.dG n v i k (off+o)) else none
  | .fe x off=>some (.fe x (off+o))
  |_=>none
def pw(Q:Program)(s:S)(len:Nat)(e:TypeId)(p:P)(i:P):Option P:=
 match i,sz Q e with
 | .d (.int _ j),some (k+1)=>if 0<=j/\j<(len:Int) then(match p with
  | .ref n v off=>if s.live n v then some (.ref n v (off+j.toNat*(k+1))) else none
  | .dG n v i k' off=>if s.live n v then some (.dG n v i k' (off+j.toNat*(k+1))) else none
  | .fe x off=>some (.fe x (off+j.toNat*(k+1)))
  |_=>none) else none
 |_,_=>none
def KC(Q:Program)(t:TypeId):Option (Nat×TypeId):=match Q.underlying t with |some (.array n e)=>some (n,e)|_=>none
def fj(Q:Program)(s:S)(t:TypeId)(p:P)(i:P):Option P:=
 match KC Q t with
 |some (n,e)=>pw Q s n e p i
 |none=>match cQ Q t,i with
 |some e,.d (.int _ j)=>match sz Q e with
  |some (k+1)=>match p with
   | .sl n v len=>match s.obj n v with
    |some (.arr ty _ _)=>if Nat.beq ty e then(if 0<=j/\j<(len:Int) then some (.dG n v j.toNat (k+1) 0) else none) else none
    |_=>none
   | .l0 n v k' off len=>match s.obj n v with
    |some (.arr ty _ _)=>if Nat.beq ty e&&Nat.beq k' (k+1) then(if 0<=j/\j<(len:Int) then some (.dG n v (off+j.toNat) (k+1) 0) else none) else none
    |_=>none
   | .d (.sl k' es)=>if Nat.beq k' (k+1) then(if 0<=j then(match es[j.toNat]? with |some x=>some (.fe x 0)|none=>none) else none) else none
   |_=>none
  |_=>none
 |_,_=>none
def dI(len:Nat)(lo hi:Option P):Option (Nat×Nat):=
 match(match hi with |none=>some len |some (.d (.int _ j))=>if 0<=j/\j<=(len:Int) then some j.toNat else none |_=>none) with
 |none=>none
 |some h=>match lo with
  |none=>some (0,h)
  |some (.d (.int _ j))=>if 0<=j/\j<=(h:Int) then some (j.toNat,h) else none
  |_=>none
def oP(Q:Program)(s:S)(t:TypeId)(p:P)(lo:Option P):P:=
 match p with
 | .sl n v len=>match lo,s.obj n v,(cQ Q t).bind (sz Q) with
  |some _,some (.arr ty true es),some (k+1)=>(match sz Q ty with |some k'=>if Nat.beq k' (k+1) then .d (.sl (k+1) (es.take len)) else p |none=>p)
  |_,_,_=>p
 |_=>p
def xd(Q:Program)(s:S)(t:TypeId)(p:P)(lo hi:Option P):Option P:=
 match cQ Q t with
 |none=>none
 |some e=>match sz Q e with
  |some (k+1)=>match p with
   | .d (.sl k' es)=>if Nat.beq k' (k+1) then(match dI es.length lo hi with |some (l,h)=>some (.d (.sl k' ((es.take h).drop l)))|none=>none) else none
   | .sl n v len=>match s.obj n v,lo with
    |some (.arr _ _ _),none=>match dI len none hi with |some (_,h)=>some (.sl n v h)|none=>none
    |some (.arr ty _ _),some lo=>match sz Q ty with
     |some k'=>if Nat.beq k' (k+1) then(match dI len (some lo) hi with |some (l,h)=>some (.l0 n v (k+1) l (h-l))|none=>none) else none
     |none=>none
    |_,_=>none
   | .l0 n v k' off len=>match s.obj n v with
    |some (.arr _ _ _)=>if Nat.beq k' (k+1) then(match dI len lo hi with |some (l,h)=>some (.l0 n v (k+1) (off+l) (h-l))|none=>none) else none
    |_=>none
   |_=>none
  |_=>none
def mD(Q:Program)(s:S)(t:TypeId)(p:P)(lo hi:Option P):Option P:=xd Q s t (oP Q s t p lo) lo hi
def E0(s:S)(p:P):Option P:=
 match p with
 | .sl n v len | .l0 n v _ _ len=>if s.live n v then some (.d (.int .i64 len)) else none
 | .d (.sl _ es)=>some (.d (.int .i64 es.length))
 |_=>none
def E1(s:S)(p:P):Option P:=
 match p with
 | .mp n v=>match s.obj n v with |some (.map _ _ c _)=>some (.d (.int .i64 c))|_=>none
 |_=>none
def uL(s:S)(p q:P):Option Bool:=
 match p,q with
 | .ref n v _,.d .r3 | .dG n v _ _ _,.d .r3 | .d .r3,.ref n v _ | .d .r3,.dG n v _ _ _=>if s.live n v then some false else none
 | .fe _ _,.d .r3 | .d .r3,.fe _ _=>some false
 |_,_=>none
def o4(Q:Program)(s:S)(op:BinOp)(t:TypeId)(x y:Operand)(p q:P):Option P:=
 match p.cG,q.cG with
 |some a,some b=>eo Q (do eqGuard op t x y a b;binOp op t a b)
 |_,_=>match Q.underlying t,uL s p q,op with
  |some (.pointer _),some r,.eql=>some (.d (.bool r))
  |some (.pointer _),some r,.neq=>some (.d (.bool (!r)))
  |_,_,_=>none
def dj:List P->Option (List Value)
 | []=>some []
 |p::r=>match p.cG,dj r with |some v,some vs=>some (v::vs)|_,_=>none
def P.Ii:P->Option (List P)
 | .agg ps=>some ps
 | .d (.agg cs)=>some (cs.map .d)
 |_=>none
def Ij(Q:Program)(t:TypeId)(f:Nat)(p:P):Option P:=
 match Q.underlying t,p.Ii with
 |some (.struct fs),some ps=>match fs[f]? with
  |some fl=>Bh Q fl.type ps fl.offset
  |none=>none
 |_,_=>none
def Ik(Q:Program)(n:Nat)(e:TypeId)(p:P)(i:P):Option P:=
 match p.Ii,i,sz Q e with
 |some ps,.d (.int _ j),some k=>if 0<=j/\j<(n:Int) then Bh Q e ps (j.toNat*k) else none
 |_,_,_=>none
def cL(o:Option D)(z:D):D:=o.getD z
def eH(Q:Program)(s:S)(t:TypeId)(p i:P)(ok:Bool)(z:D):Option P:=
 match kq Q t,p,i with
 |some (kt,_),.mp n v,.d k=>match s.obj n v with
  |some (.map Au get _ _)=>if Nat.beq kt Au&&fY Q kt k then some (if ok then .cT [.d ((get k).getD z),.d (.bool (get k).isSome)] else .d ((get k).getD z)) else none
  |some (.kB Au get _ _ _)=>if !ok&&Nat.beq kt Au&&fY Q kt k then some (.d ((get k).getD z)) else none
  |_=>none
 |some (kt,_),.d .tf,.d k=>if fY Q kt k then some (if ok then .cT [.d z,.d (.bool false)] else .d z) else none
 |_,_,_=>none
def py(s:S)(p:P):Option P:=
 match p with
 | .ref n v 0=>match s.obj n v with
  |some (.iter _ _ _ (some (k,x)))=>some (.cT [.d k,.d x])
  |_=>none
 |_=>none
def eF(Q:Program)(t:TypeId):Option D:=
 match Q.info? t with
 |some i=>match i.zero with |some z=>D.uK z |none=>none
 |none=>none
def KD(fs:Array Field):Sem (Array (Nat×Nat)):=fs.mapM λf=>do pure (f.offset,<-sizeOf f.type)
def E2(pl:Array (Nat×Nat)):List P->List (Nat×P)->Option (List P)
 |ps,[]=>some ps
 |ps,(i,p)::r=>match pl[i]? with
  |some (off,k)=>if Nat.beq p.cells.length k&&Nat.ble (off+k) ps.length&&p.nR then E2 pl (splice ps off p.cells) r else none
  |none=>none
def xK(Q:Program)(t:TypeId)(parts:List (Nat×P)):Option P:=
 match Q.underlying t,eF Q t with
 |some (.struct fs),some z=>match aA Q (KD fs) with
  |some pl=>match E2 pl (z.cells.map .d) parts with
   |some qs=>some (KB qs)
   |none=>none
  |none=>none
 |_,_=>none
def pv(Q:Program)(s:S)(o:Oper)(g:Option (Nat×Bool)):Option P:=
 match o.op with
 | .move x | .assign x=>some (s.eg g x)
 | .pick c a b=>match s.eg g c with | .d (.bool r)=>some (if r then s.eg g a else s.eg g b)|_=>none
 | .nilCheck x=>kO s (s.eg g x)
 | .binOp op t x y _=>o4 Q s op t x y (s.eg g x) (s.eg g y)
 | .unOp op _ x=>match(s.eg g x).cG with |some v=>eo Q (Op.unary op v)|none=>none
 | .convert a b x=>match(s.eg g x).cG with |some v=>eo Q (Go.convert a b v)|none=>none
 | .load t x=>rz Q s t (s.eg g x)
 | .fieldAddr t x f=>iT Q s t f (s.eg g x)
 | .indexAddr t x i=>fj Q s t (s.eg g x) (s.eg g i)
 | .index t x i=>match Q.underlying t with
  |some (.array n e)=>Ik Q n e (s.eg g x) (s.eg g i)
  |_=>match(s.eg g x).cG,(s.eg g i).cG with |some a,some b=>eo Q (Instr.index t a b)|_,_=>none
 | .field t x f=>Ij Q t f (s.eg g x)
 | .extract x i=>match s.eg g x with | .cT ps=>ps[i]? |_=>none
 | .lookup t x i ok=>match(kq Q t).bind λy=>eF Q y.2 with
  |some z=>eH Q s t (s.eg g x) (s.eg g i) ok z
  |none=>none
 | .entry x=>py s (s.eg g x)
 | .slice t x lo hi none=>match(s.eg g x).cG with
  |some (.string b)=>match(match lo with |none=>some none |some l=>(s.eg g l).cG.map some),(match hi with |none=>some none |some h=>(s.eg g h).cG.map some) with
   |some l,some h=>eo Q (Instr.sliceAt t (.string b) l h none)
   |_,_=>none
  |_=>mD Q s t (s.eg g x) (lo.map (s.eg g)) (hi.map (s.eg g))
 | .build t parts=>match dj (parts.toList.map λx=>s.eg g x.2) with
  |some vs=>eo Q (Instr.build t ((parts.toList.map (·.1)).zip vs).toArray)
  |none=>xK Q t (parts.toList.map λx=>(x.1,s.eg g x.2))
 | .makeFunc (.func f) first cP=>match first.toList with
  | []=>some (.fn f (cP.toList.map (s.eg g)))
  |_=>none
 | .call c=>match c.callee with
  | .builtin .len=>match c.args.toList with
   | [x]=>match(s.eg g x).cG with
    |some v=>eo Q (Builtin.len_ c.argTypes o.type #[v])
    |none=>match(c.argTypes[0]?).bind (cQ Q) with
     |some _=>E0 s (s.eg g x)
     |none=>match(c.argTypes[0]?).bind (kq Q) with |some _=>E1 s (s.eg g x)|none=>none
   |_=>none
  | .builtin .min=>match dj (c.args.toList.map (s.eg g)) with |some vs=>eo Q (Builtin.min_ c.argTypes o.type vs.toArray)|none=>none
  | .builtin .max=>match dj (c.args.toList.map (s.eg g)) with |some vs=>eo Q (Builtin.max_ c.argTypes o.type vs.toArray)|none=>none
  |_=>none
 |_=>none
end Pi
