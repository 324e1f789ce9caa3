/- The texts PiBase PiEf PiCode PiDraw PiCode2 PiK PiRep PiPure PiEq PiMap PiStr PiPv PiKOk PiKOk2 PiKOk3 PiUpd PiEfOk PiEfOk2 PiEfOk3 PiApp PiSd PiEfOk4 PiMk. -/
import GoSem.Dispatch
import Derived.Calls
import Derived.Tactics2
import Derived.Laws.AppendOwn
import Derived.Laws.CopyRow
import Derived.Laws.Slices
import Derived.LoopN
import Derived.Laws.Strings
import Derived.MapKept
import Derived.IntWalk
import Derived.Deep.AppendSrc
import GoSem.Core.Sem
import Derived.Laws.MakeOwn
open Option renaming some→Z,none→Y
open Bool renaming false→C,true→O
open List renaming length→J
open Go renaming TypeId→I,Value→W,Program→M
open List renaming map→aa,take→ab,replicate→ee,take_succ_eq_append_getElem→i6,count→ss,reverse→th,set→tz
open Prod renaming fst→ba,snd→bl
open Nat renaming beq→bo,ble→gr,eq_of_beq_eq_true→mi,testBit→mm
open Int renaming toNat→dd,tmod→so
open ByteArray renaming mk→gz
open Option renaming isSome→ir,map→i7
open Array renaming replicate→pt,range→te
open Go.Op renaming operands→Do,bytesLess→IT,equalIn→PM
open Go.IntKind renaming i64→DD
open Go.Instr renaming sliceBound→Of,sliceBounds→OF
open Go.Builtin renaming zeroCells→OK
abbrev zaa:=@List.length_map
abbrev zab:=@List.getElem?_eq_some_iff
abbrev zac:=@Bool.and_eq_true
abbrev zad:=@Nat.eq_of_beq_eq_true
abbrev zae:=@List.getElem?_eq_getElem
abbrev zaf:=@List.length_append
abbrev zag:=@Nat.le_refl
abbrev zah:=@List.take_succ_eq_append_getElem
abbrev zai:=@Option.some.injEq
abbrev zaj:=@List.getD_eq_getElem?_getD
abbrev zak:=@List.take_of_length_le
abbrev zal:=@List.mem_map
abbrev zam:=@decide_eq_true_eq
abbrev zan:=@List.take_length
abbrev zao:=@List.mem_cons
abbrev zap:=@Option.map_eq_some_iff
abbrev zaq:=@Nat.mul_le_mul_right
abbrev zar:=@Array.getElem?_eq_some_iff
abbrev zas:=@List.mem_of_getElem?
abbrev zat:=@if_neg
abbrev zau:=@if_pos
abbrev zav:=@List.length_cons
abbrev zaw:=@List.getElem?_map
abbrev zax:=@Option.bind_some
abbrev zay:=@List.getElem_mem
abbrev zaz:=@List.eq_nil_of_length_eq_zero
abbrev zaA:=@Array.getD_eq_getD_getElem?
abbrev zaB:=@Option.map_some
abbrev zaC:=@List.map_append
abbrev zaD:=@List.getElem?_of_mem
abbrev zaE:=@Nat.zero_add
abbrev zaF:=@Bool.false_eq_true
abbrev zaG:=@List.length_take
abbrev zaH:=@List.mem_cons_of_mem
abbrev zaI:=@List.length_nil
abbrev zaJ:=@Nat.le_trans
abbrev zaK:=@List.mem_append
abbrev zaL:=@List.append_nil
abbrev zaM:=@List.getElem_of_mem
abbrev zaN:=@List.mem_singleton
abbrev zaO:=@Array.getElem?_setIfInBounds_ne
abbrev zaP:=@List.getElem?_append_left
abbrev zaQ:=@List.length_filter_le
abbrev zaR:=@Nat.lt_of_lt_of_le
abbrev zaS:=@List.map_cons
abbrev zaT:=@Option.some.inj
abbrev zaU:=@List.nodup_cons
abbrev zaV:=@Nat.add_mul
abbrev zaW:=@List.append_assoc
abbrev zaX:=@List.length_drop
abbrev zaY:=@List.map_congr_left
abbrev zaZ:=@List.getElem?_append_right
abbrev za0:=@Ne.symm
abbrev za1:=@List.pairwise_map
abbrev za2:=@Array.getElem?_setIfInBounds_self_of_lt
abbrev za3:=@List.drop_eq_getElem_cons
abbrev za4:=@Nat.zero_le
abbrev za5:=@List.mem_map_of_mem
abbrev za6:=@decide_eq_true
abbrev za7:=@decide_eq_false
abbrev za8:=@List.all_eq_true
abbrev za9:=@List.cons.injEq
abbrev zba:=@List.pairwise_iff_getElem
abbrev zbb:=@List.getElem?_set_ne
abbrev zbc:=@List.getElem?_set_self
abbrev zbd:=@Prod.mk.injEq
abbrev zbe:=@List.findIdx?_eq_some_iff_getElem
abbrev zbf:=@Bool.eq_iff_iff
abbrev zbg:=@List.take_append_drop
abbrev zbh:=@List.foldl_cons
abbrev zbi:=@List.length_set
abbrev zbj:=@if_true
abbrev zbk:=@if_false
abbrev zbl:=@decide_eq_false_iff_not
abbrev zbm:=@List.mem_of_mem_take
abbrev zbn:=@Bool.or_eq_true
abbrev zbo:=@Array.toList_inj
abbrev zbp:=@List.length_replicate
abbrev zbq:=@List.getElem?_eq_none
abbrev zbr:=@List.map_map
abbrev zbs:=@Option.bind_eq_some_iff
abbrev zbt:=@List.nil_append
abbrev zbu:=@List.count_le_length
abbrev zbv:=@Bool.not_eq_true
abbrev zbw:=@Nat.one_mul
abbrev zbx:=@List.nodup_append
abbrev zby:=@Array.getElem?_eq_getElem
abbrev zbz:=@Classical.byContradiction
abbrev zbA:=@List.map_set
abbrev zbB:=@List.getElem?_take
abbrev zbC:=@List.flatMap_eq_nil_iff
abbrev zbD:=@Bool.not_eq_true'
abbrev zbE:=@cond_false
abbrev zbF:=@of_decide_eq_true
abbrev zbG:=@List.take_add_one
abbrev zbH:=@List.take_left'
abbrev zbI:=@List.map_reverse
abbrev zbJ:=@List.isEmpty_iff
abbrev zbK:=@Nat.add_assoc
abbrev zbL:=@Nat.le_of_ble_eq_true
abbrev zbM:=@Array.getElem?_toList
abbrev zbN:=@Array.getElem?_modify
abbrev zbO:=@List.mem_append_right
abbrev zbP:=@List.length_singleton
abbrev zbQ:=@List.mem_cons_self
abbrev zbR:=@List.findIdx?_eq_none_iff
abbrev zbS:=@List.mem_append_left
abbrev zbT:=@List.flatMap_cons
abbrev zbU:=@List.ext_getElem
abbrev zbV:=@beq_iff_eq
abbrev zbW:=@Int.le_refl
abbrev zbX:=@List.ext_getElem?
abbrev zbY:=@Int.toNat_natCast
abbrev zbZ:=@List.foldl_append
abbrev zb0:=@Array.getElem?_append_left
abbrev zb1:=@List.count_cons_self
abbrev zb2:=@List.mem_take_iff_getElem
abbrev zb3:=@List.mem_of_find?_eq_some
abbrev zb4:=@Nat.succ_le_succ
abbrev zb5:=@Nat.le_succ
abbrev zb6:=@List.filter_sublist
abbrev zb7:=@List.filter_eq_self
abbrev zb8:=@List.flatMap_append
abbrev zb9:=@Nat.add_zero
abbrev zca:=@Nat.ble_eq
abbrev zcb:=@List.length_erase_of_mem
abbrev zcc:=@List.getElem?_drop
abbrev zcd:=@Option.map_none
abbrev zce:=@List.mem_filter
abbrev zcf:=@List.filter_append
abbrev zcg:=@List.length_pos_of_mem
abbrev zch:=@Function.comp_def
abbrev zci:=@List.map_id
abbrev zcj:=@Nat.mul_comm
abbrev zck:=@Option.getD_some
abbrev zcl:=@List.drop_length
abbrev zcm:=@List.mem_of_mem_drop
abbrev zcn:=@List.find?_cons
abbrev zco:=@Nat.min_eq_left
abbrev zcp:=@List.length_pos_iff
abbrev zcq:=@List.any_append
abbrev zcr:=@List.length_reverse
abbrev zcs:=@Nat.lt_or_gt_of_ne
abbrev zct:=@getElem!_pos
abbrev zcu:=@and_true
abbrev zcv:=@List.pairwise_cons
abbrev zcw:=@List.map_nil
abbrev zcx:=@List.find?_eq_none
abbrev zcy:=@List.drop_drop
abbrev zcz:=@List.size_toArray
abbrev zcA:=@cond_true
abbrev zcB:=@List.find?_append
abbrev zcC:=@Option.isSome_map
abbrev zcD:=@Bool.true_and
abbrev zcE:=@List.getElem?_cons_succ
abbrev zcF:=@Nat.mul_one
abbrev zcG:=@true_and
abbrev zcH:=@Array.size_range
abbrev zcI:=@decide_eq_decide
abbrev zcJ:=@List.any_eq_true
abbrev zcK:=@List.drop_eq_nil_of_le
abbrev zcL:=@Array.getElem?_eq_none
abbrev zcM:=@List.find?_cons_of_neg
abbrev zcN:=@Nat.div_lt_iff_lt_mul
abbrev zcO:=@not_or
abbrev zcP:=@Nat.sub_self
abbrev zcQ:=@List.count_cons_of_ne
abbrev zcR:=@List.length_eraseIdx
abbrev zcS:=@List.drop_take
abbrev zcT:=@List.drop_zero
abbrev zcU:=@List.find?_map
abbrev zcV:=@Array.length_toList
abbrev zcW:=@List.Sublist.append
abbrev zcX:=@Array.foldl_toList
abbrev zcY:=@Nat.eq_or_lt_of_le
abbrev zcZ:=@Bool.false_or
abbrev zc0:=@Array.ext_getElem?
abbrev zc1:=@of_decide_eq_false
abbrev zc2:=@List.set_cons_zero
abbrev zc3:=@List.count_eq_zero
abbrev zc4:=@List.length_filter_eq_length_iff
abbrev zc5:=@Nat.mod_lt
abbrev zc6:=@Nat.lt_trichotomy
abbrev zc7:=@List.reverse_perm
abbrev zc8:=@List.getElem?_inj
abbrev zc9:=@List.Sublist.refl
abbrev zda:=@List.eq_nil_iff_forall_not_mem
abbrev zdb:=@Array.toList_map
abbrev zdc:=@List.cons_append
abbrev zdd:=@List.not_mem_nil
abbrev zde:=@List.mem_flatMap
abbrev zdf:=@Nat.le_add_right
abbrev zdg:=@Nat.lt_succ_self
abbrev zdh:=@List.Sublist.map
abbrev zdi:=@Array.getElem?_setIfInBounds
abbrev zdj:=@Nat.div_add_mod
abbrev zdk:=@List.find?_some
abbrev zdl:=@Option.or_none
abbrev zdm:=@Array.getElem?_replicate
abbrev zdn:=@Nat.blt_eq
abbrev zdo:=@List.Perm.eq_of_pairwise
abbrev zdp:=@Bool.or_assoc
abbrev zdq:=@List.filter_cons_of_neg
abbrev zdr:=@List.filter_cons_of_pos
abbrev zds:=@List.length_eq_zero_iff
namespace Pi
open Go
inductive D where
 |bool (b:Bool)
 |int (k:IntKind) (n:Int)
 |str (s:List UInt8)
 |agg (cs:List D)
 |sl (k:Nat) (es:List D)
 |cd
 |lW
 |qy
 |Gk
 |wU
 |qz (b len cap:Nat)
 deriving Inhabited
def D.cells:D->List D
 | .agg cs=>cs
 |x=>[x]
def D.b9:D->Bool
 | .agg _=>C
 |_=>O
inductive P where
 |d (x:D)
 |agg (ps:List P)
 |ref (n v off:Nat)
 |eB (n v i k off:Nat)
 |fT (x:D) (off:Nat)
 |sl (n v len:Nat)
 |nu (n v k off len:Nat)
 |mp (n v:Nat)
 |hd (n v:Nat)
 |JL (n v len:Nat)
 |wV (n v:Nat)
 |fn (f:FuncId) (dA:List P)
 |cy (ps:List P)
 |when (slot:Nat) (want:Bool) (p:P)
 |bad
 deriving Inhabited
def P.skip:P:= .when 0 C .bad
def P.b9:P->Bool
 | .d x=>x.b9
 | .ref .. | .eB .. | .fT .. | .sl .. | .nu .. | .mp .. | .hd .. | .JL .. | .wV .. | .fn ..=>O
 |_=>C
inductive Obj where
 |gone
 |box (ty:I) (ps:List P)
 |arr (ty:I) (fz:Bool) (es:List D)
 |map (kt:Nat) (get:D->Option D) (n:Int) (fz:Bool)
 |iter (kt vt:Nat) (left:D->Option D) (cur:Option (D×D))
 |ji (s:List UInt8) (pos:Nat)
 |cS
 |fY (kt:Nat) (get:D->Option D) (n:Int) (p:P) (kd:D)
 |deep (x:D) (p:World->W->Prop)
 deriving Inhabited
structure En where
 aU:Nat
 tag:Option Nat
 obj:Obj
def lk{α:Type}:List (Nat×α)->Nat->Option α
 | [],_=>Y
 | (k,v)::r,j=>if bo k j then Z v else lk r j
def ins{α:Type}(k:Nat)(v:α):List (Nat×α)->List (Nat×α)
 | []=>[(k,v)]
 | (j,u)::r=>if Nat.blt k j then(k,v)::(j,u)::r else if bo k j then(k,v)::r else(j,u)::ins k v r
structure S where
 n:Nat
 tm:List (Nat×P)
 rg:List (Nat×En)
def D.fZ:D->Option W
 | .bool b=>Z (.bool b)
 | .int k n=>Z (.int k n)
 | .str s=>Z (.string ⟨⟨s⟩⟩)
 | .cd=>Z (.slice Y 0 0)
 | .lW=>Z (.pointer Y)
 | .qy=>Z (.map Y)
 | .Gk=>Z .nilFunc
 | .wU=>Z .nilIface
 | .agg _ | .sl _ _ | .qz ..=>Y
def D.dS:List D->Option (List W)
 | []=>Z []
 |x::r=>match x.fZ,D.dS r with |Z v,Z vs=>Z (v::vs)|_,_=>Y
def D.cY:D->Option W
 | .agg cs=>match D.dS cs with |Z vs=>Z (.agg ⟨vs⟩)|Y=>Y
 |x=>x.fZ
def P.cY:P->Option W
 | .d x=>x.cY
 |_=>Y
def D.n9:W->Option D
 | .bool b=>Z (.bool b)
 | .int k n=>Z (.int k n)
 | .string s=>Z (.str s.data.toList)
 | .slice Y 0 0=>Z .cd
 | .pointer Y=>Z .lW
 | .map Y=>Z .qy
 | .nilFunc=>Z .Gk
 | .nilIface=>Z .wU
 |_=>Y
def D.Gl:List W->Option (List D)
 | []=>Z []
 |v::r=>match D.n9 v,D.Gl r with |Z x,Z xs=>Z (x::xs)|_,_=>Y
def D.wW:W->Option D
 | .agg cs=>match D.Gl cs.toList with |Z xs=>Z (.agg xs)|Y=>Y
 |v=>D.n9 v
def ay{α:Type}(Q:M):Sem α->Option α
 | .pure a=>Z a
 | .program k=>ay Q (k Q)
 | .mark _ k=>ay Q k
 |_=>Y
def eQ(Q:M)(m:Sem W):Option P:=
 match ay Q m with
 |Z v=>match D.wW v with |Z x=>Z (.d x)|Y=>Y
 |Y=>Y
def S.ev(s:S):Operand->P
 | .tmp t=>(lk s.tm t).getD .bad
 | .const v=>match D.wW v with |Z x=> .d x |Y=> .bad
 | .func f=> .fn f []
 | .global _=> .bad
def P.under(_:Option (Nat×Bool)):P->P
 | .when ..=> .bad
 |p=>p
def S.eg(s:S) g x:=(s.ev x).under g
def S.put(s:S)(dst:Option Nat)(p:P):=
 match dst with
 |Y=>Z s
 |Z t=>if Nat.blt t s.n then Z ⟨s.n,ins t p s.tm,s.rg⟩ else Y
def Dv:List P->Option (List D)
 | []=>Z []
 | .d x::r=>match Dv r with |Z xs=>Z (x::xs)|Y=>Y
 |_=>Y
def P5(ps:List P):P:=match Dv ps with |Z xs=> .d (.agg xs)|Y=> .agg ps
def P.cells:P->List P
 | .agg ps=>ps
 | .d (.agg cs)=>cs.map .d
 |p=>[p]
def P.pB:P->Bool
 | .agg _ | .d _=>O
 |p=>p.b9
set_option backward.match.sparseCases false
def qlj(a b c:Nat):D->Bool
 | .qz a' b' c'=>bo a a'&&(bo b b'&&bo c c')
 |_=>C
mutual
def D.dq:D->D->Bool
 | .bool a,.bool b=>a==b
 | .int k a,.int k' b=>k==k'&&a==b
 | .str a,.str b=>a==b
 | .agg a,.agg b=>D.Ns a b
 | .sl k a,.sl k' b=>k==k'&&D.Ns a b
 | .qz a b c,y=>qlj a b c y
 | .cd,.cd | .lW,.lW | .qy,.qy | .Gk,.Gk | .wU,.wU=>O
 |_,_=>C
def D.Ns:List D->List D->Bool
 | [],[]=>O
 |x::xs,y::ys=>D.dq x y&&D.Ns xs ys
 |_,_=>C
end
set_option backward.match.sparseCases true
def aW k v (get:D->Option D):=λh=>bif D.dq k h then Z v else get h
def iq k (get:D->Option D):=λh=>bif D.dq k h then Y else get h
def sz(Q:M)(t:I):Option Nat:=match Q.info? t,Q.underlying t with |Z i,Z _=>Z i.size |_,_=>Y
def dZ(Q:M)(t:I):Bool:=match Q.underlying t with |Z (.struct _)|Z (.array _ _)=>O |_=>C
def dx(Q:M)(t:I):Option I:=match Q.underlying t with |Z (.slice e)=>Z e |_=>Y
def Eo(Q:M)(t:I)(ps:List P)(off:Nat):Option P:=
 match sz Q t with
 |Y=>Y
 |Z k=>if dZ Q t then(if gr (off+k) (J ps) then Z (P5 ((ps.drop off).take k)) else Y) else ps[off]?
def kx(Q:M)(t:I)(cs:List D)(off:Nat):Option D:=
 match sz Q t with
 |Y=>Y
 |Z k=>if dZ Q t then(if gr (off+k) (J cs) then Z (.agg ((cs.drop off).take k)) else Y) else cs[off]?
def S.obj(s:S)(n v:Nat):Option Obj:=
 match lk s.rg n with
 |Z e=>if bo e.aU v then Z e.obj else Y
 |Y=>Y
def JM(Q:M)(go:I->D->D->Option Bool):List Field->List D->List D->Option Bool
 | [],_,_=>Z O
 |f::r,xs,ys=>match f.name== "_" with
  |O=>JM Q go r xs ys
  |C=>match kx Q f.type xs f.offset,kx Q f.type ys f.offset with
   |Z x,Z y=>match go f.type x y,JM Q go r xs ys with
    |Z a,Z b=>Z (a&&b)
    |_,_=>Y
   |_,_=>Y
def eqD(Q:M):Nat->I->D->D->Option Bool
 |0,_,_,_=>Y
 |n+1,t,x,y=>match Q.underlying t with
  |Z .bool=>match x,y with | .bool a,.bool b=>Z (a==b)|_,_=>Y
  |Z (.int _)=>match x,y with | .int k a,.int k' b=>(match k==k' with |O=>Z (a==b)|C=>Y)|_,_=>Y
  |Z .string=>match x,y with | .str a,.str b=>Z (a==b)|_,_=>Y
  |Z (.struct fs)=>match x,y with
   | .agg xs,.agg ys=>match Q.stoodInHeld t with
    |O=>Y
    |C=>JM Q (eqD Q n) fs.toList xs ys
   |_,_=>Y
  |_=>Y
def qV(Q:M):Nat->List Field->Nat->Bool
 |off,[],wX=>bo off wX
 |off,f::r,wX=>bo f.offset off&&qV Q (off+Q.cellsOf f.type) r wX
def jQ(Q:M):Nat->I->D->Bool
 |0,_,_=>C
 |n+1,t,x=>match Q.underlying t with
  |Z .bool=>(match x with | .bool _=>O |_=>C)
  |Z (.int k)=>(match x with | .int k' _=>k==k' |_=>C)
  |Z .string=>(match x with | .str _=>O |_=>C)
  |Z (.struct fs)=>(match x with
   | .agg cs=>bo (J cs) (Q.cellsOf t)&&qV Q 0 fs.toList (Q.cellsOf t)&& !Q.stoodInHeld t&&fs.toList.all λf=> !(f.name== "_")&&(dZ Q f.type ||bo (Q.cellsOf f.type) 1)&&(match kx Q f.type cs f.offset with |Z y=>jQ Q n f.type y |Y=>C)
   |_=>C)
  |_=>C
def D.Nt:D->Bool
 | .bool _ | .int _ _ | .str _=>O
 |_=>C
def ga Q h k:=jQ Q 20 h k&&k.cells.all D.Nt&&(match k.cY with
 |Z v=>(match ay Q (Instr.checkKey C 10000 h v),ay Q (Instr.checkKey O 10000 h v) with |Z _,Z _=>O |_,_=>C)
 |Y=>C)
def ky(Q:M)(t:I):Option (I×I):=match Q.underlying t with |Z (.map k e)=>Z (k,e)|_=>Y
def S.setObj(s:S)(n:Nat)(o:Obj):S:=
 match lk s.rg n with
 |Z e=>{s with rg:=ins n ⟨e.aU,e.tag,o⟩ s.rg}
 |Y=>s
def S.new(s:S)(n:Nat)(o:Obj):Option (S×Nat):=
 match lk s.rg n with
 |Y=>Z ({s with rg:=ins n ⟨0,Y,o⟩ s.rg},0)
 |Z e=>match e.obj with
  | .gone=>Z ({s with rg:=ins n ⟨e.aU+1,Y,o⟩ s.rg},e.aU+1)
  |_=>match e.tag with
   |Y=>Z ({s with rg:=ins n ⟨e.aU+1,Y,o⟩ s.rg},e.aU+1)
   |Z _=>Y
def splice(ps:List P) off qs:=ps.take off++qs++ps.drop (off+J qs)
def site(dst:Option Nat):=1000+dst.getD 999
def S.live(s:S)(n v:Nat):Bool:=
 match s.obj n v with
 |Z .gone=>C
 |Z _=>O
 |Y=>C
def lO(s:S)(p:P):=
 match p with
 | .ref n v _ | .eB n v _ _ _=>if s.live n v then Z p else Y
 | .fT .. | .fn ..=>Z p
 |_=>Y
def sU(Q:M)(s:S)(t:I):P->Option P
 | .ref n v off=>match s.obj n v with |Z (.box _ ps)=>Eo Q t ps off |_=>Y
 | .eB n v i k off=>match s.obj n v with
  |Z (.arr ty _ es)=>match sz Q ty,es[i]? with
   |Z k',Z x=>if bo k k' then(match kx Q t x.cells off with |Z y=>Z (.d y)|Y=>Y) else Y
   |_,_=>Y
  |_=>Y
 | .fT x off=>match kx Q t x.cells off with |Z y=>Z (.d y)|Y=>Y
 |_=>Y
def Ay(Q:M)(t:I)(f:Nat):Option Nat:=
 match Q.underlying t with
 |Z (.struct fs)=>match fs[f]? with
  |Z fl=>match sz Q fl.type with |Z (_+1)=>Z fl.offset |_=>Y
  |Y=>Y
 |_=>Y
def jR(Q:M)(s:S)(t:I)(f:Nat)(p:P):Option P:=
 match Ay Q t f with
 |Y=>Y
 |Z o=>match p with
  | .ref n v off=>if s.live n v then Z (.ref n v (off+o)) else Y
  | .eB n v i k off=>if s.live n v then Z (.eB n v i k (off+o)) else Y
  | .fT x off=>Z (.fT x (off+o))
  |_=>Y
def qW(Q:M)(s:S)(len:Nat)(e:I)(p:P)(i:P):Option P:=
 match i,sz Q e with
 | .d (.int _ j),Z (k+1)=>if 0<=j/\j<(len:Int) then(match p with
  | .ref n v off=>if s.live n v then Z (.ref n v (off+j.toNat*(k+1))) else Y
  | .eB n v i k' off=>if s.live n v then Z (.eB n v i k' (off+j.toNat*(k+1))) else Y
  | .fT x off=>Z (.fT x (off+j.toNat*(k+1)))
  |_=>Y) else Y
 |_,_=>Y
def P6(Q:M)(t:I):Option (Nat×I):=match Q.underlying t with |Z (.array n e)=>Z (n,e)|_=>Y
def gb(Q:M)(s:S)(t:I)(p:P)(i:P):Option P:=
 match P6 Q t with
 |Z (n,e)=>qW Q s n e p i
 |Y=>match dx Q t,i with
 |Z e,.d (.int _ j)=>match sz Q e with
  |Z (k+1)=>match p with
   | .sl n v len=>match s.obj n v with
    |Z (.arr ty _ _)=>if bo ty e then(if 0<=j/\j<(len:Int) then Z (.eB n v j.toNat (k+1) 0) else Y) else Y
    |_=>Y
   | .nu n v k' off len=>match s.obj n v with
    |Z (.arr ty _ _)=>if bo ty e&&bo k' (k+1) then(if 0<=j/\j<(len:Int) then Z (.eB n v (off+j.toNat) (k+1) 0) else Y) else Y
    |_=>Y
   | .d (.sl k' es)=>if bo k' (k+1) then(if 0<=j then(match es[j.toNat]? with |Z x=>Z (.fT x 0)|Y=>Y) else Y) else Y
   |_=>Y
  |_=>Y
 |_,_=>Y
def eC(len:Nat)(lo l:Option P):=
 match(match l with |Y=>Z len |Z (.d (.int _ j))=>if 0<=j/\j<=(len:Int) then Z j.toNat else Y |_=>Y) with
 |Y=>Y
 |Z h=>match lo with
  |Y=>Z (0,h)
  |Z (.d (.int _ j))=>if 0<=j/\j<=(h:Int) then Z (j.toNat,h) else Y
  |_=>Y
def qp(Q:M)(s:S)(t:I)(p:P)(lo:Option P):P:=
 match p with
 | .sl n v len=>match lo,s.obj n v,(dx Q t).bind (sz Q) with
  |Z _,Z (.arr ty O es),Z (k+1)=>(match sz Q ty with |Z k'=>if bo k' (k+1) then .d (.sl (k+1) (es.take len)) else p |Y=>p)
  |_,_,_=>p
 |_=>p
def zz(Q:M)(s:S)(t:I)(p:P)(lo A:Option P):Option P:=
 match dx Q t with
 |Y=>Y
 |Z e=>match sz Q e with
  |Z (k+1)=>match p with
   | .d (.sl k' es)=>if bo k' (k+1) then(match eC (J es) lo A with |Z (l,h)=>Z (.d (.sl k' ((es.take h).drop l)))|Y=>Y) else Y
   | .sl n v len=>match s.obj n v,lo with
    |Z (.arr _ _ _),Y=>match eC len Y A with |Z (_,h)=>Z (.sl n v h)|Y=>Y
    |Z (.arr ty _ _),Z lo=>match sz Q ty with
     |Z k'=>if bo k' (k+1) then(match eC len (Z lo) A with |Z (l,h)=>Z (.nu n v (k+1) l (h-l))|Y=>Y) else Y
     |Y=>Y
    |_,_=>Y
   | .nu n v k' off len=>match s.obj n v with
    |Z (.arr _ _ _)=>if bo k' (k+1) then(match eC len lo A with |Z (l,h)=>Z (.nu n v (k+1) (off+l) (h-l))|Y=>Y) else Y
    |_=>Y
   |_=>Y
  |_=>Y
def oa Q s t p lo h:=zz Q s t (qp Q s t p lo) lo h
def JN(s:S)(p:P):Option P:=
 match p with
 | .sl n v len | .nu n v _ _ len | .JL n v len=>if s.live n v then Z (.d (.int DD len)) else Y
 | .d (.sl _ es)=>Z (.d (.int DD (J es)))
 |_=>Y
def JO(s:S)(p:P):Option P:=
 match p with
 | .mp n v=>match s.obj n v with |Z (.map _ _ c _)=>Z (.d (.int DD c))|_=>Y
 |_=>Y
def wY(s:S)(p q:P):=
 match p,q with
 | .ref n v _,.d .lW | .eB n v _ _ _,.d .lW | .d .lW,.ref n v _ | .d .lW,.eB n v _ _ _ | .hd n v,.d .lW | .d .lW,.hd n v=>if s.live n v then Z C else Y
 | .fT _ _,.d .lW | .d .lW,.fT _ _=>Z C
 |_,_=>Y
def qA Q s op t x y (p q:P):=
 match p.cY,q.cY with
 |Z a,Z b=>eQ Q (do eqGuard op t x y a b;binOp op t a b)
 |_,_=>match Q.underlying t,wY s p q,op with
  |Z (.pointer _),Z r,.eql=>Z (.d (.bool r))
  |Z (.pointer _),Z r,.neq=>Z (.d (.bool (!r)))
  |_,_,_=>Y
def dS:List P->Option (List W)
 | []=>Z []
 |p::r=>match p.cY,dS r with |Z v,Z vs=>Z (v::vs)|_,_=>Y
def P.Nu:P->Option (List P)
 | .agg ps=>Z ps
 | .d (.agg cs)=>Z (cs.map .d)
 |_=>Y
def Nv(Q:M)(t:I)(f:Nat)(p:P):Option P:=
 match Q.underlying t,p.Nu with
 |Z (.struct fs),Z ps=>match fs[f]? with
  |Z fl=>Eo Q fl.type ps fl.offset
  |Y=>Y
 |_,_=>Y
def Nw(Q:M)(n:Nat)(e:I)(p:P)(i:P):Option P:=
 match p.Nu,i,sz Q e with
 |Z ps,.d (.int _ j),Z k=>if 0<=j/\j<(n:Int) then Eo Q e ps (j.toNat*k) else Y
 |_,_,_=>Y
def aK(o:Option D) z:=o.getD z
def ff(Q:M)(s:S)(t:I)(p i:P)(ok:Bool)(z:D):Option P:=
 match ky Q t,p,i with
 |Z (kt,_),.mp n v,.d k=>match s.obj n v with
  |Z (.map Az get _ _)=>if bo kt Az&&ga Q kt k then Z (if ok then .cy [.d ((get k).getD z),.d (.bool (get k).isSome)] else .d ((get k).getD z)) else Y
  |Z (.fY Az get _ _ _)=>if !ok&&bo kt Az&&ga Q kt k then Z (.d ((get k).getD z)) else Y
  |_=>Y
 |Z (kt,_),.d .qy,.d k=>if ga Q kt k then Z (if ok then .cy [.d z,.d (.bool C)] else .d z) else Y
 |_,_,_=>Y
def qX(s:S)(p:P):Option P:=
 match p with
 | .ref n v 0=>match s.obj n v with
  |Z (.iter _ _ _ (Z (k,x)))=>Z (.cy [.d k,.d x])
  |_=>Y
 |_=>Y
def e9(Q:M)(t:I):Option D:=
 match Q.info? t with
 |Z i=>match i.zero with |Z z=>D.wW z |Y=>Y
 |Y=>Y
def P7(h:Array Field):=h.mapM λf=>do pure (f.offset,<-sizeOf f.type)
def JP(h:Array (Nat×Nat)):List P->List (Nat×P)->Option (List P)
 |ps,[]=>Z ps
 |ps,(i,p)::r=>match h[i]? with
  |Z (off,k)=>if bo (J p.cells) k&&gr (off+k) (J ps)&&p.pB then JP h (splice ps off p.cells) r else Y
  |Y=>Y
def AA(Q:M)(t:I)(h:List (Nat×P)):Option P:=
 match Q.underlying t,e9 Q t with
 |Z (.struct fs),Z z=>match ay Q (P7 fs) with
  |Z pl=>match JP pl (z.cells.map .d) h with
   |Z qs=>Z (P5 qs)
   |Y=>Y
  |Y=>Y
 |_,_=>Y
def pv(Q:M)(s:S)(o:Oper)(g:Option (Nat×Bool)):Option P:=
 match o.op with
 | .move x | .assign x=>Z (s.eg g x)
 | .pick c a b=>match s.eg g c with | .d (.bool r)=>Z (if r then s.eg g a else s.eg g b)|_=>Y
 | .nilCheck x=>lO s (s.eg g x)
 | .binOp op t x y _=>qA Q s op t x y (s.eg g x) (s.eg g y)
 | .unOp op _ x=>match(s.eg g x).cY with |Z v=>eQ Q (Op.unary op v)|Y=>Y
 | .convert a b x=>match(s.eg g x).cY with |Z v=>eQ Q (Go.convert a b v)|Y=>Y
 | .load t x=>sU Q s t (s.eg g x)
 | .fieldAddr t x f=>jR Q s t f (s.eg g x)
 | .indexAddr t x i=>gb Q s t (s.eg g x) (s.eg g i)
 | .index t x i=>match Q.underlying t with
  |Z (.array n e)=>Nw Q n e (s.eg g x) (s.eg g i)
  |_=>match(s.eg g x).cY,(s.eg g i).cY with |Z a,Z b=>eQ Q (Instr.index t a b)|_,_=>Y
 | .field t x f=>Nv Q t f (s.eg g x)
 | .extract x i=>match s.eg g x with | .cy ps=>ps[i]? |_=>Y
 | .lookup t x i ok=>match(ky Q t).bind λy=>e9 Q y.2 with
  |Z z=>ff Q s t (s.eg g x) (s.eg g i) ok z
  |Y=>Y
 | .entry x=>qX s (s.eg g x)
 | .slice t x lo hi Y=>match(s.eg g x).cY with
  |Z (.string b)=>match(match lo with |Y=>Z Y |Z l=>(s.eg g l).cY.map Z),(match hi with |Y=>Z Y |Z h=>(s.eg g h).cY.map Z) with
   |Z l,Z h=>eQ Q (Instr.sliceAt t (.string b) l h Y)
   |_,_=>Y
  |_=>oa Q s t (s.eg g x) (lo.map (s.eg g)) (hi.map (s.eg g))
 | .build t parts=>match dS (parts.toList.map λx=>s.eg g x.2) with
  |Z vs=>eQ Q (Instr.build t ((parts.toList.map (·.1)).zip vs).toArray)
  |Y=>AA Q t (parts.toList.map λx=>(x.1,s.eg g x.2))
 | .makeFunc (.func f) first dA=>match first.toList with
  | []=>Z (.fn f (dA.toList.map (s.eg g)))
  |_=>Y
 | .call c=>match c.callee with
  | .builtin .len=>match c.args.toList with
   | [x]=>match(s.eg g x).cY with
    |Z v=>eQ Q (Builtin.len_ c.argTypes o.type #[v])
    |Y=>match(c.argTypes[0]?).bind (dx Q) with
     |Z _=>JN s (s.eg g x)
     |Y=>match(c.argTypes[0]?).bind (ky Q) with |Z _=>JO s (s.eg g x)|Y=>Y
   |_=>Y
  | .builtin .min=>match dS (c.args.toList.map (s.eg g)) with |Z vs=>eQ Q (Builtin.min_ c.argTypes o.type vs.toArray)|Y=>Y
  | .builtin .max=>match dS (c.args.toList.map (s.eg g)) with |Z vs=>eQ Q (Builtin.max_ c.argTypes o.type vs.toArray)|Y=>Y
  |_=>Y
 |_=>Y
end Pi
namespace Pi
open Go
def r1(Q:M):Nat->I->List (Option I)
 |0,_=>[]
 |n+1,t=>match Q.underlying t with
  |Z (.struct fs)=>fs.toList.flatMap λf=>r1 Q n f.type
  |Z (.array k e)=>(ee k (r1 Q n e)).flatten
  |Z (.slice e)=>[Z e]
  |_=>[Y]
def uS(s:S)(n:Nat)(p:P)(t:Option I):Option (S×P):=
 match p,t with
 | .d .cd,Z e=>match s.new n (.arr e C []) with
  |Z (s',v)=>Z (s',.sl n v 0)
  |Y=>Y
 |_,_=>Z (s,p)
def cT(s:S)(n:Nat):List P->List (Option I)->Option (S×List P)
 | [],_=>Z (s,[])
 |p::ps,ts=>match uS s n p (ts.headD Y) with
  |Y=>Y
  |Z (s1,q)=>match cT s1 (n+1) ps ts.tail with
   |Z (s2,qs)=>Z (s2,q::qs)
   |Y=>Y
def pC(Q:M)(s:S)(dst:Option Nat)(t:I)(ps:List P):Option S:=
 match cT s (site dst*1000) ps (r1 Q 20 t) with
 |Y=>Y
 |Z (s1,qs)=>(match s1.new (site dst) (.box t qs) with
  |Z (s2,v)=>s2.put dst (.ref (site dst) v 0)
  |Y=>Y)
def D.aY(x:D)(cs:List D):D:=match x with | .agg _=> .agg cs |_=>cs.headD x
def qY Q (s:S)(p:P):=
 match p with
 | .d x=>Z (s,x)
 | .sl n v len=>match s.obj n v with
  |Z (.arr ty _ es)=>match sz Q ty with
   |Z (k+1)=>Z (s.setObj n (.arr ty O es),.sl (k+1) (es.take len))
   |_=>Y
  |_=>Y
 | .nu n v k' off len=>match s.obj n v with
  |Z (.arr ty _ es)=>match sz Q ty with
   |Z (k+1)=>if bo k' (k+1) then Z (s.setObj n (.arr ty O es),.sl (k+1) ((es.drop off).take len)) else Y
   |_=>Y
  |_=>Y
 |_=>Y
def sG(Q:M)(s:S):List P->Option (S×List D)
 | []=>Z (s,[])
 |p::ps=>match qY Q s p with
  |Y=>Y
  |Z (s1,x)=>match sG Q s1 ps with
   |Z (s2,xs)=>Z (s2,x::xs)
   |Y=>Y
def IZ(Q:M)(s:S)(p:P):Option (S×D):=
 match p with
 | .agg ps=>match sG Q s ps with |Z (s',xs)=>Z (s',.agg xs)|Y=>Y
 |_=>qY Q s p
def D.kR{β:Type}(x:D)(k:D->β):=
 match x with
 | .bool b=>k (.bool b)
 | .int a n=>k (.int a n)
 | .str s=>k (.str s)
 | .agg cs=>k (.agg cs)
 | .sl n es=>k (.sl n es)
 | .cd=>k .cd
 | .lW=>k .lW
 | .qy=>k .qy
 | .Gk=>k .Gk
 | .wU=>k .wU
 | .qz a b c=>k (.qz a b c)
def oc{α β:Type}(f:α->(α->β)->β):List α->(List α->β)->β
 | [],k=>k []
 |x::r,k=>f x λy=>oc f r λh=>k (y::h)
def D.force{β:Type}(x:D)(k:D->β):=
 match x with
 | .agg cs=>oc D.kR cs λh=>k (.agg h)
 |y=>y.kR k
theorem D.jS{β:Type} x (k:D->β):x.kR k=k x:=by cases x<;>rfl
theorem iI{α β:Type}{f:α->(α->β)->β}(h: ∀x k,f x k=k x): ∀l k,oc f l k=k l
 | [],_=>rfl
 |x::r,k=>by simp only[oc,h];rw[iI h r]
theorem D.force_eq{β:Type} x (k:D->β):x.force k=k x:=by
 cases x with
 |agg cs=>exact iI D.jS cs (λh=>k (.agg h))
 |_=>rfl
def nzC(Q:M)(t:Option I)(x:D):D:=
 match t with
 |Z e=>(match x with
  | .cd=>(match sz Q e with |Z (k+1)=> .sl (k+1) []|_=> .cd)
  |y=>y)
 |Y=>x
def JQ(Q:M):List (Option I)->List D->List D
 |t::ts,c::cs=>nzC Q t c::JQ Q ts cs
 |_,cs=>cs
def sV Q t:=(r1 Q 20 t).any ir
def nzD(Q:M)(t:I)(x:D):D:=match x with | .agg cs=> .agg (JQ Q (r1 Q 20 t) cs)| .cd=>nzC Q (dx Q t) .cd |y=>y
def pD(Q:M)(s:S)(t:I)(p:P):Option (S×D):=
 match sV Q t with
 |C=>IZ Q s p
 |O=>match IZ Q s p with |Z (s',x)=>(nzD Q t x).force λy=>Z (s',y)|Y=>Y
def iu(Q:M)(s:S)(t:I)(h val:P):Option S:=
 match sz Q t with
 |Y=>Y
 |Z k=>
      match h with
  | .ref n v off=>match uS s (2000000+n*1000+off) val (dx Q t) with
   |Z (s1,val)=>match s1.obj n v with
    |Z (.box ty ps)=>if bo (J val.cells) k&&gr (off+k) (J ps)&&val.pB then Z (s1.setObj n (.box ty (splice ps off val.cells))) else Y
    |_=>Y
   |Y=>Y
  | .eB n v i k' off=>match pD Q s t val with
   |Z (s1,x)=>match s1.obj n v with
    |Z (.arr ty C es)=>match es[i]?,sz Q ty with
     |Z y,Z k2=>if bo k' k2&&bo (J x.cells) k&&gr (off+k) k2 then
      Z (s1.setObj n (.arr ty C (es.set i (y.aY (y.cells.take off++x.cells++y.cells.drop (off+k)))))) else Y
     |_,_=>Y
    |_=>Y
   |Y=>Y
  |_=>Y
def od(Q:M)(s:S)(h:I)(k:Nat)(p:P):Option (List D):=
 match p with
 | .sl n v len=>match s.obj n v,Q.underlying h with
  |Z (.arr ty _ es),Z (.slice _)=>if sz Q ty==Z k then Z (es.take len) else Y
  |_,_=>Y
 | .nu n v k' off len=>match s.obj n v,Q.underlying h with
  |Z (.arr ty _ es),Z (.slice _)=>if sz Q ty==Z k&&bo k' k then Z ((es.drop off).take len) else Y
  |_,_=>Y
 | .d (.sl k' es)=>match Q.underlying h with |Z (.slice _)=>if bo k' k then Z es else Y |_=>Y
 | .d .cd=>match Q.underlying h with |Z (.slice _)=>Z []|_=>Y
 | .d (.str l)=>match Q.underlying h with |Z .string=>if bo k 1 then Z (l.map λb=>D.int .u8 b.toNat) else Y |_=>Y
 |_=>Y
def aB len h:=gr (len*h) 140737488355328&&gr len 9223372036854775807
def kh(Q:M)(s:S)(dst:Option Nat)(t h:I)(p q:P):Option S:=
 match dx Q t with
 |Y=>Y
 |Z e=>
       match Q.info? e,sz Q e with
  |Z i,Z (k+1)=>match od Q s h (k+1) q,e9 Q e with
   |Z ys,Z z=>if bo (J z.cells) (k+1) then(match p with
    | .sl n v len=>match lk s.rg n with
     |Z en=>match en.obj with
      | .arr ty C es=>if bo en.aU v&&bo ty e&&gr len (J es)&&aB (len+J ys) i.bytes then
        ({s with rg:=ins n ⟨v+1,Y,.arr ty C (es.take len++ys)⟩ s.rg}:S).put dst (.sl n (v+1) (len+J ys))
       else Y
      |_=>Y
     |Y=>Y
    | .d .cd=>if aB (J ys) i.bytes then(match s.new (site dst) (.arr e C ys) with
      |Z (s1,v)=>s1.put dst (.sl (site dst) v (J ys))
      |Y=>Y) else Y
    |_=>Y) else Y
   |_,_=>Y
  |_,_=>Y
def kS:List D->Option (List UInt8)
 | []=>Z []
 | .int .u8 n::r=>match kS r with |Z l=>Z (UInt8.ofNat n.toNat::l)|Y=>Y
 |_=>Y
def uT(Q:M)(s:S)(dst:Option Nat)(t:I)(p q:P):Option S:=
 match dx Q t,p,q with
 |Z e,.d (.int _ l),.d (.int _ c)=>match Q.info? e,sz Q e,e9 Q e with
  |Z i,Z (k+1),Z z=>if bo (J z.cells) (k+1)&&decide (0<=l/\l<=c/\c<=9223372036854775807/\(i.bytes:Int)*c<=281474976710656) then
   (match s.new (site dst) (.arr e C (ee l.toNat z)) with
   |Z (s1,v)=>s1.put dst (.sl (site dst) v l.toNat)
   |Y=>Y) else Y
  |_,_,_=>Y
 |_,_,_=>Y
def dB(Q:M)(t:I)(k:Nat):S->List D->List (Nat×P)->Option (S×List D)
 |s,es,[]=>Z (s,es)
 |s,es,(i,p)::r=>match pD Q s t p with
  |Z (s1,x)=>if bo (J x.cells) k&&Nat.blt i (J es) then dB Q t k s1 (es.set i x) r else Y
  |Y=>Y
def tJ(Q:M)(s:S)(dst:Option Nat)(t:I)(len:Nat)(h:List (Nat×P)):Option S:=
 match dx Q t with
 |Z e=>match Q.info? e,sz Q e,e9 Q e with
  |Z i,Z (k+1),Z z=>if bo (J z.cells) (k+1)&&gr (len*(k+1)) 16777216&&gr (len*i.bytes) 140737488355328 then
   (match dB Q e (k+1) s (ee len z) h with
   |Z (s1,es)=>(match s1.new (site dst) (.arr e C es) with
    |Z (s2,v)=>s2.put dst (.sl (site dst) v len)
    |Y=>Y)
   |Y=>Y) else Y
  |_,_,_=>Y
 |Y=>Y
def uU(Q:M)(s:S)(dst:Option Nat)(t h:I)(p q:P):Option S:=
 match dx Q t,p with
 |Z e,.sl n v len=>match sz Q e with
  |Z (k+1)=>match od Q s h (k+1) q,s.obj n v with
   |Z ys,Z (.arr ty C es)=>if bo ty e&&decide (len<=J es/\J ys<=len) then(s.setObj n (.arr ty C (ys++es.drop (J ys)))).put dst (.d (.int DD (J ys))) else Y
   |_,_=>Y
  |_=>Y
 |_,_=>Y
def pF(Q:M)(s:S)(dst:Option Nat)(t:I)(p:P):Option S:=
 match dx Q t,p with
 |Z e,.nu n v k off len=>match sz Q e,e9 Q e,s.obj n v with
  |Z (k2+1),Z z,Z (.arr ty C es)=>if bo ty e&&bo k (k2+1)&&bo (J z.cells) (k2+1)&&decide (off+len<=J es) then(s.setObj n (.arr ty C (es.take off++ee len z++es.drop (off+len)))).put dst .bad else Y
  |_,_,_=>Y
 |_,_=>Y
def lX(Q:M)(s:S)(dst:Option Nat)(t:I):Option S:=
 match ky Q t with
 |Z (kt,_)=>match s.new (site dst) (.map kt (λ_=>Y) 0 C) with
  |Z (s1,v)=>s1.put dst (.mp (site dst) v)
  |Y=>Y
 |Y=>Y
def AB(Q:M)(s:S)(dst:Option Nat)(t:I)(p k:P):Option S:=
 match ky Q t,p,k with
 |Z (kt,_),.mp n v,.d kd=>match s.obj n v with
  |Z (.map Az get c C)=>if bo kt Az&&ga Q kt kd then(s.setObj n (.map kt (iq kd get) (bif (get kd).isSome then c-1 else c) C)).put dst .bad else Y
  |_=>Y
 |_,_,_=>Y
def ki(Q:M)(s:S)(dst:Option Nat)(t:I)(p k x:P):Option S:=
 match ky Q t,p,k with
 |Z (kt,vt),.mp n v,.d kd=>match pD Q s vt x with
  |Z (s1,y)=>match s1.obj n v with
   |Z (.map Az get c C)=>if bo kt Az&&ga Q kt kd then(s1.setObj n (.map kt (aW kd y get) (bif (get kd).isSome then c else c+1) C)).put dst .bad else Y
   |_=>Y
  |Y=>Y
 |_,_,_=>Y
def qlk(z v:D):P:=match z with | .cd=> .d v |_=> .bad
def kj(Q:M)(s:S)(dst:Option Nat)(t:I)(p k:P):Option S:=
 match ky Q t,p,k with
 |Z (kt,e),.mp n v,.d kd=>match e9 Q e with
  |Z z=>match s.obj n v with
   |Z (.map Az get c C)=>if bo kt Az&&ga Q kt kd&& !bo n (site dst) then(match s.new (site dst) .cS with
    |Z (s1,v1)=>(s1.setObj n (.fY kt (aW kd (aK (get kd) z) get) (bif (get kd).isSome then c else c+1) (.mp (site dst) v1) kd)).put dst (.cy [qlk z (aK (get kd) z),.mp (site dst) v1])
    |Y=>Y) else Y
   |_=>Y
  |Y=>Y
 |_,_,_=>Y
def qZ Q s dst (p h x:P):=
 match p,h with
 | .mp n v,.mp m vm=>match IZ Q s x with
  |Z (s1,y)=>match s1.obj n v,s1.obj m vm with
   |Z (.fY kt get c (.mp m' vm') kd),Z .cS=>if bo m m'&&bo vm vm'&&ga Q kt kd then(s1.setObj n (.map kt (aW kd y get) c C)).put dst .bad else Y
   |_,_=>Y
  |Y=>Y
 |_,_=>Y
def isStr(Q:M)(t:I):Bool:=match Q.underlying t with |Z .string=>O |_=>C
def tK(Q:M)(s:S)(dst:Option Nat)(t:I)(p:P):Option S:=
 match ky Q t,p with
 |Z (kt,vt),.mp n v=>match s.obj n v with
  |Z (.map Az get c _)=>if bo kt Az then(match(s.setObj n (.map kt get c O)).new (site dst) (.iter kt vt get Y) with
   |Z (s1,v1)=>s1.put dst (.ref (site dst) v1 0)
   |Y=>Y) else Y
  |_=>Y
 |Z (kt,vt),.d .qy=>(match s.new (site dst) (.iter kt vt (λ_=>Y) Y) with
  |Z (s1,v1)=>s1.put dst (.ref (site dst) v1 0)
  |Y=>Y)
 |Y,.d (.str l)=>if isStr Q t then(match s.new (site dst) (.ji l 0) with
  |Z (s1,v1)=>s1.put dst (.ref (site dst) v1 0)
  |Y=>Y) else Y
 |_,_=>Y
def ef(Q:M)(s:S)(o:Oper)(g:Option (Nat×Bool)):Option S:=
 match o.op with
 | .alloc t=>match e9 Q t with |Z z=>pC Q s o.dst t ((P.d z).cells)|Y=>Y
 | .box t x=>if(s.eg g x).pB then pC Q s o.dst t (s.eg g x).cells else Y
 | .store t addr x=>match iu Q s t (s.eg g addr) (s.eg g x) with |Z s1=>s1.put o.dst .bad |Y=>Y
 | .convert t1 t2 x=>match Q.underlying t1,Q.underlying t2 with
  |Z (.slice e),Z .string=>match Q.underlying e,od Q s t1 1 (s.eg g x) with
   |Z (.int .u8),Z ys=>match kS ys with |Z l=>s.put o.dst (.d (.str l))|Y=>Y
   |_,_=>Y
  |_,_=>Y
 | .call c=>match c.callee with
  | .builtin .append=>match c.args.toList,c.argTypes.toList with
   | [x,y],[t,t2]=>kh Q s o.dst t t2 (s.eg g x) (s.eg g y)
   |_,_=>Y
  | .builtin .copy=>match c.args.toList,c.argTypes.toList with
   | [x,y],[t,t2]=>uU Q s o.dst t t2 (s.eg g x) (s.eg g y)
   |_,_=>Y
  | .builtin .clear=>match c.args.toList,c.argTypes.toList with
   | [x],[t]=>pF Q s o.dst t (s.eg g x)
   |_,_=>Y
  | .builtin .delete=>match c.args.toList,c.argTypes.toList with
   | [x,y],t::_=>AB Q s o.dst t (s.eg g x) (s.eg g y)
   |_,_=>Y
  |_=>Y
 | .makeSlice t x y=>uT Q s o.dst t (s.eg g x) (s.eg g y)
 | .makeMap t Y=>lX Q s o.dst t
 | .mapUpdate t m k x=>ki Q s o.dst t (s.eg g m) (s.eg g k) (s.eg g x)
 | .insert t m k x=>ki Q s o.dst t (s.eg g m) (s.eg g k) (s.eg g x)
 | .range t x=>tK Q s o.dst t (s.eg g x)
 | .mapEntry t m k=>kj Q s o.dst t (s.eg g m) (s.eg g k)
 | .entryStore _ m st x=>qZ Q s o.dst (s.eg g m) (s.eg g st) (s.eg g x)
 | .buildSlice t len parts=>tJ Q s o.dst t len (parts.toList.map λx=>(x.1,s.eg g x.2))
 |_=>Y
def dM Q (o:Oper):=
 match o.op with
 | .assign (.const (.slice Y 0 0))=>dx Q o.type
 |_=>Y
def nzE(Q:M)(t:I)(x:D):D:=match sV Q t with |C=>x |O=>nzD Q t x
def r4(Q:M)(t:I)(k:Nat):List D->List (Nat×P)->Option (List D)
 |es,[]=>Z es
 |es,(i,.d x)::r=>if bo (J (nzE Q t x).cells) k&&Nat.blt i (J es) then r4 Q t k (es.set i (nzE Q t x)) r else Y
 |_,_=>Y
def Ep(Q:M)(t:I)(len:Nat)(h:List (Nat×P)):Option P:=
 match dx Q t with
 |Z e=>match Q.info? e,sz Q e,e9 Q e with
  |Z i,Z (k+1),Z z=>if bo (J z.cells) (k+1)&&gr (len*(k+1)) 16777216&&gr (len*i.bytes) 140737488355328 then
   (match r4 Q e (k+1) (ee len z) h with
   |Z es=>Z (.d (.sl (k+1) es))
   |Y=>Y) else Y
  |_,_,_=>Y
 |Y=>Y
def tL(o:Oper):=
 match o.op with
 | .buildSlice t len parts=>if bo o.type 4000000 then Z (t,len,parts.toList) else Y
 |_=>Y
def kz(Q:M)(s:S)(o:Oper)(g:Option (Nat×Bool)):Option S:=
 match dM Q o with
 |Z e=>match s.new (site o.dst) (.arr e C []) with
  |Z (s1,v)=>s1.put o.dst (.sl (site o.dst) v 0)
  |Y=>Y
 |Y=>match pv Q s o g with
  |Z p=>s.put o.dst p
  |Y=>ef Q s o g
def exec(Q:M)(s:S)(o:Oper)(g:Option (Nat×Bool)):Option S:=
 match tL o with
 |Z (t,len,parts)=>match Ep Q t len (parts.map λx=>(x.1,s.eg g x.2)) with
  |Z p=>s.put o.dst p
  |Y=>Y
 |Y=>kz Q s o g
end Pi
namespace Pi
open Go
mutual
def AE(ρ:Nat->Nat->Option (Nat×Nat)):P->P
 | .agg ps=> .agg (oL ρ ps)
 | .cy ps=> .cy (oL ρ ps)
 | .fn f ps=> .fn f (oL ρ ps)
 | .ref n v off=>match ρ n v with |Z (n',v')=> .ref n' v' off |Y=> .bad
 | .eB n v i k off=>match ρ n v with |Z (n',v')=> .eB n' v' i k off |Y=> .bad
 | .sl n v len=>match ρ n v with |Z (n',v')=> .sl n' v' len |Y=> .bad
 | .nu n v k off len=>match ρ n v with |Z (n',v')=> .nu n' v' k off len |Y=> .bad
 | .mp n v=>match ρ n v with |Z (n',v')=> .mp n' v' |Y=> .bad
 | .hd n v=>match ρ n v with |Z (n',v')=> .hd n' v' |Y=> .bad
 | .JL n v len=>match ρ n v with |Z (n',v')=> .JL n' v' len |Y=> .bad
 | .wV n v=>match ρ n v with |Z (n',v')=> .wV n' v' |Y=> .bad
 | .when t b p=> .when t b (AE ρ p)
 | .d x=> .d x
 | .fT x off=> .fT x off
 | .bad=> .bad
def oL(ρ:Nat->Nat->Option (Nat×Nat)):List P->List P
 | []=>[]
 |p::ps=>AE ρ p::oL ρ ps
end
def gS(ρ:Nat->Nat->Option (Nat×Nat)):Obj->Obj
 | .box ty ps=> .box ty (oL ρ ps)
 | .fY kt get c p kd=> .fY kt get c (AE ρ p) kd
 |o=>o
def P.qq0:P->List P
 | .agg ps | .cy ps | .fn _ ps=>ps
 | .when _ _ p=>[p]
 |_=>[]
def P.name:P->Option (Nat×Nat)
 | .ref n v _ | .eB n v _ _ _ | .sl n v _ | .nu n v _ _ _ | .mp n v | .hd n v | .JL n v _ | .wV n v=>Z (n,v)
 |_=>Y
def gE:Nat->List Nat->Bool
 |_,[]=>C
 |n,m::r=>bo n m ||gE n r
def reach(R:List (Nat×En)):Nat->List P->List Nat->List Nat
 |0,_,acc=>acc
 |_,[],acc=>acc
 |k+1,p::ps,acc=>match p.name with
  |Y=>reach R k (p.qq0++ps) acc
  |Z (n,v)=>if gE n acc then reach R k ps acc else
   match lk R n with
   |Z e=>if bo e.aU v then(match e.obj with
    | .gone=>reach R k ps acc
    | .box _ qs=>reach R k (qs++ps) (acc++[n])
    |_=>reach R k ps (acc++[n])) else reach R k ps acc
   |Y=>reach R k ps acc
def posOf:List Nat->Nat->Nat->Option Nat
 | [],_,_=>Y
 |m::r,n,i=>if bo m n then Z i else posOf r n (i+1)
def toPos(R:List (Nat×En))(ns:List Nat)(n v:Nat):Option (Nat×Nat):=
 match posOf ns n 0,lk R n with
 |Z i,Z e=>if bo e.aU v then Z (i,0) else Y
 |_,_=>Y
def sub(R:List (Nat×En))(ρ:Nat->Nat->Option (Nat×Nat))(tagged:Bool):Nat->List Nat->Option (List (Nat×En))
 |_,[]=>Z []
 |i,n::ns=>match lk R n with
  |Z e=>match e.obj,sub R ρ tagged (i+1) ns with
   | .gone,_=>Y
   |_,Z r=>Z ((i,⟨0,if tagged then Z i else e.tag,gS ρ e.obj⟩)::r)
   |_,Y=>Y
  |Y=>Y
def eI:List Nat->Bool
 | []=>O
 |n::r=> !gE n r&&eI r
def sW(ρ:Nat->Nat->Option (Nat×Nat))(keep:List Nat):List (Nat×P)->List (Nat×P)
 | []=>[]
 | (t,p)::r=>if gE t keep then(t,AE ρ p)::sW ρ keep r else sW ρ keep r
def qcc(keep:List Nat):List (Nat×P)->List P
 | []=>[]
 | (t,p)::r=>if gE t keep then p::qcc keep r else qcc keep r
def canon(keep:List Nat)(s:S):Option S:=
 let ns:=reach s.rg 1000 (qcc keep s.tm) []
 if eI ns then
  (match sub s.rg (toPos s.rg ns) C 0 ns with
  |Z R=>Z ⟨s.n,sW (toPos s.rg ns) keep s.tm,R⟩
  |Y=>Y) else Y
abbrev CF:=FuncId->List P->List (Nat×En)->Option (P×List (Nat×En))
def qfZ:List P->Bool
 | []=>O
 |p::r=>(match p with | .d _ | .sl _ _ _ | .nu _ _ _ _ _=>O |_=>C)&&qfZ r
def lY Q s t (p:P):=
 match p with
 | .agg ps=>if qfZ ps then(match pD Q s t (.agg ps) with |Z (s1,x)=>Z (s1,P.d x)|Y=>Y) else Z (s,.agg ps)
 | .d x=>(match dZ Q t&&sV Q t with |O=>(nzD Q t x).force λy=>Z (s,.d y)|C=>Z (s,.d x))
 |p=>Z (s,p)
def q5 Q s t (p:P):=
 match p with
 | .sl .. | .nu ..=>(match qY Q s p with |Z (s1,x)=>Z (s1,P.d x)|Y=>Y)
 |p=>lY Q s t p
def fg(Q:M)(s:S)(h:List I):List P->Option (S×List P)
 | []=>Z (s,[])
 |p::ps=>match q5 Q s (h.headD 0) p with
  |Y=>Y
  |Z (s1,q)=>match fg Q s1 h.tail ps with
   |Z (s2,qs)=>Z (s2,q::qs)
   |Y=>Y
def qll(x:String):List String->Bool
 | []=>C
 |y::r=>x==y ||qll x r
def SH:=["recension/recensionref13.Find", "recension/recensionref13.Within", "recension/recensionref16.Find", "recension/recensionref09.Has", "recension/recensionref09.HasStamp"]
def qlm(Q:M)(f:FuncId):Bool:=
 match Q.funcs[f]? with
 |Z fn=>qll fn.name SH || !fn.targs.toList.isEmpty&&(fn.origin== "slices.SortFunc" ||fn.origin== "slices.DeleteFunc" ||fn.origin== "slices.Delete" ||fn.origin== "slices.Insert" ||fn.origin== "slices.Reverse" ||fn.origin== "slices.IndexFunc" ||fn.origin== "slices.ContainsFunc" ||fn.origin== "slices.Clone")
 |Y=>C
def VL(Q:M)(f:FuncId):List I:=match Q.funcs[f]? with |Z fn=>fn.params.toList |Y=>[]
def dC Q s f ps:=if qlm Q f then Z (s,ps) else fg Q s (VL Q f) ps
def VM:List (Nat×En)->Nat->Option Nat
 | [],_=>Y
 | (m,e)::r,i=>(match e.tag with |Z j=>if bo i j then Z m else VM r i |Y=>VM r i)
def q6(h:List (Nat×En))(i:Nat):Option (Nat×En):=
 match VM h i with
 |Z m=>(match lk h m with
  |Z e=>(match e.tag with |Z j=>if bo i j then Z (m,e) else Y |Y=>Y)
  |Y=>Y)
 |Y=>Y
def gf(h:List (Nat×En))(R:List (Nat×En))(ns l:List Nat)(base:Nat)(n v:Nat):Option (Nat×Nat):=
 match lk h n with
 |Y=>Y
 |Z e=>if bo e.aU v then(match e.tag with
  |Z i=>(match ns[i]?,q6 h i with
   |Z m,Z (n1,_)=>if bo n1 n then(match lk R m with |Z e0=>Z (m,e0.aU)|Y=>Y) else Y
   |_,_=>Y)
  |Y=>(match posOf l n 0 with
   |Z j=>(match lk R (base+j) with |Y=>Z (base+j,0)|Z e0=>Z (base+j,e0.aU+1))
   |Y=>Y)) else Y
def ig(h:List (Nat×En))(σ:Nat->Nat->Option (Nat×Nat)):Nat->List Nat->List (Nat×En)->Option (List (Nat×En))
 |_,[],R=>Z R
 |i,n::ns,R=>match lk R n with
  |Y=>Y
  |Z e=>ig h σ (i+1) ns (ins n ⟨e.aU,e.tag,match q6 h i with |Z (_,e1)=>gS σ e1.obj |Y=> .gone⟩ R)
def lZ(h:List (Nat×En))(σ:Nat->Nat->Option (Nat×Nat)):Nat->List Nat->List (Nat×En)->Option (List (Nat×En))
 |_,[],R=>Z R
 |m,n::ns,R=>match lk h n with
  |Y=>Y
  |Z e1=>match lk R m with
   |Y=>lZ h σ (m+1) ns (ins m ⟨0,Y,gS σ e1.obj⟩ R)
   |Z e0=>match e0.obj with
    | .gone=>lZ h σ (m+1) ns (ins m ⟨e0.aU+1,Y,gS σ e1.obj⟩ R)
    |_=>Y
def dT(h:List (Nat×En)):List Nat->List Nat
 | []=>[]
 |n::r=>match lk h n with
  |Z e=>(match e.tag with |Y=>n::dT h r |Z _=>dT h r)
  |Y=>dT h r
def gg(h:List (Nat×En)):List (Nat×En)->List P
 | []=>[]
 | (_,e)::r=>match e.tag,e.obj with
  |Z _,.box _ ps=>ps++gg h r
  |_,_=>gg h r
def oe Q (cf:CF) s dst (f:P)(h:List P):=
 match f with
 | .fn kL dA=>match dC Q s kL (h++dA) with
  |Y=>Y
  |Z (s1,ps)=>
   let ns:=reach s1.rg 1000 ps []
   if eI ns then(match sub s1.rg (toPos s1.rg ns) O 0 ns with
    |Y=>Y
    |Z R0=>match cf kL (oL (toPos s1.rg ns) ps) R0 with
     |Y=>Y
     |Z (p,R1)=>
      let ms:=dT R1 (reach R1 1000 (p::gg R1 R1) [])
      let σ:=gf R1 s1.rg ns ms (site dst*1000)
      if eI ms&&gr (J ms) 1000 then(match ig R1 σ 0 ns s1.rg with
       |Y=>Y
       |Z R2=>match lZ R1 σ (site dst*1000) ms R2 with
        |Y=>Y
        |Z R3=>({s1 with rg:=R3}:S).put dst (AE σ p)) else Y) else Y
 |_=>Y
def bz(ops:List Oper)(o:Oper):Option (Option (Nat×Bool)):=
 match o.guard with
 |Y=>Z Y
 |Z (j,want)=>match ops[j]? with
  |Z oj=>(match oj.dst with |Z t=>Z (Z (t,want))|Y=>Y)
  |Y=>Y
def iv(o:Oper):=
 match o.op with
 | .call c=>match c.callee with | .value f=>Z (f,c.args.toList)|_=>Y
 |_=>Y
def hJ(Q:M)(cf:CF)(s:S)(o:Oper)(g:Option (Nat×Bool)):Option S:=
 match iv o with
 |Z (f,xs)=>oe Q cf s o.dst (s.eg g f) (xs.map (s.eg g))
 |Y=>exec Q s o g
def bw(Q:M)(cf:CF)(ops:List Oper)(s:S)(o:Oper):Option S:=
 match bz ops o with
 |Y=>Y
 |Z Y=>hJ Q cf s o Y
 |Z (Z (t,want))=>
  match lk s.tm t with
  |Z (.d (.bool b))=>if b==want then hJ Q cf s o (Z (t,want)) else s.put o.dst .skip
  |Z (.when ..)=>s.put o.dst .skip
  |_=>Y
def ez(Q:M)(cf:CF)(ops:List Oper):List Oper->S->Option S
 | [],s=>Z s
 |o::r,s=>match bw Q cf ops s o with
  |Z s1=>ez Q cf ops r s1
  |Y=>Y
end Pi
namespace Pi
open Go
def aD(o:Oper):=
 match o.op with
 | .move _ | .pick .. | .unOp .. | .index .. | .field .. | .extract .. | .build ..=>0
 | .assign (.const (.slice Y 0 0))=>2
 | .assign _=>0
 | .nilCheck _ | .binOp .. | .load .. | .fieldAddr .. | .indexAddr .. | .slice _ _ _ _ Y=>1
 | .convert ..=>1
 | .alloc _ | .box .. | .makeMap ..=>2
 | .lookup .. | .entry _=>1
 | .buildSlice ..=>if bo o.type 4000000 then 0 else 3
 | .call c=>match c.callee with
  | .builtin .len=>1
  | .builtin .min | .builtin .max=>0
  |_=>3
 |_=>3
def VN:Operand->List Nat
 | .tmp t=>[t]
 |_=>[]
def looks(ops:List Oper)(o:Oper):=
 o.op.operands.toList.flatMap VN++
 (match o.guard with
  |Z (g,_)=>(match ops[g]? with |Z oj=>(match oj.dst with |Z t=>[t]|Y=>[])|Y=>[])
  |Y=>[])
def Er(o:Oper) l:=match o.dst with |Z d=>gE d l |Y=>C
def Gm(x y:Oper):=match x.dst,y.dst with |Z d,Z e=>bo d e |_,_=>C
def l0(h:List Nat):List Edge->Nat
 | []=>0
 |e::es=>if Region.binds .any e then(Nat.lor (Nat.lor (Nat.shiftLeft 1 e.on) (h.getD e.on 0)) (l0 h es)) else l0 h es
def masks:List Oper->List Nat->List Nat
 | [],acc=>acc
 |o::r,acc=>masks r (acc++[l0 acc o.after.toList])
def km{α:Type}(f:Nat->α->Bool):Nat->List α->Bool
 |_,[]=>O
 |i,x::r=>f i x&&km f (i+1) r
def iJ{α:Type}(f:Nat->α->Nat->α->Bool):Nat->List α->Bool
 |_,[]=>O
 |i,x::r=>km (f i x) (i+1) r&&iJ f (i+1) r
def SI M i (o:Oper):=
 bo (M.getD i 0) (l0 M o.after.toList)&&o.after.toList.all (λe=> !Region.binds .any e ||Nat.blt e.on i)&&
 (match o.guard with |Y=>O |Z (j,_)=>mm (M.getD i 0) j)
def P8 ops (M:List Nat) i x j y:=
 !Gm x y&&(mm (M.getD j 0) i || (!Er x (looks ops y)&& !Er y (looks ops x)&&(gr (aD x) 1 ||gr (aD y) 1)))
def q7(m:Nat) ops (M:List Nat) i x j y:=
 !Gm x y&&(mm (M.getD j 0) i || (!Er x (looks ops y)&& !Er y (looks ops x)&&(gr (aD x) 1 ||gr (aD y) 1 ||bo j m)))
theorem Es{m ops M i j}{x y}(h:P8 ops M i x j y=O):q7 m ops M i x j y=O:=by simp only[P8,q7,zac,zbn] at h⊢;exact⟨h.1,h.2.imp id λh=>⟨h.1,.inl h.2⟩⟩
def VO m ops (M:List Nat) i (_:Oper):=
 !mm (M.getD i 0) m ||km (λx h=>gr m x ||gr (aD h) 1 ||mm (M.getD i 0) x) 0 ops
def lv(o:Oper):Option (I×Nat):=match o.op,o.guard,o.dst with | .alloc t,Y,Z d=>Z (t,d)|_,_,_=>Y
def VP x y:=bo (aD x) 0 ||bo (aD y) 0 || (gr (aD x) 1&&gr (aD y) 1)
def dW ops:=
 if km (SI (masks ops [])) 0 ops&&iJ (P8 ops (masks ops [])) 0 ops then
  (if iJ (λi x j y=>mm ((masks ops []).getD j 0) i ||VP x y) 0 ops then 2 else 1) else 0
def ca:List P->List Nat
 | []=>[]
 | .sl n _ _::r=>n::ca r
 | .nu n _ _ _ _::r=>n::ca r
 |_::r=>ca r
def writes(Q:M)(s:S)(o:Oper)(g:Option (Nat×Bool)):List Nat×Nat×Nat:=
 match dM Q o with
 |Z _=>([site o.dst],0,0)
 |Y=>match o.op with
  | .alloc t=>match e9 Q t with |Z z=>([site o.dst],site o.dst*1000,site o.dst*1000+J z.cells)|Y=>([],0,0)
  | .box _ x=>([site o.dst],site o.dst*1000,site o.dst*1000+J (s.eg g x).cells)
  | .store _ ad x=>match s.eg g ad with
   | .ref n _ off=>(n::ca (s.eg g x).cells,2000000+n*1000+off,2000000+n*1000+off+1)
   | .eB n _ _ _ _=>(n::ca (s.eg g x).cells,0,0)
   |_=>([],0,0)
  | .call c=>match c.callee with
   | .value f=>(match s.eg g f with
    | .fn kL dA=>(match dC Q s kL (c.args.toList.map (s.eg g)++dA) with
     |Z (s1,qs)=>(ca ((c.args.toList.map (s.eg g)++dA).flatMap P.cells)++reach s1.rg 1000 qs [],site o.dst*1000,site o.dst*1000+1000)
     |Y=>([],0,0))
    |_=>([],0,0))
   | .builtin .append=>(match c.args.toList with
    |x::_=>(match s.eg g x with | .sl n _ _=>([n],0,0)|_=>([site o.dst],0,0))
    | []=>([],0,0))
   | .builtin .copy=>(match c.args.toList with
    |x::_=>(match s.eg g x with | .sl n _ _=>([n],0,0)|_=>([],0,0))
    | []=>([],0,0))
   | .builtin .clear=>(match c.args.toList with
    |x::_=>(match s.eg g x with | .nu n _ _ _ _=>([n],0,0)|_=>([],0,0))
    | []=>([],0,0))
   | .builtin .delete=>(match c.args.toList with
    |x::_=>(match s.eg g x with | .mp n _=>([n],0,0)|_=>([],0,0))
    | []=>([],0,0))
   |_=>([],0,0)
  | .makeSlice .. | .makeMap ..=>([site o.dst],0,0)
  | .mapUpdate _ m _ x=>(match s.eg g m with | .mp n _=>n::ca (s.eg g x).cells |_=>[],0,0)
  | .insert _ m _ x=>(match s.eg g m with | .mp n _=>n::ca (s.eg g x).cells |_=>[],0,0)
  | .mapEntry _ m _=>(match s.eg g m with | .mp n _=>[site o.dst,n]|_=>[site o.dst],0,0)
  | .entryStore _ m _ x=>(match s.eg g m with | .mp n _=>n::ca (s.eg g x).cells |_=>[],0,0)
  | .range _ x=>(match s.eg g x with | .mp n _=>[site o.dst,n]|_=>[site o.dst],0,0)
  | .buildSlice _ _ parts=>(site o.dst::parts.toList.flatMap λx=>ca (s.eg g x.2).cells,0,0)
  |_=>([],0,0)
def r5:List P->List Nat
 | []=>[]
 |p::r=>match p.name with |Z (n,_)=>n::r5 r |Y=>r5 r
structure Info where
 pure:Bool
 ns:List Nat
 ws:List Nat×Nat×Nat
def cg(Q:M)(ops:List Oper)(s:S)(o:Oper):Info:=
 match bz ops o with
 |Y=>⟨C,[],[],0,0⟩
 |Z g=>if gr (aD o) 1 then⟨O,if bo (aD o) 0 then [] else r5 (o.op.operands.toList.map (s.eg g)),[],0,0⟩ else⟨C,[],writes Q s o g⟩
def P9(ns:List Nat)(W:List Nat×Nat×Nat):=ns.all λn=> !gE n W.1&& !(gr W.2.1 n&&Nat.blt n W.2.2)
def og(x y:Info):=
 if x.pure then(if y.pure then O else P9 x.ns y.ws) else(if y.pure then P9 y.ns x.ws else C)
structure Step where
 info:Info
 bef:List (Nat×En)
 aft:List (Nat×En)
 look:Option I
 ent:Option (I×Nat)
def Nx(o:Oper):=match o.op with | .lookup t _ _ C=>Z t |_=>Y
def VQ(o:Oper):=match o.op with | .mapEntry t _ _=>Z (t,site o.dst)|_=>Y
def oM(Q:M)(ops:List Oper)(s:S)(o:Oper)(s1:S):Step:=⟨cg Q ops s o,s.rg,s1.rg,Nx o,VQ o⟩
def leaves(x y:Step)(h:Prop->Prop)(q:Prop):=
 match y.ent,x.look with
 |Z (t,n),Z t'=>cond (bo t t'&& !gE n x.info.ns) q (h q)
 |_,_=>h q
def VR(W:List Nat×Nat×Nat) n:=gE n W.1 || (gr W.2.1 n&&Nat.blt n W.2.2)
def uV:List Nat->Step->Prop->Prop
 | [],_,q=>q
 |n::r,y,q=>cond (VR y.info.ws n) (lk y.aft n=lk y.bef n/\uV r y q) (uV r y q)
def jJ(m:Nat)(M:List Nat) i x j y (q:Prop):=
 cond (mm (M.getD j 0) i ||og x.info y.info) q (cond x.info.pure (cond y.info.pure q (leaves x y (uV x.info.ns y) q)) (cond y.info.pure (leaves y x (uV y.info.ns x) q) (cond (bo j m) q False)))
def SJ(f:Nat->Step->Prop->Prop):Nat->List Step->Prop->Prop
 |_,[],q=>q
 |i,x::r,q=>f i x (SJ f (i+1) r q)
def wZ(f:Nat->Step->Nat->Step->Prop->Prop):Nat->List Step->Prop->Prop
 |_,[],q=>q
 |i,x::r,q=>SJ (f i x) (i+1) r (wZ f (i+1) r q)
def q8 m M l (q:Prop):=wZ (jJ m M) 0 l q
def q9(Q:M)(cf:CF)(ops:List Oper):List Oper->S->Option (S×List Step)
 | [],s=>Z (s,[])
 |o::r,s=>match bw Q cf ops s o with
  |Y=>Y
  |Z s1=>match q9 Q cf ops r s1 with
   |Z (s2,l)=>Z (s2,oM Q ops s o s1::l)
   |Y=>Y
def qcd(ops:List Oper)(o:Oper):=
 match o.op,o.dst with
 | .buildSlice _ len _,Z d=>ops.any λp=>match p.op with
  | .call c=>(match c.callee,c.args.toList with | .builtin .append,[_,.tmp u]=>bo u d | .value (.func _),us=>bo len 1&&us.any (λu=>match u with | .tmp u=>bo u d |_=>C)|_,_=>C)
  |_=>C
 |_,_=>C
def l5 ops o:=if qcd ops o then {o with type:=4000000} else o
def dF(ops:List Oper):=ops.map (l5 ops)
def w6(ops:List Oper)(M:List Nat):Nat->List Oper->Option (Nat×I×Nat)
 |_,[]=>Y
 |j,o::r=>match lv o with
  |Z (t,d)=>if km (λi x=>gr j i ||gr (aD x) 1 ||mm (M.getD j 0) i) 0 ops then w6 ops M (j+1) r else Z (j,t,d)
  |Y=>w6 ops M (j+1) r
def Gn ops:=w6 ops (masks ops []) 0 ops
def Gp ops m:=km (SI (masks ops [])) 0 ops&&iJ (q7 m ops (masks ops [])) 0 ops&&km (VO m ops (masks ops [])) 0 ops
def l6(ops:List Oper):Nat:=
 match dW ops with
 |0=>(match dW (dF ops) with
  |0=>(match Gn ops with |Z (m,_,_)=>if Gp ops m then 6 else 0 |Y=>0)
  |k+1=>k+4)
 |k+1=>k+1
open Classical in
noncomputable def kA(Q:Program)(cf:CF)(ops:List Oper)(s:S):Option S:=
 match dW ops with
 |0=>none
 |1=>(match q9 Q cf ops ops s with
  |some (s1,l)=>if q8 0 (masks ops []) l True then some s1 else none
  |none=>none)
 |_=>ez Q cf ops ops s
open Classical in
noncomputable def uW(Q:Program)(cf:CF)(ops:List Oper)(s:S):Option S:=
 match Gn ops with
 |some (m,t,d)=>if Gp ops m=true/\sV Q t=false/\lk s.tm d=none then(match q9 Q cf ops ops s with
  |some (s1,l)=>if q8 m (masks ops []) l True then some s1 else none
  |none=>none) else none
 |none=>none
noncomputable def ko(Q:M)(cf:CF)(ops:List Oper)(s:S):Option S:=
 match dW ops with
 |0=>(match dW (dF ops) with
  |0=>uW Q cf ops s
  |_=>kA Q cf (dF ops) s)
 |_=>kA Q cf ops s
end Pi
namespace Pi
open Go
structure qB where
 kp:FuncId->Nat->Option (List Nat×List Nat)
 xs:List Nat
 X:CF
instance:CoeFun qB λ_=>FuncId->Nat->Option (List Nat×List Nat):=⟨qB.kp⟩
inductive PX where
 |normal
 |exit (id:Nat)
 |ret
def Code.nv:Code->Nat
 | .region id _ _=>id
 | .seq a _=>Code.nv a
 | .cond _ a _=>Code.nv a
 | .block _ c | .loop c | .scope c=>Code.nv c
 |_=>0
def cQ(keep:Option (List Nat×List Nat))(s:S):=match keep with |Z l=>canon l.1 s |Y=>Z s
def dD(keep:Option (List Nat×List Nat))(s:S):=match keep with |Z l=>canon l.2 s |Y=>Z s
def jK(body:S->Option (PX×S))(keep:Option (List Nat×List Nat)):Nat->S->Option (PX×S)
 |0,_=>Y
 |k+1,s=>match cQ keep s with
  |Y=>Y
  |Z s0=>match body s0 with
   |Z (.normal,s1)=>jK body keep k s1
   |Z (e,s1)=>(match dD keep s1 with |Z s2=>Z (e,s2)|Y=>Y)
   |Y=>Y
noncomputable def cv(Q:M)(cf:CF)(kp:Nat->Option (List Nat×List Nat))(lf:Nat):Code->S->Option (PX×S)
 | .skip,s=>Z (.normal,s)
 | .label _,s=>Z (.normal,s)
 | .region _ ops draw,s=>(match(if draw then ko Q cf ops.toList s else ez Q cf ops.toList ops.toList s) with |Z s1=>Z (.normal,s1)|Y=>Y)
 | .seq a b,s=>match cv Q cf kp lf a s with
  |Z (.normal,s1)=>cv Q cf kp lf b s1
  |r=>r
 | .cond c x y,s=>match s.ev c with
  | .d (.bool b)=>if b then cv Q cf kp lf x s else cv Q cf kp lf y s
  |_=>Y
 | .block id c,s=>match cv Q cf kp lf c s with
  |Z (.exit oN,s1)=>if bo oN id then Z (.normal,s1) else Z (.exit oN,s1)
  |r=>r
 | .loop c,s=>jK (cv Q cf kp lf c) (kp (Code.nv c)) lf s
 | .scope c,s=>cv Q cf kp lf c s
 | .exit id,s=>Z (.exit id,s)
 | .ret,s=>Z (.ret,s)
 |_,_=>Y
def zA(Q:M)(s:S):ResultVar->Option P
 | .tmp t=>Z (((lk s.tm t).getD .bad).under Y)
 | .cell t ty=>sU Q s ty (((lk s.tm t).getD .bad).under Y)
def cO(Q:M)(s:S):List ResultVar->Option (List P)
 | []=>Z []
 |r::rs=>match zA Q s r,cO Q s rs with |Z p,Z ps=>Z (p::ps)|_,_=>Y
def VS:List P->P
 | [p]=>p
 |qs=> .cy qs
def eO:Nat->List P->List (Nat×P)
 |_,[]=>[]
 |i,p::ps=>(i,p)::eO (i+1) ps
def Ny(Q:M)(t:I)(p:P):P:=
 match p with
 | .d .cd=>(match dx Q t with
  |Z e=>(match sz Q e with |Z (k+1)=> .d (.sl (k+1) [])|_=> .d .cd)
  |Y=> .d .cd)
 |p=>p
def lx(Q:M):List I->List P->List P
 |t::ts,p::ps=>Ny Q t p::lx Q ts ps
 |_,ps=>ps
def iw(keep:Option (List Nat×List Nat))(Q:M)(h:List I)(ps:List P):=match keep with |Z _=>ps |Y=>lx Q h ps
def Gq(R:List (Nat×En)):Nat->Nat->List Nat
 |_,0=>[]
 |i,k+1=>match q6 R i with
  |Z (n,e)=>(match e.obj with | .gone=>Gq R (i+1) k |_=>n::Gq R (i+1) k)
  |Y=>Gq R (i+1) k
def VT R m p:=Gq R 0 m++dT R (reach R 1000 (p::gg R R) [])
def uX(Q:M)(s:S)(h:List I):List P->Option (S×List P)
 | []=>Z (s,[])
 |p::ps=>match lY Q s (h.headD 0) p with
  |Y=>Y
  |Z (s1,q)=>match uX Q s1 h.tail ps with
   |Z (s2,qs)=>Z (s2,q::qs)
   |Y=>Y
def finish(Q:M)(m:Nat)(h:List I)(qs:List P)(s:S):Option (P×List (Nat×En)):=
 match uX Q s h qs with
 |Y=>Y
 |Z (s0,qs0)=>match cT s0 3000000 qs0 (h.map (dx Q)) with
 |Y=>Y
 |Z (s1,qs1)=>
  let ns:=VT s1.rg m (VS qs1)
  if eI ns then(match sub s1.rg (toPos s1.rg ns) C 0 ns with
   |Z R=>Z (AE (toPos s1.rg ns) (VS qs1),R)
   |Y=>Y) else Y
noncomputable def eL(Q:M)(kp:qB)(lf:Nat):Nat->CF
 |0=>λ_ _ _=>Y
 |k+1=>λf ps R=>match Q.funcs[f]? with
  |Y=>Y
  |Z fn=>if gE f kp.xs then kp.X f ps R else match fn.body with
   |Y=>Y
   |Z c=>if fn.name== "runtime.NumGoroutine" then Y else
    match cv Q (eL Q kp lf k) (kp f) lf c ⟨fn.ntmps,eO 0 (iw (kp f 999999) Q fn.params.toList ps),R⟩ with
    |Z (.exit _,_)=>Y
    |Z (_,s1)=>(match cO Q s1 fn.results.toList with
     |Z qs=>finish Q (J R) fn.resultTypes.toList qs s1
     |Y=>Y)
    |Y=>Y
end Pi
namespace Pi
open Go
def P.kR{β:Type}(p:P)(k:P->β):=
 match p with
 | .d x=>x.force λy=>k (.d y)
 | .fT x off=>x.force λy=>k (.fT y off)
 |p=>k p
def P.force{β:Type}(p:P)(k:P->β):=
 match p with
 | .agg ps=>oc P.kR ps λqs=>k (.agg qs)
 | .cy ps=>oc P.kR ps λqs=>k (.cy qs)
 | .fn f ps=>oc P.kR ps λqs=>k (.fn f qs)
 |p=>p.kR k
def Qa{β:Type}(x:Nat×P)(k:Nat×P->β):=match x with | (n,p)=>p.force λq=>k (n,q)
def Qb{β:Type}(x:Nat×En)(k:Nat×En->β):=
 match x with
 | (n,⟨v,t,o⟩)=>match o with
  | .box ty ps=>oc P.kR ps λqs=>k (n,⟨v,t,.box ty qs⟩)
  | .arr ty fz es=>k (n,⟨v,t,.arr ty fz es⟩)
  | .map kt get c fz=>k (n,⟨v,t,.map kt get c fz⟩)
  | .iter kt vt left cur=>k (n,⟨v,t,.iter kt vt left cur⟩)
  | .ji s p=>k (n,⟨v,t,.ji s p⟩)
  | .gone=>k (n,⟨v,t,.gone⟩)
  | .cS=>k (n,⟨v,t,.cS⟩)
  | .fY kt get c p h=>p.kR λp=>h.force λh=>k (n,⟨v,t,.fY kt get c p h⟩)
  | .deep x p=>k (n,⟨v,t,.deep x p⟩)
def S.force{β:Type}(s:S)(k:S->β):=
 match s with
 | ⟨n,tm,rg⟩=>oc Qa tm λh=>oc Qb rg λl=>k ⟨n,h,l⟩
theorem P.jS{β:Type} p (k:P->β):p.kR k=k p:=by
 cases p with
 |d x=>exact D.force_eq x (λy=>k (.d y))
 |fT x off=>exact D.force_eq x (λy=>k (.fT y off))
 |_=>rfl
theorem P.force_eq{β:Type} p (k:P->β):p.force k=k p:=by
 cases p with
 |agg ps=>exact iI P.jS ps (λqs=>k (.agg qs))
 |cy ps=>exact iI P.jS ps (λqs=>k (.cy qs))
 |fn f ps=>exact iI P.jS ps (λqs=>k (.fn f qs))
 |d x=>exact D.force_eq x (λy=>k (.d y))
 |fT x off=>exact D.force_eq x (λy=>k (.fT y off))
 |_=>rfl
theorem Nz{β:Type} x (k:Nat×P->β):Qa x k=k x:=by
 cases x with
 |mk n p=>exact P.force_eq p (λq=>k (n,q))
theorem NA{β:Type} x (k:Nat×En->β):Qb x k=k x:=by
 obtain⟨n,v,t,o⟩:=x;cases o with
 |box ty ps=>exact iI P.jS ps (λqs=>k (n,⟨v,t,.box ty qs⟩))
 |fY kt get c p h=>show p.kR (λp=>h.force λh=>k (n,⟨v,t,.fY kt get c p h⟩))=_;rw[P.jS,D.force_eq]
 |_=>rfl
theorem S.force_eq{β:Type} s (k:S->β):s.force k=k s:=by simp only[S.force];rw[iI Nz,iI NA]
abbrev K(α:Type):=(α->Prop)->Prop
def K.ret{α:Type}(a:α):K α:=λE=>E a
def K.fail{α:Type}:K α:=λ_=>False
def K.bind{α β:Type}(m:K α)(f:α->K β):K β:=λE=>m λa=>f a E
def K.kT{α:Type}(b:Bool)(a:α):K α:=λE=>cond b (E a) False
def K.dec(b:Bool):K Bool:=λE=>cond b (E O) (E C)
def K.dN{α:Type}(o:Option α):K α:=λE=>match o with
 |Z a=>E a
 |Y=>False
def D.aj:D->Int | .int _ n=>n |_=>0
def D.c8:D->Bool | .bool b=>b |_=>C
def D.cq:D->List UInt8 | .str s=>s |_=>[]
def D.gh:D->List D | .sl _ es=>es |_=>[]
def D.nth(es:List D) i:=es.getD i .cd
def D.aq(x:D) j:=x.cells.getD j .cd
def uY(Q:M):Nat->I->List I
 |0,_=>[]
 |n+1,t=>match Q.underlying t with
  |Z (.struct fs)=>fs.toList.flatMap λf=>uY Q n f.type
  |Z (.array k e)=>(ee k (uY Q n e)).flatten
  |_=>[t]
def VU(Q:M)(t:I)(x:D):Option D:=
 match Q.underlying t with
 |Z .bool=>Z (.bool x.c8)
 |Z (.int k)=>Z (.int k x.aj)
 |Z .string=>Z (.str x.cq)
 |Z (.slice e)=>match sz Q e with |Z (k+1)=>Z (.sl (k+1) x.gh)|_=>Y
 |_=>Y
def isC(Q:M)(t:I)(x:D):Bool:=
 match Q.underlying t,x with
 |Z .bool,.bool _=>O
 |Z (.int k),.int k' _=>k==k'
 |Z .string,.str _=>O
 |Z (.slice e),y=>match sz Q e with |Z k=>(match y with | .sl k' _=>k==k' |_=>C)|Y=>C
 |_,_=>C
def Et(Q:M)(x:D):Nat->List I->Option (List D)
 |_,[]=>Z []
 |j,t::ts=>match VU Q t (x.aq j),Et Q x (j+1) ts with |Z c,Z cs=>Z (c::cs)|_,_=>Y
def qce(Q:M)(x:D):Nat->List I->Bool
 |_,[]=>O
 |j,t::ts=>isC Q t (x.aq j)&&qce Q x (j+1) ts
def bE Q t x:=
 if dZ Q t then(match x with | .agg cs=>bo (J cs) (J (uY Q 20 t)) |_=>C)&&qce Q x 0 (uY Q 20 t) else isC Q t x
def NB(Q:M)(t:I)(x:D):K D:=
 match(if dZ Q t then(match Et Q x 0 (uY Q 20 t) with |Z cs=>Z (D.agg cs)|Y=>Y) else VU Q t x) with
 |Z y=>K.kT (bE Q t x) y
 |Y=>K.fail
def VW(k:Nat)(x:D):=match x with | .sl k' _=>bo k k' | .cd=>O | .qz _ _ _=>O |_=>C
def qq1(k:Nat)(x:D):K D:=λE=>VW k x=O/\(∀es,x= .sl k es->E (.sl k es))/\(x= .cd->E .cd)/\(∀b n c,x= .qz b n c->E (.qz b n c))
def VX(Q:M)(t:I)(x:D):K D:=
 match dZ Q t,Q.underlying t with
 |C,Z (.slice e)=>(match sz Q e with |Z k=>qq1 k x |Y=>K.fail)
 |_,_=>NB Q t x
def arith(k:IntKind)(n:Int):K D:=
 match k with
 | .i64=>K.kT (decide (-9223372036854775808<=n/\n<=9223372036854775807)) (.int DD n)
 |k=>K.ret (.int k (k.wrap n))
def AF(Q:M)(op:BinOp)(t:I)(p q:D):=
 match p,q with
 | .int k a,.int k' b=>match op with
  | .shl=>Z (K.bind (K.kT (decide (0<=b)) ()) λ_=>arith k (a*2^(min b.toNat k.bits)))
  | .shr=>Z (K.kT (decide (0<=b)) (.int k (a.fdiv (2^(min b.toNat k.bits)))))
  |_=>if k==k' then(match op with
   | .add=>Z (arith k (a+b))
   | .sub=>Z (arith k (a-b))
   | .mul=>Z (arith k (a*b))
   | .quo=>Z (K.bind (K.kT (!(decide (b=0))) ()) λ_=>arith k (a.tdiv b))
   | .rem=>Z (K.kT (!(decide (b=0))) (.int k (a.tmod b)))
   | .and=>Z (K.ret (.int k (k.wrap (BitVec.ofInt k.bits a&&&BitVec.ofInt k.bits b).toNat)))
   | .or=>Z (K.ret (.int k (k.wrap (BitVec.ofInt k.bits a |||BitVec.ofInt k.bits b).toNat)))
   | .xor=>Z (K.ret (.int k (k.wrap (BitVec.ofInt k.bits a^^^BitVec.ofInt k.bits b).toNat)))
   | .andNot=>Z (K.ret (.int k (k.wrap (BitVec.ofInt k.bits a&&& ~~~BitVec.ofInt k.bits b).toNat)))
   | .eql=>Z (K.ret (.bool (a==b)))
   | .neq=>Z (K.ret (.bool (a !=b)))
   | .lss=>Z (K.ret (.bool (a<b)))
   | .leq=>Z (K.ret (.bool (a<=b)))
   | .gtr=>Z (K.ret (.bool (a>b)))
   | .geq=>Z (K.ret (.bool (a>=b)))
   |_=>Y) else Y
 | .str a,.str b=>match op with
  | .add=>Z (K.kT (decide (J a+J b<=9223372036854775807)) (.str (a++b)))
  | .eql=>Z (K.ret (.bool (a==b)))
  | .neq=>Z (K.ret (.bool (!(a==b))))
  | .lss=>Z (K.ret (.bool (IT a b)))
  | .leq=>Z (K.ret (.bool (IT a b ||a==b)))
  | .gtr=>Z (K.ret (.bool (!(IT a b ||a==b))))
  | .geq=>Z (K.ret (.bool (!(IT a b))))
  |_=>Y
 | .bool a,.bool b=>match Q.underlying t,op with
  |Z .bool,.eql=>Z (K.ret (.bool (a==b)))
  |Z .bool,.neq=>Z (K.ret (.bool (!(a==b))))
  |_,_=>Y
 | .agg a,.agg b=>match op with
  | .eql=>match D.dS a,D.dS b,Q.eqGuardType Q.depth t,eqD Q 20 t (.agg a) (.agg b) with
   |Z _,Z _,C,Z c=>Z (K.ret (.bool c))
   |_,_,_,_=>Y
  | .neq=>match D.dS a,D.dS b,Q.eqGuardType Q.depth t,eqD Q 20 t (.agg a) (.agg b) with
   |Z _,Z _,C,Z c=>Z (K.ret (.bool (!c)))
   |_,_,_,_=>Y
  |_=>Y
 |_,_=>Y
def pG(len:Nat)(lo l:Option P):=
 K.bind (match l with
  |Y=>K.ret len
  |Z (.d (.int _ j))=>K.kT (decide (0<=j/\j<=(len:Int))) j.toNat
  |_=>K.fail) λh=>match lo with
  |Y=>K.ret (0,h)
  |Z (.d (.int _ j))=>K.kT (decide (0<=j/\j<=(h:Int))) (j.toNat,h)
  |_=>K.fail
def tM(Q:M)(s:S)(t:I)(p:P)(i:P):K P:=
 match P6 Q t with
 |Z (n,e)=>K.dN (qW Q s n e p i)
 |Y=>match dx Q t,i with
 |Z e,.d (.int _ j)=>match sz Q e with
  |Z (k+1)=>match p with
   | .sl n v len=>match s.obj n v with
    |Z (.arr ty _ _)=>if bo ty e then K.kT (decide (0<=j/\j<(len:Int))) (.eB n v j.toNat (k+1) 0) else K.fail
    |_=>K.fail
   | .nu n v k' off len=>match s.obj n v with
    |Z (.arr ty _ _)=>if bo ty e&&bo k' (k+1) then K.kT (decide (0<=j/\j<(len:Int))) (.eB n v (off+j.toNat) (k+1) 0) else K.fail
    |_=>K.fail
   | .d (.sl k' es)=>if bo k' (k+1) then K.bind (K.kT (decide (0<=j/\j<(J es:Int))) ()) λ_=>K.bind (NB Q e (D.nth es j.toNat)) λx=>K.ret (.fT x 0) else K.fail
   |_=>K.fail
  |_=>K.fail
 |_,_=>K.fail
def Qc(Q:M)(s:S)(t:I)(p:P)(lo h:Option P):K P:=
 match dx Q t with
 |Y=>K.fail
 |Z e=>match sz Q e with
  |Z (k+1)=>match p with
   | .d (.sl k' es)=>if bo k' (k+1) then K.bind (pG (J es) lo h) λx=>K.ret (.d (.sl k' ((es.take x.2).drop x.1))) else K.fail
   | .sl n v len=>match s.obj n v,lo with
    |Z (.arr _ _ _),Y=>K.bind (pG len Y h) λx=>K.ret (.sl n v x.2)
    |Z (.arr ty _ _),Z lo=>match sz Q ty with
     |Z k'=>if bo k' (k+1) then K.bind (pG len (Z lo) h) λx=>K.ret (.nu n v (k+1) x.1 (x.2-x.1)) else K.fail
     |Y=>K.fail
    |_,_=>K.fail
   | .nu n v k' off len=>match s.obj n v with
    |Z (.arr _ _ _)=>if bo k' (k+1) then K.bind (pG len lo h) λx=>K.ret (.nu n v (k+1) (off+x.1) (x.2-x.1)) else K.fail
    |_=>K.fail
   |_=>K.fail
  |_=>K.fail
def NC Q s t p lo h:=Qc Q s t (qp Q s t p lo) lo h
def VY(Q:M)(s:S)(t:I)(p:P):K P:=
 match p with
 | .eB n v i k off=>match s.obj n v with
  |Z (.arr ty _ es)=>match sz Q ty with
   |Z k'=>if bo k k' then K.bind (K.kT (decide (i<J es)) ()) λ_=>K.bind (NB Q ty (D.nth es i)) λx=>(match kx Q t x.cells off with |Z y=>K.ret (.d y)|Y=>K.fail) else K.fail
   |Y=>K.fail
  |_=>K.fail
 |_=>K.dN (sU Q s t p)
def VZ:IntKind->Bool
 | .i8 | .i16 | .i32 | .i64 | .u8 | .u16 | .u32=>O
 |_=>C
def V0(Q:M)(a b:I)(x:D):Option (K D):=
 match Q.underlying a,Q.underlying b,x with
 |Z (.int ka),Z (.int k),.int _ n=>Z (if VZ ka then arith k n else K.ret (.int k (k.wrap n)))
 |Z .string,Z .string,.str s=>Z (K.ret (.str s))
 |_,_,_=>Y
def D.merge(c:Bool)(x y:D):Option D:=
 match x,y with
 | .bool a,.bool b=>Z (.bool (bif c then a else b))
 | .int k a,.int k' b=>if k==k' then Z (.int k (bif c then a else b)) else Y
 | .str a,.str b=>Z (.str (bif c then a else b))
 |_,_=>Y
def P.merge(c:Bool)(p q:P):Option P:=
 match p,q with
 | .d x,.d y=>match D.merge c x y with |Z z=>Z (.d z)|Y=>Y
 |_,_=>Y
def Gr(Q:M)(s:S)(t:I)(p i:P)(ok:Bool):K P:=
 match ky Q t with
 |Z (kt,e)=>match e9 Q e,i with
  |Z z,.d k=>match p with
   | .mp n v=>match s.obj n v with
    |Z (.map Az get _ _)=>if bo kt Az then K.bind (K.kT (ga Q kt k) ()) λ_=>K.bind (VX Q e (aK (get k) z)) λy=>K.ret (if ok then .cy [.d y,.d (.bool (get k).isSome)] else .d y) else K.fail
    |Z (.fY Az get _ _ _)=>if !ok&&bo kt Az then K.bind (K.kT (ga Q kt k) ()) λ_=>K.bind (VX Q e (aK (get k) z)) λy=>K.ret (.d y) else K.fail
    |_=>K.fail
   | .d .qy=>K.bind (K.kT (ga Q kt k) ()) λ_=>K.ret (if ok then .cy [.d z,.d (.bool C)] else .d z)
   |_=>K.fail
  |_,_=>K.fail
 |Y=>K.fail
def pvK Q (s:S)(o:Oper) g:=
 match o.op with
 | .pick c a b=>match s.eg g c with
  | .d (.bool r)=>(match P.merge r (s.eg g a) (s.eg g b) with
   |Z p=>K.ret p
   |Y=>K.bind (K.dec r) λr=>K.ret (if r then s.eg g a else s.eg g b))
  |_=>K.fail
 | .binOp op t x y _=>match s.eg g x,s.eg g y with
  | .d p,.d q=>(match AF Q op t p q with
   |Z m=>K.bind m λz=>K.ret (.d z)
   |Y=>K.dN (qA Q s op t x y (s.eg g x) (s.eg g y)))
  |p,q=>K.dN (qA Q s op t x y p q)
 | .unOp op _ x=>match op,s.eg g x with
  | .not,.d (.bool b)=>K.ret (.d (.bool (!b)))
  | .neg,.d (.int k n)=>K.bind (arith k (0-n)) λz=>K.ret (.d z)
  |_,_=>K.dN (pv Q s o g)
 | .convert a b x=>match s.eg g x with
  | .d y=>(match V0 Q a b y with
   |Z m=>K.bind m λz=>K.ret (.d z)
   |Y=>K.dN (pv Q s o g))
  |_=>K.dN (pv Q s o g)
 | .load t x=>VY Q s t (s.eg g x)
 | .indexAddr t x i=>tM Q s t (s.eg g x) (s.eg g i)
 | .index t x i=>match Q.underlying t,s.eg g x,s.eg g i with
  |Z .string,.d (.str l),.d (.int _ j)=>K.kT (decide (0<=j/\j<(J l:Int))) (.d (.int .u8 ((l.getD j.toNat 0).toNat)))
  |_,_,_=>K.dN (pv Q s o g)
 | .lookup t x i ok=>Gr Q s t (s.eg g x) (s.eg g i) ok
 | .slice t x lo hi Y=>match s.eg g x with
  | .d (.str l)=>(match Q.underlying t with
   |Z .string=>K.bind (pG (J l) (lo.map (s.eg g)) (hi.map (s.eg g))) λx=>K.ret (.d (.str ((l.take x.2).drop x.1)))
   |_=>K.fail)
  | .d .cd=>K.dN (pv Q s o g)
  |p=>NC Q s t p (lo.map (s.eg g)) (hi.map (s.eg g))
 | .call c=>match c.callee with
  | .builtin .len=>match c.args.toList,(c.argTypes[0]?).bind Q.underlying with
   | [x],Z .string=>(match s.eg g x with
    | .d (.str l)=>K.ret (.d (.int DD (J l)))
    |_=>K.fail)
   |_,_=>K.dN (pv Q s o g)
  | .builtin .min=>match c.args.toList.map (s.eg g) with
   | [.d (.int k a),.d (.int _ b)]=>K.ret (.d (.int k (min a b)))
   |_=>K.dN (pv Q s o g)
  | .builtin .max=>match c.args.toList.map (s.eg g) with
   | [.d (.int k a),.d (.int _ b)]=>K.ret (.d (.int k (max a b)))
   |_=>K.dN (pv Q s o g)
  |_=>K.dN (pv Q s o g)
 |_=>K.dN (pv Q s o g)
def NF Q s t (h val:P):=
 match h with
 | .eB n v i k' off=>match sz Q t with
  |Y=>K.fail
  |Z k=>match pD Q s t val with
   |Z (s1,x)=>match s1.obj n v with
    |Z (.arr ty C es)=>match sz Q ty with
     |Z k2=>if bo k' k2&&bo (J x.cells) k&&gr (off+k) k2 then K.bind (K.kT (decide (i<J es)) ()) λ_=>K.bind (NB Q ty (D.nth es i)) λy=>K.ret (s1.setObj n (.arr ty C (es.set i (y.aY (y.cells.take off++x.cells++y.cells.drop (off+k)))))) else K.fail
     |Y=>K.fail
    |_=>K.fail
   |Y=>K.fail
 |_=>K.dN (iu Q s t h val)
def Gs(Q:M)(s:S)(dst:Option Nat)(t h:I)(p q:P):K S:=
 match dx Q t with
 |Y=>K.fail
 |Z e=>
       match Q.info? e,sz Q e with
  |Z i,Z (k+1)=>match od Q s h (k+1) q,e9 Q e with
   |Z ys,Z z=>if bo (J z.cells) (k+1) then(match p with
    | .sl n v len=>match lk s.rg n with
     |Z en=>match en.obj with
      | .arr ty C es=>if bo en.aU v&&bo ty e then
        K.bind (K.kT (gr len (J es)&&aB (len+J ys) i.bytes) ()) λ_=>
        K.dN (({s with rg:=ins n ⟨v+1,Y,.arr ty C (es.take len++ys)⟩ s.rg}:S).put dst (.sl n (v+1) (len+J ys)))
       else K.fail
      |_=>K.fail
     |Y=>K.fail
    | .d .cd=>K.bind (K.kT (aB (J ys) i.bytes) ()) λ_=>(match s.new (site dst) (.arr e C ys) with
      |Z (s1,v)=>K.dN (s1.put dst (.sl (site dst) v (J ys)))
      |Y=>K.fail)
    |_=>K.fail) else K.fail
   |_,_=>K.fail
  |_,_=>K.fail
def P.isRow:P->Bool
 | .sl .. | .nu ..=>O
 | .d (.sl ..)=>O
 |_=>C
def bytesOf:List D->List UInt8
 | []=>[]
 |x::r=>UInt8.ofNat x.aj.toNat::bytesOf r
def jj:List D->Bool
 | []=>O
 | .int .u8 _::r=>jj r
 |_=>C
def V2(Q:M)(s:S)(dst:Option Nat)(t:I)(p q:P):K S:=
 match dx Q t,p,q with
 |Z e,.d (.int _ l),.d (.int _ c)=>match Q.info? e,sz Q e,e9 Q e with
  |Z i,Z (k+1),Z z=>if bo (J z.cells) (k+1) then K.bind (K.kT (decide (0<=l/\l<=c/\c<=9223372036854775807/\(i.bytes:Int)*c<=281474976710656)) ()) λ_=>
   (match s.new (site dst) (.arr e C (ee l.toNat z)) with
   |Z (s1,v)=>K.dN (s1.put dst (.sl (site dst) v l.toNat))
   |Y=>K.fail) else K.fail
  |_,_,_=>K.fail
 |_,_,_=>K.fail
def V4(Q:M)(s:S)(dst:Option Nat)(t h:I)(p q:P):K S:=
 match dx Q t,p with
 |Z e,.sl n v len=>match sz Q e with
  |Z (k+1)=>match od Q s h (k+1) q,s.obj n v with
   |Z ys,Z (.arr ty C es)=>if bo ty e then K.bind (K.kT (decide (len<=J es/\J ys<=len)) ()) λ_=>K.dN ((s.setObj n (.arr ty C (ys++es.drop (J ys)))).put dst (.d (.int DD (J ys)))) else K.fail
   |_,_=>K.fail
  |_=>K.fail
 |_,_=>K.fail
def NG(Q:M)(s:S)(dst:Option Nat)(t:I)(p:P):K S:=
 match dx Q t,p with
 |Z e,.nu n v k off len=>match sz Q e,e9 Q e,s.obj n v with
  |Z (k2+1),Z z,Z (.arr ty C es)=>if bo ty e&&bo k (k2+1)&&bo (J z.cells) (k2+1) then K.bind (K.kT (decide (off+len<=J es)) ()) λ_=>K.dN ((s.setObj n (.arr ty C (es.take off++ee len z++es.drop (off+len)))).put dst .bad) else K.fail
  |_,_,_=>K.fail
 |_,_=>K.fail
def efK Q s (o:Oper) g:=
 match o.op with
 | .store t addr x=>K.bind (NF Q s t (s.eg g addr) (s.eg g x)) λs1=>K.dN (s1.put o.dst .bad)
 | .convert t1 t2 x=>match Q.underlying t1,Q.underlying t2 with
  |Z (.slice e),Z .string=>match Q.underlying e,od Q s t1 1 (s.eg g x) with
   |Z (.int .u8),Z ys=>if(s.eg g x).isRow then K.bind (K.kT (jj ys) ()) λ_=>K.dN (s.put o.dst (.d (.str (bytesOf ys)))) else K.fail
   |_,_=>K.fail
  |_,_=>K.fail
 | .call c=>match c.callee with
  | .builtin .append=>match c.args.toList,c.argTypes.toList with
   | [x,y],[t,t2]=>Gs Q s o.dst t t2 (s.eg g x) (s.eg g y)
   |_,_=>K.fail
  | .builtin .copy=>match c.args.toList,c.argTypes.toList with
   | [x,y],[t,t2]=>V4 Q s o.dst t t2 (s.eg g x) (s.eg g y)
   |_,_=>K.fail
  | .builtin .clear=>match c.args.toList,c.argTypes.toList with
   | [x],[t]=>NG Q s o.dst t (s.eg g x)
   |_,_=>K.fail
  | .builtin .delete=>K.dN (ef Q s o g)
  |_=>K.fail
 | .makeSlice t x y=>V2 Q s o.dst t (s.eg g x) (s.eg g y)
 |_=>K.dN (ef Q s o g)
def qln(Q:M)(o:Oper):=
 match o.op with
 | .alloc _ | .box .. | .store ..=>O
 | .convert t1 t2 _=>match Q.underlying t1,Q.underlying t2 with
  |Z (.slice _),Z .string=>O
  |_,_=>C
 | .call c=>match c.callee with
  | .builtin .append | .builtin .copy | .builtin .clear | .builtin .delete=>O
  |_=>C
 | .makeSlice .. | .buildSlice .. | .makeMap .. | .mapUpdate .. | .insert .. | .range .. | .mapEntry .. | .entryStore ..=>O
 |_=>C
def NH(Q:M)(s:S)(o:Oper)(g:Option (Nat×Bool)):K S:=
 match dM Q o with
 |Z _=>K.dN (kz Q s o g)
 |Y=>if qln Q o then efK Q s o g else K.bind (pvK Q s o g) λp=>K.dN (s.put o.dst p)
def V5(Q:M)(s:S)(o:Oper)(g:Option (Nat×Bool)):K S:=
 match tL o with
 |Z (t,len,parts)=>K.dN (match Ep Q t len (parts.map λx=>(x.1,s.eg g x.2)) with |Z p=>s.put o.dst p |Y=>Y)
 |Y=>NH Q s o g
abbrev bc:=List P->List (Nat×En)->K (P×List (Nat×En))
abbrev KF:=FuncId->bc
def sX Q (cf:KF) s dst (f:P)(h:List P):=
 match f with
 | .fn kL dA=>match dC Q s kL (h++dA) with
  |Y=>K.fail
  |Z (s1,ps)=>
   let ns:=reach s1.rg 1000 ps []
   if eI ns then(match sub s1.rg (toPos s1.rg ns) O 0 ns with
    |Y=>K.fail
    |Z R0=>K.bind (cf kL (oL (toPos s1.rg ns) ps) R0) λx=>
     let ms:=dT x.2 (reach x.2 1000 (x.1::gg x.2 x.2) [])
     let σ:=gf x.2 s1.rg ns ms (site dst*1000)
     if eI ms&&gr (J ms) 1000 then(match ig x.2 σ 0 ns s1.rg with
      |Y=>K.fail
      |Z R2=>match lZ x.2 σ (site dst*1000) ms R2 with
       |Y=>K.fail
       |Z R3=>K.dN (({s1 with rg:=R3}:S).put dst (AE σ x.1))) else K.fail) else K.fail
 |_=>K.fail
def V6(Q:M)(cf:KF)(s:S)(o:Oper)(g:Option (Nat×Bool)):K S:=
 match iv o with
 |Z (f,xs)=>sX Q cf s o.dst (s.eg g f) (xs.map (s.eg g))
 |Y=>V5 Q s o g
def rep(t:Nat)(v:P):List (Nat×P)->List (Nat×P)
 | []=>[]
 | (k,u)::r=>if bo k t then(k,v)::r else(k,u)::rep t v r
def Gt(dst:Option Nat)(h:List (Nat×Bool)):=
 match dst with
 |Y=>h
 |Z d=>h.filter λx=> !bo x.1 d
def qlo(o:Oper):=match o.op with | .binOp .rem _ _ _ _=>O |_=>C
def qhy(ops:List Oper)(o:Oper):=
 match o.op with
 | .call c=>match c.callee,c.argTypes.toList with
  | .builtin .len,[t]=>(bo t 9 ||ops.any qlo)&&ops.any λp=>match p.op with
   | .binOp .add _ (.tmp u) (.const _) _=>(match o.dst with |Z d=>bo u d |Y=>C)
   |_=>C
  |_,_=>C
 |_=>C
def V7 ops o (s:S):=
 if qhy ops o then(match o.dst with
  |Z d=>match lk s.tm d with
   |Z (.d (.int k z))=>λE=> ∀c:Int,c=z->E ⟨s.n,rep d (.d (.int k c)) s.tm,s.rg⟩
   |_=>K.ret s
  |Y=>K.ret s) else K.ret s
def Eu(Q:M)(cf:KF)(ops:List Oper)(h:List (Nat×Bool))(s:S)(o:Oper):K (S×List (Nat×Bool)):=
 match bz ops o with
 |Y=>K.fail
 |Z Y=>K.bind (V6 Q cf s o Y) λs1=>K.bind (V7 ops o s1) λs1=>K.ret (s1,Gt o.dst h)
 |Z (Z (t,want))=>match lk h t with
  |Z r=>if r==want then K.bind (V6 Q cf s o (Z (t,want))) λs1=>K.bind (V7 ops o s1) λs1=>K.ret (s1,Gt o.dst h) else K.bind (K.dN (s.put o.dst .skip)) λs1=>K.ret (s1,Gt o.dst h)
  |Y=>match lk s.tm t with
   |Z (.d (.bool b))=>K.bind (K.dec b) λr=>
    if r==want then K.bind (V6 Q cf ⟨s.n,rep t (.d (.bool r)) s.tm,s.rg⟩ o (Z (t,want))) λs1=>K.bind (V7 ops o s1) λs1=>K.ret (s1,Gt o.dst ((t,r)::h))
    else K.bind (K.dN ((⟨s.n,rep t (.d (.bool r)) s.tm,s.rg⟩:S).put o.dst .skip)) λs1=>K.ret (s1,Gt o.dst ((t,r)::h))
   |Z (.when ..)=>K.bind (K.dN (s.put o.dst .skip)) λs1=>K.ret (s1,Gt o.dst h)
   |_=>K.fail
def ly(Q:M)(cf:KF)(ops:List Oper):List Oper->List (Nat×Bool)->S->K S
 | [],_,s=>K.ret s
 |o::r,kn,s=>K.bind (Eu Q cf ops kn s o) λx=>x.1.force λs1=>ly Q cf ops r x.2 s1
def pH(Q:M)(cf:KF)(ops:List Oper):List Oper->List (Nat×Bool)->S->K (S×List Step)
 | [],_,s=>K.ret (s,[])
 |o::r,kn,s=>K.bind (Eu Q cf ops kn s o) λx=>x.1.force λs1=>K.bind (pH Q cf ops r x.2 s1) λy=>K.ret (y.1,oM Q ops s o s1::y.2)
def Ew Q cf ops h (s:S):=
 match h with
 |0=>K.fail
 |1=>K.bind (pH Q cf ops ops [] s) λx=>λE=>q8 0 (masks ops []) x.2 (E x.1)
 |4=>K.bind (pH Q cf (dF ops) (dF ops) [] s) λx=>λE=>q8 0 (masks (dF ops) []) x.2 (E x.1)
 |2=>ly Q cf ops ops [] s
 |5=>ly Q cf (dF ops) (dF ops) [] s
 |6=>(match Gn ops with
  |Z (m,t,d)=>(match sV Q t,lk s.tm d with
   |C,Y=>K.bind (pH Q cf ops ops [] s) λx=>λE=>q8 m (masks ops []) x.2 (E x.1)
   |_,_=>K.fail)
  |Y=>K.fail)
 |_=>K.fail
def cC(dc:Nat->Nat):Code->Bool
 | .region id ops draw=> !draw ||bo (l6 ops.toList) (dc id)
 | .seq a b=>cC dc a&&cC dc b
 | .cond _ a b=>cC dc a&&cC dc b
 | .block _ c | .loop c | .scope c=>cC dc c
 |_=>O
def l7(dc:FuncId->Nat->Nat):Nat->List Func->Bool
 |_,[]=>O
 |i,f::r=>(match f.body with |Z c=>cC (dc i) c |Y=>O)&&l7 dc (i+1) r
def Gu(body:S->K (PX×S))(keep:Option (List Nat×List Nat)):Nat->S->K (PX×S)
 |0,_=>K.fail
 |k+1,s=>K.bind (K.dN (cQ keep s)) λs0=>K.bind (body s0) λx=>match x.1 with
  | .normal=>Gu body keep k x.2
  |_=>K.bind (K.dN (dD keep x.2)) λs2=>K.ret (x.1,s2)
def w7(body:S->K (PX×S)) keep s:=
 K.bind (body s) λx=>match x.1 with
  | .normal=>K.bind (K.dN (cQ keep x.2)) λs2=>K.ret (.normal,s2)
  |_=>K.bind (K.dN (dD keep x.2)) λs2=>K.ret (x.1,s2)
def gi(Q:M)(kf:KF)(kp:Nat->Option (List Nat×List Nat))(hk:List (Nat×(S->K (PX×S))))(dc:Nat->Nat)(lf:Nat):Code->S->K (PX×S)
 | .skip,s=>K.ret (.normal,s)
 | .label _,s=>K.ret (.normal,s)
 | .region id ops draw,s=>K.bind (if draw then Ew Q kf ops.toList (dc id) s else ly Q kf ops.toList ops.toList [] s) λs1=>K.ret (.normal,s1)
 | .seq a b,s=>K.bind (gi Q kf kp hk dc lf a s) λx=>match x.1 with
  | .normal=>gi Q kf kp hk dc lf b x.2
  |_=>K.ret x
 | .cond c x y,s=>match s.ev c with
  | .d (.bool b)=>K.bind (K.dec b) λr=>if r then gi Q kf kp hk dc lf x s else gi Q kf kp hk dc lf y s
  |_=>K.fail
 | .block id c,s=>K.bind (gi Q kf kp hk dc lf c s) λx=>match x.1 with
  | .exit oN=>if bo oN id then K.ret (.normal,x.2) else K.ret x
  |_=>K.ret x
 | .loop c,s=>match lk hk (Code.nv c) with
  |Z h=>h s
  |Y=>Gu (gi Q kf kp hk dc lf c) (kp (Code.nv c)) lf s
 | .scope c,s=>gi Q kf kp hk dc lf c s
 | .exit id,s=>K.ret (.exit id,s)
 | .ret,s=>K.ret (.ret,s)
 |_,_=>K.fail
def uZ Q m h qs s:=K.dN (finish Q m h qs s)
def oO(Q:M)(kf:KF)(kp:qB)(hk:List (Nat×(S->K (PX×S))))(dc:FuncId->Nat->Nat)(lf:Nat):KF:=λf ps R=>
 match Q.funcs[f]? with
 |Y=>K.fail
 |Z fn=>if gE f kp.xs then K.fail else match fn.body with
  |Y=>K.fail
  |Z c=>if fn.name== "runtime.NumGoroutine" then K.fail else
   K.bind (gi Q kf (kp f) hk (dc f) lf c ⟨fn.ntmps,eO 0 (iw (kp f 999999) Q fn.params.toList ps),R⟩) λx=>match x.1 with
    | .exit _=>K.fail
    |_=>match cO Q x.2 fn.results.toList with
     |Z qs=>uZ Q (J R) fn.resultTypes.toList qs x.2
     |Y=>K.fail
def runK(Q:M)(kp:qB)(dc:FuncId->Nat->Nat)(H:List (FuncId×bc))(lf:Nat):Nat->KF
 |0=>λf ps R=>match lk H f with |Z h=>h ps R |Y=>K.fail
 |k+1=>λf ps R=>match lk H f with
  |Z h=>h ps R
  |Y=>oO Q (runK Q kp dc H lf k) kp [] dc lf f ps R
end Pi
namespace Pi
open Go
section
variable{α:Type}
theorem NI k (v:α): ∀m j,lk (ins k v m) j=if k=j then Z v else lk m j
 | [],j=>by by_cases h:k=j<;>simp[ins,lk,h]
 | (i,u)::r,j=>by
  have A:=NI k v r j;simp only[ins];split
  ·by_cases h:k=j<;>simp[lk,h]
  split
  next B l=>
   have e:k=i:=by simpa using l
   subst e;by_cases h:k=j<;>simp[lk,h]
  rename_i B l;have e: ¬i=k:=λe=>l (by simp[e]);simp only[lk,A];by_cases h:k=j
  ·subst h;simp[e]
  simp[h]
theorem aX k (v:α) m:lk (ins k v m) k=Z v:=by rw[NI,zau rfl]
theorem br{k j}(v:α) m (h:k≠j):lk (ins k v m) j=lk m j:=by rw[NI,zat h]
end
def Obj.live:Obj->Bool
 | .gone=>C
 |_=>O
inductive bf(F:Nat->Prop)(w:World):W->D->Prop
 |bool (b:Bool):bf F w (.bool b) (.bool b)
 |int (k:IntKind) (n:Int):bf F w (.int k n) (.int k n)
 |str (s:List UInt8):bf F w (.string ⟨⟨s⟩⟩) (.str s)
 |cd:bf F w (.slice Y 0 0) .cd
 |lW:bf F w (.pointer Y) .lW
 |qy:bf F w (.map Y) .qy
 |Gk:bf F w .nilFunc .Gk
 |wU:bf F w .nilIface .wU
 |qz (b len cap:Nat):bf F w (.slice (Z ⟨b,0,Y⟩) len cap) (.qz b len cap)
 |agg (vs:List W) (cs:List D) (hl:J vs=J cs) (cH: ∀c∈cs,c.b9=O) (hc: ∀(i:Nat) (v:W) (c:D),vs[i]?=Z v->cs[i]?=Z c->bf F w v c):bf F w (.agg ⟨vs⟩) (.agg cs)
 |Qd (a:Option Addr) (k cap:Nat):bf F w (.slice a 0 cap) (.sl k [])
 |Qe (b off k cap:Nat) (es:List D) (f:Nat->W) (u7:J es<=cap) (hb:F b) (hk: ∀x∈es,J x.cells=k) (cH: ∀x∈es,∀c∈x.cells,c.b9=O)
  (hw: ∀i,i<J es*k->w.cell? ⟨b,off+i,Y⟩=Z (f i)) (hr: ∀(i j:Nat) (x c:D),es[i]?=Z x->x.cells[j]?=Z c->bf F w (f (i*k+j)) c):bf F w (.slice (Z ⟨b,off,Y⟩) (J es) cap) (.sl k es)
theorem Ex{w w':World}{b}(h:w'.heap[b]?=w.heap[b]?) o:w'.cell? ⟨b,o,Y⟩=w.cell? ⟨b,o,Y⟩:=by simp[World.cell?,h]
theorem bf.mono{F F' w w'}(B: ∀b,F b->F' b)(l: ∀b,F b->w'.heap[b]?=w.heap[b]?){v x}(h:bf F w v x):bf F' w' v x:=by
 induction h with
 |agg vs cs hl cH _ ih=>exact .agg vs cs hl cH ih
 |Qe b off k cap es f u7 hb hk cH hc _ ih=>exact .Qe b off k cap es f u7 (B _ hb) hk cH (λi A=>(Ex (l b hb) _).trans (hc i A)) ih
 |_=>constructor
theorem bf.fZ{F w v x}(h:bf F w v x){u}(hu:x.fZ=Z u):v=u:=by cases h<;>simp_all [D.fZ]
theorem bf.dS{F w}: ∀cs l vs,D.dS cs=Z l->J vs=J cs->(∀(i:Nat) (v:W) (c:D),vs[i]?=Z v->cs[i]?=Z c->bf F w v c)->vs=l
 | [],l,vs,h,hl,_=>by grind [D.dS]
 |c::cs,l,vs,h,hl,hc=>by
  cases vs with
  |nil=>simp at hl
  |cons v vs=>
   simp only[D.dS] at h;cases B:c.fZ with
   |none=>grind
   |some u1=>
    cases A:D.dS cs with
    |none=>grind
    |some us2=>simp[B,A] at h;subst h;have e1:=(hc 0 v c (by simp) (by simp)).fZ B;have H:=bf.dS cs us2 vs A (by grind) (λi v c R L=>hc (i+1) v c (by grind) (by grind));rw[e1,H]
theorem bf.cY{F w v x}(h:bf F w v x){u}(hu:x.cY=Z u):v=u:=by
 cases x with
 |agg cs=>
  cases h with
  |agg vs _ hl _ hc=>
   simp only[D.cY] at hu;cases l:D.dS cs with
   |none=>grind
   |some us=>simp[l] at hu;rw[<-hu,bf.dS cs us vs l hl hc]
 |_=>exact h.fZ hu
theorem bf.n9 F w {v x}(h:D.n9 v=Z x):bf F w v x:=by
 unfold D.n9 at h;split at h<;>simp at h<;>subst h
 case h_3 s=>cases s with |mk a=>cases a with |mk l=>exact .str l
 all_goals constructor
theorem D.SK{v x}(h:D.n9 v=Z x):x.b9=O:=by unfold D.n9 at h;split at h<;>simp at h<;>subst h<;>rfl
theorem bf.Gl F w: ∀vs xs,D.Gl vs=Z xs->J vs=J xs/\(∀c∈xs,c.b9=O)/\ ∀(i:Nat) (v:W) (c:D),vs[i]?=Z v->xs[i]?=Z c->bf F w v c
 | [],xs,h=>by grind [D.Gl]
 |v::vs,xs,h=>by
  simp only[D.Gl] at h;cases A:D.n9 v with
  |none=>grind
  |some x1=>
   cases l:D.Gl vs with
   |none=>grind
   |some xs2=>obtain⟨e1,H,B⟩:=bf.Gl F w vs xs2 l;grind [D.SK,bf.n9]
theorem bf.wW F w {v x}(h:D.wW v=Z x):bf F w v x:=by
 unfold D.wW at h;split at h
 next cs=>
  split at h
  next xs l=>simp at h;subst h;obtain⟨e1,B,A⟩:=bf.Gl F w cs.toList xs l;have:=bf.agg (F:=F) (w:=w) cs.toList xs e1 B A;omega
  cases h
 exact bf.n9 F w h
theorem bf.pI{F w v x}(h:bf F w v x)(l:x.b9=O):v.oneCell'=O:=by cases h<;>simp_all [D.b9,W.oneCell']
theorem bf.b9{F w v x}(h:bf F w v x)(l:v.oneCell'=O):x.b9=O:=by cases h<;>simp_all [D.b9,W.oneCell']
def jk(g h:W):=g=h\/ ∃v l A,g= .tuple ⟨v::l⟩/\h= .tuple ⟨v::A⟩
theorem jk.symm{g A}(h:jk g A):jk A g:=by
 rcases h with rfl | ⟨v,l,l',h1,h2⟩
 ·exact .inl rfl
 exact .inr ⟨v,l',l,h2,h1⟩
theorem jk.trans{g B A}(h:jk g B)(k:jk B A):jk g A:=by
 rcases h with rfl | ⟨v,l,l',h1,h2⟩
 ·exact k
 rcases k with rfl | ⟨v',m,m',k1,k2⟩
 ·exact .inr ⟨v,l,l',h1,h2⟩
 rw[h2] at k1;cases k1;exact .inr ⟨v,l,m',h1,k2⟩
def dh(R:List (Nat×En)) n h (C:Prop):= ∃e,lk R n=Z e/\h<=e.aU/\(h=e.aU->e.obj.live=O->C)
inductive aL(F:Nat->Prop)(w:World)(G:Nat->W)(R:List (Nat×En)):W->P->Prop
 |d {v:W} {x:D} (h:bf F w v x):aL F w G R v (.d x)
 |agg (vs:List W) (ps:List P) (hl:J vs=J ps) (gT: ∀v∈vs,v.oneCell'=O) (hc: ∀(i:Nat) (v:W) (c:P),vs[i]?=Z v->ps[i]?=Z c->aL F w G R v c):aL F w G R (.agg ⟨vs⟩) (.agg ps)
 |cy (vs:List W) (ps:List P) (hl:J vs=J ps) (hc: ∀(i:Nat) (v:W) (c:P),vs[i]?=Z v->ps[i]?=Z c->aL F w G R v c):aL F w G R (.tuple ⟨vs⟩) (.cy ps)
 |ref (n aU off:Nat) (v:W) (h:dh R n aU (∃b,G n= .pointer (Z ⟨b,0,Y⟩)/\v= .pointer (Z ⟨b,off,Y⟩))) (h1:v.oneCell'=O):aL F w G R v (.ref n aU off)
 |eB (n aU i k off:Nat) (v:W) (h1:v.oneCell'=O) (h:dh R n aU (∃b N cap,G n= .slice (Z ⟨b,0,Y⟩) N cap/\v= .pointer (Z ⟨b,i*k+off,Y⟩))):aL F w G R v (.eB n aU i k off)
 |fT (x:D) (off b o:Nat) (hb:F b) (cH: ∀c∈x.cells,c.b9=O) (f:Nat->W) (hw: ∀j,j<J x.cells->w.cell? ⟨b,o+j,Y⟩=Z (f j)) (hr: ∀(j:Nat) (c:D),x.cells[j]?=Z c->bf F w (f j) c):aL F w G R (.pointer (Z ⟨b,o+off,Y⟩)) (.fT x off)
 |sl (n aU len:Nat) (v:W) (h1:v.oneCell'=O) (h:dh R n aU (∃a N cap,G n= .slice a N cap/\v= .slice a len cap/\len<=N)):aL F w G R v (.sl n aU len)
 |nu (n aU k off len:Nat) (v:W) (h1:v.oneCell'=O) (h:dh R n aU (∃a N cap,G n= .slice a N cap/\off+len<=N/\ ∃a' iZ,v= .slice a' len iZ/\len<=iZ/\(len=0\/ ∃b,a=Z ⟨b,0,Y⟩/\a'=Z ⟨b,off*k,Y⟩))):aL F w G R v (.nu n aU k off len)
 |mp (n aU:Nat) (v:W) (h1:v.oneCell'=O) (h:dh R n aU (v=G n)):aL F w G R v (.mp n aU)
 |hd (n aU:Nat) (v:W) (h1:v.oneCell'=O) (h:dh R n aU (∃b l,G n= .tuple ⟨v::l⟩/\v= .pointer (Z ⟨b,0,Y⟩))):aL F w G R v (.hd n aU)
 |JL (n aU len:Nat) (v:W) (h1:v.oneCell'=O) (h:dh R n aU (∃a N cap l,G n= .tuple ⟨.slice a N cap::l⟩/\v= .slice a len cap/\len<=N)):aL F w G R v (.JL n aU len)
 |wV (n aU:Nat) (v:W) (h1:v.oneCell'=O) (h:dh R n aU (∃l,G n= .tuple ⟨v::l⟩)):aL F w G R v (.wV n aU)
 |fn (f:FuncId) (vs:List W) (dA:List P) (hl:J vs=J dA) (hc: ∀(i:Nat) (v:W) (c:P),vs[i]?=Z v->dA[i]?=Z c->aL F w G R v c):aL F w G R (.func (.func f) #[] ⟨vs⟩) (.fn f dA)
 |bad (v:W):aL F w G R v .bad
theorem dh.mono{R A n l}{C B:Prop}(hC:C->B)(X: ∀e,lk R n=Z e-> ∃e',lk A n=Z e'/\e.aU<=e'.aU/\(e.aU=e'.aU->e'.obj.live=O->e.obj.live=O))(h:dh R n l C):dh A n l B:=by obtain⟨e,U,H,V⟩:=h;obtain⟨e',cP,Ey,L⟩:=X e U;refine⟨e',cP,zaJ H Ey,λh1 h2=>hC (V (by omega) (L (by omega) h2))⟩
structure Names(G G':Nat->W)(R R':List (Nat×En)):Prop where
 on: ∀n e,lk R n=Z e-> ∃e',lk R' n=Z e'/\e.aU<=e'.aU/\(e.aU=e'.aU->e'.obj.live=O->e.obj.live=O)
 same: ∀n e e',lk R n=Z e->lk R' n=Z e'->e.aU=e'.aU->e'.obj.live=O->jk (G' n) (G n)
theorem dh.go{G G' R R'}(L:Names G G' R R'){n aU}{C:(W->Prop)}(hH: ∀v l B,C (.tuple ⟨v::l⟩)->C (.tuple ⟨v::B⟩))(h:dh R n aU (C (G n))):dh R' n aU (C (G' n)):=by
 obtain⟨e,U,hv,A⟩:=h;obtain⟨e',X,Ey,hl⟩:=L.on n e U;refine⟨e',X,zaJ hv Ey,λh1 V=> ?_⟩;have e0:e.aU=e'.aU:=by omega
 have A:=A (by omega) (hl (by omega) V);rcases L.same n e e' U X e0 V with H | ⟨v,l,B,H,h4⟩
 ·rw[H];exact A
 rw[h4] at A;rw[H];exact hH v B l A
theorem aL.mono{F F' w w' G G' R X}(L: ∀b,F b->F' b)(B: ∀b,F b->w'.heap[b]?=w.heap[b]?)(A:Names G G' R X)
  {v p} (h:aL F w G R v p):aL F' w' G' X v p:=by
 induction h with
 |d h=>exact .d (h.mono L B)
 |agg vs ps hl cH _ ih=>exact .agg vs ps hl cH ih
 |cy vs ps hl _ ih=>exact .cy vs ps hl ih
 |ref n aU off v h h1=>exact .ref n aU off v (dh.go (C:=λg=> ∃b,g= .pointer (Z ⟨b,0,Y⟩)/\v= .pointer (Z ⟨b,off,Y⟩)) A (λ_ _ _ h=>by obtain⟨_,h,_⟩:=h;cases h) h) h1
 |eB n aU i k off v h1 h=>exact .eB n aU i k off v h1 (dh.go (C:=λg=> ∃b N cap,g= .slice (Z ⟨b,0,Y⟩) N cap/\v= .pointer (Z ⟨b,i*k+off,Y⟩)) A (λ_ _ _ h=>by obtain⟨_,_,_,h,_⟩:=h;cases h) h)
 |fT x off b o hb cH f hc hr=>exact .fT x off b o (L _ hb) cH f (λj H=>(Ex (B b hb) _).trans (hc j H)) (λj c H=>(hr j c H).mono L B)
 |sl n aU len v h1 h=>exact .sl n aU len v h1 (dh.go (C:=λg=> ∃a N cap,g= .slice a N cap/\v= .slice a len cap/\len<=N) A (λ_ _ _ h=>by obtain⟨_,_,_,h,_⟩:=h;cases h) h)
 |nu n aU k off len v h1 h=>exact .nu n aU k off len v h1 (dh.go (C:=λg=> ∃a N cap,g= .slice a N cap/\off+len<=N/\ ∃V U,v= .slice V len U/\len<=U/\(len=0\/ ∃b,a=Z ⟨b,0,Y⟩/\V=Z ⟨b,off*k,Y⟩)) A (λ_ _ _ h=>by obtain⟨_,_,_,h,_⟩:=h;cases h) h)
 |mp n aU v h1 h=>exact .mp n aU v h1 (dh.go (C:=λg=>v=g) A (λ_ _ _ h=>by rw[h] at h1;cases h1) h)
 |hd n aU v h1 h=>exact .hd n aU v h1 (dh.go (C:=λg=> ∃b l,g= .tuple ⟨v::l⟩/\v= .pointer (Z ⟨b,0,Y⟩)) A (λ_ _ _ h=>by obtain⟨b,_,h,e⟩:=h;cases h;exact⟨b,_,rfl,e⟩) h)
 |JL n aU len v h1 h=>exact .JL n aU len v h1 (dh.go (C:=λg=> ∃a N cap l,g= .tuple ⟨.slice a N cap::l⟩/\v= .slice a len cap/\len<=N) A (λ_ _ _ h=>by obtain⟨a,N,cap,_,h,e⟩:=h;cases h;exact⟨a,N,cap,_,rfl,e⟩) h)
 |wV n aU v h1 h=>exact .wV n aU v h1 (dh.go (C:=λg=> ∃l,g= .tuple ⟨v::l⟩) A (λ_ _ _ h=>by obtain⟨_,h⟩:=h;cases h;exact⟨_,rfl⟩) h)
 |fn f vs dA hl _ ih=>exact .fn f vs dA hl ih
 |bad v=>exact .bad v
theorem aL.pI{F w G R}{v p}(h:aL F w G R v p)(l:p.b9=O):v.oneCell'=O:=by
 cases h<;>try simp_all [P.b9]
 case d x h=>exact h.pI l
 all_goals rfl
def aI:W->Option Nat
 | .pointer (Z a)=>Z a.block
 | .slice (Z a) _ _=>Z a.block
 | .map r=>r
 |_=>Y
def JR:W->List Nat
 | .tuple ⟨_::l⟩=>l.filterMap aI
 |_=>[]
def oP(b:Nat):W:= .pointer (Z ⟨b,0,Y⟩)
def a7(g:W):Obj->Nat->Prop
 | .gone,_=>False
 | .box _ _,b=>aI g=Z b
 | .arr _ fz _,b=>fz=C/\aI g=Z b
 | .map _ _ _ fz,b=>fz=C/\aI g=Z b
 | .iter ..,b=>aI g=Z b
 | .ji ..,b=>aI g=Z b
 | .cS,_=>False
 | .fY ..,b=>aI g=Z b
 | .deep _ _,b=>b∈JR g
def nw F w (cs:Array W) k (es:List D):=
 ∀(i:Nat) (x:D),es[i]?=Z x->J x.cells=k/\(∀c∈x.cells,c.b9=O)/\ ∀(j:Nat) (c:D),x.cells[j]?=Z c->bf F w (cs.getD (i*k+j) undef) c
def ja Q F w l (get:D->Option D) n es h:=
 ∃ks:List (D×D),J ks=J es/\n=(J es:Int)/\(∀(i:Nat) (p:D×D) (e:MapEntry),ks[i]?=Z p->es[i]?=Z e->ga Q l p.1=O/\p.1.cY=Z e.key/\bf F w e.val p.2)/\
  (ks.map (·.1)).Nodup/\(∀k v,get k=Z v↔(k,v)∈ks)/\(∀e∈es,e.born<h)/\(es.map (·.born)).Nodup
theorem ja.mono{Q F F' w w' A}{get n es l}(R: ∀b,F b->F' b)(B: ∀b,F b->w'.heap[b]?=w.heap[b]?)(h:ja Q F w A get n es l):ja Q F' w' A get n es l:=by obtain⟨ks,h1,h2,h3,h4,X,V,U⟩:=h;exact⟨ks,h1,h2,λi p e H L=>let ⟨a,b,c⟩:=h3 i p e H L;⟨a,b,c.mono R B⟩,h4,X,V,U⟩
def Dw Q F w A (left:D->Option D) es h (l:Array Nat):=
 ∃ks:List (D×D),J ks=J es/\(∀(i:Nat) (p:D×D) (e:MapEntry),ks[i]?=Z p->es[i]?=Z e->ga Q A p.1=O/\p.1.cY=Z e.key/\bf F w e.val p.2)/\
  (ks.map (·.1)).Nodup/\(∀e∈es,e.born<h)/\(es.map (·.born)).Nodup/\ ∀k v,left k=Z v↔ ∃(i:Nat) (e:MapEntry),ks[i]?=Z (k,v)/\es[i]?=Z e/\l.contains e.born=C
theorem Dw.mono{Q F F' w w' B}{left es l A}(U: ∀b,F b->F' b)(H: ∀b,F b->w'.heap[b]?=w.heap[b]?)(h:Dw Q F w B left es l A):Dw Q F' w' B left es l A:=by obtain⟨ks,h1,h3,h4,h5,X,V⟩:=h;exact⟨ks,h1,λi p e L R=>let ⟨a,b,c⟩:=h3 i p e L R;⟨a,b,c.mono U H⟩,h4,h5,X,V⟩
theorem ja.iter{Q F w B}{get n es l}(h:ja Q F w B get n es l):Dw Q F w B get es l #[]:=by
 obtain⟨ks,X,_,V,U,H,R,L⟩:=h;refine⟨ks,X,V,U,R,L,λk v=>⟨λhk=> ?_,λ⟨i,e,A,_,_⟩=>(H k v).2 (zas A)⟩⟩;obtain⟨i,A⟩:=zaD ((H k v).1 hk);have aZ:i<J es:=by have:=(zab.1 A).1;omega
 exact⟨i,es[i],A,zae aZ,by simp⟩
theorem oQ v h:JR (.tuple ⟨v::h.map oP⟩)=h:=by
 show(h.map oP).filterMap aI=h
 induction h with
 |nil=>rfl
 |cons b h ih=>simp only[zaS,List.filterMap_cons,oP,aI];exact congrArg _ ih
def ny(Q:M)(F:Nat->Prop)(w:World)(G:Nat->W)(R:List (Nat×En))(n:Nat):Obj->Prop
 | .gone=>True
 | .box T ps=> ∃b cs,G n= .pointer (Z ⟨b,0,Y⟩)/\w.heap[b]?=Z (.cells cs T (0,0))/\cs.size=J ps/\(∀v∈cs.toList,v.oneCell'=O)/\ ∀(i:Nat) (p:P),ps[i]?=Z p->aL F w G R (cs.getD i undef) p
 | .arr ty fz es=>(G n= .slice Y 0 0/\es=[])\/
  ∃b cap cs k,G n= .slice (Z ⟨b,0,Y⟩) (J es) cap/\w.heap[b]?=Z (.cells cs ty (0,0))/\sz Q ty=Z k/\0<k/\J es<=cap/\cap<=maxLen/\cs.size=cap*k/\(fz=O->F b)/\nw F w cs k es
 | .map kt get c fz=> ∃b es h,G n= .map (Z b)/\w.heap[b]?=Z (.map es h)/\ja Q F w kt get c es.toList h/\(fz=O->F b)
 | .cS=>True
 | .deep _ p=> ∃v B,G n= .tuple ⟨v::aa oP B⟩/\(∀b∈B,b<w.heap.size)/\ ∀w':World,(∀b,b∈B\/F b->w'.heap[b]?=w.heap[b]?)->p w' (.tuple ⟨v::aa oP B⟩)
 | .fY kt get c p kd=> ∃b es h,G n= .map (Z b)/\w.heap[b]?=Z (.map es h)/\ja Q F w kt get c es.toList h/\ ∃(i:Nat) (e:MapEntry),es[i]?=Z e/\aL F w G R (.int DD (e.born:Int)) p/\kd.cY=Z e.key/\(get kd).isSome=O
 | .ji s pos=> ∃b,G n= .pointer (Z ⟨b,0,Y⟩)/\w.heap[b]?=Z (.stringIter ⟨⟨s⟩⟩ pos)
 | .iter kt _ left cur=> ∃b H l A last,G n= .pointer (Z ⟨b,0,Y⟩)/\w.heap[b]?=Z (.mapIter H l A last)/\
  ((H=Y/\(∀k,left k=Y)/\cur=Y)\/ ∃m es,H=Z m/\F m/\w.heap[m]?=Z (.map es l)/\last=l/\Dw Q F w kt left es.toList l A/\ ∀k v,cur=Z (k,v)-> ∃e∈es.toList,A.back?=Z e.born/\k.cY=Z e.key/\bf F w e.val v)
def bR(F:Nat->Prop)(w:World)(G:Nat->W)(R:List (Nat×En))(_tmps:Array W)(v:W):P->Prop
 | .when ..=>v=undef
 |p=>aL F w G R v p
theorem bR.of{F w G R}{l v p}(h:aL F w G R v p):bR F w G R l v p:=by cases p<;>first |exact h |cases h
theorem bR.mono{F F' w w' G B R A}(U: ∀b,F b->F' b)(H: ∀b,F b->w'.heap[b]?=w.heap[b]?)(L:Names G B R A)
  {l v p} (h:bR F w G R l v p):bR F' w' B A l v p:=by
 cases p with
 |when t b q=>exact h
 |_=>exact aL.mono U H L h
structure Tg where
 val:Nat->W
 w0:World
 lo:Nat
 V8:Bool
instance:CoeFun Tg λ_=>Nat->W:=⟨Tg.val⟩
def Own(G:Nat->W)(R:List (Nat×En)) b:= ∃n e,lk R n=Z e/\a7 (G n) e.obj b
def fM(T:Tg)(F:Nat->Prop) G R (w:World)(h:List Deferred):=
 h.Nodup/\ ∀d∈h,∃D,d={target:= .collected D,args:= #[]}/\(T.lo<=D/\T.V8=O)/\w.heap[D]?=Z (.deferred (Z []))/\ ¬F D/\ ¬Own G R D
theorem fM.nil{T F G R}{w}:fM T F G R w []:=⟨by simp,λd h=>by cases h⟩
structure ax(Q:M)(T:Tg)(F:Nat->Prop)(G:Nat->W)(w:World)(a:Act)(s:S):Prop where
 oR:fM T F G s.rg w a.defers
 size:s.n<=a.tmps.size
 tm: ∀t p,lk s.tm t=Z p->bR F w G s.rg a.tmps (a.tmps.getD t undef) p
 rg: ∀n e,lk s.rg n=Z e->ny Q F w G s.rg n e.obj
 own: ∀n m e e' b,lk s.rg n=Z e->lk s.rg m=Z e'->a7 (G n) e.obj b->a7 (G m) e'.obj b->n=m
 jb: ∀n e b,lk s.rg n=Z e->a7 (G n) e.obj b-> ¬F b
 gL: ∀b,F b->b<w.heap.size
 tag: ∀n e i,lk s.rg n=Z e->e.tag=Z i->e.obj.live=O->jk (G n) (T i)
 z: ∀b,b<T.w0.heap.size->F b/\w.heap[b]?=T.w0.heap[b]?
 dr:T.w0.drawn<=w.drawn
 sz:T.lo<=w.heap.size
structure Ext(own w8 F F':Nat->Prop)(w w':World):Prop where
 iK: ∀b,F b->F' b
 lz: ∀b,F' b->F b\/own b\/w.heap.size<=b
 jT: ∀b,w8 b->own b\/w.heap.size<=b
 keep: ∀b,b<w.heap.size-> ¬own b->w'.heap[b]?=w.heap[b]?
 size:w.heap.size<=w'.heap.size
 os:w'.os=w.os
 tape:w'.tape=w.tape
 output:w'.output=w.output
theorem fM.go{T F F' G U R L}{w w' H}(h:fM T F G R w H)(l:Ext (Own G R) (Own U L) F F' w w'):fM T F' U L w' H:=by
 refine⟨h.1,λd hd=> ?_⟩;obtain⟨D,h1,h0,B,h3,A⟩:=h.2 d hd;have aZ:=(zar.1 B).1;refine⟨D,h1,h0,(l.keep D aZ A).trans B,λX=> ?_,λV=> ?_⟩
 ·rcases l.lz D X with h |h |h
  ·exact h3 h
  ·exact A h
  omega
 rcases l.jT D V with h |h
 ·exact A h
 omega
theorem fM.IZ{T F F' G R A}{w l}(h:fM T F G R w l)(U: ∀b,F' b->F b\/Own G R b)(L: ∀b,Own G A b->Own G R b):fM T F' G A w l:=
 ⟨h.1,λd hd=>let ⟨D,h1,h0,h2,h3,h4⟩:=h.2 d hd;⟨D,h1,h0,h2,λH=>(U D H).elim h3 h4,λB=>h4 (L D B)⟩⟩
theorem Ext.refl l F w:Ext l l F F w w:=
 ⟨λ_ h=>h,λ_ h=> .inl h,λ_ h=> .inl h,λ_ _ _=>rfl,zag _,rfl,rfl,rfl⟩
theorem Ext.trans{o1 A R F1 X V:Nat->Prop}{w1 L H:World}(h:Ext o1 A F1 X w1 L)(k:Ext A R X V L H):Ext o1 R F1 V w1 H where
 iK b hb:=k.iK b (h.iK b hb)
 lz b hb:=by
  rcases k.lz b hb with l |l |l
  ·exact h.lz b l
  ·rcases h.jT b l with B |B
   ·grind
   grind
  exact .inr (.inr (zaJ h.size l))
 jT b hb:=by
  rcases k.jT b hb with l |l
  ·exact h.jT b l
  exact .inr (zaJ h.size l)
 keep b hb hn:=by
  have U9: ¬A b:=λB=>by rcases h.jT b B with U |U;exact hn U;omega
  rw[k.keep b (zaR hb h.size) U9,h.keep b hb hn]
 size:=zaJ h.size k.size
 os:=k.os.trans h.os
 tape:=k.tape.trans h.tape
 output:=k.output.trans h.output
theorem Names.refl G R:Names G G R R:=⟨λ_ e h=>⟨e,h,zag _,λ_ h=>h⟩,λ_ _ _ _ _ _ _=> .inl rfl⟩
theorem ny.lt{Q F w G}{R n o}(h:ny Q F w G R n o){b}(A:a7 (G n) o b):b<w.heap.size:=by
 cases o with
 |gone=>simp[a7] at A
 |box T ps=>obtain⟨L,cs,l,H,_⟩:=h;grind [a7,aI]
 |arr ty fz es=>
  rcases h with⟨l,_⟩| ⟨L,cap,cs,k,l,H,_⟩
  ·simp[a7,l,aI] at A
  grind [a7,aI]
 |map kt get c fz=>obtain⟨L,es,B,l,H,_⟩:=h;grind [a7,aI]
 |ji s p=>obtain⟨L,l,H⟩:=h;grind [a7,aI]
 |iter kt vt left cur=>obtain⟨L,mo,U,V,last,l,H,_⟩:=h;grind [a7,aI]
 |cS=>simp[a7] at A
 |fY kt get c p kd=>obtain⟨L,es,B,l,H,_⟩:=h;grind [a7,aI]
 |deep x p=>obtain⟨v,bs,l,X,_⟩:=h;refine X b ?_;have A:b∈JR (G n):=A;rw[l,oQ] at A;exact A
theorem ax.k9{Q T F G}{w a s}(h:ax Q T F G w a s){b}(l:Own G s.rg b):b<w.heap.size:=by obtain⟨n,e,A,l⟩:=l;exact(h.rg n e A).lt l
end Pi
namespace Pi
open Go
theorem dG{α:Type}{Q}{m:Sem α}{v}(h:ay Q m=Z v) w:m.run Q w= .ok v w:=by
 induction m with
 |pure a=>simp_all [ay]
 |program k ih=>exact ih _ h
 |mark m k ih=>exact ih h
 |_=>simp[ay] at h
theorem SL{Q m p}(h:eQ Q m=Z p) F w G R: ∃v,m.run Q w= .ok v w/\aL F w G R v p:=by
 unfold eQ at h;split at h
 next v A=>
  split at h
  next x l=>simp at h;subst h;exact⟨v,dG A w,.d (bf.wW F w l)⟩
  cases h
 cases h
theorem aL.cY{F w G R}{v u p}(h:aL F w G R v p)(hu:p.cY=Z u):v=u:=by
 cases h<;>simp[P.cY] at hu
 case d x h=>exact h.cY hu
theorem S.bY{s:S}{n v o}(h:s.obj n v=Z o): ∃e,lk s.rg n=Z e/\e.aU=v/\e.obj=o:=by
 unfold S.obj at h;split at h
 ·simp_all
 cases h
theorem S.da{s:S}{n v}(h:s.live n v=O): ∃e,lk s.rg n=Z e/\e.aU=v/\e.obj.live=O:=by grind [S.live,S.bY,Obj.live]
theorem dh.at{R n l}{C:Prop}(h:dh R n l C){e}(H:lk R n=Z e)(A:e.aU=l)(B:e.obj.live=O):C:=by obtain⟨e',U,_,L⟩:=h;grind
def nG(a:Act):Option (Nat×Bool)->Prop
 |Y=>True
 |Z (t,b)=>a.tmps[t]?=Z (.bool b)
section
variable{Q:M}{T:Tg}{F:Nat->Prop}{G:Nat->W}{w:World}{a:Act}{s:S}
theorem AG(h:ax Q T F G w a s) x:bR F w G s.rg a.tmps (a.eval x) (s.ev x):=by
 cases x with
 |tmp t=>
  simp only[S.ev,Act.eval];cases B:lk s.tm t with
  |none=>exact bR.of (.bad _)
  |some p=>exact h.tm t p B
 |const v=>
  simp only[S.ev,Act.eval];split
  next x l=>exact bR.of (.d (bf.wW F w l))
  exact bR.of (.bad _)
 |func f=>exact bR.of (.fn f [] [] rfl (λi v c A=>by simp at A))
 |global g=>exact bR.of (.bad _)
theorem V9{g}(_:nG a g){v p}(h:bR F w G s.rg a.tmps v p):aL F w G s.rg v (p.under g):=by
 cases p with
 |when t b q=>exact .bad _
 |_=>exact h
theorem bg(h:ax Q T F G w a s){g}(l:nG a g) x:aL F w G s.rg (a.eval x) (s.eg g x):=V9 l (AG h x)
theorem qcf{t v}(h:a.tmps.getD t undef=v)(l:v≠undef):t<a.tmps.size:=by grind
theorem Ez: ∀ps xs,Dv ps=Z xs->ps=xs.map P.d
 | [],xs,h=>by grind [Dv]
 |p::r,xs,h=>by
  cases p<;>simp[Dv] at h;rename_i x;cases l:Dv r with
  |none=>grind
  |some ys=>simp[l] at h;subst h;simp[Ez r ys l]
theorem JS{R vs ps}(V:J vs=J ps)(H: ∀v∈vs,v.oneCell'=O)
  (B: ∀(i:Nat) (v:W) (c:P),vs[i]?=Z v->ps[i]?=Z c->aL F w G R v c):aL F w G R (.agg ⟨vs⟩) (P5 ps):=by
 unfold P5;split
 next xs A=>
  have e:=Ez ps xs A;subst e;have hd: ∀(i:Nat) (v:W) (c:D),vs[i]?=Z v->xs[i]?=Z c->bf F w v c:=λi v c U l=>by have:=B i v (.d c) U (by simp[l]);cases this with |d h=>exact h
  refine .d (.agg vs xs (by grind) (λc l=> ?_) hd);obtain⟨i,X⟩:=zaD l;have L:i<J vs:=by grind
  exact(hd i _ c (zae L) X).b9 (H _ (zay L))
 exact .agg vs ps V H B
theorem ij{t k}(h:sz Q t=Z k): ∃i d,Q.info? t=Z i/\Q.underlying t=Z d/\i.size=k:=by grind [sz]
theorem run_sizeOf{t k}(h:sz Q t=Z k) w:(Go.sizeOf t).run Q w= .ok k w:=by obtain⟨i,d,l,_,rfl⟩:=ij h;simp[Go.sizeOf,typeInfo,l]
theorem iL{t d}(h:Q.underlying t=Z d) w:(Go.isAgg t).run Q w= .ok (dZ Q t) w:=by unfold Go.isAgg dZ;rw[Sem.run_bind,run_underlying h w,h];cases d<;>simp
theorem dU b o n:(⟨b,o,Y⟩:Addr).add n=⟨b,o+n,Y⟩:=by unfold Addr.add;simp
theorem Wa{t k}(hk:sz Q t=Z k) vs off (h: ∀j,j<(if dZ Q t then k else 1)->off+j<J vs) w:
  (Go.part t ⟨vs⟩ off).run Q w= .ok (if dZ Q t then .agg ((List.range k).map λj=>vs.getD (off+j) undef).toArray else vs.getD off undef) w:=by
 obtain⟨_,d,_,hd,_⟩:=ij hk;unfold Go.part;rw[Sem.run_bind,iL hd w];cases l:dZ Q t with
 |true=>simp only[Result.andThen_ok,zbj,Sem.run_bind,run_sizeOf hk,Sem.run_pure];congr 3;rw[<-zbo];apply zbX;grind
 |false=>simp_all
theorem vd{t k d}(hk:sz Q t=Z k)(hd:Q.underlying t=Z d) b o f (A: ∀j,j<(if dZ Q t then k else 1)->w.cell? ⟨b,o+j,Y⟩=Z (f j)):
  (loadVar t ⟨b,o,Y⟩).run Q w= .ok (if dZ Q t then .agg ((List.range k).map f).toArray else f 0) w:=by
 unfold loadVar;rw[Sem.run_bind,iL hd w];cases B:dZ Q t with
 |true=>have h:=run_loadCells (P:=Q) w ⟨b,o,Y⟩ k f (λj l=>by rw[dU];grind);simp_all [run_sizeOf]
 |false=>simp_all
theorem JT{R t ps off}{p}(h:Eo Q t ps off=Z p)(f:Nat->W)(H: ∀i,i<J ps->(f i).oneCell'=O)
  (B: ∀i c,ps[i]?=Z c->aL F w G R (f i) c):
  ∃k,sz Q t=Z k/\(∀j,j<(if dZ Q t then k else 1)->off+j<J ps)/\aL F w G R (if dZ Q t then .agg ((List.range k).map λj=>f (off+j)).toArray else f off) p:=by
 unfold Eo at h;cases hk:sz Q t with
 |none=>grind
 |some k=>
  refine⟨k,rfl,?_⟩;simp only[hk] at h;cases A:dZ Q t with
  |true=>
   simp only[A,zbj] at h;split at h
   ·rename_i l;have l:off+k<=J ps:=by simpa using l
    grind [JS]
   cases h
  |false=>grind
theorem JU{t cs off x}(h:kx Q t cs off=Z x)(f:Nat->W)(B: ∀c∈cs,c.b9=O)
  (R: ∀i c,cs[i]?=Z c->bf F w (f i) c):
  ∃k,sz Q t=Z k/\(∀j,j<(if dZ Q t then k else 1)->off+j<J cs)/\bf F w (if dZ Q t then .agg ((List.range k).map λj=>f (off+j)).toArray else f off) x:=by
 unfold kx at h;cases hk:sz Q t with
 |none=>grind
 |some k=>
  refine⟨k,rfl,?_⟩;simp only[hk] at h;cases H:dZ Q t with
  |true=>
   simp only[H,zbj] at h;split at h
   ·rename_i l;have l:off+k<=J cs:=by simpa using l
    simp at h;subst h;refine⟨λj U=>by grind,?_⟩;refine .agg _ _ (by simp;omega) (λc A=>B c (zcm (zbm A))) (λi v c L A=> ?_);grind
   cases h
  |false=>grind
theorem w9{t k}(h:sz Q t=Z k): ∃d,Q.underlying t=Z d:=by grind [ij]
theorem tN{t k}(hk:sz Q t=Z k) b o f (h: ∀j,j<(if dZ Q t then k else 1)->w.cell? ⟨b,o+j,Y⟩=Z (f j)):
  (Instr.loadAt t (.pointer (Z ⟨b,o,Y⟩))).run Q w= .ok (if dZ Q t then .agg ((List.range k).map f).toArray else f 0) w:=by
 obtain⟨d,hd⟩:=w9 hk;simp only[Instr.loadAt,Instr.sureAddr,Sem.run_bind,Sem.run_pure,Result.andThen_ok];grind [vd]
theorem JV(h:ax Q T F G w a s){t v p q}(hv:aL F w G s.rg v p)(l:sU Q s t p=Z q): ∃u,(Instr.loadAt t v).run Q w= .ok u w/\aL F w G s.rg u q:=by
 unfold sU at l;cases hv with
 |ref n aU off v hr h1=>
  simp only at l;split at l
  next ty ps ho=>obtain⟨e,H,dR,U⟩:=S.bY ho;obtain⟨b,X,rfl⟩:=hr.at H dR (by rw[U];rfl);have L:=h.rg n e H;rw[U] at L;obtain⟨b',cs,A,hh,dy,gT,jU⟩:=L;rw[X] at A;simp at A;subst A;obtain⟨k,hk,aZ,V⟩:=JT (R:=s.rg) l (λi=>cs.getD i undef) (λi hi=>gT _ (by simp_all)) jU;refine⟨_,tN hk b off (λj=>cs.getD (off+j) undef) (λj hj=> ?_),V⟩;rw[cell_of_row w b (off+j) cs ty (0,0) hh];simp_all
  cases l
 |eB n aU i k off v h1 hr=>
  simp only at l;split at l
  next ty fz es ho=>
   obtain⟨e,H,dR,U⟩:=S.bY ho;obtain⟨b,N,cap,X,rfl⟩:=hr.at H dR (by rw[U];rfl);have L:=h.rg n e H;rw[U] at L;split at l
   ·rename_i k' x jL hx;split at l
    ·rename_i kU;have kU:k=k':=by simpa using kU
     subst kU;split at l
     ·rename_i y hy;simp at l;subst l;rcases L with⟨A,_⟩| ⟨b',iZ,cs,k2,A,hh,uK,ix,hle,u7,dy,_,hE⟩
      ·rw[X] at A;cases A
      rw[X] at A;simp at A;obtain⟨rfl,_,_⟩:=A;rw[jL] at uK;cases uK;obtain⟨hl,cH,hcs⟩:=hE i x hx;obtain⟨k3,B,aZ,V⟩:=JU hy (λj=>cs.getD (i*k+j) undef) cH (λj c hc=>hcs j c hc);have hi:=(zab.1 hx).1;refine⟨_,tN B b (i*k+off) (λj=>cs.getD (i*k+(off+j)) undef) (λj hj=> ?_),.d V⟩;have h2:=aZ j hj;have h3:i*k+(off+j)<cs.size:=by
       rw[dy]
       calc i*k+(off+j)<i*k+k:=by omega
        _=(i+1)*k:=by rw[zaV,zbw]
        _<=iZ*k:=zaq _ (by omega)
      rw[cell_of_row w b _ cs ty (0,0) hh,zbK];simp_all
     cases l
    cases l
   cases l
  cases l
 |fT x off b o hb cH f hw hr=>
  simp only at l;split at l
  next y hy=>simp at l;subst l;obtain⟨k3,B,aZ,V⟩:=JU hy f cH hr;refine⟨_,tN B b (o+off) (λj=>f (off+j)) (λj hj=> ?_),.d V⟩;grind
  cases l
 |_=>cases l
theorem Dx{v p q}(A:aL F w G s.rg v p)(h:lO s p=Z q):q=p/\((∃b,v= .pointer (Z b))\/ ∃f R L,v= .func (.func f) R L):=by
 unfold lO at h;cases A with
 |ref n aU off v hr h1=>
  simp only at h;split at h
  next l=>obtain⟨e,B,H,l⟩:=S.da l;obtain⟨b,_,A⟩:=hr.at B H l;grind
  cases h
 |eB n aU i k off v h1 hr=>
  simp only at h;split at h
  next l=>obtain⟨e,B,H,l⟩:=S.da l;obtain⟨b,N,cap,_,A⟩:=hr.at B H l;grind
  cases h
 |fT x off b o hb cH f hw hr=>grind
 |fn f vs dA l hc=>grind
 |_=>cases h
theorem oh{t f o}(h:Ay Q t f=Z o) b off w:(Instr.fieldAt t (.pointer (Z ⟨b,off,Y⟩)) f).run Q w= .ok (.pointer (Z ⟨b,off+o,Y⟩)) w:=by
 unfold Ay at h;split at h
 next B l=>
  split at h
  next H A=>
   split at h
   next k hk=>simp at h;subst h;simp[Instr.fieldAt,run_underlying l,A,Instr.sureAddr,fieldPlace,run_sizeOf hk,dU]
   cases h
  cases h
 cases h
theorem Dz{t f v p q}(R:aL F w G s.rg v p)(h:jR Q s t f p=Z q): ∃u,(Instr.fieldAt t v f).run Q w= .ok u w/\aL F w G s.rg u q:=by
 unfold jR at h;split at h
 ·cases h
 rename_i o B;cases R with
 |ref n aU off v hr h1=>
  simp only at h;split at h
  next l=>simp at h;subst h;obtain⟨e,A,L,l⟩:=S.da l;obtain⟨b,H,rfl⟩:=hr.at A L l;exact⟨_,oh B b off w,.ref n aU (off+o) _ ⟨e,A,by omega,λ_ _=>⟨b,H,rfl⟩⟩ rfl⟩
  cases h
 |eB n aU i k off v h1 hr=>
  simp only at h;split at h
  next l=>simp at h;subst h;obtain⟨e,A,L,l⟩:=S.da l;obtain⟨b,N,cap,H,rfl⟩:=hr.at A L l;exact⟨_,oh B b (i*k+off) w,.eB n aU i k (off+o) _ rfl ⟨e,A,by omega,λ_ _=>⟨b,N,cap,H,by rw[zbK]⟩⟩⟩
  cases h
 |fT x off b o' hb cH f' hw hr=>simp at h;subst h;refine⟨_,oh B b (o'+off) w,?_⟩;rw[zbK];exact .fT x (off+o) b o' hb cH f' hw hr
 |_=>cases h
theorem eD{t e}(h:dx Q t=Z e):Q.underlying t=Z (.slice e):=by grind [dx]
theorem qcg{t e}(h:Q.underlying t=Z (.slice e)):Q.elem t=e:=by simp[M.elem,h]
theorem NK{t e n}(h:P6 Q t=Z (n,e)):Q.underlying t=Z (.array n e):=by grind [P6]
theorem kV{t e n k}(l:Q.underlying t=Z (.array n e))(hk:sz Q e=Z k) b off h {j}(A:0<=j/\j<(n:Int)):
  (Instr.indexAt t (.pointer (Z ⟨b,off,Y⟩)) (.int h j)).run Q w= .ok (.pointer (Z ⟨b,off+j.toNat*k,Y⟩)) w:=by
 simp[Instr.indexAt,asIntOf,run_underlying l,Instr.sureAddr,A,run_sizeOf hk,dU]
theorem JW{t e n v u p i q}(H:Q.underlying t=Z (.array n e))(X:aL F w G s.rg v p)(hu:aL F w G s.rg u i)(h:qW Q s n e p i=Z q):
  ∃x,(Instr.indexAt t v u).run Q w= .ok x w/\aL F w G s.rg x q:=by
 unfold qW at h;split at h
 next B j k hk=>
  cases hu with
  |d hu=>
   cases hu;split at h
   ·rename_i L;cases X with
    |ref n aU off v hr h1=>
     simp only at h;split at h
     next l=>simp at h;subst h;obtain⟨U,A,V,l⟩:=S.da l;obtain⟨b,R,rfl⟩:=hr.at A V l;exact⟨_,kV H hk b off B L,.ref n aU _ _ ⟨U,A,by omega,λ_ _=>⟨b,R,rfl⟩⟩ rfl⟩
     cases h
    |eB n aU i k' off v h1 hr=>
     simp only at h;split at h
     next l=>simp at h;subst h;obtain⟨U,A,V,l⟩:=S.da l;obtain⟨b,N,cap,R,rfl⟩:=hr.at A V l;exact⟨_,kV H hk b _ B L,.eB n aU i k' _ _ rfl ⟨U,A,by omega,λ_ _=>⟨b,N,cap,R,by rw[zbK]⟩⟩⟩
     cases h
    |fT x off b o hb cH f hw hr=>simp at h;subst h;refine⟨_,kV H hk b _ B L,?_⟩;rw[zbK];exact .fT x _ b o hb cH f hw hr
    |_=>cases h
   cases h
 cases h
theorem DA(h:ax Q T F G w a s){t v u p i q}(X:aL F w G s.rg v p)(hu:aL F w G s.rg u i)(l:gb Q s t p i=Z q):
  ∃x,(Instr.indexAt t v u).run Q w= .ok x w/\aL F w G s.rg x q:=by
 unfold gb at l;split at l
 next n e B=>exact JW (NK B) X hu l
 split at l
 next _ e kk j B=>
  have V:=eD B;have R:=qcg V;cases hu with
  |d hu=>
   cases hu;split at l
   ·rename_i k hk;cases X with
    |sl n aU len v h1 hr=>
     simp only at l;split at l
     ·rename_i ty fz es ho;split at l
      ·rename_i NL;split at l
       ·rename_i hj;simp at l;subst l;obtain⟨en,L,dR,bZ⟩:=S.bY ho;obtain⟨a0,N,cap,hG,rfl,hle⟩:=hr.at L dR (by rw[bZ];rfl);have hO:=h.rg n en L;rw[bZ] at hO;rcases hO with⟨kq,_⟩| ⟨H,iZ,cs,k2,kq,hh,uK,ix,qhz,u7,dy,_,hE⟩
        ·skip
         grind
        rw[hG] at kq;obtain⟨rfl,rfl,rfl⟩:=kq;refine⟨_,?_,.eB n aU j.toNat (k+1) 0 (.pointer (Z ⟨H,j.toNat*(k+1)+0,Y⟩)) rfl ⟨en,L,by omega,λ_ _=>⟨H,_,_,hG,rfl⟩⟩⟩;rw[run_indexAt_slice w t ⟨H,0,Y⟩ len cap _ j (by rw[R];exact V),zau hj,R,run_sizeOf hk];simp[dU]
       cases l
      cases l
     cases l
    |nu n aU k0 qch len v h1 hr=>
     simp only at l;split at l
     ·rename_i ty fz es ho;split at l
      ·rename_i NL;rw[zac] at NL;have qto:=zad NL.2;split at l
       ·rename_i hj;simp at l;subst l;obtain⟨en,L,dR,bZ⟩:=S.bY ho;obtain⟨a0,N,cap,hG,hle,a1,sH,rfl,Wb,hz⟩:=hr.at L dR (by rw[bZ];rfl);obtain⟨H,ha0,Va⟩: ∃b,a0=Z ⟨b,0,Y⟩/\a1=Z ⟨b,qch*(k+1),Y⟩:=by grind
        subst ha0 Va;refine⟨_,?_,.eB n aU (qch+j.toNat) (k+1) 0 (.pointer (Z ⟨H,(qch+j.toNat)*(k+1)+0,Y⟩)) rfl ⟨en,L,by omega,λ_ _=>⟨H,_,_,hG,rfl⟩⟩⟩;rw[run_indexAt_slice w t ⟨H,qch*(k+1),Y⟩ len sH _ j (by rw[R];exact V),zau hj,R,run_sizeOf hk];simp[dU,zaV]
       cases l
      cases l
     cases l
    |d X=>
     cases X with
     |Qd a0 k' cap=>simp at l
     |Qe b off k' cap es f u7 hb kU cH hw hr=>
      simp only at l;split at l
      ·rename_i A;have A:k'=k+1:=by simpa using A
       subst A;split at l
       ·rename_i hj;split at l
        ·rename_i x hx;simp at l;subst l;have hi:=(zab.1 hx).1;have U:=zas hx;refine⟨.pointer (Z ⟨b,off+j.toNat*(k+1)+0,Y⟩),?_,.fT x 0 b (off+j.toNat*(k+1)) hb (cH x U) (λm=>f (j.toNat*(k+1)+m)) (λm hm=> ?_) (λm c hc=>hr _ _ _ _ hx hc)⟩
         ·rw[run_indexAt_slice w t ⟨b,off,Y⟩ (J es) cap _ j (by rw[R];exact V),zau (by omega),R,run_sizeOf hk];simp[dU]
         rw[zbK];refine hw _ ?_;rw[kU x U] at hm
         calc j.toNat*(k+1)+m<j.toNat*(k+1)+(k+1):=by omega
          _=(j.toNat+1)*(k+1):=by rw[zaV,zbw]
          _<=J es*(k+1):=zaq _ (by omega)
        cases l
       cases l
      cases l
     |_=>cases l
    |_=>cases l
   cases l
 cases l
end
end Pi
namespace Pi
open Go
theorem aw{α β:Type} Q: ∀(m:Sem α) (f:α->Sem β),ay Q (m>>=f)=(ay Q m).bind λa=>ay Q (f a)
 | .pure _,_=>rfl
 | .program k,f=>aw Q (k Q) f
 | .mark _ k,f=>aw Q k f
 | .load ..,_ | .store ..,_ | .new ..,_ | .shape ..,_ | .freeze ..,_ | .frozen ..,_ | .getObj ..,_ | .setObj ..,_ | .choose ..,_ | .sys ..,_ | .halt _,_=>rfl
theorem aP{Q t d}(h:Q.underlying t=Z d):ay Q (underlying t)=Z d:=by have:ay Q (underlying t)=ay Q (match Q.underlying t with |Z d=>(pure d:Sem TypeDesc)|Y=>stuck "no such type"):=rfl;rw[this,h];rfl
theorem la{Q t}(h:Q.underlying t=Z .bool) a b:ay Q (Op.equal t (.bool a) (.bool b))=Z (a==b):=by have e:Op.equal t (.bool a) (.bool b)=PM (9999+1) t (.bool a) (.bool b):=rfl;rw[e,PM,aw,aP h];rfl
theorem ze{Q t k}(h:sz Q t=Z k):ay Q (Go.sizeOf t)=Z k:=by
 obtain⟨i,d,l,_,rfl⟩:=ij h;have e:ay Q (typeInfo t)=Z i:=by have:ay Q (typeInfo t)=ay Q (match Q.info? t with |Z i=>(pure i:Sem TypeInfo)|Y=>stuck "no such type"):=rfl;rw[this,l];rfl
 unfold Go.sizeOf;rw[aw,e];rfl
theorem AH{Q t d}(h:Q.underlying t=Z d):ay Q (Go.isAgg t)=Z (dZ Q t):=by unfold Go.isAgg dZ;rw[aw,aP h,h];cases d<;>rfl
theorem JX: ∀{xs:List D} {vs:List W},D.dS xs=Z vs->J vs=J xs
 | [],vs,h=>by simp[D.dS] at h;subst h;rfl
 |x::r,vs,h=>by
  unfold D.dS at h;split at h
  next v A B l=>simp at h;subst h;simp[JX l]
  cases h
theorem AI: ∀{xs:List D} {vs:List W} {i:Nat} {x:D},D.dS xs=Z vs->xs[i]?=Z x-> ∃v,vs[i]?=Z v/\x.fZ=Z v
 | [],vs,i,x,h,hx=>by simp at hx
 |y::r,vs,i,x,h,hx=>by
  unfold D.dS at h;split at h
  next v B A l=>
   simp at h;subst h;cases i with
   |zero=>simp at hx;subst hx;exact⟨v,rfl,A⟩
   |succ i=>simpa using AI l (by simpa using hx)
  cases h
theorem EA: ∀{xs:List D} {vs:List W} (a:Nat),D.dS xs=Z vs->D.dS (xs.drop a)=Z (vs.drop a)
 |xs,vs,0,h=>h
 | [],vs,a+1,h=>by simp[D.dS] at h;subst h;rfl
 |y::r,vs,a+1,h=>by
  unfold D.dS at h;split at h
  next v A B l=>simp at h;subst h;exact EA a l
  cases h
theorem EB: ∀{xs:List D} {vs:List W} (a:Nat),D.dS xs=Z vs->D.dS (xs.take a)=Z (vs.take a)
 |xs,vs,0,h=>rfl
 | [],vs,a+1,h=>by simp[D.dS] at h;subst h;rfl
 |y::r,vs,a+1,h=>by
  unfold D.dS at h;split at h
  next v B A l=>simp at h;subst h;simp only[List.take_succ_cons];unfold D.dS;rw[A,EB a l]
  cases h
theorem sY{Q t xs vs}{off x}(l:D.dS xs=Z vs)(h:kx Q t xs off=Z x):
  ∃v,ay Q (Go.part t ⟨vs⟩ off)=Z v/\x.cY=Z v:=by
 unfold kx at h;split at h
 ·cases h
 rename_i k hk;obtain⟨_,d,_,hd,_⟩:=ij hk;unfold Go.part;rw[aw,AH hd];cases B:dZ Q t with
 |true=>
  rw[B] at h;simp only[zbj] at h;split at h
  next H=>simp only[zai] at h;subst h;refine⟨.agg ⟨(vs.drop off).take k⟩,?_,by simp[D.cY,EB k (EA off l)]⟩;simp only[zax,zbj];rw[aw,ze hk];simp only[zax];show Z (W.agg ((⟨vs⟩:Array W).extract off (off+k)))=_;congr 2;rw[<-zbo];simp
  cases h
 |false=>
  rw[B] at h;simp only[zaF,zbk] at h;obtain⟨v,L,A⟩:=AI l h;refine⟨v,?_,?_⟩
  ·simp only[zax,zaF,zbk];have:(⟨vs⟩:Array W)[off]?=Z v:=by simpa using L
   rw[this];rfl
  cases x<;>first |exact A |simp[D.fZ] at A
theorem eR Q:ay Q program=Z Q:=rfl
theorem sZ{Q go}{ev:I->W->W->Sem Bool}(L: ∀t x y c u v,go t x y=Z c->x.cY=Z u->y.cY=Z v->ay Q (ev t u v)=Z c)
  {xs ys H vs} (U:D.dS xs=Z H) (R:D.dS ys=Z vs): ∀V c,JM Q go V xs ys=Z c->
  ay Q (do
   for f in V do
    if f.name≠ "_" then
     if !(<-ev f.type (<-Go.part f.type ⟨H⟩ f.offset) (<-Go.part f.type ⟨vs⟩ f.offset)) then return C
   pure O)=Z c
 | [],c,h=>by simp only[JM,zai] at h;subst h;rfl
 |f::r,c,h=>by
  have A:=sZ L U R r;unfold JM at h;simp only[List.forIn_cons,bind_assoc] at A⊢;split at h
  next l=>
   have l: ¬f.name≠ "_" :=by simpa using l
   rw[zat l];simp only[pure_bind];exact A c h
  rename_i l;have l:f.name≠ "_" :=by simpa using l
  rw[zau l];split at h
  next x y NM B=>
   split at h
   ·rename_i a b ha X;simp only[zai] at h;subst h;obtain⟨u,e1,h1⟩:=sY U NM;obtain⟨v,e2,h2⟩:=sY R B;have e3:=L _ _ _ _ _ _ ha h1 h2;simp only[bind_assoc];rw[aw,e1,zax,aw,e2,zax,aw,e3,zax];cases a with
    |false=>rfl
    |true=>simp only[Bool.not_true,zaF,zbk,pure_bind,zcD];exact A b X
   cases h
  cases h
theorem eE{Q}: ∀n d t x y c u v,n<=d->eqD Q n t x y=Z c->x.cY=Z u->y.cY=Z v->ay Q (PM d t u v)=Z c
 |0,_,_,_,_,_,_,_,_,h,_,_=>by simp[eqD] at h
 |n+1,0,_,_,_,_,_,_,hd,_,_,_=>by omega
 |n+1,d+1,t,x,y,c,u,v,hd,h,hu,hv=>by
  unfold eqD at h;split at h
  next l=>
   split at h
   next a b=>simp[D.cY,D.fZ] at hu hv;subst hu hv;rw[PM,aw,aP l];exact h
   cases h
  next k0 l=>
   split at h
   ·rename_i k a H b;simp[D.cY,D.fZ] at hu hv;subst hu hv;split at h
    ·rename_i hk;have hk:k=H:=by simpa using hk
     subst hk;rw[PM,aw,aP l];simp only[zax,zbj];exact h
    cases h
   cases h
  next l=>
   split at h
   next a b=>simp[D.cY,D.fZ] at hu hv;subst hu hv;rw[PM,aw,aP l];simp only[zai] at h;subst h;show Z _=Z _;congr 1;rw[zbf];show((⟨a⟩:Array UInt8)==⟨b⟩)=O↔(a==b)=O;simp
   cases h
  next X l=>
   split at h
   ·rename_i xs ys;split at h
    ·cases h
    rename_i L;simp only[D.cY] at hu hv;split at hu
    ·rename_i us B;simp only[zai] at hu;subst hu;split at hv
     next vs SM=>simp only[zai] at hv;subst hv;have A:=sZ (ev:=PM d) (λt x y c u v V U R=>eE n d t x y c u v (by omega) V U R) B SM X.toList c h;rw[PM,aw,aP l];simp only[zax];rw[aw,eR,zax,L];simp only[zaF,zbk];rw[<-Array.forIn_toList];exact A
     cases hv
    cases hu
   cases h
  cases h
theorem ra{Q op t x y}{l vs}(h:Q.eqGuardType Q.depth t=C)(A:op= .eql\/op= .neq):ay Q (eqGuard op t x y (.agg l) (.agg vs))=Z ():=by
 rcases A with rfl |rfl
 ·show ay Q (do
   if !(<-program).eqGuardType (<-program).depth t then return
   if<-Op.eqGuardIn Op.maxDepth t (.agg l) (.agg vs) then unsupported (.noEntry "binop/eql: two nil values of an interface type with methods, in a part of a struct or an array"))=_
  rw[aw,eR,zax,aw,eR,zax,h];rfl
 show ay Q (do
  if !(<-program).eqGuardType (<-program).depth t then return
  if<-Op.eqGuardIn Op.maxDepth t (.agg l) (.agg vs) then unsupported (.noEntry "binop/eql: two nil values of an interface type with methods, in a part of a struct or an array"))=_
 rw[aw,eR,zax,aw,eR,zax,h];rfl
end Pi
namespace Pi
open Go
mutual
theorem D.bU: ∀(x y:D),D.dq x y=O↔x=y
 | .bool a,y=>by cases y<;>simp[D.dq]
 | .int k a,y=>by cases y<;>simp[D.dq]
 | .str a,y=>by cases y<;>simp[D.dq]
 | .agg a,y=>by cases y<;>simp[D.dq,D.AJ a]
 | .sl k a,y=>by cases y<;>simp[D.dq,D.AJ a]
 | .cd,y=>by cases y<;>simp[D.dq]
 | .lW,y=>by cases y<;>simp[D.dq]
 | .qy,y=>by cases y<;>simp[D.dq]
 | .Gk,y=>by cases y<;>simp[D.dq]
 | .wU,y=>by cases y<;>simp[D.dq]
 | .qz a b c,y=>by cases y<;>simp[D.dq,qlj]
theorem D.AJ: ∀(x y:List D),D.Ns x y=O↔x=y
 | [],y=>by cases y<;>simp[D.Ns]
 |x::xs,y=>by
  cases y with
  |nil=>simp[D.Ns]
  |cons y ys=>simp[D.Ns,D.bU x,D.AJ xs]
end
theorem EC k v get:aW k v get k=Z v:=by unfold aW;rw[(D.bU k k).2 rfl];rfl
theorem Qf{k l} v get (h:k≠l):aW k v get l=get l:=by
 unfold aW;cases A:D.dq k l with
 |false=>rfl
 |true=>exact absurd ((D.bU k l).1 A) h
theorem NN{Q t k}(h:sz Q t=Z k):Q.cellsOf t=k:=by obtain⟨i,d,l,_,rfl⟩:=ij h;unfold M.cellsOf;rw[l];rfl
theorem Wc{Q t xs ys off}{x y}(A:(dZ Q t ||bo (Q.cellsOf t) 1)=O)(h:kx Q t xs off=Z x)(l:kx Q t ys off=Z y):
  x=y↔(xs.drop off).take (Q.cellsOf t)=(ys.drop off).take (Q.cellsOf t):=by
 unfold kx at h l;cases hk:sz Q t with
 |none=>rw[hk] at h;cases h
 |some k=>
  rw[hk] at h l;have e:=NN hk;rw[e] at A⊢;simp only at h l;cases B:dZ Q t with
  |true=>
   rw[B] at h l;simp only[zbj] at h l;split at h
   ·split at l
    ·cases h;cases l;simp
    cases l
   cases h
  |false=>
   rw[B] at h l A;simp only[zaF,zbk] at h l;have U:k=1:=by simpa using A
   subst U;have L:=(zab.1 h).1;have H:=(zab.1 l).1;have e1:(xs.drop off).take 1=[x]:=by rw[za3 L];simp[(zab.1 h).2]
   have R:(ys.drop off).take 1=[y]:=by rw[za3 H];simp[(zab.1 l).2]
   rw[e1,R];simp
theorem AK{Q go xs ys B}(hx:J xs=B)(hy:J ys=B)
  {sh:I->D->Bool} (oG: ∀t x y,sh t x=O->sh t y=O-> ∃c,go t x y=Z c/\(c=O↔x=y)): ∀A off,qV Q off A B=O->off<=B->
  (∀f∈A,(!(f.name== "_")&&(dZ Q f.type ||bo (Q.cellsOf f.type) 1)&&(match kx Q f.type xs f.offset with |some y=>sh f.type y |none=>C))=O)->
  (∀f∈A,(!(f.name== "_")&&(dZ Q f.type ||bo (Q.cellsOf f.type) 1)&&(match kx Q f.type ys f.offset with |some y=>sh f.type y |none=>C))=O)->
  ∃c,JM Q go A xs ys=Z c/\(c=O↔xs.drop off=ys.drop off)
 | [],off,ht,hle,_,_=>by have:=zad ht;refine⟨O,rfl,?_⟩;rw[zcK (by omega),zcK (by omega)];simp
 |f::r,off,ht,hle,h1,h2=>by
  simp only[qV,zac] at ht;have ho:=zad ht.1;have R:off+Q.cellsOf f.type<=B:=by
   have: ∀(A:List Field) (o:Nat),qV Q o A B=O->o<=B:=by
    intro A
    induction A with
    |nil=>intro o h;exact Nat.le_of_eq (zad h)
    |cons g gs ih=>intro o h;simp only[qV,zac] at h;have:=ih _ h.2;omega
   exact this r _ ht.2
  obtain⟨c,hc,kM⟩:=AK hx hy oG r _ ht.2 R (λg hg=>h1 g (by simp[hg])) (λg hg=>h2 g (by simp[hg]));have a1:=h1 f (by simp);have a2:=h2 f (by simp);simp only[zac] at a1 a2;obtain⟨⟨X,NP⟩,L⟩:=a1;obtain⟨_,H⟩:=a2;have X:(f.name== "_")=C:=by simpa using X
  unfold JM;rw[X];simp only;cases V:kx Q f.type xs f.offset with
  |none=>rw[V] at L;cases L
  |some x=>
   cases U:kx Q f.type ys f.offset with
   |none=>rw[U] at H;cases H
   |some y=>
    rw[V] at L;rw[U] at H;obtain⟨a,ha,haa⟩:=oG f.type x y L H;simp only[ha,hc];refine⟨a&&c,rfl,?_⟩;rw[zac,haa,kM,Wc NP V U,ho];have Wd: ∀l:List D,l.drop off=(l.drop off).take (Q.cellsOf f.type)++l.drop (off+Q.cellsOf f.type):=λl=>by rw[<-zcy,zbg]
    constructor
    ·rintro⟨e1,e2⟩;rw[Wd xs,Wd ys,e1,e2]
    intro e;refine⟨by rw[e],?_⟩;rw[<-zcy,<-zcy,e]
theorem lP{Q}: ∀n t x y,jQ Q n t x=O->jQ Q n t y=O-> ∃c,eqD Q n t x y=Z c/\(c=O↔x=y)
 |0,_,_,_,h,_=>by simp[jQ] at h
 |n+1,t,x,y,h1,h2=>by
  unfold jQ at h1 h2;unfold eqD;cases hd:Q.underlying t with
  |none=>rw[hd] at h1;simp at h1
  |some d=>
   rw[hd] at h1 h2;cases d with
   |bool=>
    cases x<;>try (simp at h1;done)
    cases y<;>try (simp at h2;done)
    exact⟨_,rfl,by simp⟩
   |int k=>
    cases x<;>try (simp at h1;done)
    cases y<;>try (simp at h2;done)
    rename_i U a R b;have e1:k=U:=by simpa using h1
    have e2:k=R:=by simpa using h2
    subst e1 e2;exact⟨a==b,by simp,by simp⟩
   |string=>
    cases x<;>try (simp at h1;done)
    cases y<;>try (simp at h2;done)
    exact⟨_,rfl,by simp⟩
   |struct fs=>
    cases x<;>try (simp at h1;done)
    cases y<;>try (simp at h2;done)
    rename_i xs ys;simp only[zac] at h1 h2;obtain⟨⟨⟨H,A⟩,s1⟩,f1⟩:=h1;obtain⟨⟨⟨B,_⟩,_⟩,X⟩:=h2;have s1:Q.stoodInHeld t=C:=by simpa using s1
    obtain⟨c,V,L⟩:=AK (Q:=Q) (go:=eqD Q n) (xs:=xs) (ys:=ys) (zad H) (zad B) (sh:=jQ Q n) (λt x y a b=>lP n t x y a b) fs.toList 0 A (za4 _)
     (λf l=>za8.1 f1 f l) (λf l=>za8.1 X f l)
    refine⟨c,by simp only[s1];exact V,?_⟩;rw[L];simp
   |_=>simp at h1
theorem cj{Q A k}(h:ga Q A k=O):jQ Q 20 A k=O/\(∀c∈k.cells,c.Nt=O)/\ ∃v,k.cY=Z v/\ ∀B,∃u,ay Q (Instr.checkKey B 10000 A v)=Z u:=by
 simp only[ga,zac] at h;refine⟨h.1.1,za8.1 h.1.2,?_⟩;have l:=h.2;split at l
 next v H=>
  split at l
  next a b R L=>exact⟨v,H,λB=>by cases B;exact⟨_,R⟩;exact⟨_,L⟩⟩
  cases l
 cases l
theorem yc{Q A k v}(U:jQ Q 20 A k=O)(R:k.cY=Z v): ∀ks es l,J ks=J es->
  (∀(i:Nat) (p:D×D) (e:MapEntry),ks[i]?=Z p->es[i]?=Z e->jQ Q 20 A p.1=O/\p.1.cY=Z e.key)->
  ∃r,ay Q (Instr.findAsking A v es l)=Z r/\((r=Y/\ ∀p∈ks,p.1≠k)\/ ∃i p e,r=Z (l+i,e.val)/\ks[i]?=Z p/\es[i]?=Z e/\p.1=k)
 | [],[],l,_,_=>⟨Y,rfl,.inl ⟨rfl,by simp⟩⟩
 | [],e::es,l,h,_=>by simp at h
 |p::ks,[],l,h,_=>by simp at h
 |p::ks,e::es,l,hl,h=>by
  obtain⟨h1,h2⟩:=h 0 p e rfl rfl;obtain⟨c,hc,L⟩:=lP 20 A k p.1 U h1;have H:=eE 20 10000 A k p.1 c v e.key (by omega) hc R h2;unfold Instr.findAsking;have eq:Op.equal A v e.key=PM 10000 A v e.key:=rfl;rw[aw,eq,H,zax];cases c with
  |true=>exact⟨_,rfl,.inr ⟨0,p,e,rfl,rfl,rfl,(L.1 rfl).symm⟩⟩
  |false=>
   obtain⟨r,X,V⟩:=yc U R ks es (l+1) (by simpa using hl) λi p e hp H=>h (i+1) p e (by simpa using hp) (by simpa using H);refine⟨r,X,?_⟩;have cU:p.1≠k:=λe=>by have:=L.2 e.symm;cases this
   rcases V with⟨rfl,jE⟩| ⟨i,p',e',rfl,a,b,c⟩
   ·exact .inl ⟨rfl,λq B=>by
     rcases zao.1 B with rfl |B
     ·exact cU
     exact jE q B⟩
   exact .inr ⟨i+1,p',e',by rw[show l+(i+1)=l+1+i by omega],by simpa using a,by simpa using b,c⟩
theorem JY{Q l d}(hd:Q.underlying l=Z d){v u c}(h:Instr.sameNow d v u=Z c):ay Q (Op.equal l v u)=Z c:=by
 have eq:Op.equal l v u=PM (9999+1) l v u:=rfl;unfold Instr.sameNow at h;split at h
 ·split at h
  next hk=>subst hk;rw[eq,PM,aw,aP hd];simp only[zax,zbj];exact h
  cases h
 ·rw[eq,PM,aw,aP hd];exact h
 ·rw[eq,PM,aw,aP hd];exact h
 cases h
theorem AL{Q A d}(hd:Q.underlying A=Z d){v}: ∀es i r,Instr.findNow d v es i=Z r->ay Q (Instr.findAsking A v es i)=Z r
 | [],i,r,h=>by simp[Instr.findNow] at h;subst h;rfl
 |e::es,i,r,h=>by
  unfold Instr.findNow at h;unfold Instr.findAsking;split at h
  next l=>simp only[zai] at h;subst h;rw[aw,JY hd l];rfl
  next l=>rw[aw,JY hd l];exact AL hd es (i+1) r h
  cases h
theorem AN{Q l k v}(A:jQ Q 20 l k=O)(L:k.cY=Z v){ks es}(U:J ks=J es)
  (h: ∀(i:Nat) (p:D×D) (e:MapEntry),ks[i]?=Z p->es[i]?=Z e->jQ Q 20 l p.1=O/\p.1.cY=Z e.key) w:
  ∃r,(Instr.findKey l v es).run Q w= .ok r w/\((r=Y/\ ∀p∈ks,p.1≠k)\/ ∃i p e,r=Z (i,e.val)/\ks[i]?=Z p/\es[i]?=Z e/\p.1=k):=by
 obtain⟨r,B,H⟩:=yc A L ks es 0 U h;refine⟨r,?_,?_⟩
 ·have hd: ∃d,Q.underlying l=Z d:=by
   unfold jQ at A;cases hd:Q.underlying l with
   |none=>rw[hd] at A;simp at A
   |some d=>exact⟨d,rfl⟩
  obtain⟨d,hd⟩:=hd;refine dG ?_ w;unfold Instr.findKey;rw[aw,aP hd,zax];cases R:Instr.findNow d v es 0 with
  |none=>exact B
  |some r'=>have:=AL hd es 0 r' R;rw[B] at this;cases this;rfl
 simpa using H
theorem ED: ∀(x:D) (v:W),(∀c∈x.cells,c.Nt=O)->x.cY=Z v->Instr.sameBits 10000 v v=O:=by
 have cell: ∀(n:Nat) (x:D) (v:W),x.Nt=O->x.fZ=Z v->Instr.sameBits (n+1) v v=O:=by
  intro n x v B h;cases x<;>simp[D.fZ] at h<;>simp[D.Nt] at B<;>subst h
  ·simp[Instr.sameBits]
  ·simp[Instr.sameBits]
  rename_i s;show((⟨⟨s⟩⟩:ByteArray)==⟨⟨s⟩⟩)=O;show((⟨s⟩:Array UInt8)==⟨s⟩)=O;simp
 intro x v U h;cases x with
 |agg cs=>
  simp only[D.cY] at h;split at h
  next vs R=>
   simp only[zai] at h;subst h;simp only[Instr.sameBits,beq_self_eq_true,zcD];rw[za8];intro p A;have: ∀(l:List W) (p:W×W),p∈l.zip l->p.1=p.2/\p.1∈l:=by
    intro l
    induction l with
    |nil=>intro p A;cases A
    |cons y l ih=>
     intro p A;rcases zao.1 A with rfl |A
     ·exact⟨rfl,by simp⟩
     have:=ih p A;exact⟨this.1,by simp[this.2]⟩
   obtain⟨e1,L⟩:=this vs p A;obtain⟨a,b⟩:=p;simp only at e1 L⊢;subst e1;obtain⟨i,V,rfl⟩:=zaM L;have B:=JX R;obtain⟨u,H,X⟩:=AI (i:=i) (x:=cs[i]'(by omega)) R (by simp);rw[zae V] at H;cases H;exact cell 9998 _ _ (U _ (by simp[D.cells])) X
  cases h
 |bool b=>exact cell 9999 (.bool b) _ rfl h
 |int k n=>exact cell 9999 (.int k n) _ rfl h
 |str s=>exact cell 9999 (.str s) _ rfl h
 |_=>simp[D.cells,D.Nt] at U
section
variable{Q:M}{T:Tg}{F:Nat->Prop}{G:Nat->W}{w:World}{a:Act}{s:S}
theorem re{t z}(h:e9 Q t=Z z) w: ∃l,(zeroValue t).run Q w= .ok l w/\bf F w l z:=by
 unfold e9 at h;split at h
 next i A=>
  split at h
  next l B=>exact⟨l,by simp[zeroValue,typeInfo,A,B],bf.wW F w h⟩
  cases h
 cases h
theorem iy{t l e}(h:ky Q t=Z (l,e)):Q.underlying t=Z (.map l e):=by
 unfold ky at h;split at h
 ·simp only[zai,zbd] at h;obtain⟨rfl,rfl⟩:=h;assumption
 cases h
theorem ja.look{H get n es}{l}(h:ja Q F w H get n es l){k v}(hk:ga Q H k=O)(R:k.cY=Z v):
  ∃r,(Instr.findKey H v es).run Q w= .ok r w/\((r=Y/\get k=Y)\/ ∃i e y,r=Z (i,e.val)/\es[i]?=Z e/\e.key=v/\get k=Z y/\bf F w e.val y):=by
 obtain⟨ks,h1,h2,L,h4,U,h6,h7⟩:=h;obtain⟨r,hr,X⟩:=AN (cj hk).1 R h1 (λi p e A B=>⟨(cj (L i p e A B).1).1,(L i p e A B).2.1⟩) w;refine⟨r,hr,?_⟩;rcases X with⟨rfl,jE⟩| ⟨i,p,e,rfl,A,B,hpk⟩
 ·refine .inl ⟨rfl,?_⟩;cases hg:get k with
  |none=>rfl
  |some y=>exact absurd rfl (jE _ ((U k y).1 hg))
 obtain⟨_,V,a3⟩:=L i p e A B;refine .inr ⟨i,e,p.2,rfl,B,?_,(U k p.2).2 ?_,a3⟩
 ·rw[hpk,R] at V;exact(zaT V).symm
 rw[<-hpk];exact zas A
theorem EE(h:ax Q T F G w a s){n R v A get}{c last}(B:aL F w G s.rg v (.mp n R))(X:s.obj n R=Z (.map A get c last)):
  ∃e,lk s.rg n=Z e/\e.aU=R/\e.obj= .map A get c last/\v=G n/\ ∃b es l,G n= .map (Z b)/\w.heap[b]?=Z (.map es l)/\ja Q F w A get c es.toList l:=by
 obtain⟨e,H,U,L⟩:=S.bY X;cases B with
 |mp _ _ _ _ hr=>obtain⟨e',V,hle,hc⟩:=hr;rw[H] at V;cases V;have B:=hc U.symm (by rw[L];rfl);have:=h.rg n e H;rw[L] at this;obtain⟨b,es,l,h1,h2,h3,_⟩:=this;exact⟨e,H,U,L,B,b,es,l,h1,h2,h3⟩
theorem Wf(h:ax Q T F G w a s){n V v B get}{c p A}(H:aL F w G s.rg v (.mp n V))(ho:s.obj n V=Z (.fY B get c p A)):
  ∃e,lk s.rg n=Z e/\e.aU=V/\e.obj= .fY B get c p A/\v=G n/\ ∃b es l,G n= .map (Z b)/\w.heap[b]?=Z (.map es l)/\ja Q F w B get c es.toList l/\ ∃(i:Nat) (R:MapEntry),es[i]?=Z R/\aL F w G s.rg (.int DD (R.born:Int)) p/\A.cY=Z R.key/\(get A).isSome=O:=by
 obtain⟨e,L,X,U⟩:=S.bY ho;cases H with
 |mp _ _ _ _ hr=>obtain⟨e',cP,hle,hc⟩:=hr;rw[L] at cP;cases cP;have H:=hc X.symm (by rw[U];rfl);have:=h.rg n e L;rw[U] at this;obtain⟨b,es,l,h1,h2,h3,h4⟩:=this;exact⟨e,L,X,U,H,b,es,l,h1,h2,h3,h4⟩
theorem NS(h:ax Q T F G w a s){t kt e p i q ok z}(ht:ky Q t=Z (kt,e))(hz:e9 Q e=Z z){v u}(R:aL F w G s.rg v p)(hu:aL F w G s.rg u i)
  (l:ff Q s t p i ok z=Z q): ∃r,(Instr.lookup t v u ok).run Q w= .ok r w/\aL F w G s.rg r q:=by
 have V:=iy ht;obtain⟨zv,EF,MY⟩:=re (F:=F) hz w;have X: ∀(v1:W) (x:D) (b:Bool),bf F w v1 x->aL F w G s.rg (.tuple #[v1,.bool b]) (.cy [.d x,.d (.bool b)]):=λv1 x b hx=>
  .cy [v1,.bool b] _ rfl (λi v c R B=>by
   match i with
   |0=>simp at R B;subst R;subst B;exact .d hx
   |1=>simp at R B;subst R;subst B;exact .d (.bool b)
   |i+2=>simp at R)
 unfold ff at l;rw[ht] at l;split at l
 next Az e' n aU k Qh=>
  simp only[zai,zbd] at Qh;obtain⟨rfl,rfl⟩:=Qh;split at l
  next kt2 get c last ho=>
   split at l
   ·rename_i B;simp only[zac] at B;have EG:=zad B.1;subst EG;obtain⟨_,_,⟨kv,U,AO⟩⟩:=cj B.2;have H:=hu.cY (p:= .d k) U;subst H;obtain⟨e0,_,_,_,AP,b,es,clock,hG,hb,hM⟩:=EE h R ho;rw[hG] at AP;subst AP;obtain⟨ck,A⟩:=AO es.isEmpty;have A:=dG A w;obtain⟨r,L,zB⟩:=hM.look B.2 U;rcases zB with⟨rfl,hg⟩| ⟨j,en,y,rfl,_,_,hg,hy⟩
    ·rw[hg] at l;cases ok with
     |true=>simp at l;subst l;exact⟨.tuple #[zv,.bool C],by simp[Instr.lookup,run_underlying V,MapKept.run_getObj_map hb,A,L,EF],X _ _ _ MY⟩
     |false=>simp at l;subst l;exact⟨zv,by simp[Instr.lookup,run_underlying V,MapKept.run_getObj_map hb,A,L,EF],.d MY⟩
    rw[hg] at l;cases ok with
    |true=>simp at l;subst l;exact⟨.tuple #[en.val,.bool O],by simp[Instr.lookup,run_underlying V,MapKept.run_getObj_map hb,A,L],X _ _ _ hy⟩
    |false=>simp at l;subst l;exact⟨en.val,by simp[Instr.lookup,run_underlying V,MapKept.run_getObj_map hb,A,L],.d hy⟩
   cases l
  next kt2 get c pE kdE ho=>
   split at l
   ·rename_i B;simp only[zac,zbD] at B;obtain⟨⟨qC,EG⟩,hkB⟩:=B;have EG:=zad EG;subst EG;subst qC;obtain⟨_,_,⟨kv,U,AO⟩⟩:=cj hkB;have H:=hu.cY (p:= .d k) U;subst H;obtain⟨e0,_,_,_,AP,b,es,clock,hG,hb,hM,_⟩:=Wf h R ho;rw[hG] at AP;subst AP;obtain⟨ck,A⟩:=AO es.isEmpty;have A:=dG A w;obtain⟨r,L,zB⟩:=hM.look hkB U;rcases zB with⟨rfl,hg⟩| ⟨j,en,y,rfl,_,_,hg,hy⟩
    ·rw[hg] at l;simp at l;subst l;exact⟨zv,by simp[Instr.lookup,run_underlying V,MapKept.run_getObj_map hb,A,L,EF],.d MY⟩
    rw[hg] at l;simp at l;subst l;exact⟨en.val,by simp[Instr.lookup,run_underlying V,MapKept.run_getObj_map hb,A,L],.d hy⟩
   cases l
  cases l
 next Az e' k Qh=>
  simp only[zai,zbd] at Qh;obtain⟨rfl,rfl⟩:=Qh;split at l
  next B=>
   obtain⟨NP,_,⟨kv,U,AO⟩⟩:=cj B;have H:=hu.cY (p:= .d k) U;subst H;have Ey:=R.cY (p:= .d .qy) rfl;subst Ey;obtain⟨ck,A⟩:=AO O;have A:=dG A w;obtain⟨r,L,zB⟩:=AN (ks:=[]) (es:=[]) NP U rfl (λi p e hp=>by simp at hp) w;have oi:r=Y:=by
    rcases zB with⟨rfl,_⟩| ⟨i,p,e,_,hp,_⟩
    ·rfl
    simp at hp
   subst oi;cases ok with
   |true=>simp at l;subst l;exact⟨.tuple #[zv,.bool C],by simp[Instr.lookup,run_underlying V,A,L,EF],X _ _ _ MY⟩
   |false=>simp at l;subst l;exact⟨zv,by simp[Instr.lookup,run_underlying V,A,L,EF],.d MY⟩
  cases l
 cases l
theorem bf.Qi F w {x v}(h:x.fZ=Z v):bf F w v x:=by cases x<;>simp[D.fZ] at h<;>subst h<;>constructor
theorem Qj: ∀cs vs,D.dS cs=Z vs->J vs=J cs/\ ∀(i:Nat) (v:W) (c:D),vs[i]?=Z v->cs[i]?=Z c->c.fZ=Z v
 | [],vs,h=>by simp[D.dS] at h;subst h;exact⟨rfl,λi v c l=>by simp at l⟩
 |x::r,vs,h=>by
  simp only[D.dS] at h;split at h
  next v1 A U R=>
   simp at h;subst h;obtain⟨L,H⟩:=Qj r A R;refine⟨by simp[L],λi v c l B=> ?_⟩;cases i with
   |zero=>simp at l B;subst l;subst B;exact U
   |succ i=>exact H i v c (by simpa using l) (by simpa using B)
  cases h
theorem bf.Wg F w {x v}(h:x.cY=Z v):bf F w v x:=by
 cases x with
 |agg cs=>
  simp only[D.cY] at h;split at h
  next vs U=>
   simp at h;subst h;obtain⟨H,A⟩:=Qj cs vs U;refine .agg vs cs H (λc l=> ?_) λi v c L l=>bf.Qi F w (A i v c L l);obtain⟨i,B⟩:=zaD l;have R:i<J vs:=by have:=(zab.1 B).1;omega
   have:=A i _ c (zae R) B;cases c<;>first |rfl |simp[D.fZ] at this
  cases h
 |_=>exact bf.Qi F w h
theorem AQ e: ∀l:List MapEntry,e∈l->(l.map (·.born)).Nodup->l.find? (λx=>x.born==e.born)=Z e
 | [],h,_=>by cases h
 |x::r,h,hn=>by
  rw[zaS,zaU] at hn;rw[zcn];rcases zao.1 h with rfl |h
  ·simp
  have B:x.born≠e.born:=λA=>hn.1 (zal.2 ⟨e,h,A.symm⟩);have:(x.born==e.born)=C:=by simpa using B
  rw[this];exact AQ e r h hn.2
theorem Gw{r m l}{A:Array Nat}{es h e}(B:w.heap[r]?=Z (.mapIter (Z m) l (A.push e.born) h))(L:w.heap[m]?=Z (.map es h))(U:e∈es.toList)(H:(es.toList.map (·.born)).Nodup):
  (Instr.entry (.pointer (Z ⟨r,0,Y⟩))).run Q w= .ok (.tuple #[e.key,e.val]) w:=by
 have R:es.find? (λx=>x.born==e.born)=Z e:=by rw[<-Array.find?_toList];exact AQ e _ U H
 have V:(h !=h)=C:=by simp
 simp only[Instr.entry,getObj,Sem.run_bind,Sem.run,B,L,Result.andThen,Array.back?_push,V,zaF,zbk,R];rfl
theorem SN(h:ax Q T F G w a s){p q v}(A:aL F w G s.rg v p)(B:qX s p=Z q): ∃r,(Instr.entry v).run Q w= .ok r w/\aL F w G s.rg r q:=by
 unfold qX at B;split at B
 next n aU=>
  split at B
  next kt vt left k x ho=>
   simp only[zai] at B;subst B;obtain⟨e,V,dR,bZ⟩:=S.bY ho;have H:=h.rg n e V;rw[bZ] at H;obtain⟨b,mo,L,U,last,hg,hh,H⟩:=H;cases A with
   |ref _ _ _ _ hr h1=>
    obtain⟨b',R,rfl⟩:=hr.at V dR (by rw[bZ];rfl);rw[hg] at R;simp at R;subst R;rcases H with⟨_,_,l⟩| ⟨m,es,rfl,hF,hm,Wh,⟨ks,g1,g3,g4,g5,g6,g7⟩,l⟩
    ·cases l
    subst Wh;obtain⟨X,l8,lb,hk,hx⟩:=l k x rfl;obtain⟨sn,rfl⟩:=Array.back?_eq_some_iff.1 lb;refine⟨_,Gw hh hm l8 g6,.cy [X.key,X.val] _ rfl λi v c A l=> ?_⟩
    match i with
    |0=>simp at A l;subst A;subst l;exact .d (bf.Wg F w hk)
    |1=>simp at A l;subst A;subst l;exact .d hx
    |i+2=>simp at A
  cases B
 cases B
end
end Pi
namespace Pi
open Go
section
variable{Q:M}{F:Nat->Prop}{G:Nat->W}{w:World}
theorem eS{v x}(h:bf F w v x):J v.cells.toList=J x.cells/\(∀c∈x.cells,c.b9=O)/\(∀(i:Nat) (u:W) (c:D),v.cells.toList[i]?=Z u->x.cells[i]?=Z c->bf F w u c):=by
 cases h with
 |agg vs cs hl cH hh=>exact⟨by simpa [W.cells,D.cells] using hl,cH,λi u c hu l=>hh i u c (by simpa [W.cells] using hu) (by simpa [D.cells] using l)⟩
 |_=>
  refine⟨by simp[W.cells,D.cells],λc A=>by simp[D.cells] at A;subst A;rfl,λi u c hu l=> ?_⟩;cases i with
  |zero=>simp[W.cells] at hu;simp[D.cells] at l;subst hu;subst l;first | (constructor<;>assumption)|constructor
  |succ i=>simp[D.cells] at l
theorem l9{v x}(h:bf F w v x): ∀u∈v.cells.toList,u.oneCell'=O:=by
 obtain⟨L,H,B⟩:=eS h;intro u hu;obtain⟨i,l⟩:=zaD hu;have A:i<J x.cells:=by have:=(zab.1 l).1;omega
 exact(B i u _ l (zae A)).pI (H _ (zay A))
theorem rf x:(P.d x).cells=x.cells.map P.d:=by cases x<;>rfl
theorem AR{R v p}(h:aL F w G R v p)(B:p.pB=O):
 (J v.cells.toList)=J p.cells/\(∀(i:Nat) (u:W) (c:P),v.cells.toList[i]?=Z u->p.cells[i]?=Z c->aL F w G R u c)/\ ∀u∈v.cells.toList,u.oneCell'=O:=by
 have l:p.cells=[p]->v.oneCell'=O->J v.cells.toList=J p.cells/\(∀(i:Nat) (u:W) (c:P),v.cells.toList[i]?=Z u->p.cells[i]?=Z c->aL F w G R u c)/\ ∀u∈v.cells.toList,u.oneCell'=O:=λU H=>by
  have e:v.cells= #[v]:=by cases v<;>simp_all [W.oneCell',W.cells]
  rw[U,e];refine⟨rfl,λi u c hu A=> ?_,λu hu=>by simp at hu;rw[hu];exact H⟩;cases i with
  |zero=>simp at hu A;subst hu;subst A;exact h
  |succ i=>simp at A
 cases p with
 |agg ps=>
  cases h with
  |agg vs ps hl gT hh=>exact⟨by simpa [W.cells,P.cells] using hl,λi u c hu A=>hh i u c (by simpa [W.cells] using hu) (by simpa [P.cells] using A),λu hu=>gT u (by simpa [W.cells] using hu)⟩
 |d x=>
  cases h with
  |d hd=>obtain⟨H,X,V⟩:=eS hd;refine⟨by rw[rf];simpa using H,λi u c hu A=> ?_,l9 hd⟩;rw[rf,zaw] at A;simp only[zap] at A;obtain⟨y,L,rfl⟩:=A;exact .d (V i u y hu L)
 |cy=>simp[P.pB,P.b9] at B
 |when=>simp[P.pB,P.b9] at B
 |bad=>simp[P.pB,P.b9] at B
 |_=>exact l rfl (h.pI rfl)
theorem Gx off: ∀(vs:List W) (s0:Nat) (cs:Array W),off+s0+J vs<=cs.size->
  ((vs.zipIdx s0).foldl (λcs x=>cs.setIfInBounds (off+x.2) x.1) cs).size=cs.size/\
  ∀m,((vs.zipIdx s0).foldl (λcs x=>cs.setIfInBounds (off+x.2) x.1) cs).getD m undef=if off+s0<=m/\m<off+s0+J vs then vs.getD (m-(off+s0)) undef else cs.getD m undef
 | [],s0,cs,_=>⟨rfl,λm=>by simp;omega⟩
 |v::vs,s0,cs,hl=>by
  simp only[zav] at hl;simp only[List.zipIdx_cons,zbh];obtain⟨B,A⟩:=Gx off vs (s0+1) (cs.setIfInBounds (off+s0) v) (by simp;omega);refine⟨by rw[B];simp,λm=> ?_⟩;rw[A m];by_cases l:m=off+s0
  ·subst l;have L:off+s0<cs.size:=by omega
   rw[zat (by omega),zau (by simp)];simp[Array.getD,L]
  have e:(cs.setIfInBounds (off+s0) v).getD m undef=cs.getD m undef:=by simp only[zaA];rw[zaO (λe=>l e.symm)]
  rw[e];by_cases h:off+(s0+1)<=m/\m<off+(s0+1)+J vs
  ·rw[zau h,zau (by simp;omega)];have H:m-(off+s0)=(m-(off+(s0+1)))+1:=by omega
   rw[H,List.getD_cons_succ]
  rw[zat h,zat (by simp;omega)]
theorem mc{α:Type}(ps qs:List α) off (h:off+J qs<=J ps):J (ps.take off++qs++ps.drop (off+J qs))=J ps:=by simp;omega
theorem jV{α:Type}(ps qs:List α) off i (h:off+J qs<=J ps):(ps.take off++qs++ps.drop (off+J qs))[i]?=if off<=i/\i<off+J qs then qs[i-off]? else ps[i]?:=by
 by_cases A:i<off
 ·rw[zaW,zaP (by simp;omega),zbB,zau A,zat (by omega)]
 by_cases l:i<off+J qs
 ·rw[zaW,zaZ (by simp;omega),zau ⟨by omega,l⟩];have e:i-J (ab off ps)=i-off:=by simp;omega
  rw[e,zaP (by omega)]
 rw[zaZ (by simp;omega),zat (by omega),zcc];congr 1;simp;omega
theorem SO{t z}(l:e9 Q t=Z z) w: ∃h,(zeroValue t).run Q w= .ok h w/\bf F w h z:=re l w
theorem JZ{R pl}: ∀l vals ps qs cs,JP pl ps l=Z qs->J vals=J l->
  (∀(i:Nat) x y,vals[i]?=Z x->l[i]?=Z y->x.1=y.1/\aL F w G R x.2 y.2)->cs.size=J ps->(∀v∈cs.toList,v.oneCell'=O)->(∀(i:Nat) (v:W) (p:P),cs.toList[i]?=Z v->ps[i]?=Z p->aL F w G R v p)->
  ∃U,Instr.fill (pl[·]?) cs vals=Z U/\U.size=J qs/\(∀v∈U.toList,v.oneCell'=O)/\ ∀(i:Nat) (v:W) (p:P),U.toList[i]?=Z v->qs[i]?=Z p->aL F w G R v p
 | [],vals,ps,qs,cs,h,hl,_,dy,h1,h2=>by
  simp[JP] at h;subst h;have:vals=[]:=by simpa using hl
  subst this;exact⟨cs,rfl,dy,h1,h2⟩
 | (i,p)::r,[],ps,qs,cs,h,hl,_,dy,h1,h2=>by simp at hl
 | (i,p)::r,(i0,v)::vals,ps,qs,cs,h,hl,hv,dy,h1,h2=>by
  simp only[JP] at h;split at h
  next off k hpl=>
   split at h
   ·rename_i hc;simp only[zac] at hc;obtain⟨⟨hk,H⟩,qC⟩:=hc;have hk:=zad hk;have H:=zbL H;obtain⟨e0,hp⟩:=hv 0 (i0,v) (i,p) rfl rfl;simp only at e0 hp;subst e0;obtain⟨c1,c2,c3⟩:=AR hp qC;have X:J v.cells.toList=k:=by rw[c1,hk]
    obtain⟨f1,f2⟩:=Gx off v.cells.toList 0 cs (by rw[X,dy];omega);have fa:(decide (v.cells.size≠k)||decide (off+v.cells.size>cs.size))=C:=by
     have:v.cells.size=k:=by simpa using X
     rw[this,dy];simp;omega
    let I0:=(v.cells.toList.zipIdx 0).foldl (λ(cs:Array W) (x:W×Nat)=>cs.setIfInBounds (off+x.2) x.1) cs
    have NT:off+J p.cells<=J ps:=by rw[hk];exact H
    have xb: ∀(j:Nat) (u:W),I0.toList[j]?=Z u->j<cs.size/\u=if off+0<=j/\j<off+0+J v.cells.toList then v.cells.toList.getD (j-(off+0)) undef else cs.getD j undef:=λj u hu=>by
     have L:j<I0.size:=by simpa using(zab.1 hu).1
     rw[f1] at L;refine⟨L,?_⟩;rw[<-f2 j];rw[zbM] at hu;simp[I0] at hu⊢;rw[hu];rfl
    have V: ∀(j:Nat) (u:W),I0.toList[j]?=Z u->u.oneCell'=O/\ ∀q,(splice ps off p.cells)[j]?=Z q->aL F w G R u q:=λj u hu=>by
     obtain⟨L,e⟩:=xb j u hu;by_cases bB:off+0<=j/\j<off+0+J v.cells.toList
     ·rw[zau bB] at e;have J0:j-(off+0)<J v.cells.toList:=by omega
      have A:v.cells.toList[j-off]?=Z u:=by rw[e,zaj];simp only[zb9] at J0⊢;rw[zae J0];rfl
      refine⟨c3 u (zas A),λq B=> ?_⟩;unfold splice at B;rw[jV ps p.cells off j NT,zau (by rw[c1] at bB;omega)] at B;exact c2 _ u q A B
     rw[zat bB] at e;have A:cs.toList[j]?=Z u:=by rw[e,zbM,zby L,zaA,zby L];rfl
     refine⟨h1 u (zas A),λq B=> ?_⟩;unfold splice at B;rw[jV ps p.cells off j NT,zat (by rw[c1] at bB;omega)] at B;exact h2 j u q A B
    obtain⟨U,g1,g2,g3,g4⟩:=JZ r vals _ qs I0 h (by simpa using hl) (λj x y hx hy=>hv (j+1) x y (by simpa using hx) (by simpa using hy)) (by show I0.size=_;unfold splice;rw[mc ps p.cells off NT];rw[<-dy];exact f1) (λu hu=>by obtain⟨j,L⟩:=zaD hu;exact(V j u L).1) (λj u q hu B=>(V j u hu).2 q B);refine⟨U,?_,g2,g3,g4⟩;simp only[Instr.fill,hpl,fa,zaF,zbk];rw[<-g1];congr 1;rw[<-zcX];simp[I0]
   cases h
  cases h
theorem J1{R t l q}(h:AA Q t l=Z q){vals}(hl:J vals.toList=J l)
  (hv: ∀(i:Nat) x y,vals.toList[i]?=Z x->l[i]?=Z y->x.1=y.1/\aL F w G R x.2 y.2): ∃v,(Instr.build t vals).run Q w= .ok v w/\aL F w G R v q:=by
 unfold AA at h;split at h
 next fs z hu X=>
  split at h
  next pl A=>
   split at h
   ·rename_i qs hq;simp only[zai] at h;subst h;obtain⟨V,Qg,U⟩:=SO (F:=F) X w;obtain⟨d1,d2,d3⟩:=eS U;obtain⟨H,g1,g2,g3,g4⟩:=JZ l vals.toList _ qs V.cells hq hl hv (by simpa using d1) (l9 U) (λi v p hi B=>by rw[zaw] at B;simp only[zap] at B;obtain⟨c,hc,rfl⟩:=B;exact .d (d3 i v c hi hc));refine⟨.agg H,?_,?_⟩
    ·have L:=dG A w;unfold P7 at L;simp only[Instr.build,Sem.run_bind,Qg,run_underlying hu,Result.andThen];rw[L];dsimp only;rw[g1];rfl
    have:=JS (F:=F) (w:=w) (G:=G) (R:=R) (vs:=H.toList) (ps:=qs) (by simpa using g2) g3 g4;simpa using this
   cases h
  cases h
 cases h
end
end Pi
namespace Pi
open Go
section
variable{Q:M}{T:Tg}{F:Nat->Prop}{G:Nat->W}{w:World}{a:Act}{s:S}
theorem jl{len l h lo A}(B:eC len lo A=Z (l,h)):l<=h/\h<=len:=by unfold eC at B;grind
theorem me{len cap l h lo L R U}(A:eC len lo L=Z (l,h))(hle:L=Y\/len<=cap)
  (SP:(lo=Y/\R=Y)\/ ∃p v,lo=Z p/\R=Z v/\aL F w G s.rg v p) (X:(L=Y/\U=Y)\/ ∃p v,L=Z p/\U=Z v/\aL F w G s.rg v p):
  (OF O len cap R U Y).run Q w= .ok (l,h,cap) w:=by
 unfold eC at A;rcases X with⟨rfl,rfl⟩| ⟨p,v,rfl,rfl,hp⟩
 ·skip
  rcases SP with⟨rfl,rfl⟩| ⟨p,v,rfl,rfl,hp⟩
  ·skip
   obtain⟨rfl,rfl⟩:=A;rfl
  cases p<;>try (simp at A;done)
  rename_i x;cases x<;>try (simp at A;done)
  rename_i k j;cases hp with
  |d hp=>
   cases hp;simp only at A;split at A
   next H=>obtain⟨rfl,rfl⟩:=A;simp[OF,Of,asIntOf,H]
   cases A
 cases p<;>try (simp at A;done)
 rename_i x;cases x<;>try (simp at A;done)
 rename_i k j;cases hp with
 |d hp=>
  cases hp;have qhz:len<=cap:=by grind
  simp only at A;by_cases H:0<=j/\j<=(len:Int)
  ·have B:0<=j/\j<=(cap:Int):=⟨H.1,by omega⟩
   rw[zau H] at A;rcases SP with⟨rfl,rfl⟩| ⟨p,v,rfl,rfl,hp⟩
   ·skip
    obtain⟨rfl,rfl⟩:=A;simp[OF,Of,asIntOf,B]
   cases p<;>try (simp at A;done)
   rename_i x;cases x<;>try (simp at A;done)
   rename_i k2 j2;cases hp with
   |d hp=>
    cases hp;simp only at A;split at A
    next V=>simp[OF,Of,asIntOf,B,V];grind
    cases A
  grind
theorem yd{F' n ty fz}{es k len}(hO:ny Q F w G s.rg n (.arr ty fz es))(hk:sz Q ty=Z k){v}
  (U: ∃a N cap,G n= .slice a N cap/\v= .slice a len cap/\len<=N) (hF: ∀b,aI (G n)=Z b->F' b) (H: ∀b,F b->F' b):bf F' w v (.sl k (es.take len)):=by
 obtain⟨a0,N,cap,B,rfl,V⟩:=U;rcases hO with⟨hg,rfl⟩| ⟨b,iZ,cs,k',hg,hh,jL,ix,MZ,yf,dy,_,hE⟩
 ·rw[B] at hg;simp at hg;have:len=0:=by omega
  subst this;exact .Qd _ _ _
 rw[hk] at jL;cases jL;rw[B] at hg;obtain⟨rfl,rfl,rfl⟩:=hg;have A:J (es.take len)=len:=by simp;omega
 have L: ∀i x,(es.take len)[i]?=Z x->es[i]?=Z x:=λi x h=>by
  rw[zbB] at h;split at h
  ·exact h
  cases h
 have R: ∀x,x∈es.take len-> ∃i,es[i]?=Z x:=λx h=>by obtain⟨i,l⟩:=zaD h;exact⟨i,L i x l⟩
 have:=bf.Qe (F:=F') (w:=w) b 0 k cap (es.take len) (λi=>cs.getD i undef) (by omega) (hF b (by simp[B,aI])) (λx h=>by obtain⟨i,l⟩:=R x h;exact(hE i x l).1)
  (λx h=>by obtain⟨i,l⟩:=R x h;exact(hE i x l).2.1) (λi l=>by
   have:i<cs.size:=by rw[dy];exact zaR l (zaq _ (by omega))
   rw[zaE,cell_of_row w b i cs ty (0,0) hh];simp_all) (λi j x c h X=>((hE i x (L i x h)).2.2 j c X).mono H (λ_ _=>rfl))
 rwa [A] at this
theorem Gy{F' n ty fz}{es k off len}(hO:ny Q F w G s.rg n (.arr ty fz es))(hk:sz Q ty=Z k){v}
  (hv: ∃a N cap,G n= .slice a N cap/\off+len<=N/\ ∃a' B,v= .slice a' len B/\len<=B/\(len=0\/ ∃b,a=Z ⟨b,0,Y⟩/\a'=Z ⟨b,off*k,Y⟩)) (hF: ∀b,aI (G n)=Z b->F' b) (R: ∀b,F b->F' b):bf F' w v (.sl k ((es.drop off).take len)):=by
 obtain⟨a0,N,cap,L,hle,a1,sH,rfl,Wb,hz⟩:=hv;by_cases h0:len=0
 ·subst h0;exact .Qd _ _ _
 obtain⟨U,H,Va⟩: ∃b,a0=Z ⟨b,0,Y⟩/\a1=Z ⟨b,off*k,Y⟩:=by grind
 subst H Va;rcases hO with⟨hg,rfl⟩| ⟨b,B,cs,k',hg,hh,jL,ix,MZ,yf,dy,_,hE⟩
 ·rw[L] at hg;simp at hg
 rw[hk] at jL;cases jL;rw[L] at hg;obtain⟨rfl,rfl,rfl⟩:=hg;have l:J ((es.drop off).take len)=len:=by simp;omega
 have V: ∀i x,((es.drop off).take len)[i]?=Z x->es[off+i]?=Z x:=λi x h=>by grind
 have X: ∀x,x∈(es.drop off).take len-> ∃i,es[i]?=Z x:=λx h=>by obtain⟨i,A⟩:=zaD h;exact⟨off+i,V i x A⟩
 have:=bf.Qe (F:=F') (w:=w) U (off*k) k sH ((es.drop off).take len) (λi=>cs.getD (off*k+i) undef) (by omega) (hF U (by simp[L,aI])) (λx h=>by obtain⟨i,A⟩:=X x h;exact(hE i x A).1)
  (λx h=>by obtain⟨i,A⟩:=X x h;exact(hE i x A).2.1) (λi A=>by
   rw[l] at A;have h2:off*k+i<cs.size:=by
    rw[dy]
    calc off*k+i<off*k+len*k:=by omega
     _=(off+len)*k:=by rw[zaV]
     _<=cap*k:=zaq _ (by omega)
   rw[cell_of_row w U (off*k+i) cs ty (0,0) hh];simp_all) (λi j x c h hc=>by
   have:=((hE (off+i) x (V i x h)).2.2 j c hc).mono R (λ_ _=>rfl);rw[zaV,zbK] at this;exact this)
 rwa [l] at this
theorem Wi(h:ax Q T F G w a s){t v p lo}(l:aL F w G s.rg v p):aL F w G s.rg v (qp Q s t p lo):=by
 unfold qp;split
 next n aU len=>
  split
  next x ty es k _ X hk=>
   split
   ·rename_i k' V;split
    ·rename_i A;have A:=zad A;subst A;obtain⟨e,L,dR,U⟩:=S.bY X;have H:=h.rg n e L;rw[U] at H;cases l with
     |sl _ _ _ _ _ hr=>
      have B:=hr.at L dR (by rw[U];rfl);refine .d (yd H V B (λb R=> ?_) (λ_ h=>h));rcases H with⟨hg,_⟩| ⟨b',cap,cs,k2,hg,_,_,_,_,_,_,hf,_⟩
      ·rw[hg] at R;cases R
      grind [aI]
    exact l
   exact l
  exact l
 exact l
theorem SQ(h:ax Q T F G w a s){t v p q lo hi}{vl vh}(hv:aL F w G s.rg v p)
  (SP:(lo=Y/\vl=Y)\/ ∃p v,lo=Z p/\vl=Z v/\aL F w G s.rg v p) (R:(hi=Y/\vh=Y)\/ ∃p v,hi=Z p/\vh=Z v/\aL F w G s.rg v p)
  (A:oa Q s t p lo hi=Z q): ∃x,(Instr.sliceAt t v vl vh Y).run Q w= .ok x w/\aL F w G s.rg x q:=by
 unfold oa at A
 replace hv:=Wi h (t:=t) (lo:=lo) hv
 generalize qp Q s t p lo=p at A hv;unfold zz at A;split at A
 ·cases A
 rename_i e het;have nH:=eD het;split at A
 next k hk=>
  cases hv with
  |d hv=>
   cases hv with
   |Qd H k' cap=>
    simp only at A;split at A
    ·split at A
     ·rename_i l B hb;have:=jl hb;have Qk:l=0/\B=0:=by grind
      obtain⟨rfl,rfl⟩:=Qk;simp at A;subst A;refine⟨.slice (if cap=0 then H else H.map (·.add (0*(k+1)))) 0 cap,?_,.d (.Qd _ _ _)⟩;have V:=me (Q:=Q) (s:=s) (F:=F) (w:=w) (G:=G) (cap:=cap) hb (by simp) SP R;simp only[zaI] at V;simp[Instr.sliceAt,run_underlying nH,Instr.slice,V,run_sizeOf hk]
     cases A
    cases A
   |Qe b off k' cap es f u7 hb kU cH hw hr=>
    simp only at A;split at A
    ·rename_i jL;have jL:k'=k+1:=by simpa using jL
     subst jL;split at A
     ·rename_i l B L;have hle:=jl L;simp at A;subst A;have V:=me (Q:=Q) (s:=s) (F:=F) (w:=w) (G:=G) (cap:=cap) L (.inr u7) SP R;refine⟨_,by simp[Instr.sliceAt,run_underlying nH,Instr.slice,V,run_sizeOf hk];rfl,?_⟩;by_cases h0:B-l=0
      ·rw[h0];have e0:(es.take B).drop l=[]:=zaz (by simp;omega);rw[e0];exact .d (.Qd _ _ _)
      have cU: ¬cap=l:=by omega
      rw[zat cU];have X:J ((es.take B).drop l)=B-l:=by simp;omega
      have xb: ∀i x,((es.take B).drop l)[i]?=Z x->es[l+i]?=Z x:=λi x hx=>by grind
      have jm: ∀x,x∈(es.take B).drop l->x∈es:=λx hx=>zbm (zcm hx);rw[<-X,dU];refine .d (.Qe b (off+l*(k+1)) (k+1) (cap-l) _ (λi=>f (l*(k+1)+i)) (by omega) hb (λx hx=>kU x (jm x hx)) (λx hx=>cH x (jm x hx)) (λi hi=> ?_) (λi j x c hx hc=> ?_))
      ·rw[zbK];refine hw _ ?_;rw[X] at hi
       calc l*(k+1)+i<l*(k+1)+(B-l)*(k+1):=by omega
        _=(l+(B-l))*(k+1):=by rw[zaV]
        _<=J es*(k+1):=zaq _ (by omega)
      grind
     cases A
    cases A
   |_=>cases A
  |sl n aU len v h1 hr=>
   simp only at A;split at A
   ·rename_i ty fz es ho;split at A
    ·rename_i l B L;simp at A;subst A;obtain⟨en,U,dR,bZ⟩:=S.bY ho;obtain⟨H,N,cap,hG,rfl,hle⟩:=hr.at U dR (by rw[bZ];rfl);have hO:=h.rg n en U;rw[bZ] at hO;have hNc:N<=cap:=by
      rcases hO with⟨kq,_⟩| ⟨b',iZ,cs,k2,kq,_,_,_,qhz,_⟩
      ·grind
      grind
     have V:=me (Q:=Q) (s:=s) (F:=F) (w:=w) (G:=G) (cap:=cap) L (.inr (by omega)) (.inl ⟨rfl,rfl⟩) R;have hbs:=jl L;have Qk:l=0:=by unfold eC at L;grind
     subst Qk;have hvl:vl=Y:=by grind
     subst hvl;refine⟨.slice H B cap,?_,.sl n aU B _ rfl ⟨en,U,by omega,λ_ _=>⟨H,N,cap,hG,rfl,by omega⟩⟩⟩;have hz: ∀x:Addr,x.add 0=x:=λx=>by rfl
     simp only[Instr.sliceAt,Instr.slice,Sem.run_bind,run_underlying nH,Result.andThen_ok,V,run_sizeOf hk];cases H<;>simp[hz]
    cases A
   ·rename_i ty fz es lo0 ho;split at A
    ·rename_i k' jL;split at A
     ·split at A
      ·rename_i l B L;simp at A;subst A;obtain⟨en,U,dR,bZ⟩:=S.bY ho;obtain⟨H,N,cap,hG,rfl,hle⟩:=hr.at U dR (by rw[bZ];rfl);have hO:=h.rg n en U;rw[bZ] at hO;have hbs:=jl L;have hNc:N<=cap/\(N=0\/ ∃b,H=Z ⟨b,0,Y⟩):=by
        rcases hO with⟨kq,_⟩| ⟨b',iZ,cs,k2,kq,_,_,_,qhz,_⟩
        ·grind
        grind
       have V:=me (Q:=Q) (s:=s) (F:=F) (w:=w) (G:=G) (cap:=cap) L (.inr (by omega)) SP R;refine⟨.slice (if cap=l then H else H.map (·.add (l*(k+1)))) (B-l) (cap-l),by simp[Instr.sliceAt,run_underlying nH,Instr.slice,V,run_sizeOf hk],.nu n aU (k+1) l (B-l) _ rfl ⟨en,U,by omega,λ_ _=>⟨H,N,cap,hG,by omega,_,_,rfl,by omega,?_⟩⟩⟩;grind [dU]
      cases A
     cases A
    cases A
   cases A
  |nu n aU k0 off len v h1 hr=>
   simp only at A;split at A
   ·rename_i ty fz es ho;split at A
    ·rename_i kU;have kU:=zad kU;subst kU;split at A
     ·rename_i l B L;simp at A;subst A;obtain⟨en,U,dR,bZ⟩:=S.bY ho;obtain⟨H,N,cap,hG,hle,a1,sH,rfl,Wb,hz⟩:=hr.at U dR (by rw[bZ];rfl);have hbs:=jl L;have V:=me (Q:=Q) (s:=s) (F:=F) (w:=w) (G:=G) (cap:=sH) L (.inr Wb) SP R;refine⟨.slice (if sH=l then a1 else a1.map (·.add (l*(k+1)))) (B-l) (sH-l),by simp[Instr.sliceAt,run_underlying nH,Instr.slice,V,run_sizeOf hk],.nu n aU (k+1) (off+l) (B-l) _ rfl ⟨en,U,by omega,λ_ _=>⟨H,N,cap,hG,by omega,_,_,rfl,by omega,?_⟩⟩⟩;by_cases h0:B-l=0
      ·grind
      rcases hz with hz | ⟨b,h2,h3⟩
      ·omega
      refine .inr ⟨b,h2,?_⟩;rw[zat (by omega),h3];simp[dU,zaV]
     cases A
    cases A
   cases A
  |_=>cases A
 cases A
theorem mf{t e ty h}(A:h[0]?=Z t)(l:Q.underlying t=Z (.slice e)) b n c w:(Builtin.len_ h ty #[.slice b n c]).run Q w= .ok (goInt n) w:=by simp[Builtin.len_,A,run_underlying l]
theorem qcj{t e ty X}(U:X[0]?=Z t)(het:dx Q t=Z e){v p q}(hv:aL F w G s.rg v p)(h:JN s p=Z q):
  ∃x,(Builtin.len_ X ty #[v]).run Q w= .ok x w/\aL F w G s.rg x q:=by
 have H:=eD het;unfold JN at h;cases hv with
 |sl n aU len v h1 hr=>
  simp only at h;split at h
  next A=>simp at h;subst h;obtain⟨en,R,V,A⟩:=S.da A;obtain⟨B,N,cap,hG,rfl,L⟩:=hr.at R V A;exact⟨_,mf U H B len cap w,.d (.int _ _)⟩
  cases h
 |nu n aU k off len v h1 hr=>
  simp only at h;split at h
  next A=>simp at h;subst h;obtain⟨en,R,V,A⟩:=S.da A;obtain⟨B,N,cap,hG,L,a1,sH,rfl,_,_⟩:=hr.at R V A;exact⟨_,mf U H a1 len sH w,.d (.int _ _)⟩
  cases h
 |JL n aU len v h1 hr=>
  simp only at h;split at h
  next A=>simp at h;subst h;obtain⟨en,R,V,A⟩:=S.da A;obtain⟨B,N,cap,l,hG,rfl,L⟩:=hr.at R V A;exact⟨_,mf U H B len cap w,.d (.int _ _)⟩
  cases h
 |d hv=>
  cases hv with
  |Qd B k' cap=>simp at h;subst h;exact⟨_,mf U H B 0 cap w,.d (.int _ _)⟩
  |Qe b off k' cap es f u7 hb kU cH hw hr=>simp at h;subst h;exact⟨_,mf U H _ _ cap w,.d (.int _ _)⟩
  |_=>cases h
 |_=>cases h
theorem qck(h:ax Q T F G w a s){t y ty A}(h0:A[0]?=Z t)(Gz:ky Q t=Z y){v p q}(U:aL F w G s.rg v p)(l:JO s p=Z q):
  ∃x,(Builtin.len_ A ty #[v]).run Q w= .ok x w/\aL F w G s.rg x q:=by
 have L:=iy Gz;unfold JO at l;split at l
 next n aU=>
  split at l
  next R get c last V=>simp only[zai] at l;subst l;obtain⟨e0,_,_,_,H,b,es,B,hG,hb,hM⟩:=EE h U V;rw[hG] at H;subst H;obtain⟨ks,_,X,_⟩:=hM;refine⟨goInt es.size,by simp[Builtin.len_,h0,run_underlying L,MapKept.run_getObj_map hb],?_⟩;rw[X];exact .d (.int _ _)
  cases l
 cases l
theorem EH{x y p q r}(B:aL F w G s.rg x p)(A:aL F w G s.rg y q)(H:wY s p q=Z r):
  r=C/\((∃b,x= .pointer (Z b)/\y= .pointer Y)\/ ∃b,x= .pointer Y/\y= .pointer (Z b)):=by
 unfold wY at H;split at H
 ·cases B with
  |ref n aU off v h h1=>cases A with |d A=>cases A;(split at H)<;>simp at H;rename_i l;obtain⟨e,L,R,l⟩:=S.da l;obtain⟨b,_,U⟩:=h.at L R l;grind
 ·cases B with
  |eB n aU i k off v h1 h=>cases A with |d A=>cases A;(split at H)<;>simp at H;rename_i l;obtain⟨e,L,R,l⟩:=S.da l;obtain⟨b,_,_,_,U⟩:=h.at L R l;grind
 ·cases A with
  |ref n aU off v h h1=>cases B with |d B=>cases B;(split at H)<;>simp at H;rename_i l;obtain⟨e,L,R,l⟩:=S.da l;obtain⟨b,_,U⟩:=h.at L R l;grind
 ·cases A with
  |eB n aU i k off v h1 h=>cases B with |d B=>cases B;(split at H)<;>simp at H;rename_i l;obtain⟨e,L,R,l⟩:=S.da l;obtain⟨b,_,_,_,U⟩:=h.at L R l;grind
 ·cases B with
  |hd n aU v h1 h=>cases A with |d A=>cases A;(split at H)<;>simp at H;rename_i l;obtain⟨e,L,R,l⟩:=S.da l;obtain⟨b,_,_,U⟩:=h.at L R l;grind
 ·cases A with
  |hd n aU v h1 h=>cases B with |d B=>cases B;(split at H)<;>simp at H;rename_i l;obtain⟨e,L,R,l⟩:=S.da l;obtain⟨b,_,_,U⟩:=h.at L R l;grind
 ·cases B with |fT=>cases A with |d A=>cases A;grind
 ·cases A with |fT=>cases B with |d B=>cases B;grind
 cases H
theorem zf d {t e}(l:Q.underlying t=Z (.pointer e)){x y}(h:(∃b,x= .pointer (Z b)/\y= .pointer Y)\/ ∃b,x= .pointer Y/\y= .pointer (Z b)) w:
  (PM (d+1) t x y).run Q w= .ok C w:=by
 rcases h with⟨b,rfl,rfl⟩| ⟨b,rfl,rfl⟩<;>simp[PM,run_underlying l]
theorem yg{t e}(H:Q.underlying t=Z (.pointer e)){x y}(h:(∃b,x= .pointer (Z b)/\y= .pointer Y)\/ ∃b,x= .pointer Y/\y= .pointer (Z b)) op B A w
  (l:op= .eql\/op= .neq):(do eqGuard op t B A x y;Go.binOp op t x y:Sem W).run Q w= .ok (.bool (op matches .neq)) w:=by
 have L:=zf (Q:=Q) 9999 H h w;rcases h with⟨b,rfl,rfl⟩| ⟨b,rfl,rfl⟩<;>rcases l with rfl |rfl<;>simp only[eqGuard,Go.binOp,Op.equal,Op.maxDepth]<;>simp[L]
theorem zC(h:ax Q T F G w a s){g}(l:nG a g): ∀(xs:List Operand) (vs:List W),dS (xs.map (s.eg g))=Z vs->xs.map a.eval=vs
 | [],vs,hv=>by grind [dS]
 |x::xs,vs,hv=>by
  simp only[zaS,dS] at hv;cases B:(s.eg g x).cY with
  |none=>grind
  |some v=>
   cases A:dS (xs.map (s.eg g)) with
   |none=>grind
   |some us=>simp[B,A] at hv;subst hv;rw[zaS,zC h l xs us A,(bg h l x).cY B]
theorem Ql{v p ps}(H:aL F w G s.rg v p)(h:p.Nu=Z ps): ∃vs,v= .agg ⟨vs⟩/\J vs=J ps/\(∀u∈vs,u.oneCell'=O)/\ ∀i c,ps[i]?=Z c->aL F w G s.rg (vs.getD i undef) c:=by
 cases H with
 |agg vs ps' hl gT hc=>grind [P.Nu]
 |d hd=>
  cases hd with
  |agg vs cs hl cH hc=>
   simp[P.Nu] at h;subst h;refine⟨vs,rfl,by grind,λu hu=> ?_,λi c l=> ?_⟩
   ·obtain⟨i,l⟩:=zaD hu;have B:i<J cs:=by have:=(zab.1 l).1;omega
    exact(hc i u cs[i] l (zae B)).pI (cH _ (zay B))
   rw[zaw] at l;cases A:cs[i]? with
   |none=>rw[A] at l;cases l
   |some x=>rw[A] at l;cases l;refine .d ?_;grind
  |_=>simp[P.Nu] at h
 |_=>simp[P.Nu] at h
theorem Qm{t vs ps off}{q}(B:J vs=J ps)(U: ∀u∈vs,u.oneCell'=O)(l: ∀i c,ps[i]?=Z c->aL F w G s.rg (vs.getD i undef) c)(h:Eo Q t ps off=Z q):
  ∃r,(Go.part t ⟨vs⟩ off).run Q w= .ok r w/\aL F w G s.rg r q:=by
 obtain⟨k,hk,L,A⟩:=JT (R:=s.rg) h (λi=>vs.getD i undef) (λi H=>by grind) l;grind [Wa]
theorem SR{t f v p q}(A:aL F w G s.rg v p)(h:Nv Q t f p=Z q): ∃r,(Instr.field t v f).run Q w= .ok r w/\aL F w G s.rg r q:=by
 unfold Nv at h;split at h
 next fs ps B l=>
  obtain⟨vs,rfl,H,V,L⟩:=Ql A l;split at h
  next fl X=>obtain⟨r,U,R⟩:=Qm H V L h;refine⟨r,?_,R⟩;simp[Instr.field,run_underlying B,X,asAgg,U]
  cases h
 cases h
theorem SS{t e n v u p i q}(B:Q.underlying t=Z (.array n e))(A:aL F w G s.rg v p)(hu:aL F w G s.rg u i)(h:Nw Q n e p i=Z q):
  ∃r,(Instr.index t v u).run Q w= .ok r w/\aL F w G s.rg r q:=by
 unfold Nw at h;split at h
 next ps kk j k l hk=>
  obtain⟨vs,rfl,H,X,R⟩:=Ql A l;cases hu with
  |d hu=>
   cases hu;split at h
   next L=>obtain⟨r,V,U⟩:=Qm H X R h;refine⟨r,?_,U⟩;simp[Instr.index,asIntOf,run_underlying B,L,run_sizeOf hk,V]
   cases h
 cases h
theorem qlp(h:ax Q T F G w a s){g}(B:nG a g){o q}(A:pv Q s o g=Z q):
  ∃v,(execOp a.eval o).run Q w= .ok (.value v) w/\aL F w G s.rg v q:=by
 have up: ∀{m:Sem W} {q:P},eQ Q m=Z q-> ∃v,m.run Q w= .ok v w/\aL F w G s.rg v q:=λhh=>SL hh F w G s.rg;unfold pv at A;unfold execOp;split at A
 next x hx=>simp at A;subst A;exact⟨a.eval x,by simp[hx],bg h B x⟩
 next x hx=>simp at A;subst A;exact⟨a.eval x,by simp[hx],bg h B x⟩
 next c x y H=>
  split at A
  next r hc=>
   simp at A;subst A;have hcv:=(bg h B c).cY (by rw[hc];rfl);cases r with
   |true=>exact⟨a.eval x,by simp[H,hcv,asBool],bg h B x⟩
   |false=>exact⟨a.eval y,by simp[H,hcv,asBool],bg h B y⟩
  cases A
 next x H=>
  obtain⟨rfl,X⟩:=Dx (bg h B x) A;have hr:=bg h B x;rcases X with⟨b,X⟩| ⟨f,c1,c2,X⟩
  ·simp_all
  simp_all
 next op t x y yt H=>
  unfold qA at A;split at A
  next u v hu X=>obtain⟨r,U,L⟩:=up A;refine⟨r,?_,L⟩;simp only[H];rw[(bg h B x).cY hu,(bg h B y).cY X,Sem.run_bind,U];rfl
  split at A
  next hh Wj=>simp at A;subst A;obtain⟨rfl,hcs⟩:=EH (bg h B x) (bg h B y) Wj;refine⟨_,?_,.d (.bool _)⟩;simp only[H];rw[Sem.run_bind,yg hh hcs .eql x y w (.inl rfl)];rfl
  next hh Wj=>simp at A;subst A;obtain⟨rfl,hcs⟩:=EH (bg h B x) (bg h B y) Wj;refine⟨_,?_,.d (.bool _)⟩;simp only[H];rw[Sem.run_bind,yg hh hcs .neq x y w (.inr rfl)];rfl
  cases A
 next op t x H=>
  split at A
  next u hu=>obtain⟨r,U,L⟩:=up A;refine⟨r,?_,L⟩;simp only[H];rw[(bg h B x).cY hu,Sem.run_bind,U];rfl
  cases A
 next t1 t2 x H=>
  split at A
  next u hu=>obtain⟨r,U,L⟩:=up A;refine⟨r,?_,L⟩;simp only[H];rw[(bg h B x).cY hu,Sem.run_bind,U];rfl
  cases A
 next t x H=>obtain⟨r,U,L⟩:=JV h (bg h B x) A;simp_all
 next t x f H=>obtain⟨r,U,L⟩:=Dz (bg h B x) A;simp_all
 next t x i H=>obtain⟨r,U,L⟩:=DA h (bg h B x) (bg h B i) A;simp_all
 next t x i H=>
  split at A
  next n e ht=>obtain⟨r,U,L⟩:=SS ht (bg h B x) (bg h B i) A;simp_all
  split at A
  next u v hu X=>obtain⟨r,U,L⟩:=up A;refine⟨r,?_,L⟩;simp only[H];rw[(bg h B x).cY hu,(bg h B i).cY X,Sem.run_bind,U];rfl
  cases A
 next t x f H=>obtain⟨r,U,L⟩:=SR (bg h B x) A;simp_all
 next x i H=>
  split at A
  next ps jU=>
   have hr:=bg h B x;rw[jU] at hr;generalize hax:a.eval x=vx at hr;cases hr with
   |cy vs _ hl hc=>
    have hi:=(zab.1 A).1;have hiv:i<J vs:=by omega
    refine⟨vs[i],?_,hc i _ _ (zae hiv) A⟩;simp[H,hax,Instr.extract,hiv]
  cases A
 next t x i ok H=>
  split at A
  next z hz=>obtain⟨y,ht,hz⟩:=zbs.1 hz;obtain⟨r,U,L⟩:=NS h ht hz (bg h B x) (bg h B i) A;simp_all
  cases A
 next x H=>obtain⟨r,U,L⟩:=SN h (bg h B x) A;simp_all
 next t x lo hi H=>
  have SP:(lo.map (s.eg g)=Y/\lo.map a.eval=Y)\/ ∃p v,lo.map (s.eg g)=Z p/\lo.map a.eval=Z v/\aL F w G s.rg v p:=by
   cases lo with
   |none=>simp
   |some l=>grind [bg]
  have hhi:(hi.map (s.eg g)=Y/\hi.map a.eval=Y)\/ ∃p v,hi.map (s.eg g)=Z p/\hi.map a.eval=Z v/\aL F w G s.rg v p:=by
   cases hi with
   |none=>simp
   |some l=>grind [bg]
  split at A
  next b hb=>
   split at A
   ·rename_i l hh hl hhh;obtain⟨r,U,L⟩:=up A;have el:lo.map a.eval=l:=by
     cases lo with
     |none=>grind
     |some x'=>simp only[zap] at hl;obtain⟨v,X,rfl⟩:=hl;simp[(bg h B x').cY X]
    have eh:hi.map a.eval=hh:=by
     cases hi with
     |none=>grind
     |some x'=>simp only[zap] at hhh;obtain⟨v,X,rfl⟩:=hhh;simp[(bg h B x').cY X]
    refine⟨r,?_,L⟩;simp only[H,zcd];rw[(bg h B x).cY hb,el,eh,Sem.run_bind,U];rfl
   cases A
  obtain⟨r,U,L⟩:=SQ h (bg h B x) SP hhi A;simp_all
 next t V H=>
  split at A
  next vs SM=>
   obtain⟨r,U,L⟩:=up A;have e1:V.toList.map (λx=>a.eval x.2)=vs:=by have:=zC h B (V.toList.map (·.2)) vs (by grind [Function.comp_def]);grind [Function.comp_def]
   have e:(V.map λ(i,x)=>(i,a.eval x))=((V.toList.map (·.1)).zip vs).toArray:=by grind
   simp_all
  obtain⟨r,U,L⟩:=J1 (vals:=V.map λ(i,x)=>(i,a.eval x)) A (by simp) (λi x y hx hy=>by simp only[zdb,zaw,zap] at hx hy;obtain⟨x1,NV,rfl⟩:=hx;obtain⟨y1,M0,rfl⟩:=hy;rw[NV] at M0;cases M0;exact⟨rfl,bg h B x1.2⟩);simp_all
 next f first dA H=>
  split at A
  next qq2=>
   have e1:first= #[]:=by grind
   subst e1;simp only[zai] at A;subst A;refine⟨.func (.func f) #[] (dA.map a.eval),?_,?_⟩
   ·simp[H,Instr.makeFunc]
   have:=aL.fn (F:=F) (w:=w) (G:=G) (R:=s.rg) f (dA.toList.map a.eval) (dA.toList.map (s.eg g)) (by simp) (λi v c X hc=>by grind [bg]);have e:dA.map a.eval=⟨dA.toList.map a.eval⟩:=by grind
   rw[e];exact this
  cases A
 next c H=>
  split at A
  next kW=>
   split at A
   ·rename_i x cW;have ea:c.args= #[x]:=by grind
    split at A
    next u hu=>obtain⟨r,U,L⟩:=up A;refine⟨r,?_,L⟩;have hx:=(bg h B x).cY hu;simp[H,resolve,kW,ea,invoke,builtin,hx,U]
    split at A
    next e het=>obtain⟨t0,ht0,het⟩:=zbs.1 het;obtain⟨r,U,L⟩:=qcj (ty:=o.type) ht0 het (bg h B x) A;refine⟨r,?_,L⟩;simp[H,resolve,kW,ea,invoke,builtin,U]
    split at A
    next y Gz=>obtain⟨t0,ht0,Gz⟩:=zbs.1 Gz;obtain⟨r,U,L⟩:=qck (ty:=o.type) h ht0 Gz (bg h B x) A;refine⟨r,?_,L⟩;simp[H,resolve,kW,ea,invoke,builtin,U]
    cases A
   cases A
  next kW=>
   split at A
   ·rename_i vs SM;obtain⟨r,U,L⟩:=up A;refine⟨r,?_,L⟩;have e:=zC h B _ _ SM;have e2:c.args.map a.eval=vs.toArray:=by grind
    simp[H,resolve,kW,invoke,builtin,e2,U]
   cases A
  next kW=>
   split at A
   ·rename_i vs SM;obtain⟨r,U,L⟩:=up A;refine⟨r,?_,L⟩;have e:=zC h B _ _ SM;have e2:c.args.map a.eval=vs.toArray:=by grind
    simp[H,resolve,kW,invoke,builtin,e2,U]
   cases A
  cases A
 cases A
end
end Pi
namespace Pi
open Go
def KW{α:Type}(m:K α)(p:α->Prop):= ∀E,m E-> ∃a,p a/\E a
theorem KW.ret{α:Type}{a:α}{p}(h:p a):KW (K.ret a) p:=λ_ l=>⟨a,h,l⟩
theorem KW.fail{α:Type}{p}:KW (K.fail:K α) p:=λ_ h=>h.elim
theorem KW.kT{α:Type}{b}{a:α}{p}(h:b=O->p a):KW (K.kT b a) p:=λ_ l=>by
 unfold K.kT at l;cases b with
 |true=>exact⟨a,h rfl,l⟩
 |false=>exact l.elim
theorem KW.dec{b p}(h:p b):KW (K.dec b) p:=λ_ l=>by
 unfold K.dec at l;cases b with
 |true=>exact⟨O,h,l⟩
 |false=>exact⟨C,h,l⟩
theorem KW.dN{α:Type}{o:Option α}{p}(h: ∀a,o=Z a->p a):KW (K.dN o) p:=λ_ l=>by
 unfold K.dN at l;split at l
 ·exact⟨_,h _ rfl,l⟩
 exact l.elim
theorem KW.bind{α β:Type}{m}{f:α->K β}{p q}(l:KW m p)(A: ∀a,p a->KW (f a) q):KW (K.bind m f) q:=λE h=>by obtain⟨a,B,H⟩:=l _ h;exact A a B E H
theorem KW.mono{α:Type}{m:K α}{p q}(h:KW m p)(l: ∀a,p a->q a):KW m q:=λE A=>by obtain⟨a,B,H⟩:=h E A;exact⟨a,l a B,H⟩
theorem Qn{Q t x y}(h:VU Q t x=Z y)(l:isC Q t x=O):x=y:=by
 unfold VU at h;unfold isC at l;cases hu:Q.underlying t with
 |none=>simp[hu] at h
 |some d=>
  rw[hu] at h l;cases d with
  |bool=>cases x<;>simp at l h;rw[<-h];rfl
  |int k=>cases x<;>simp at l h;subst l;rw[<-h];rfl
  |string=>cases x<;>simp at l h;rw[<-h];rfl
  |slice e=>
   simp only at h l;cases A:sz Q e with
   |none=>simp[A] at h
   |some k=>
    rw[A] at h l;cases k with
    |zero=>simp at h
    |succ k=>simp only[zai] at h;cases x<;>simp at l;subst l;rw[<-h];rfl
  |_=>simp at h
theorem J2{Q x}: ∀l j cs,Et Q x j l=Z cs->qce Q x j l=O->cs=(List.range' j (J l)).map x.aq
 | [],j,cs,h,_=>by simp[Et] at h;subst h;rfl
 |t::l,j,cs,h,hb=>by
  simp only[Et] at h;simp only[qce,zac] at hb;cases A:VU Q t (x.aq j) with
  |none=>simp[A] at h
  |some c=>
   cases B:Et Q x (j+1) l with
   |none=>simp[A,B] at h
   |some ds=>simp[A,B] at h;subst h;rw[zav,List.range'_succ,zaS,<-J2 l (j+1) ds B hb.2,Qn A hb.1]
theorem ve Q t x:KW (NB Q t x) (λy=>x=y):=by
 unfold NB;split
 next y l=>
  refine KW.kT λh=> ?_;unfold bE at h;split at l
  next B=>
   rw[zau B] at h;split at l
   ·rename_i cs A;simp at l;subst l;simp only[zac] at h;have e:=J2 _ _ _ A h.2;cases x with
    |agg ds=>
     have H:=zad h.1;rw[e,<-H];congr 1;apply zbU
     ·simp
     intro i L R;simp[D.aq,D.cells,L]
    |_=>simp at h
   cases l
  rename_i B;rw[zat B] at h;exact Qn l h
 exact KW.fail
theorem GA Q t x:KW (VX Q t x) (λy=>x=y):=by
 unfold VX;split
 ·split
  next k _=>
   rintro E ⟨h,B,A,l⟩;unfold VW at h;split at h
   next H es=>have:=zad h;subst this;exact⟨_,rfl,B es rfl⟩
   ·exact⟨_,rfl,A rfl⟩
   next b n c=>exact⟨_,rfl,l b n c rfl⟩
   cases h
  exact KW.fail
 exact ve Q t x
theorem AT{es i}(h:i<J es):es[i]?=Z (D.nth es i):=by simp[D.nth,h]
theorem mg k n:KW (arith k n) (λz=>z= .int k (k.wrap n)):=by
 unfold arith;split
 ·refine KW.kT λh=> ?_;simp only[zam] at h;rw[IntWalk.i64_in n h]
 exact KW.ret rfl
theorem qcl{Q s op t}{x y p q m}(h:AF Q op t p q=Z m):KW m (λz=>qA Q s op t x y (.d p) (.d q)=Z (.d z)):=by
 cases p with
 |int k a=>
  cases q with
  |int k' b=>
   simp only[AF] at h;have H: ∀(n:Int),ay Q (do eqGuard op t x y (.int k a) (.int k' b);binOp op t (.int k a) (.int k' b))=Z (.int k n)->qA Q s op t x y (.d (.int k a)) (.d (.int k' b))=Z (.d (.int k n)):=by intro n B;simp only[qA,P.cY,D.cY,D.fZ,eQ,B,D.wW,D.n9]
   have ga: ∀(c:Bool),ay Q (do eqGuard op t x y (.int k a) (.int k' b);binOp op t (.int k a) (.int k' b))=Z (.bool c)->qA Q s op t x y (.d (.int k a)) (.d (.int k' b))=Z (.d (.bool c)):=by intro n B;simp only[qA,P.cY,D.cY,D.fZ,eQ,B,D.wW,D.n9]
   split at h
   ·simp only[zai] at h;subst h;refine KW.bind (p:=λ_=> ¬b<0) (KW.kT λl=>by simpa using l) λ_ l=>(mg _ _).mono λz L=> ?_;subst L;refine H _ ?_;show ay Q (if b<0 then _ else _)=_;rw[zat l];rfl
   ·simp only[zai] at h;subst h;refine KW.kT λl=>H _ ?_;have l: ¬b<0:=by simpa using l
    show ay Q (if b<0 then _ else _)=_;rw[zat l];rfl
   split at h
   ·rename_i hk;have hk:k=k':=by simpa using hk
    subst hk;split at h<;>simp only[zai,reduceCtorEq] at h<;>subst h
    ·exact(mg _ _).mono λz L=>by subst L;exact H _ (by cases k<;>rfl)
    ·exact(mg _ _).mono λz L=>by subst L;exact H _ (by cases k<;>rfl)
    ·exact(mg _ _).mono λz L=>by subst L;exact H _ (by cases k<;>rfl)
    ·refine KW.bind (p:=λ_=> ¬b=0) (KW.kT λl=>by simpa using l) λ_ l=>(mg _ _).mono λz L=> ?_;subst L;refine H _ ?_;have:ay Q (Op.intDiv .quo k a b)=Z (.int k (k.wrap (a.tdiv b))):=by unfold Op.intDiv;rw[zat l];rfl
     rw[<-this];cases k<;>rfl
    ·refine KW.kT λl=>H _ ?_;have l: ¬b=0:=by simpa using l
     have:ay Q (Op.intDiv .rem k a b)=Z (.int k (a.tmod b)):=by unfold Op.intDiv;rw[zat l];rfl
     rw[<-this];cases k<;>rfl
    ·exact KW.ret (H _ (by cases k<;>rfl))
    ·exact KW.ret (H _ (by cases k<;>rfl))
    ·exact KW.ret (H _ (by cases k<;>rfl))
    ·exact KW.ret (H _ (by cases k<;>rfl))
    all_goals exact KW.ret (ga _ (by cases k<;>rfl))
   cases h
  |_=>simp[AF] at h
 |str a=>
  cases q with
  |str b=>
   have ga: ∀(c:Bool),ay Q (do eqGuard op t x y (.string ⟨⟨a⟩⟩) (.string ⟨⟨b⟩⟩);binOp op t (.string ⟨⟨a⟩⟩) (.string ⟨⟨b⟩⟩))=Z (.bool c)->qA Q s op t x y (.d (.str a)) (.d (.str b))=Z (.d (.bool c)):=by intro c B;simp only[qA,P.cY,D.cY,D.fZ,eQ,B,D.wW,D.n9]
   have e1:(gz ⟨a⟩).toList=a:=by rw[ByteArray.toList_eq]
   have V:(gz ⟨b⟩).toList=b:=by rw[ByteArray.toList_eq]
   simp only[AF] at h;split at h<;>simp only[zai,reduceCtorEq] at h<;>subst h
   ·refine KW.kT λl=> ?_;have l:J a+J b<=9223372036854775807:=by simpa using l
    have B:ay Q (do eqGuard .add t x y (.string ⟨⟨a⟩⟩) (.string ⟨⟨b⟩⟩);binOp .add t (.string ⟨⟨a⟩⟩) (.string ⟨⟨b⟩⟩))=Z (.string (⟨⟨a⟩⟩++⟨⟨b⟩⟩)):=by
     show ay Q (if((J a+J b:Nat):Int)>IntKind.i64.max then _ else _)=_;rw[zat (by
       have:IntKind.i64.max=9223372036854775807:=by decide
       omega)]
     rfl
    simp only[qA,P.cY,D.cY,D.fZ,eQ,B,D.wW,D.n9];simp
   ·refine KW.ret (ga _ ?_);have:ay Q (do eqGuard .eql t x y (.string ⟨⟨a⟩⟩) (.string ⟨⟨b⟩⟩);binOp .eql t (.string ⟨⟨a⟩⟩) (.string ⟨⟨b⟩⟩))=Z (.bool ((gz ⟨a⟩).toList==(gz ⟨b⟩).toList)):=rfl;rw[this,e1,V]
   ·refine KW.ret (ga _ ?_);have:ay Q (do eqGuard .neq t x y (.string ⟨⟨a⟩⟩) (.string ⟨⟨b⟩⟩);binOp .neq t (.string ⟨⟨a⟩⟩) (.string ⟨⟨b⟩⟩))=Z (.bool (!((gz ⟨a⟩).toList==(gz ⟨b⟩).toList))):=rfl;rw[this,e1,V]
   ·refine KW.ret (ga _ ?_);have:ay Q (do eqGuard .lss t x y (.string ⟨⟨a⟩⟩) (.string ⟨⟨b⟩⟩);binOp .lss t (.string ⟨⟨a⟩⟩) (.string ⟨⟨b⟩⟩))=Z (.bool (IT (gz ⟨a⟩).toList (gz ⟨b⟩).toList)):=rfl;rw[this,e1,V]
   ·refine KW.ret (ga _ ?_);have:ay Q (do eqGuard .leq t x y (.string ⟨⟨a⟩⟩) (.string ⟨⟨b⟩⟩);binOp .leq t (.string ⟨⟨a⟩⟩) (.string ⟨⟨b⟩⟩))=Z (.bool (IT (gz ⟨a⟩).toList (gz ⟨b⟩).toList || (gz ⟨a⟩).toList==(gz ⟨b⟩).toList)):=rfl;rw[this,e1,V]
   ·refine KW.ret (ga _ ?_);have:ay Q (do eqGuard .gtr t x y (.string ⟨⟨a⟩⟩) (.string ⟨⟨b⟩⟩);binOp .gtr t (.string ⟨⟨a⟩⟩) (.string ⟨⟨b⟩⟩))=Z (.bool (!(IT (gz ⟨a⟩).toList (gz ⟨b⟩).toList || (gz ⟨a⟩).toList==(gz ⟨b⟩).toList))):=rfl;rw[this,e1,V]
   refine KW.ret (ga _ ?_);have:ay Q (do eqGuard .geq t x y (.string ⟨⟨a⟩⟩) (.string ⟨⟨b⟩⟩);binOp .geq t (.string ⟨⟨a⟩⟩) (.string ⟨⟨b⟩⟩))=Z (.bool (!(IT (gz ⟨a⟩).toList (gz ⟨b⟩).toList))):=rfl;rw[this,e1,V]
  |_=>simp[AF] at h
 |bool a=>
  cases q with
  |bool b=>
   simp only[AF] at h;have ga: ∀(c:Bool),ay Q (do eqGuard op t x y (.bool a) (.bool b);binOp op t (.bool a) (.bool b))=Z (.bool c)->qA Q s op t x y (.d (.bool a)) (.d (.bool b))=Z (.d (.bool c)):=by intro c B;simp only[qA,P.cY,D.cY,D.fZ,eQ,B,D.wW,D.n9]
   split at h
   next hu=>simp only[zai] at h;subst h;refine KW.ret (ga _ ?_);have:ay Q (do eqGuard .eql t x y (.bool a) (.bool b);binOp .eql t (.bool a) (.bool b))=ay Q (do pure (.bool (<-Op.equal t (.bool a) (.bool b)))):=rfl;rw[this,aw,la hu];rfl
   next hu=>simp only[zai] at h;subst h;refine KW.ret (ga _ ?_);have:ay Q (do eqGuard .neq t x y (.bool a) (.bool b);binOp .neq t (.bool a) (.bool b))=ay Q (do pure (.bool (!(<-Op.equal t (.bool a) (.bool b))))):=rfl;rw[this,aw,la hu];rfl
   cases h
  |_=>simp[AF] at h
 |agg a=>
  cases q with
  |agg b=>
   simp only[AF] at h;have ga: ∀(A vs:List W) (c:Bool),D.dS a=Z A->D.dS b=Z vs->ay Q (do eqGuard op t x y (.agg ⟨A⟩) (.agg ⟨vs⟩);binOp op t (.agg ⟨A⟩) (.agg ⟨vs⟩))=Z (.bool c)->qA Q s op t x y (.d (.agg a)) (.d (.agg b))=Z (.d (.bool c)):=by intro A vs c U R B;simp only[qA,P.cY,D.cY,U,R,eQ,B,D.wW,D.n9]
   split at h
   ·split at h
    next A vs c U R h3 X=>simp only[zai] at h;subst h;refine KW.ret (ga A vs _ U R ?_);have e:ay Q (binOp .eql t (.agg ⟨A⟩) (.agg ⟨vs⟩))=ay Q (do pure (.bool (<-PM 10000 t (.agg ⟨A⟩) (.agg ⟨vs⟩)))):=rfl;rw[aw,ra h3 (.inl rfl),zax,e,aw,eE 20 10000 t _ _ _ _ _ (by omega) X (by simp[D.cY,U]) (by simp[D.cY,R])];rfl
    cases h
   ·split at h
    next A vs c U R h3 X=>simp only[zai] at h;subst h;refine KW.ret (ga A vs _ U R ?_);have e:ay Q (binOp .neq t (.agg ⟨A⟩) (.agg ⟨vs⟩))=ay Q (do pure (.bool (!(<-PM 10000 t (.agg ⟨A⟩) (.agg ⟨vs⟩))))):=rfl;rw[aw,ra h3 (.inr rfl),zax,e,aw,eE 20 10000 t _ _ _ _ _ (by omega) X (by simp[D.cY,U]) (by simp[D.cY,R])];rfl
    cases h
   cases h
  |_=>simp[AF] at h
 |_=>simp[AF] at h
end Pi
namespace Pi
open Go
def loB(h:Nat)(lo:Option P):=
 match lo with
 |Y=>Z (0,h)
 |Z (.d (.int _ j))=>if 0<=j/\j<=(h:Int) then Z (j.toNat,h) else Y
 |_=>Y
theorem mh{len lo B}:KW (pG len lo B) (λx=>eC len lo B=Z x):=by
 unfold pG;refine KW.bind (p:=λh=> ∀r,loB h lo=Z r->eC len lo B=Z r) ?_ λh H=> ?_
 ·split
  ·exact KW.ret λr l=>by unfold loB at l;simp only[eC];exact l
  ·exact KW.kT λA r l=>by simp only[zam] at A;unfold loB at l;simp only[eC,zau A];exact l
  exact KW.fail
 split
 ·exact KW.ret (H _ rfl)
 ·exact KW.kT λA=>H _ (by simp only[zam] at A;simp only[loB,zau A])
 exact KW.fail
section
variable{Q:M}{s:S}
theorem DC{t p i}:KW (tM Q s t p i) (λq=>gb Q s t p i=Z q):=by
 unfold tM gb;split
 next n e H=>
  (try simp only[H])
  exact KW.dN λa h=>h
 rename_i B
 (try simp only[B])
 split
 next e k j H=>
  (try simp only[H])
  split
  next k' hk=>
   (try simp only[hk])
   split
   ·rename_i n v len;split
    next ty fz es A=>
     (try simp only[A])
     split
     next V=>refine KW.kT λl=> ?_;simp only[zam] at l;simp only[zau l]
     exact KW.fail
    exact KW.fail
   ·rename_i n v R off len;split
    next ty fz es A=>
     (try simp only[A])
     split
     next V=>refine KW.kT λl=> ?_;simp only[zam] at l;simp only[zau l]
     exact KW.fail
    exact KW.fail
   ·rename_i R es;split
    next L=>refine KW.bind (p:=λ_=>0<=j/\j<(J es:Int)) (KW.kT λl=>by simpa using l) λ_ X=> ?_;refine KW.bind (ve Q e _) λx U=>KW.ret ?_;simp only[zau X.1,AT (show j.toNat<J es by omega),U]
    exact KW.fail
   exact KW.fail
  exact KW.fail
 exact KW.fail
theorem SU{t p lo L}:KW (NC Q s t p lo L) (λq=>oa Q s t p lo L=Z q):=by
 unfold NC oa;generalize qp Q s t p lo=p;unfold Qc zz;split
 ·exact KW.fail
 rename_i e A;split
 next k hk=>
  split
  next H es=>
   split
   next U=>refine KW.bind mh λx h=>KW.ret ?_;simp only[h]
   exact KW.fail
  next n v len=>
   split
   next ty R es l=>refine KW.bind mh λx h=>KW.ret ?_;simp only[h]
   ·rename_i ty R es V l;split
    ·rename_i H X;split
     next B=>refine KW.bind mh λx h=>KW.ret ?_;simp only[h]
     exact KW.fail
    exact KW.fail
   exact KW.fail
  next n v H off len=>
   split
   ·rename_i ty R es l;split
    next B=>refine KW.bind mh λx h=>KW.ret ?_;simp only[h]
    exact KW.fail
   exact KW.fail
  exact KW.fail
 exact KW.fail
theorem Wk{t p}:KW (VY Q s t p) (λq=>sU Q s t p=Z q):=by
 unfold VY;split
 next n v i k off=>
  split
  next ty V es H=>
   split
   ·rename_i U hk;split
    ·rename_i l;refine KW.bind (p:=λ_=>i<J es) (KW.kT λR=>by simpa using R) λ_ L=> ?_;refine KW.bind (ve Q ty _) λx B=> ?_;split
     next y A=>refine KW.ret ?_;simp only[sU,H,hk,AT L];rw[zau l,B,A]
     exact KW.fail
    exact KW.fail
   exact KW.fail
  exact KW.fail
 exact KW.dN λa h=>h
theorem xc{a b x m}(h:V0 Q a b x=Z m):KW m (λz=> ∃v,x.cY=Z v/\eQ Q (Go.convert a b v)=Z (.d z)):=by
 unfold V0 at h;split at h
 next R k L n H B=>
  simp only[zai] at h;subst h;have A:KW (if VZ R then arith k n else K.ret (.int k (k.wrap n))) (λz=>z= .int k (k.wrap n)):=by
   split
   ·exact mg _ _
   exact KW.ret rfl
  refine A.mono λz U=> ?_;subst U;refine⟨.int L n,rfl,?_⟩;have:ay Q (Go.convert a b (.int L n))=Z (.int k (k.wrap n)):=by unfold Go.convert;rw[aw,aP H,zax,aw,aP B,zax];rfl
  simp only[eQ,this,D.wW,D.n9]
 next l H B=>
  simp only[zai] at h;subst h;refine KW.ret ⟨.string ⟨⟨l⟩⟩,rfl,?_⟩;have:ay Q (Go.convert a b (.string ⟨⟨l⟩⟩))=Z (.string ⟨⟨l⟩⟩):=by unfold Go.convert;rw[aw,aP H,zax,aw,aP B,zax];rfl
  simp only[eQ,this,D.wW,D.n9]
 cases h
theorem D.AV{c x y z}(h:D.merge c x y=Z z):z=if c then x else y:=by
 unfold D.merge at h;split at h
 ·simp only[zai] at h;subst h;cases c<;>rfl
 ·split at h
  next hk=>have hk:=eq_of_beq hk;subst hk;simp only[zai] at h;subst h;cases c<;>rfl
  cases h
 ·simp only[zai] at h;subst h;cases c<;>rfl
 cases h
theorem P.AV{c p q r}(h:P.merge c p q=Z r):r=if c then p else q:=by
 unfold P.merge at h;split at h
 ·split at h
  next l=>simp only[zai] at h;subst h;rw[D.AV l];cases c<;>rfl
  cases h
 cases h
end
end Pi
namespace Pi
open Go
def bv:Option P->Option (Option W)
 |Y=>Z Y
 |Z p=>p.cY.map Z
theorem GB{len lo A r}(h:eC len lo A=Z r):
  ((A=Y/\r.2=len)\/ ∃k j,A=Z (.d (.int k j))/\0<=j/\j<=(len:Int)/\r.2=j.toNat)/\((lo=Y/\r.1=0)\/ ∃k j,lo=Z (.d (.int k j))/\0<=j/\j<=(r.2:Int)/\r.1=j.toNat):=by
 unfold eC at h;split at h
 ·cases h
 rename_i H l;have L:(A=Y/\H=len)\/ ∃k j,A=Z (.d (.int k j))/\0<=j/\j<=(len:Int)/\H=j.toNat:=by
  split at l
  ·simp at l;exact .inl ⟨rfl,l.symm⟩
  ·split at l
   next k j B=>simp at l;exact .inr ⟨k,j,rfl,B.1,B.2,l.symm⟩
   cases l
  cases l
 split at h
 ·simp at h;subst h;exact⟨L,.inl ⟨rfl,rfl⟩⟩
 ·split at h
  next k j B=>simp at h;subst h;exact⟨L,.inr ⟨k,j,rfl,B.1,B.2,rfl⟩⟩
  cases h
 cases h
theorem jn Q {k j}{y:Nat}(l:0<=j)(h:j<=(y:Int)) c:ay Q (Of (.int k j) y c)=Z j.toNat:=by
 have:Of (.int k j) y c=if 0<=j/\j<=(y:Int) then(pure j.toNat:Sem Nat) else boundsPanic k j y c:=rfl
 rw[this,zau ⟨l,h⟩];rfl
theorem zg Q {len lo H r}(h:eC len lo H=Z r):
  ∃A B,bv lo=Z A/\bv H=Z B/\ay Q (OF C len len A B Y)=Z (r.1,r.2,len):=by
 obtain⟨R,L⟩:=GB h;rcases R with⟨rfl,e2⟩| ⟨k,j,rfl,h0,h1,e2⟩<;>rcases L with⟨rfl,e1⟩| ⟨k',j',rfl,h0',Wl,e1⟩
 ·exact⟨Y,Y,rfl,rfl,by rw[e1,e2];rfl⟩
 ·refine⟨Z (.int k' j'),Y,rfl,rfl,?_⟩;have:ay Q (OF C len len (Z (.int k' j')) Y Y)=(ay Q (Of (.int k' j') len .sliceB)).bind λl=>Z (l,len,len):=by unfold OF;rw[aw];show ay Q (Of (.int k' j') len .sliceB>>=λl=>pure (l,len,len))=_;rw[aw];rfl
  rw[this,jn Q h0' (by rw[<-e2];exact Wl),e1,e2];rfl
 ·refine⟨Y,Z (.int k j),rfl,rfl,?_⟩;have:ay Q (OF C len len Y (Z (.int k j)) Y)=(ay Q (Of (.int k j) len .sliceAlen)).bind λl=>Z (0,l,len):=by unfold OF;show ay Q (Of (.int k j) len .sliceAlen>>=λl=>pure (0,l,len))=_;rw[aw];rfl
  rw[this,jn Q h0 h1,e1,e2];rfl
 refine⟨Z (.int k' j'),Z (.int k j),rfl,rfl,?_⟩;have:ay Q (OF C len len (Z (.int k' j')) (Z (.int k j)) Y)=(ay Q (Of (.int k j) len .sliceAlen)).bind λl=>(ay Q (Of (.int k' j') l .sliceB)).bind λm=>Z (m,l,len):=by unfold OF;show ay Q (Of (.int k j) len .sliceAlen>>=λl=>Of (.int k' j') l .sliceB>>=λm=>pure (m,l,len))=_;rw[aw];congr 1;funext l;rw[aw];rfl
 rw[this,jn Q h0 h1,zax,jn Q h0' (by rw[<-e2];exact Wl),e1,e2];rfl
theorem GC l a b:((gz ⟨l⟩).extract a b).data.toList=(l.take b).drop a:=by simp[ByteArray.data_extract,zcS]
theorem vf{Q t}(hu:Q.underlying t=Z .string){l lo H r}(h:eC (J l) lo H=Z r):
  ∃A B,bv lo=Z A/\bv H=Z B/\eQ Q (Instr.sliceAt t (.string ⟨⟨l⟩⟩) A B Y)=Z (.d (.str ((l.take r.2).drop r.1))):=by
 obtain⟨A,B,U,R,L⟩:=zg Q h;refine⟨A,B,U,R,?_⟩;have:ay Q (Instr.sliceAt t (.string ⟨⟨l⟩⟩) A B Y)=Z (.string ((gz ⟨l⟩).extract r.1 r.2)):=by unfold Instr.sliceAt;rw[aw,aP hu,zax];show ay Q (Instr.slice t (.string ⟨⟨l⟩⟩) A B Y)=_;unfold Instr.slice;rw[aw,aP hu,zax];show ay Q (OF C (J l) (J l) A B Y>>=λx=>_)=_;rw[aw,L];rfl
 simp only[eQ,this,D.wW,D.n9,GC]
theorem vg{Q t}(hu:Q.underlying t=Z .string){l k j}(A:0<=j)(B:j<(J l:Int)):
  eQ Q (Instr.index t (.string ⟨⟨l⟩⟩) (.int k j))=Z (.d (.int .u8 ((l.getD j.toNat 0).toNat))):=by
 have h:j.toNat<J l:=by omega
 have e:(gz ⟨l⟩)[j.toNat]?=Z (l.getD j.toNat 0):=by rw[ByteArray.getElem?_lt' _ _ (show j.toNat<(gz ⟨l⟩).size from h)];simp[h];rfl
 have:ay Q (Instr.index t (.string ⟨⟨l⟩⟩) (.int k j))=Z (.int .u8 ((l.getD j.toNat 0).toNat)):=by unfold Instr.index;show ay Q (underlying t>>=λd=>_)=_;rw[aw,aP hu,zax];simp only[zau A,e];rfl
 simp only[eQ,this,D.wW,D.n9]
theorem GF{Q t h ty}(A:h[0]?=Z t)(hu:Q.underlying t=Z .string) l:
  eQ Q (Builtin.len_ h ty #[.string ⟨⟨l⟩⟩])=Z (.d (.int DD (J l))):=by
 have:ay Q (Builtin.len_ h ty #[.string ⟨⟨l⟩⟩])=Z (.int DD (J l)):=by unfold Builtin.len_;rw[A];show ay Q (underlying t>>=λd=>_)=_;rw[aw,aP hu,zax];rfl
 simp only[eQ,this,D.wW,D.n9]
section
variable{Q:M}{s:S}
theorem NW{t p i ok}:KW (Gr Q s t p i ok) (λr=>((ky Q t).bind λy=>e9 Q y.2).bind (λz=>ff Q s t p i ok z)=Z r):=by
 unfold Gr;split
 next B e R=>
  split
  next z k H=>
   split
   ·rename_i n v;split
    ·rename_i U get c l L;split
     next hk=>refine KW.bind (KW.kT (p:=λ_=>ga Q B k=O) λh=>h) λ_ h=>KW.bind (GA Q e _) λy A=>KW.ret ?_;have A:(get k).getD z=y:=A;simp only[zax,H,ff,R,L,hk,h,Bool.and_self,zbj,A]
     exact KW.fail
    ·rename_i U get c V X L;split
     next hk=>simp only[zac,zbD] at hk;refine KW.bind (KW.kT (p:=λ_=>ga Q B k=O) λh=>h) λ_ h=>KW.bind (GA Q e _) λy A=>KW.ret ?_;have A:(get k).getD z=y:=A;simp only[zax,H,ff,R,L,hk.1,hk.2,h,Bool.not_false,Bool.and_self,zbj,A]
     exact KW.fail
    exact KW.fail
   ·refine KW.bind (KW.kT (p:=λ_=>ga Q B k=O) λh=>h) λ_ h=>KW.ret ?_;simp only[zax,H,ff,R,h,zbj]
   exact KW.fail
  exact KW.fail
 exact KW.fail
theorem qhB{o g}:KW (pvK Q s o g) (λp=>pv Q s o g=Z p):=by
 have B:KW (K.dN (pv Q s o g)) (λp=>pv Q s o g=Z p):=KW.dN λa h=>h;unfold pvK;split
 next c a b A=>
  split
  next r hc=>
   have R: ∀p,(if r then s.eg g a else s.eg g b)=p->pv Q s o g=Z p:=λp U=>by unfold pv;simp only[A,hc,U]
   split
   next p U=>exact KW.ret (R _ (P.AV U).symm)
   exact KW.bind (KW.dec (p:=λr'=>r=r') rfl) λr' hr=>KW.ret (R _ (by rw[hr]))
  exact KW.fail
 next op t x y yt A=>
  have R: ∀p,qA Q s op t x y (s.eg g x) (s.eg g y)=Z p->pv Q s o g=Z p:=λp U=>by unfold pv;simp only[A,U]
  split
  next p q U L=>
   split
   next m hm=>exact KW.bind (qcl (s:=s) (x:=x) (y:=y) hm) λz X=>KW.ret (R _ (by rw[U,L];exact X))
   exact KW.dN λa ha=>R _ (by rw[U,L];rw[U,L] at ha;exact ha)
  exact KW.dN λa ha=>R _ ha
 next op t x A=>
  split
  next b H=>refine KW.ret ?_;unfold pv;simp only[A,H,P.cY,D.cY,D.fZ];rfl
  next k n H=>refine KW.bind (mg _ _) λz X=>KW.ret ?_;subst X;unfold pv;simp only[A,H,P.cY,D.cY,D.fZ];rfl
  exact B
 next a b x A=>
  split
  next y hy=>
   split
   next m hm=>refine KW.bind (xc hm) λz X=>KW.ret ?_;obtain⟨v,h1,V⟩:=X;unfold pv;simp only[A,hy,P.cY,h1,V]
   exact B
  exact B
 next t x A=>exact Wk.mono λq L=>by unfold pv;simp only[A,L]
 next t x i A=>exact DC.mono λq L=>by unfold pv;simp only[A,L]
 next t x i A=>
  split
  next l k j hu hx hi=>refine KW.kT λH=> ?_;simp only[zam] at H;unfold pv;simp only[A,hu,hx,hi,P.cY,D.cY,D.fZ];exact vg hu H.1 H.2
  exact B
 next t x i ok A=>
  refine NW.mono λq L=> ?_;unfold pv;simp only[A];cases X:(ky Q t).bind λy=>e9 Q y.2 with
  |none=>rw[X] at L;cases L
  |some z=>rw[X] at L;exact L
 next t x lo hi A=>
  split
  next l hx=>
   split
   ·rename_i hu;refine KW.bind mh λr hr=>KW.ret ?_;obtain⟨vl,vh,h1,V,h3⟩:=vf hu hr;have ex:(s.eg g x).cY=Z (.string ⟨⟨l⟩⟩):=by rw[hx];rfl
    unfold pv;simp only[A,ex];cases lo with
    |none=>
     simp only[bv,zcd,zai] at h1;subst h1;cases hi with
     |none=>simp only[bv,zcd,zai] at V;subst V;exact h3
     |some u=>simp only[bv,zaB] at V;simp only[V];exact h3
    |some l'=>
     simp only[bv,zaB] at h1;cases hi with
     |none=>simp only[bv,zcd,zai] at V;subst V;simp only[h1];exact h3
     |some u=>simp only[bv,zaB] at V;simp only[h1,V];exact h3
   exact KW.fail
  ·exact B
  rename_i p I1 Qo;refine SU.mono λq L=> ?_;unfold pv;simp only[A];split
  next b H=>
   exfalso;cases U:s.eg g x with
   |d y=>
    rw[U] at H;cases y with
    |str l=>exact I1 l U
    |agg cs=>simp only[P.cY,D.cY] at H;split at H<;>cases H
    |_=>cases H
   |_=>rw[U] at H;cases H
  exact L
 next c A=>
  split
  next hc=>
   split
   ·rename_i x cW hu;split
    next l hx=>refine KW.ret ?_;obtain⟨t,ht0,ht⟩:=zbs.1 hu;unfold pv;simp only[A,hc,cW,hx,P.cY,D.cY,D.fZ];exact GF ht0 ht l
    exact KW.fail
   exact B
  next hc=>
   split
   next k a k' b cW=>refine KW.ret ?_;rw[show min a b=if b<a then b else a by omega];unfold pv;simp only[A,hc,cW,dS,P.cY,D.cY,D.fZ];rfl
   exact B
  next hc=>
   split
   next k a k' b cW=>refine KW.ret ?_;rw[show max a b=if b>a then b else a by omega];unfold pv;simp only[A,hc,cW,dS,P.cY,D.cY,D.fZ];rfl
   exact B
  exact B
 exact B
end
end Pi
namespace Pi
open Go
def gj(G:Nat->W) n g:=λm=>if m=n then g else G m
theorem aM G n g:gj G n g n=g:=by simp[gj]
theorem bW{G n m} g (h:m≠n):gj G n g m=G m:=by simp[gj,h]
theorem bH G n:gj G n (G n)=G:=by funext m;simp[gj];intro h;rw[h]
theorem nw.mono{F F' w w' cs k}{es}(H: ∀b,F b->F' b)(A: ∀b,F b->w'.heap[b]?=w.heap[b]?)(h:nw F w cs k es):nw F' w' cs k es:=
 λi x l=>let ⟨h1,h2,h3⟩:=h i x l;⟨h1,h2,λj c B=>(h3 j c B).mono H A⟩
theorem ny.mono{Q F F' w w' G G'}{R R' n o}(h:ny Q F w G R n o)(X: ∀b,F b->F' b)(V: ∀b,F b->w'.heap[b]?=w.heap[b]?)(hn:Names G G' R R')
  (hG:G' n=G n) (hb: ∀b,a7 (G n) o b->w'.heap[b]?=w.heap[b]?):ny Q F' w' G' R' n o:=by
 cases o with
 |gone=>trivial
 |box T ps=>obtain⟨b,cs,l,U,B,H,A⟩:=h;exact⟨b,cs,hG.trans l,(hb b (by simp[a7,l,aI])).trans U,B,H,λi p hp=>(A i p hp).mono X V hn⟩
 |arr ty fz es=>
  rcases h with⟨l,he⟩| ⟨b,cap,cs,k,l,U,B,H,A,h4,h5,h6,h7⟩
  ·exact .inl ⟨hG.trans l,he⟩
  refine .inr ⟨b,cap,cs,k,hG.trans l,?_,B,H,A,h4,h5,λhf=>X _ (h6 hf),h7.mono X V⟩;cases fz with
  |true=>exact(V b (h6 rfl)).trans U
  |false=>exact(hb b (by simp[a7,l,aI])).trans U
 |deep x p=>
  obtain⟨v,bs,l,h0,h5⟩:=h;have hb: ∀b∈bs,w'.heap[b]?=w.heap[b]?:=λb B=>hb b (by show b∈JR (G n);rw[l,oQ];exact B);refine⟨v,bs,hG.trans l,λb B=> ?_,λw'' H=> ?_⟩
  ·have A:=hb b B;rw[zby (h0 b B)] at A;exact(zar.1 A).1
  exact h5 w'' λb A=>A.elim (λA=>(H b (.inl A)).trans (hb b A)) λA=>(H b (.inr (X b A))).trans (V b A)
 |ji s p=>obtain⟨b,l,U⟩:=h;exact⟨b,hG.trans l,(hb b (by simp[a7,l,aI])).trans U⟩
 |map kt get c fz=>
  obtain⟨b,es,L,l,U,B,H⟩:=h;refine⟨b,es,L,hG.trans l,?_,B.mono X V,λhf=>X _ (H hf)⟩;cases fz with
  |true=>exact(V b (H rfl)).trans U
  |false=>exact(hb b (by simp[a7,l,aI])).trans U
 |cS=>trivial
 |fY kt get c p kd=>obtain⟨b,es,L,l,U,B,i,e,H,A,h4⟩:=h;exact⟨b,es,L,hG.trans l,(hb b (by simp[a7,l,aI])).trans U,B.mono X V,i,e,H,A.mono X V hn,h4⟩
 |iter kt vt left cur=>
  obtain⟨b,mo,since,seen,last,l,U,B⟩:=h;refine⟨b,mo,since,seen,last,hG.trans l,(hb b (by simp[a7,l,aI])).trans U,?_⟩;rcases B with⟨B,H⟩| ⟨m,es,B,H,A,h4,h5,h6⟩
  ·exact .inl ⟨B,H⟩
  exact .inr ⟨m,es,B,X m H,(V m H).trans A,h4,h5.mono X V,λk v hc=>let ⟨e,a,b,c,d⟩:=h6 k v hc;⟨e,a,b,c,d.mono X V⟩⟩
section
variable{Q:M}{T:Tg}{F:Nat->Prop}{G:Nat->W}{w:World}{a:Act}{s:S}
def mj(G:Nat->W)(R:List (Nat×En)) n (e1:En) g1:=
 ∀e,lk R n=Z e->e.aU<e1.aU\/(e.aU=e1.aU/\(e1.obj.live=O->e.obj.live=O/\g1=G n))
theorem fA{R n e1 g1}(h:mj G R n e1 g1):Names G (gj G n g1) R (ins n e1 R):=by
 constructor
 ·intro m e A;by_cases l:n=m
  ·subst l;refine⟨e1,aX _ _ _,?_,?_⟩
   ·rcases h e A with h |h<;>omega
   intro L B;rcases h e A with h | ⟨_,h⟩
   ·omega
   exact(h B).1
  exact⟨e,by rw[br _ _ l];exact A,zag _,λ_ h=>h⟩
 intro m e e' A H L B;by_cases l:n=m
 ·subst l;rw[aX] at H;cases H;rw[aM];rcases h e A with h | ⟨_,h⟩
  ·omega
  exact .inl (h B).2
 exact .inl (bW _ (za0 l))
theorem ax.gj(h:ax Q T F G w a s){n e1 g1 w'}(fh:mj G s.rg n e1 g1)
  (eT: ∀b,b<w.heap.size-> ¬(∃e,lk s.rg n=Z e/\a7 (G n) e.obj b)->w'.heap[b]?=w.heap[b]?)
  (gM:w.heap.size<=w'.heap.size) (Wm:w'.os=w.os) (Wn:w'.tape=w.tape) (bF:w'.output=w.output)
  (H: ∀b,a7 g1 e1.obj b->w.heap.size<=b\/ ∃e,lk s.rg n=Z e/\a7 (G n) e.obj b)
  (ho:ny Q F w' (Pi.gj G n g1) (ins n e1 s.rg) n e1.obj)
  (V: ∀i,e1.tag=Z i->e1.obj.live=O->jk g1 (T i)) (hdr:w.drawn<=w'.drawn:=by exact zag _):
  ax Q T F (Pi.gj G n g1) w' a {s with rg:=ins n e1 s.rg}/\Ext (Own G s.rg) (Own (Pi.gj G n g1) (ins n e1 s.rg)) F F w w':=by
 have hn:=fA fh;have X: ∀b,F b->w'.heap[b]?=w.heap[b]?:=λb l=>eT b (h.gL b l) (λ⟨e,A,L⟩=>h.jb n e b A L l);have rh: ∀m e b,n≠m->lk s.rg m=Z e->a7 (G m) e.obj b->w'.heap[b]?=w.heap[b]?:=λm e b B A l=>eT b ((h.rg m e A).lt l) (λ⟨e',cP,L⟩=>B (h.own n m e' e b cP A L l));have R: ∀m e,lk (ins n e1 s.rg) m=Z e->(m=n/\e=e1)\/(n≠m/\lk s.rg m=Z e):=λm e A=>by
  by_cases B:n=m
  ·subst B;rw[aX] at A;cases A;exact .inl ⟨rfl,rfl⟩
  rw[br _ _ B] at A;exact .inr ⟨B,A⟩
 have oT:Ext (Own G s.rg) (Own (Pi.gj G n g1) (ins n e1 s.rg)) F F w w':=by
  refine⟨λ_ h=>h,λ_ h=> .inl h,?_,?_,gM,Wm,Wn,bF⟩
  ·rintro b ⟨m,e,A,l⟩;rcases R m e A with⟨rfl,rfl⟩| ⟨B,A⟩
   ·rw[aM] at l;rcases H b l with U | ⟨e0,Qp,xd⟩
    ·exact .inr U
    exact .inl ⟨_,e0,Qp,xd⟩
   rw[bW _ (za0 B)] at l;exact .inl ⟨m,e,A,l⟩
  intro b l cD;exact eT b l (λ⟨e,A,L⟩=>cD ⟨n,e,A,L⟩)
 refine⟨⟨h.oR.go oT,h.size,λt p hp=>(h.tm t p hp).mono (λ_ h=>h) X hn,?_,?_,?_,?_,?_,λb l=>⟨(h.z b l).1,(X b (h.z b l).1).trans (h.z b l).2⟩,zaJ h.dr hdr,zaJ h.sz gM⟩,oT⟩
 ·intro m e A;rcases R m e A with⟨rfl,rfl⟩| ⟨B,A⟩
  ·exact ho
  exact(h.rg m e A).mono (λ_ h=>h) X hn (bW _ (za0 B)) (λb l=>rh m e b B A l)
 ·intro m1 m2 e e' b A cP l L;rcases R m1 e A with⟨rfl,rfl⟩| ⟨M1,zh⟩<;>rcases R m2 e' cP with⟨rfl,rfl⟩| ⟨EI,I2⟩
  ·rfl
  ·rw[aM] at l;rw[bW _ (za0 EI)] at L;rcases H b l with U | ⟨e0,Qp,xd⟩
   ·have:=(h.rg m2 e' I2).lt L;omega
   exact h.own _ _ _ _ b Qp I2 xd L
  ·rw[aM] at L;rw[bW _ (za0 M1)] at l;rcases H b L with U | ⟨e0,Qp,xd⟩
   ·have:=(h.rg m1 e zh).lt l;omega
   exact h.own _ _ _ _ b zh Qp l xd
  rw[bW _ (za0 M1)] at l;rw[bW _ (za0 EI)] at L;exact h.own _ _ _ _ b zh I2 l L
 ·intro m e b A l DE;rcases R m e A with⟨rfl,rfl⟩| ⟨B,A⟩
  ·rw[aM] at l;rcases H b l with U | ⟨e0,Qp,xd⟩
   ·have:=h.gL b DE;omega
   exact h.jb _ _ b Qp xd DE
  rw[bW _ (za0 B)] at l;exact h.jb m e b A l DE
 ·intro b l;have:=h.gL b l;omega
 intro m e i A hi hl;rcases R m e A with⟨rfl,rfl⟩| ⟨B,A⟩
 ·rw[aM];exact V i hi hl
 rw[bW _ (za0 B)];exact h.tag m e i A hi hl
theorem cL(h:ax Q T F G w a s){dst p s'}(l:s.put dst p=Z s'){v}(L:bR F w G s.rg a.tmps v p):
  ax Q T F G w (a.put dst v) s'/\s'.rg=s.rg:=by
 cases dst with
 |none=>simp[S.put] at l;subst l;exact⟨h,rfl⟩
 |some d=>
  simp only[S.put] at l;split at l
  next hd=>
   simp at l;subst l;have hd:d<s.n:=by simp[Nat.blt] at hd;omega
   have H:=zaR hd h.size;refine⟨⟨h.oR,by simp[Act.put];exact h.size,λt q A=> ?_,h.rg,h.own,h.jb,h.gL,h.tag,h.z,h.dr,h.sz⟩,rfl⟩;simp only[Act.put];simp only at A;by_cases B:d=t
   ·subst B;rw[aX] at A;cases A;have e:(a.tmps.setIfInBounds d v).getD d undef=v:=by simp[Array.getD,H]
    rw[e];exact L
   rw[br _ _ B] at A;have e:(a.tmps.setIfInBounds d v).getD t undef=a.tmps.getD t undef:=by simp only[zaA];rw[zaO B]
   rw[e];exact h.tm t q A
  cases l
theorem S.ml{n v o s'}(h:s.new n o=Z (s',v)):s'={s with rg:=ins n ⟨v,Y,o⟩ s.rg}/\ ∀e,lk s.rg n=Z e->e.aU<v:=by
 unfold S.new at h;split at h
 next B=>simp at h;obtain⟨rfl,rfl⟩:=h;exact⟨rfl,λe l=>by rw[B] at l;cases l⟩
 rename_i e l;split at h
 next H=>simp at h;obtain⟨rfl,rfl⟩:=h;exact⟨rfl,λe' A=>by rw[l] at A;cases A;omega⟩
 split at h
 ·simp at h;obtain⟨rfl,rfl⟩:=h;exact⟨rfl,λe' A=>by rw[l] at A;cases A;omega⟩
 cases h
theorem mn(h:ax Q T F G w a s){n v o s'}(H:s.new n o=Z (s',v)){g1 w'}
  (eT: ∀b,b<w.heap.size->w'.heap[b]?=w.heap[b]?)
  (gM:w.heap.size<=w'.heap.size) (Wm:w'.os=w.os) (Wn:w'.tape=w.tape) (bF:w'.output=w.output)
  (l: ∀b,a7 g1 o b->w.heap.size<=b)
  (L:ny Q F w' (Pi.gj G n g1) (ins n ⟨v,Y,o⟩ s.rg) n o) (hdr:w.drawn<=w'.drawn:=by exact zag _):
  ax Q T F (Pi.gj G n g1) w' a s'/\Ext (Own G s.rg) (Own (Pi.gj G n g1) s'.rg) F F w w'/\Names G (Pi.gj G n g1) s.rg s'.rg/\lk s'.rg n=Z ⟨v,Y,o⟩:=by
 obtain⟨rfl,AW⟩:=S.ml H;have B:mj G s.rg n ⟨v,Y,o⟩ g1:=λe U=> .inl (AW e U);obtain⟨X,V⟩:=h.gj (e1:=⟨v,Y,o⟩) B (λb A _=>eT b A) gM Wm Wn bF (λb A=> .inl (l b A)) L (λi R=>by cases R) hdr;exact⟨X,V,fA B,aX _ _ _⟩
end
end Pi
namespace Pi
open Go
theorem Names.trans{G1 G2 G3 R1 R2 X}(h:Names G1 G2 R1 R2)(k:Names G2 G3 R2 X):Names G1 G3 R1 X:=by
 constructor
 ·intro n e U;obtain⟨e',L,hv,R⟩:=h.on n e U;obtain⟨A,l,Ey,B⟩:=k.on n e' L;exact⟨A,l,by omega,λh1 h2=>R (by omega) (B (by omega) h2)⟩
 intro n e A U l hv R;obtain⟨e',L,Ey,B⟩:=h.on n e U;obtain⟨e3,H,hv3,V⟩:=k.on n e' L;rw[l] at H;cases H;exact(k.same n e' A L l (by omega) R).trans (h.same n e e' U L (by omega) (V (by omega) R))
section
variable{Q:M}{T:Tg}{F:Nat->Prop}{G:Nat->W}{w:World}{a:Act}{s:S}
theorem Qq(h:ax Q T F G w a s){n p q t s'}(l:uS s n p t=Z (s',q)){v}(A:aL F w G s.rg v p):
  ∃B,ax Q T F B w a s'/\Ext (Own G s.rg) (Own B s'.rg) F F w w/\Names G B s.rg s'.rg/\aL F w B s'.rg v q:=by
 unfold uS at l;split at l
 next e=>
  split at l
  next s1 aU H=>
   simp at l;obtain⟨rfl,rfl⟩:=l;obtain⟨X,V,U,R⟩:=mn h H (g1:= .slice Y 0 0) (w':=w) (λ_ _=>rfl) (zag _) rfl rfl rfl (λb L=>by simp[a7,aI] at L) (.inl ⟨aM _ _ _,rfl⟩);refine⟨_,X,V,U,?_⟩;cases A with
   |d A=>cases A;exact .sl n aU 0 _ rfl ⟨_,R,zag _,λ_ _=>⟨Y,0,0,aM _ _ _,rfl,zag _⟩⟩
  cases l
 simp at l;obtain⟨rfl,rfl⟩:=l;exact⟨G,h,Ext.refl _ _ _,Names.refl _ _,A⟩
theorem ri: ∀ps A n s G s' qs vs,ax Q T F G w a s->cT s n ps A=Z (s',qs)->J vs=J ps->
  (∀(i:Nat) (v:W) (c:P),vs[i]?=Z v->ps[i]?=Z c->aL F w G s.rg v c)->
  ∃B,ax Q T F B w a s'/\Ext (Own G s.rg) (Own B s'.rg) F F w w/\Names G B s.rg s'.rg/\J vs=J qs/\ ∀(i:Nat) (v:W) (c:P),vs[i]?=Z v->qs[i]?=Z c->aL F w B s'.rg v c
 | [],A,n,s,G,s',qs,vs,h,hs,hl,hv=>by simp[cT] at hs;obtain⟨rfl,rfl⟩:=hs;exact⟨G,h,Ext.refl _ _ _,Names.refl _ _,hl,λi v c _ l=>by simp at l⟩
 |p::ps,A,n,s,G,s',qs,vs,h,hs,hl,hv=>by
  cases vs with
  |nil=>simp at hl
  |cons v vs=>
   simp only[cT] at hs;split at hs
   ·cases hs
   rename_i s1 q V;split at hs
   ·rename_i s2 H U;simp at hs;obtain⟨rfl,rfl⟩:=hs;obtain⟨G1,a1,a2,R,a4⟩:=Qq h V (hv 0 v p (by simp) (by simp));obtain⟨G2,b1,b2,L,b4,X⟩:=ri ps A.tail (n+1) s1 G1 s2 H vs a1 U (by simpa using hl)
     (λi u c hu l=>(hv (i+1) u c (by simpa using hu) (by simpa using l)).mono (λ_ h=>h) (λ_ _=>rfl) R)
    refine⟨G2,b1,a2.trans b2,R.trans L,by simpa using b4,λi u c hu l=> ?_⟩;cases i with
    |zero=>simp at hu l;subst hu;subst l;exact a4.mono (λ_ h=>h) (λ_ _=>rfl) L
    |succ i=>exact X i u c (by simpa using hu) (by simpa using l)
   cases hs
theorem cb(w:World) o b (h:b<w.heap.size):(w.alloc o).heap[b]?=w.heap[b]?:=heap_alloc_old w o b h
theorem EJ(h:ax Q T F G w a s){dst t ps s'}(l:pC Q s dst t ps=Z s'){cs}(hl:J cs.toList=J ps)(gT: ∀u∈cs.toList,u.oneCell'=O)
  (hv: ∀(i:Nat) (v:W) (c:P),cs.toList[i]?=Z v->ps[i]?=Z c->aL F w G s.rg v c):
  ∃X,ax Q T F X (w.alloc (.cells cs t)) (a.put dst (.pointer (Z ⟨w.heap.size,0,Y⟩))) s'/\Ext (Own G s.rg) (Own X s'.rg) F F w (w.alloc (.cells cs t)):=by
 unfold pC at l;split at l
 ·cases l
 rename_i s1 qs h1;split at l
 next s2 v L=>
  obtain⟨G1,V,a2,a3,a4,a5⟩:=ri ps _ _ s G s1 qs cs.toList h h1 hl hv;have U: ∀b,b<w.heap.size->(w.alloc (.cells cs t)).heap[b]?=w.heap[b]?:=λb B=>heap_alloc_old w _ b B;obtain⟨b1,b2,b3,b4⟩:=mn V L (g1:= .pointer (Z ⟨w.heap.size,0,Y⟩)) (w':=w.alloc (.cells cs t)) U (by simp) rfl rfl rfl (λb B=>by simp[a7,aI] at B;omega)
   ⟨w.heap.size,cs,aM _ _ _,heap_alloc_new w _,by simpa using a4,gT,λi p H=>by
    have hi:=(zab.1 H).1;have A:i<J cs.toList:=by omega
    have:=a5 i _ p (zae A) H;have e:cs.getD i undef=cs.toList[i]:=by simp[Array.getD,show i<cs.size by simpa using A]
    rw[e];obtain⟨hs2,NT⟩:=S.ml L;exact this.mono (λ_ h=>h) (λb B=>U b (V.gL b B)) (by have:=fA (G:=G1) (g1:= .pointer (Z ⟨w.heap.size,0,Y⟩)) (R:=s1.rg) (n:=site dst) (e1:=⟨v,Y,.box t qs⟩) (λe he=> .inl (NT e he));exact this)⟩
  obtain⟨c1,c2⟩:=cL b1 l (v:= .pointer (Z ⟨w.heap.size,0,Y⟩)) (bR.of (.ref (site dst) v 0 _ ⟨_,b4,zag _,λ_ _=>⟨w.heap.size,aM _ _ _,rfl⟩⟩ rfl));refine⟨_,c1,?_⟩;rw[c2];exact a2.trans b2
 cases l
end
end Pi
namespace Pi
open Go
section
variable{Q:M}{T:Tg}{F:Nat->Prop}{G:Nat->W}{w:World}{a:Act}{s:S}
theorem S.fb{n e o}(h:lk s.rg n=Z e):s.setObj n o={s with rg:=ins n ⟨e.aU,e.tag,o⟩ s.rg}:=by simp[S.setObj,h]
theorem ax.freeze(h:ax Q T F G w a s){n e ty fz}{es}(U:lk s.rg n=Z e)(bZ:e.obj= .arr ty fz es):
  ∃F',ax Q T F' G w a (s.setObj n (.arr ty O es))/\Ext (Own G s.rg) (Own G (s.setObj n (.arr ty O es)).rg) F F' w w/\Names G G s.rg (s.setObj n (.arr ty O es)).rg/\(∀b,aI (G n)=Z b->F' b)/\(∀b,F b->F' b):=by
 rw[S.fb U];have hn:Names G G s.rg (ins n ⟨e.aU,e.tag,.arr ty O es⟩ s.rg):=by have:=fA (G:=G) (g1:=G n) (R:=s.rg) (n:=n) (e1:=⟨e.aU,e.tag,.arr ty O es⟩) (λe' cP=>by rw[U] at cP;cases cP;exact .inr ⟨rfl,λ_=>⟨by rw[bZ];rfl,rfl⟩⟩);rwa [bH] at this
 have L: ∀m e1,lk (ins n ⟨e.aU,e.tag,Obj.arr ty O es⟩ s.rg) m=Z e1->(m=n/\e1=⟨e.aU,e.tag,.arr ty O es⟩)\/(n≠m/\lk s.rg m=Z e1):=λm e1 A=>by
  by_cases H:n=m
  ·subst H;rw[aX] at A;cases A;exact .inl ⟨rfl,rfl⟩
  rw[br _ _ H] at A;exact .inr ⟨H,A⟩
 have X:=h.rg n e U;rw[bZ] at X;have rj: ∀b,aI (G n)=Z b->b<w.heap.size:=λb l=>by
  rcases X with⟨hg,_⟩| ⟨b',cap,cs,k,hg,hh,_⟩
  ·simp[hg,aI] at l
  simp[hg,aI] at l;subst l;exact(zar.1 hh).1
 have dO: ∀b,aI (G n)=Z b->F b\/a7 (G n) e.obj b:=λb l=>by
  rw[bZ];cases fz with
  |false=>right;simp[a7,l]
  |true=>
   left;rcases X with⟨hg,_⟩| ⟨b',cap,cs,k,hg,hh,_,_,_,_,_,hf,_⟩
   ·simp[hg,aI] at l
   simp[hg,aI] at l;subst l;exact hf rfl
 refine⟨λb=>F b\/aI (G n)=Z b,⟨h.oR.IZ (λb l=>l.elim .inl λl=>(dO b l).imp id λB=>⟨n,e,U,B⟩) (λb l=>by
  obtain⟨m,e1,A,B⟩:=l;rcases L m e1 A with⟨rfl,rfl⟩| ⟨_,A⟩
  ·simp[a7] at B
  exact⟨m,e1,A,B⟩),h.size,λt p hp=>(h.tm t p hp).mono (λ_ h=> .inl h) (λ_ _=>rfl) hn,?_,?_,?_,?_,?_,λb l=>⟨.inl (h.z b l).1,(h.z b l).2⟩,h.dr,h.sz⟩,?_,hn,λb l=> .inr l,λb l=> .inl l⟩
 ·intro m e1 A;rcases L m e1 A with⟨rfl,rfl⟩| ⟨H,A⟩
  ·rcases X with⟨hg,h0⟩| ⟨b',cap,cs,k,hg,hh,A,B,h3,h4,h5,h6,h7⟩
   ·exact .inl ⟨hg,h0⟩
   exact .inr ⟨b',cap,cs,k,hg,hh,A,B,h3,h4,h5,λ_=> .inr (by simp[hg,aI]),h7.mono (λ_ h=> .inl h) (λ_ _=>rfl)⟩
  exact(h.rg m e1 A).mono (λ_ h=> .inl h) (λ_ _=>rfl) hn rfl (λ_ _=>rfl)
 ·intro m1 m2 e1 e2 b A B r7 kN;rcases L m1 e1 A with⟨rfl,rfl⟩| ⟨M1,Wl⟩
  ·simp[a7] at r7
  rcases L m2 e2 B with⟨rfl,rfl⟩| ⟨EI,h2'⟩
  ·simp[a7] at kN
  exact h.own _ _ _ _ b Wl h2' r7 kN
 ·intro m e1 b A l V;rcases L m e1 A with⟨rfl,rfl⟩| ⟨H,A⟩
  ·simp[a7] at l
  rcases V with V |V
  ·exact h.jb m e1 b A l V
  rcases dO b V with B |B
  ·exact h.jb m e1 b A l B
  exact H (h.own _ _ _ _ b U A B l)
 ·intro b l;rcases l with l |l
  ·exact h.gL b l
  exact rj b l
 ·intro m e1 i A hi hl;rcases L m e1 A with⟨rfl,rfl⟩| ⟨H,A⟩
  ·exact h.tag _ e i U hi (by rw[bZ];rfl)
  exact h.tag m e1 i A hi hl
 refine⟨λ_ h=> .inl h,?_,?_,λ_ _ _=>rfl,zag _,rfl,rfl,rfl⟩
 ·intro b l;rcases l with l |l
  ·exact .inl l
  rcases dO b l with B |B
  ·exact .inl B
  exact .inr (.inl ⟨n,e,U,B⟩)
 rintro b ⟨m,e1,A,l⟩;rcases L m e1 A with⟨rfl,rfl⟩| ⟨H,A⟩
 ·simp[a7] at l
 exact .inl ⟨m,e1,A,l⟩
theorem D.zi{x:D}{cs}(h:J cs=J x.cells)(A: ∀c∈cs,c.b9=O):(x.aY cs).cells=cs:=by
 have one: ∀(y:D),J cs=1->(cs.headD y).cells=cs:=λy l=>by
  cases cs with
  |nil=>simp at l
  |cons c r=>have:=zaz (by simpa using l);subst this;have:=A c (by simp);cases c<;>simp_all [D.cells,D.b9]
 cases x<;>first |rfl |exact one _ (by simpa [D.cells] using h)
theorem zD(h:ax Q T F G w a s){p s' x}(l:qY Q s p=Z (s',x)){v}(H:aL F w G s.rg v p):
  ∃F',ax Q T F' G w a s'/\Ext (Own G s.rg) (Own G s'.rg) F F' w w/\Names G G s.rg s'.rg/\(∀b,F b->F' b)/\bf F' w v x:=by
 unfold qY at l;split at l
 ·simp at l;obtain⟨rfl,rfl⟩:=l;cases H with |d H=>exact⟨F,h,Ext.refl _ _ _,Names.refl _ _,λ_ h=>h,H⟩
 next n aU len=>
  split at l
  next ty fz es V=>
   obtain⟨e,A,dR,B⟩:=S.bY V;split at l
   ·rename_i k hk;simp at l;obtain⟨rfl,rfl⟩:=l;cases H with
    |sl _ _ _ _ h1 hr=>obtain⟨F',f1,f2,f3,X,R⟩:=h.freeze A B;refine⟨F',f1,f2,f3,R,?_⟩;have L:=h.rg n e A;rw[B] at L;exact yd (s:=s) L hk (hr.at A dR (by rw[B];rfl)) X R
   cases l
  cases l
 next n aU k0 off len=>
  split at l
  next ty fz es V=>
   obtain⟨e,A,dR,B⟩:=S.bY V;split at l
   ·rename_i k hk;split at l
    ·rename_i U;have U:=zad U;subst U;simp at l;obtain⟨rfl,rfl⟩:=l;cases H with
     |nu _ _ _ _ _ _ h1 hr=>obtain⟨F',f1,f2,f3,X,R⟩:=h.freeze A B;refine⟨F',f1,f2,f3,R,?_⟩;have L:=h.rg n e A;rw[B] at L;exact Gy (s:=s) L hk (hr.at A dR (by rw[B];rfl)) X R
    cases l
   cases l
  cases l
 cases l
theorem bf.up{F F' v x}(h:bf F w v x)(l: ∀b,F b->F' b):bf F' w v x:=h.mono l (λ_ _=>rfl)
theorem Qr: ∀ps s F s' xs vs,ax Q T F G w a s->sG Q s ps=Z (s',xs)->J vs=J ps->
  (∀(i:Nat) (v:W) (c:P),vs[i]?=Z v->ps[i]?=Z c->aL F w G s.rg v c)->
  ∃F',ax Q T F' G w a s'/\Ext (Own G s.rg) (Own G s'.rg) F F' w w/\Names G G s.rg s'.rg/\(∀b,F b->F' b)/\J vs=J xs/\ ∀(i:Nat) (v:W) (c:D),vs[i]?=Z v->xs[i]?=Z c->bf F' w v c
 | [],s,F,s',xs,vs,h,hs,hl,hv=>by simp[sG] at hs;obtain⟨rfl,rfl⟩:=hs;exact⟨F,h,Ext.refl _ _ _,Names.refl _ _,λ_ h=>h,hl,λi v c _ l=>by simp at l⟩
 |p::ps,s,F,s',xs,vs,h,hs,hl,hv=>by
  cases vs with
  |nil=>simp at hl
  |cons v vs=>
   simp only[sG] at hs;split at hs
   ·cases hs
   rename_i s1 x V;split at hs
   ·rename_i s2 A U;simp at hs;obtain⟨rfl,rfl⟩:=hs;obtain⟨F1,a1,a2,L,H,a5⟩:=zD h V (hv 0 v p (by simp) (by simp));obtain⟨F2,b1,b2,b3,B,b5,X⟩:=Qr ps s1 F1 s2 A vs a1 U (by simpa using hl)
     (λi u c hu l=>(hv (i+1) u c (by simpa using hu) (by simpa using l)).mono H (λ_ _=>rfl) L)
    refine⟨F2,b1,a2.trans b2,L.trans b3,λb R=>B b (H b R),by simpa using b5,λi u c hu l=> ?_⟩;cases i with
    |zero=>simp at hu l;subst hu;subst l;exact a5.up B
    |succ i=>exact X i u c (by simpa using hu) (by simpa using l)
   cases hs
theorem Wo(h:ax Q T F G w a s){p s' x}(l:IZ Q s p=Z (s',x)){v}(A:aL F w G s.rg v p):
  ∃F',ax Q T F' G w a s'/\Ext (Own G s.rg) (Own G s'.rg) F F' w w/\Names G G s.rg s'.rg/\(∀b,F b->F' b)/\bf F' w v x:=by
 unfold IZ at l;split at l
 next ps=>
  split at l
  next s1 xs U=>
   simp at l;obtain⟨rfl,rfl⟩:=l;cases A with
   |agg vs _ hl gT hc=>
    obtain⟨F',f1,f2,f3,X,V,H⟩:=Qr ps s F s1 xs vs h U hl hc;exact⟨F',f1,f2,f3,X,.agg vs xs V (λc R=>by
     obtain⟨i,B⟩:=zaD R;have L:i<J vs:=by have:=(zab.1 B).1;omega
     exact(H i _ c (zae L) B).b9 (gT _ (zay L))) H⟩
  cases l
 exact zD h l A
theorem Wp{t v x}(h:bf F w v x):bf F w v (nzC Q t x):=by
 cases t with
 |none=>exact h
 |some e=>
  unfold nzC;simp only;split
  ·split
   ·cases h;exact .Qd Y _ 0
   exact h
  exact h
theorem Wq{t x}(h:x.b9=O):(nzC Q t x).b9=O:=by
 cases t with
 |none=>exact h
 |some e=>
  unfold nzC;simp only;split
  ·split<;>rfl
  exact h
theorem J3: ∀h cs,J (JQ Q h cs)=J cs
 | [],cs=>by cases cs<;>rfl
 |_::_,[]=>rfl
 |t::h,c::cs=>by simp[JQ,J3 h cs]
theorem AX: ∀(A:List (Option I)) (cs:List D) (i:Nat) (c:D),(JQ Q A cs)[i]?=Z c-> ∃t l,cs[i]?=Z l/\c=nzC Q t l
 | [],cs,i,c,h=>⟨Y,c,by cases cs<;>exact h,rfl⟩
 |_::_,[],i,c,h=>by simp[JQ] at h
 |t::A,l::cs,0,c,h=>by simp[JQ] at h;exact⟨t,l,rfl,h.symm⟩
 |t::A,l::cs,i+1,c,h=>by simp only[JQ,zcE] at h;exact AX A cs i c h
theorem Wr{t v x}(h:bf F w v x):bf F w v (nzD Q t x):=by
 unfold nzD;split
 next cs=>
  cases h with
  |agg vs _ hl cH hc=>
   refine .agg vs _ (by rw[J3];exact hl) (λc l=> ?_) (λi u c hu l=> ?_)
   ·obtain⟨i,R⟩:=zaD l;obtain⟨L,H,B,A⟩:=AX _ _ _ _ R;rw[A];exact Wq (cH H (zas B))
   obtain⟨L,H,B,A⟩:=AX _ _ _ _ l;rw[A];exact Wp (hc i u H hu B)
 ·exact Wp h
 exact h
theorem xe{t p s' x}(h:pD Q s t p=Z (s',x)): ∃y,IZ Q s p=Z (s',y)/\(x=y\/x=nzD Q t y):=by
 unfold pD at h;split at h
 ·exact⟨x,h,.inl rfl⟩
 split at h
 next s1 y l=>rw[D.force_eq] at h;simp at h;obtain⟨rfl,rfl⟩:=h;exact⟨y,l,.inr rfl⟩
 cases h
theorem zF(h:ax Q T F G w a s){t p s' x}(B:pD Q s t p=Z (s',x)){v}(A:aL F w G s.rg v p):
  ∃F',ax Q T F' G w a s'/\Ext (Own G s.rg) (Own G s'.rg) F F' w w/\Names G G s.rg s'.rg/\(∀b,F b->F' b)/\bf F' w v x:=by
 obtain⟨y,L,H⟩:=xe B;obtain⟨F',X,V,U,R,l⟩:=Wo h L A;refine⟨F',X,V,U,R,?_⟩;rcases H with rfl |rfl
 ·exact l
 exact Wr l
end
end Pi
namespace Pi
open Go
section
variable{Q:M}{T:Tg}{F:Nat->Prop}{G:Nat->W}{w:World}{a:Act}{s:S}
theorem yh{t k}(hk:sz Q t=Z k){b o cs ty}(B:w.heap[b]?=Z (.cells cs ty (0,0))){v}(l:J v.cells.toList=k)(A:o+k<=cs.size)(H: ∀u∈v.cells.toList,u.oneCell'=O):
  (Instr.storeAt t (.pointer (Z ⟨b,o,Y⟩)) v).run Q w= .ok () (w.setRow b (cs.toList.take o++v.cells.toList++cs.toList.drop (o+k)).toArray):=by
 have h:=run_storeCells_at Q b o ty v.cells.toList 0 cs w B (by omega) H;simp only[zb9,l] at h;have L:v.cells.size=k:=by simpa using l
 simp[Instr.storeAt,Instr.sureAddr,storeVar,Sem.run_bind,run_sizeOf hk,L,h]
theorem fB(cs:Array W) i:cs.getD i undef=(cs.toList[i]?).getD undef:=by simp
theorem nI(w:World) b cs c (h:c≠b):(w.setRow b cs).heap[c]?=w.heap[c]?:=setRow_other w b c cs h
theorem SV(h:ax Q T F G w a s){t pa pv s'}(B:iu Q s t pa pv=Z s'){va v}(ha:aL F w G s.rg va pa)(hv:aL F w G s.rg v pv):
  ∃w' F' G',(Instr.storeAt t va v).run Q w= .ok () w'/\ax Q T F' G' w' a s'/\Ext (Own G s.rg) (Own G' s'.rg) F F' w w':=by
 unfold iu at B;split at B
 ·cases B
 rename_i k hk;split at B
 next n aU off=>
  split at B
  next s1 val dO=>
   split at B
   ·rename_i ty ps ho;split at B
    ·rename_i fa;simp only[zac,zca] at fa;obtain⟨⟨U,hle⟩,jE⟩:=fa;have U:J val.cells=k:=by simpa using U
     simp at B;subst B;obtain⟨G1,a1,a2,a3,a4⟩:=Qq h dO hv;obtain⟨e,L,dR,R⟩:=S.bY ho;have Va:=ha.mono (λ_ h=>h) (λ_ _=>rfl) a3;cases Va with
     |ref _ _ _ _ hr h1=>
      obtain⟨b,hG,rfl⟩:=hr.at L dR (by rw[R];rfl);have hO:=a1.rg n e L;rw[R] at hO;obtain⟨b',cs,kq,hh,dy,cH,jU⟩:=hO;rw[hG] at kq;simp at kq;subst kq;obtain⟨X,c2,gT⟩:=AR a4 jE;rw[U] at X;refine⟨_,F,G1,yh hk hh X (by omega) gT,?_⟩;rw[S.fb L];have rj:=(zar.1 hh).1;have Ws:=a1.jb n e b L (by rw[R];simp[a7,hG,aI]);have fh:mj G1 s1.rg n ⟨e.aU,e.tag,.box ty (splice ps off val.cells)⟩ (G1 n):=λe' cP=>by rw[L] at cP;cases cP;exact .inr ⟨rfl,λ_=>⟨by rw[R];rfl,rfl⟩⟩
      have xf:=fA fh;rw[bH] at xf;have hF: ∀c,F c->(w.setRow b (cs.toList.take off++v.cells.toList++cs.toList.drop (off+k)).toArray).heap[c]?=w.heap[c]?:=λc l=>nI w b _ c (λe=>Ws (e▸l));have qlr:off+J val.cells<=J ps:=by omega
      have H:off+J v.cells.toList<=J cs.toList:=by rw[X];simp;omega
      have e2:cs.toList.drop (off+k)=cs.toList.drop (off+J v.cells.toList):=by rw[X]
      obtain⟨d1,d2⟩:=a1.gj (e1:=⟨e.aU,e.tag,.box ty (splice ps off val.cells)⟩) (g1:=G1 n) (w':=w.setRow b (cs.toList.take off++v.cells.toList++cs.toList.drop (off+k)).toArray) fh
       (λc l cD=>nI w b _ c (λe'=>cD ⟨e,L,by rw[e',R];simp[a7,hG,aI]⟩)) (by simp) rfl rfl rfl
       (λc l=> .inr ⟨e,L,by rw[R];exact l⟩)
       (by
        rw[bH];refine⟨b,_,hG,setRow_heap w b cs _ ty _ hh,?_,?_,?_⟩
        ·simp only[splice,zcz];rw[e2,mc _ _ _ H,mc _ _ _ qlr];simpa using dy
        ·intro c l;simp only[zaK] at l;rcases l with(l |l)|l
         ·exact cH c (zbm l)
         ·exact gT c l
         exact cH c (zcm l)
        intro i p hp;simp only[splice] at hp;rw[jV _ _ _ _ qlr] at hp;rw[fB];simp only[];rw[e2,jV _ _ _ _ H,X];rw[U] at hp;by_cases hi:off<=i/\i<off+k
        ·rw[zau hi] at hp⊢;have aZ:i-off<J v.cells.toList:=by omega
         rw[zae aZ];exact(c2 _ _ p (zae aZ) hp).mono (λ_ h=>h) hF xf
        rw[zat hi] at hp⊢;have:=jU i p hp;rw[fB] at this;exact this.mono (λ_ h=>h) hF xf)
       (λi hi hl=>a1.tag n e i L hi (by rw[R];rfl))
      rw[bH] at d1 d2;exact⟨d1,a2.trans d2⟩
    cases B
   cases B
  cases B
 next n aU i A off=>
  split at B
  next s1 x I3=>
   split at B
   ·rename_i ty es ho;split at B
    ·rename_i y k2 hy uK;split at B
     ·rename_i fa;simp only[zac,zca] at fa;obtain⟨⟨kU,V⟩,hle⟩:=fa;have kU:A=k2:=by simpa using kU
      have V:J x.cells=k:=by simpa using V
      subst kU;simp only[zai] at B;subst B;obtain⟨F1,a1,a2,a3,a4,a5⟩:=zF h I3 hv;obtain⟨e,L,dR,R⟩:=S.bY ho;have Va:=ha.mono a4 (λ_ _=>rfl) a3;cases Va with
      |eB _ _ _ _ _ _ h1 hr=>
       obtain⟨b,N,cap,hG,rfl⟩:=hr.at L dR (by rw[R];rfl);have hO:=a1.rg n e L;rw[R] at hO;rcases hO with⟨kq,_⟩| ⟨b',iZ,cs,k3,kq,hh,hk3,ix,MZ,yf,dy,_,hE⟩
       ·rw[hG] at kq;cases kq
       rw[uK] at hk3;cases hk3;rw[hG] at kq;simp at kq;obtain⟨rfl,rfl,rfl⟩:=kq;obtain⟨X,c2,c3⟩:=eS a5;rw[V] at X;have hi:=(zab.1 hy).1;obtain⟨y1,y2,y3⟩:=hE i y hy;have qtp:i*A+A<=cs.size:=by
        rw[dy]
        calc i*A+A=(i+1)*A:=by rw[zaV,zbw]
         _<=cap*A:=zaq _ (by omega)
       have gT:=l9 a5;refine⟨_,F1,G,yh hk hh X (by omega) gT,?_⟩;rw[S.fb L];have Ws:=a1.jb n e b L (by rw[R];simp[a7,hG,aI]);have fh:mj G s1.rg n ⟨e.aU,e.tag,.arr ty C (es.set i (y.aY (y.cells.take off++x.cells++y.cells.drop (off+k))))⟩ (G n):=λe' cP=>by rw[L] at cP;cases cP;exact .inr ⟨rfl,λ_=>⟨by rw[R];rfl,rfl⟩⟩
       have hF: ∀c,F1 c->(w.setRow b (cs.toList.take (i*A+off)++v.cells.toList++cs.toList.drop (i*A+off+k)).toArray).heap[c]?=w.heap[c]?:=λc l=>nI w b _ c (λe=>Ws (e▸l));have hyl:off+J x.cells<=J y.cells:=by omega
       have H:i*A+off+J v.cells.toList<=J cs.toList:=by rw[X];simp;omega
       have e2:cs.toList.drop (i*A+off+k)=cs.toList.drop (i*A+off+J v.cells.toList):=by rw[X]
       have e3:y.cells.drop (off+k)=y.cells.drop (off+J x.cells):=by rw[V]
       have AY:J (y.cells.take off++x.cells++y.cells.drop (off+k))=J y.cells:=by rw[e3,mc _ _ _ hyl]
       have hnc: ∀c∈y.cells.take off++x.cells++y.cells.drop (off+k),c.b9=O:=λc l=>by
        simp only[zaK] at l;rcases l with(l |l)|l
        ·exact y2 c (zbm l)
        ·exact c2 c l
        exact y2 c (zcm l)
       have hwc:=D.zi (x:=y) AY hnc;obtain⟨d1,d2⟩:=a1.gj (e1:=⟨e.aU,e.tag,.arr ty C (es.set i (y.aY (y.cells.take off++x.cells++y.cells.drop (off+k))))⟩) (g1:=G n)
        (w':=w.setRow b (cs.toList.take (i*A+off)++v.cells.toList++cs.toList.drop (i*A+off+k)).toArray) fh
        (λc l cD=>nI w b _ c (λe'=>cD ⟨e,L,by rw[e',R];simp[a7,hG,aI]⟩)) (by simp) rfl rfl rfl
        (λc l=> .inr ⟨e,L,by rw[R];exact l⟩)
        (by
         rw[bH];refine .inr ⟨b,cap,_,A,by rw[hG,zbi],setRow_heap w b cs _ ty _ hh,uK,ix,by rw[zbi];exact MZ,yf,?_,(λh=>by cases h),?_⟩
         ·simp only[zcz];rw[e2,mc _ _ _ H];simpa using dy
         intro m z hz;have xb: ∀j,(cs.toList.take (i*A+off)++v.cells.toList++cs.toList.drop (i*A+off+k)).toArray.getD j undef=if i*A+off<=j/\j<i*A+off+k then(v.cells.toList[j-(i*A+off)]?).getD undef else cs.getD j undef:=λj=>by
          rw[fB];simp only[];rw[e2,jV _ _ _ _ H,X];split
          ·rfl
          rw[fB]
         by_cases hm:i=m
         ·subst hm;rw[zbc hi] at hz;cases hz;rw[hwc];refine⟨by rw[AY,y1],hnc,λj c l=> ?_⟩;rw[e3,jV _ _ _ _ hyl,V] at l;rw[xb];by_cases hj:off<=j/\j<off+k
          ·rw[zau hj] at l;rw[zau (by omega)];have J0:j-off<J v.cells.toList:=by omega
           have e4:i*A+j-(i*A+off)=j-off:=by omega
           rw[e4,zae J0];exact(c3 _ _ c (zae J0) l).mono (λ_ h=>h) hF
          rw[zat hj] at l;rw[zat (by omega)];exact(y3 j c l).mono (λ_ h=>h) hF
         rw[zbb hm] at hz;obtain⟨z1,z2,z3⟩:=hE m z hz;refine⟨z1,z2,λj c l=> ?_⟩;rw[xb];have hj:j<A:=by have:=(zab.1 l).1;omega
         have cU: ¬(i*A+off<=m*A+j/\m*A+j<i*A+off+k):=by
          intro hh2;rcases zcs hm with aZ |hgt
          ·have:(i+1)*A<=m*A:=zaq _ (by omega);rw[zaV,zbw] at this;omega
          have:(m+1)*A<=i*A:=zaq _ (by omega);rw[zaV,zbw] at this;omega
         rw[zat cU];exact(z3 j c l).mono (λ_ h=>h) hF)
        (λi hi hl=>a1.tag n e i L hi (by rw[R];rfl))
       rw[bH] at d1 d2;exact⟨d1,a2.trans d2⟩
     cases B
    cases B
   cases B
  cases B
 cases B
end
end Pi
namespace Pi
open Go
def eY F w k es xs:=
 (J xs)=J es*k/\ ∀(i:Nat) (x:D),es[i]?=Z x->J x.cells=k/\(∀c∈x.cells,c.b9=O)/\ ∀(j:Nat) (c:D),x.cells[j]?=Z c->bf F w (xs.getD (i*k+j) undef) c
theorem eY.mono{F F' w w' k es}{xs}(H: ∀b,F b->F' b)(A: ∀b,F b->w'.heap[b]?=w.heap[b]?)(h:eY F w k es xs):eY F' w' k es xs:=
 ⟨h.1,λi x l=>let ⟨h1,h2,h3⟩:=h.2 i x l;⟨h1,h2,λj c B=>(h3 j c B).mono H A⟩⟩
theorem eY.nil F w k:eY F w k [] []:=⟨by simp,λi x h=>by simp at h⟩
theorem eY.append{F w k es ys}{xs l}(h:eY F w k es xs)(V:eY F w k ys l):eY F w k (es++ys) (xs++l):=by
 refine⟨by simp[h.1,V.1,zaV],λi x A=> ?_⟩;by_cases X:i<J es
 ·rw[zaP X] at A;obtain⟨U,R,L⟩:=h.2 i x A;refine⟨U,R,λj c B=> ?_⟩;have hj:j<k:=by have:=(zab.1 B).1;omega
  have aZ:i*k+j<J xs:=by
   rw[h.1]
   calc i*k+j<i*k+k:=by omega
    _=(i+1)*k:=by rw[zaV,zbw]
    _<=J es*k:=zaq _ (by omega)
  have:=L j c B;simp only[zaj] at this⊢;rw[zaP aZ];exact this
 rw[zaZ (by omega)] at A;obtain⟨U,R,L⟩:=V.2 _ x A;refine⟨U,R,λj c B=> ?_⟩;have H:J xs<=i*k+j:=by rw[h.1];have:J es*k<=i*k:=zaq _ (by omega);omega
 have e:i*k+j-J xs=(i-J es)*k+j:=by rw[h.1,Nat.sub_mul];have:J es*k<=i*k:=zaq _ (by omega);omega
 have:=L j c B;simp only[zaj] at this⊢;rw[zaZ H,e];exact this
theorem eY.take{F w k es}{cs}(B:nw F w cs k es){len}(l:len<=J es)(dy:J es*k<=cs.size):eY F w k (es.take len) (cs.toList.take (len*k)):=by
 refine⟨?_,λi x h=> ?_⟩
 ·have:len*k<=J es*k:=zaq _ l;simp;rw[zco (by omega),zco l]
 rw[zbB] at h;split at h
 next X=>
  obtain⟨R,L,H⟩:=B i x h;refine⟨R,L,λj c A=> ?_⟩;have V:j<k:=by have:=(zab.1 A).1;omega
  have U:i*k+j<len*k:=by
   calc i*k+j<i*k+k:=by omega
    _=(i+1)*k:=by rw[zaV,zbw]
    _<=len*k:=zaq _ (by omega)
  have:=H j c A;rw[fB] at this;simp only[zaj];rw[zbB,zau U];exact this
 cases h
theorem eY.toE{F w k es}{cs}(h:eY F w k es (cs.toList.take (J es*k))):nw F w cs k es:=by
 intro i x l;obtain⟨L,H,B⟩:=h.2 i x l;refine⟨L,H,λj c A=> ?_⟩;have V:=(zab.1 l).1;have U:j<k:=by have:=(zab.1 A).1;omega
 have R:i*k+j<J es*k:=by
  calc i*k+j<i*k+k:=by omega
   _=(i+1)*k:=by rw[zaV,zbw]
   _<=J es*k:=zaq _ (by omega)
 have:=B j c A;rw[fB];simp only[zaj] at this;rw[zbB,zau R] at this;exact this
theorem eY.one{F w k es}{xs}(h:eY F w k es xs)(hk:0<k): ∀u∈xs,u.oneCell'=O:=by
 intro u hu;obtain⟨m,l⟩:=zaD hu;have U:m<J es*k:=by rw[<-h.1];exact(zab.1 l).1
 have B:=(zcN hk).2 U;obtain⟨R,L,H⟩:=h.2 (m/k) _ (zae B);have A:m%k<J (es[m/k]).cells:=by rw[R];exact zc5 _ hk
 have:=H (m%k) _ (zae A);have e:m/k*k+m%k=m:=by rw[zcj];exact zdj m k
 rw[e] at this;simp only[zaj,l,zck] at this;exact this.pI (L _ (zay A))
section
variable{Q:M}{T:Tg}{F:Nat->Prop}{G:Nat->W}{w:World}{a:Act}{s:S}
theorem sI{t L ty e i}(V:Q.underlying t=Z (.slice e))(X:Q.info? e=Z i){b B A l}(hg:w.heap[b]?=Z (.cells l e (0,0))){x n h}(H:Src Q i.size L x n h w)
  (U:B+n<=A) (J4:B*i.size+J h<=l.size):
  (Builtin.append_ #[t,L] ty #[.slice (Z ⟨b,0,Y⟩) B A,x]).run Q w= .ok (.slice (Z ⟨b,0,Y⟩) (B+n) A) (w.setRow b (l.toList.take (B*i.size)++h++l.toList.drop (B*i.size+J h)).toArray):=by
 have R:=run_storeCells_at Q b (B*i.size) e h 0 l w hg (by simpa using J4) H.one;simp only[zb9] at R;rcases H.kind with⟨e',hk⟩|hk<;>simp[Builtin.append_,run_underlying V,run_underlying hk,Go.sizeOf,typeInfo,X,H.len,U,H.cells,dU,R]
theorem pJ{t l ty e i}(A:Q.underlying t=Z (.slice e))(B:Q.info? e=Z i){x}(h:Src Q i.size l x 0 [] w):
  (Builtin.append_ #[t,l] ty #[.slice Y 0 0,x]).run Q w= .ok (.slice Y 0 0) w:=by
 rcases h.kind with⟨e',hk⟩|hk<;>simp[Builtin.append_,run_underlying A,run_underlying hk,Go.sizeOf,typeInfo,B,h.len,h.cells]
theorem rk{t tx ty e i z}(ht:Q.underlying t=Z (.slice e))(hi:Q.info? e=Z i)(hz:i.zero=Z z)(hzs:z.cells.size=i.size)
  {v n xs} (dO:w.ownsRow 0 e i.size v n xs) {x m h} (X:Src Q i.size tx x m h w) (h63:n+m<=maxLen) (GG:(n+m)*i.bytes<=140737488355328):
  ∃v' w',(Builtin.append_ #[t,tx] ty #[v,x]).run Q w= .ok v' w'/\w'.ownsRow 0 e i.size v' (n+m) (xs++h)/\w.grownBy w' v.ownBlock/\(∀b,v'.ownBlock=Z b->w.heap.size<=b\/v.ownBlock=Z b):=by
 have hl:=X.newsLen;have qq3:n+m<=9223372036854775807:=by simp only[maxLen] at h63;omega
 have l:J (xs++h)=(n+m)*i.size:=by rw[zaf,dO.1,hl,zaV]
 have B: ∀(A:Nat),A<n+m-> ∀(V:Option Nat),
   (w.drew.alloc (.cells ((xs++h).toArray++OK z.cells (grownCap w (n+m) A e-(n+m))) e)).ownsRow 0 e i.size
    (.slice (Z ⟨w.heap.size,0,Y⟩) (n+m) (grownCap w (n+m) A e)) (n+m) (xs++h)/\
   w.grownBy (w.drew.alloc (.cells ((xs++h).toArray++OK z.cells (grownCap w (n+m) A e-(n+m))) e)) V:=by
  intro A ho V;have hge:=grownCap_ge w (n+m) A e;have yf:=grownCap_le_maxLen w (n+m) A e h63;refine⟨⟨l,.inr ⟨w.heap.size,_,_,rfl,za4 _,heap_alloc_new w.drew _,hge,yf,?_,?_⟩⟩,⟨rfl,rfl,rfl,by simp,λk hk _=>cb w.drew _ k hk⟩⟩
  ·simp only[Array.size_append,zcz,size_zeroCells,hzs,l,<-zaV];congr 1;omega
  simp only[Array.toList_append];rw[<-l];exact List.take_left
 rcases dO.2 with⟨rfl,rfl⟩| ⟨g,cap,cur,rfl,hbg,hg,hnc,yf,hcs,Wt⟩
 ·have hx:=zaz (by simpa using dO.1);subst hx;by_cases hm:m=0
  ·subst hm;have hn:=zaz (by simpa using hl);subst hn;exact⟨.slice Y 0 0,w,pJ ht hi X,World.ownsRow_nil w 0 e i.size,⟨rfl,rfl,rfl,zag _,λ_ _ _=>rfl⟩,λb L=>by simp[W.ownBlock] at L⟩
  have U:=run_append_grow_src (P:=Q) w t tx ty e i z ht hi hz Y 0 0 [] (by simp[Builtin.firstCells]) x m h X (by omega) (by omega) (growslice_fits (by omega) GG);have R:=B 0 (by omega) (W.ownBlock (.slice Y 0 0));simp only[zbt] at U R;exact⟨_,_,U,R.1,R.2,λb L=> .inl (by simp[W.ownBlock] at L;omega)⟩
 by_cases qq:n+m<=cap
 ·have J4:n*i.size+J h<=cur.size:=by rw[hl,hcs,<-zaV];exact zaq _ qq
  have U:=sI (ty:=ty) ht hi hg X qq J4;refine⟨_,_,U,⟨l,.inr ⟨g,cap,_,rfl,hbg,setRow_heap w g cur _ e _ hg,qq,yf,?_,?_⟩⟩,⟨rfl,rfl,rfl,by simp,λk _ hk=>setRow_other w g k _ (λe=>hk (by simp[W.ownBlock,e]))⟩,λb L=> .inr L⟩
  ·simp only[zcz,zaf,zaG,zaX,zcV];omega
  rw[Wt,<-l];exact List.take_left
 have H:=dO.cells (g:=g) rfl;have U:=run_append_grow_src (P:=Q) w t tx ty e i z ht hi hz (Z ⟨g,0,Y⟩) n cap xs (run_firstCells_some w.drew i.size n ⟨g,0,Y⟩ n cap xs dO.1 H) x m h X (by omega) (by omega) (growslice_fits (by omega) GG);have R:=B cap (by omega) (W.ownBlock (.slice (Z ⟨g,0,Y⟩) n cap));exact⟨_,_,U,R.1,R.2,λb L=> .inl (by simp[W.ownBlock] at L;omega)⟩
end
end Pi
namespace Go
theorem AZ{ε α β:Type}{x}{f:α->Except ε β}{b}(h:(x>>=f)= .ok b): ∃a,x= .ok a/\f a= .ok b:=by
 cases x with
 |error e=>cases h
 |ok a=>exact⟨a,rfl,h⟩
def Wu(w:World)(x:Except String (World×List Addr)):= ∀r,x= .ok r->r.1.drawn=w.drawn
theorem Wu.bind{α:Type}{w}{x:Except String α}{f}(h: ∀a,Wu w (f a)):Wu w (x>>=f):=by intro r l;obtain⟨a,_,A⟩:=AZ l;exact h a r A
theorem Wu.thr{w s}:Wu w (MonadExcept.throw s):=λ_ h=>by cases h
theorem Wu.pur{w r}(h:r.1.drawn=w.drawn):Wu w (pure r):=λ_ e=>by cases e;exact h
theorem zj{p}{w:World}{A u k v}{l r}
  (h:w.viewStore p A u k v l= .ok r):r.1.drawn=w.drawn:=by
 have:Wu w (w.viewStore p A u k v l):=by
  unfold World.viewStore;dsimp only
  repeat' (first |exact Wu.thr |exact Wu.pur rfl | (refine Wu.bind (λ_=> ?_))|split | (dsimp only))
 exact this r h
theorem A0{p}{w:World}{a v l w'}{t}
  (h:w.farStore p a v l= .ok (w',t)):w'.drawn=w.drawn:=by
 unfold World.farStore at h;split at h
 ·split at h
  ·cases h;rename_i A;exact zj A
  cases h
 cases h
theorem SX{α:Type}(a:Ask α): ∀(w:World),w.drawn<=(w.ask a).2.drawn:=by
 induction a with
 |done a=>exact λw=>zag _
 |ask what range k ih=>
  intro w;unfold World.ask;simp only;split
  ·exact ih _ w
  exact zaJ (zb5 _) (ih _ {w with drawn:=w.drawn+1})
theorem SY(w:World) c:w.drawn<=(w.sys c).2.drawn:=by
 unfold World.sys;have:=SX (Kernel.perform c w.os) w;split
 ·exact zag _
 rename_i h;rw[h] at this;exact this
theorem DF(w:World) a v:(w.setCell a v).drawn=w.drawn:=by rfl
theorem r8{α:Type}{p}(m:Sem α): ∀{w w':World} {a:α},m.run p w= .ok a w'->w.drawn<=w'.drawn:=by
 induction m with
 |pure a=>intro w w' b h;simp only[Sem.run] at h;cases h;exact zag _
 |load m a k ih=>
  intro w w' b h;unfold Sem.run at h;split at h
  ·exact ih _ h
  split at h
  ·exact ih _ h
  cases h
 |store m a v k ih=>
  intro w w' b h;have l:(match w.cell? a with
    |some _=>if w.frozen? a then Result.halt (.unsupported (.unsafePointer "a write to bytes that a string shares")) w else k.run p (w.setCell a v)
    |none=>match w.farStore p a v (m==Mode.atomic) with
     | .ok (w,_)=>k.run p w
     | .error h=> .halt h w)= .ok b w'->w.drawn<=w'.drawn:=by
   intro h;split at h
   ·split at h
    ·cases h
    exact zaJ (Nat.le_of_eq (DF w a v).symm) (ih h)
   split at h
   next A=>have:=ih h;rw[A0 A] at this;exact this
   cases h
  cases v
  case agg=>cases h
  case tuple=>cases h
  all_goals (simp only[Sem.run] at h;exact l h)
 |new o k ih=>intro w w' b h;simp only[Sem.run] at h;have:=ih _ h;exact this
 |shape r k ih=>intro w w' b h;simp only[Sem.run] at h;exact ih _ h
 |freeze a n k ih=>intro w w' b h;simp only[Sem.run] at h;have:=ih h;refine zaJ ?_ this;unfold World.freeze;split<;>exact zag _
 |frozen a k ih=>intro w w' b h;simp only[Sem.run] at h;exact ih _ h
 |getObj r k ih=>
  intro w w' b h;unfold Sem.run at h;split at h
  ·cases h
  ·exact ih _ h
  cases h
 |setObj r o k ih=>
  intro w w' b h;unfold Sem.run at h;split at h
  ·cases h
  ·have:=ih h;exact this
  cases h
 |choose q k ih=>
  intro w w' b h;unfold Sem.run at h;split at h
  ·exact ih _ h
  exact zaJ (zb5 _) (ih _ h)
 |sys c k ih=>intro w w' b h;simp only[Sem.run] at h;exact zaJ (SY w c) (ih _ h)
 |program k ih=>intro w w' b h;simp only[Sem.run] at h;exact ih _ h
 |mark m k ih=>intro w w' b h;simp only[Sem.run] at h;exact ih h
 |halt h=>intro w w' b h;simp only[Sem.run] at h;cases h
end Go
namespace Pi
open Go
section
variable{Q:M}{T:Tg}{F:Nat->Prop}{G:Nat->W}{w:World}{a:Act}{s:S}
theorem eY.drop{F w k es}{xs}(h:eY F w k es xs) m:eY F w k (es.drop m) (xs.drop (m*k)):=by refine⟨by rw[zaX,zaX,h.1,Nat.sub_mul],λi x l=> ?_⟩;rw[zcc] at l;obtain⟨L,H,B⟩:=h.2 (m+i) x l;refine⟨L,H,λj c A=> ?_⟩;have:=B j c A;simp only[zaj] at this⊢;rw[zcc,<-zbK,<-zaV];exact this
theorem GH(h:ax Q T F G w a s){t2 k}(ix:0<k){p ys}(A:od Q s t2 k p=Z ys){v}(U:aL F w G s.rg v p):
  ∃X,Src Q k t2 v (J ys) X w/\eY F w k ys X:=by
 unfold od at A;split at A
 next n aU len=>
  split at A
  next ty fz es e' ho H=>
   split at A
   ·rename_i L;have hk:sz Q ty=Z k:=by simpa using L
    simp at A;subst A;obtain⟨e,he,dR,bZ⟩:=S.bY ho;have hO:=h.rg n e he;rw[bZ] at hO;cases U with
    |sl _ _ _ _ h1 hr=>
     obtain⟨a0,N,cap,hG,rfl,hle⟩:=hr.at he dR (by rw[bZ];rfl);rcases hO with⟨hg,rfl⟩| ⟨b,iZ,cs,B,hg,hh,jL,qco,MZ,yf,dy,_,hE⟩
     ·rw[hG] at hg;simp at hg;obtain⟨rfl,rfl,rfl⟩:=hg;have:len=0:=by omega
      subst this;exact⟨[],by simpa using Src.ofNil w H 0,by simpa using eY.nil F w k⟩
     rw[hk] at jL;cases jL;rw[hG] at hg;simp at hg;obtain⟨rfl,rfl,rfl⟩:=hg;have Wv:J es*k<=cs.size:=by rw[dy];exact zaq _ MZ
     have R:=eY.take hE hle Wv;refine⟨_,?_,R⟩;have xh:J (es.take len)=len:=by simp;omega
     rw[xh];refine Src.ofSlice w H ⟨b,0,Y⟩ len cap _ (by rw[R.1,xh]) (λj u hu=> ?_) (R.one ix);rw[dU,zaE,cell_of_row w b j cs ty (0,0) hh];rw[zbB] at hu;split at hu
     ·simpa using hu
     cases hu
   cases A
  cases A
 next n aU k0 off len=>
  split at A
  next ty fz es e' ho H=>
   split at A
   ·rename_i L;rw[zac] at L;have hk:sz Q ty=Z k:=by simpa using L.1
    have qq4:=zad L.2;subst qq4;simp at A;subst A;obtain⟨e,he,dR,bZ⟩:=S.bY ho;have hO:=h.rg n e he;rw[bZ] at hO;cases U with
    |nu _ _ _ _ _ _ h1 hr=>
     obtain⟨a0,N,cap,hG,hle,a1,sH,rfl,Wb,hz⟩:=hr.at he dR (by rw[bZ];rfl);by_cases h0:len=0
     ·subst h0;refine⟨[],?_,by simpa using eY.nil F w k0⟩;have:J ((es.drop off).take 0)=0:=by simp
      rw[this];cases a1 with
      |none=>exact Src.ofNil w H sH
      |some ad=>exact Src.ofSlice w H ad 0 sH [] (by simp) (λj u hu=>by simp at hu) (λu hu=>by cases hu)
     obtain⟨b0,ha0,Va⟩: ∃b,a0=Z ⟨b,0,Y⟩/\a1=Z ⟨b,off*k0,Y⟩:=by
      rcases hz with hz |hz
      ·exact absurd hz h0
      exact hz
     subst ha0 Va;rcases hO with⟨hg,rfl⟩| ⟨b,iZ,cs,B,hg,hh,jL,qco,MZ,yf,dy,_,hE⟩
     ·rw[hG] at hg;simp at hg
     rw[hk] at jL;cases jL;rw[hG] at hg;simp at hg;obtain⟨rfl,rfl,rfl⟩:=hg;have Wv:J es*k0<=cs.size:=by rw[dy];exact zaq _ MZ
     have R:=(eY.take hE hle Wv).drop off;have hee:(es.take (off+len)).drop off=(es.drop off).take len:=by rw[zcS,Nat.add_sub_cancel_left]
     rw[hee] at R;refine⟨_,?_,R⟩;have xh:J ((es.drop off).take len)=len:=by simp;omega
     rw[xh];refine Src.ofSlice w H ⟨b0,off*k0,Y⟩ len sH _ (by rw[R.1,xh]) (λj u hu=> ?_) (R.one ix);rw[dU,cell_of_row w b0 (off*k0+j) cs ty (0,0) hh];rw[zcc,zbB] at hu;split at hu
     ·simpa using hu
     cases hu
   cases A
  cases A
 next B es=>
  split at A
  next e' H=>
   split at A
   ·rename_i L;have L:B=k:=by simpa using L
    subst L;simp at A;subst A;cases U with
    |d U=>
     cases U with
     |Qd a0 _ cap=>
      refine⟨[],?_,eY.nil F w _⟩;cases a0 with
      |none=>exact Src.ofNil w H cap
      |some ad=>exact Src.ofSlice w H ad 0 cap [] (by simp) (λj u hu=>by simp at hu) (λu hu=>by cases hu)
     |Qe b off _ cap _ f u7 hb L cH hw hr=>
      have R:eY F w B es ((List.range (J es*B)).map f):=by
       refine⟨by simp,λi x hx=> ?_⟩;have hxm:=zas hx;refine⟨L x hxm,cH x hxm,λj c V=> ?_⟩;have hi:=(zab.1 hx).1;have hj:j<B:=by have h1:=(zab.1 V).1;have:=L x hxm;omega
       have aZ:i*B+j<J es*B:=by
        calc i*B+j<i*B+B:=by omega
         _=(i+1)*B:=by rw[zaV,zbw]
         _<=J es*B:=zaq _ (by omega)
       have e:((List.range (J es*B)).map f).getD (i*B+j) undef=f (i*B+j):=by simp[aZ]
       rw[e];exact hr i j x c hx V
      refine⟨_,?_,R⟩;refine Src.ofSlice w H ⟨b,off,Y⟩ (J es) cap _ R.1 (λj u hu=> ?_) (R.one ix);rw[zaw] at hu;simp only[zap] at hu;obtain⟨m,hm,rfl⟩:=hu;have Vc:j<J es*B:=by have:=(zab.1 hm).1;simpa using this
      rw[List.getElem?_range Vc] at hm;cases hm;rw[dU];exact hw j Vc
   cases A
  cases A
 ·split at A
  next e' H=>
   simp at A;subst A;cases U with
   |d U=>cases U;exact⟨[],Src.ofNil w H 0,eY.nil F w _⟩
  cases A
 next l=>
  split at A
  next H=>
   split at A
   ·rename_i C6;have C6:k=1:=by simpa using C6
    subst C6;simp at A;subst A;cases U with
    |d U=>
     cases U;refine⟨byteCells ⟨⟨l⟩⟩,?_,?_,λi x hx=> ?_⟩
     ·have:=Src.ofString w H ⟨⟨l⟩⟩;have e:(gz ⟨l⟩).size=J (l.map λb=>D.int .u8 b.toNat):=by simp[ByteArray.size]
      rwa [e] at this
     ·rw[byteCells_length];simp[ByteArray.size]
     rw[zaw] at hx;simp only[zap] at hx;obtain⟨b,hb,rfl⟩:=hx;refine⟨rfl,λc V=>by simp[D.cells] at V;subst V;rfl,λj c V=> ?_⟩;cases j with
     |zero=>
      simp[D.cells] at V;subst V;have e:(byteCells ⟨⟨l⟩⟩).getD (i*1+0) undef= .int .u8 b.toNat:=by simp[byteCells,hb]
      rw[e];exact .int _ _
     |succ j=>simp[D.cells] at V
   cases A
  cases A
 cases A
theorem pK{e i}(A:Q.info? e=Z i){z}(h:e9 Q e=Z z): ∃l,i.zero=Z l/\D.wW l=Z z/\l.cells.size=J z.cells:=by
 unfold e9 at h;rw[A] at h;simp only at h;split at h
 next l B=>refine⟨l,B,h,?_⟩;have:=(eS (bf.wW (λ_=>False) default h)).1;simpa using this
 cases h
theorem yi v:(∃a n c,v= .slice a n c)->v.ownBlock=aI v:=by rintro⟨a,n,c,rfl⟩;cases a<;>rfl
theorem yj{F' l w' L}{n e k}(hk:sz Q e=Z k)(A:0<k){es xs}(H:w'.ownsRow 0 e k (l n) (J es) xs)(B:eY F' w' k es xs):
  ny Q F' w' l L n (.arr e C es):=by
 rcases H.2 with⟨hv,hn⟩| ⟨g,cap,cur,hv,_,hg,hnc,yf,hcs,Wt⟩
 ·exact .inl ⟨hv,zaz hn⟩
 exact .inr ⟨g,cap,cur,k,hv,hg,hk,A,hnc,yf,hcs,(λh=>by cases h),eY.toE (by rw[Wt];exact B)⟩
theorem NY(h:ax Q T F G w a s){dst t t2 ty p q s'}(l:kh Q s dst t t2 p q=Z s'){vx vy}(hx:aL F w G s.rg vx p)(hy:aL F w G s.rg vy q):
  ∃v w' G',(Builtin.append_ #[t,t2] ty #[vx,vy]).run Q w= .ok v w'/\ax Q T F G' w' (a.put dst v) s'/\Ext (Own G s.rg) (Own G' s'.rg) F F w w':=by
 unfold kh at l;split at l
 ·cases l
 rename_i e het;have ht:=eD het;split at l
 next i k hi hk=>
  obtain⟨i',_,zG,_,V⟩:=ij hk;have V:i'.size=k+1:=V;have hk:sz Q e=Z (k+1):=hk;rw[hi] at zG;cases zG;split at l
  next ys z hys hz=>
   obtain⟨zv,Qg,_,hzs⟩:=pK hi hz;split at l
   ·rename_i EK;have EK:J z.cells=k+1:=by simpa using EK
    obtain⟨news,DG,fj⟩:=GH h (by omega) hys hy;rw[<-V] at DG;split at l
    ·rename_i n aU len;split at l
     ·rename_i en l8;split at l
      ·rename_i X es bZ;split at l
       ·rename_i fa;simp only[zac,zca,aB] at fa;obtain⟨⟨⟨rl,NL⟩,hle⟩,r7,kN⟩:=fa;have rl:en.aU=aU:=by simpa using rl
        have NL:X=e:=by simpa using NL
        subst NL;cases hx with
        |sl _ _ _ _ h1 hr=>
         obtain⟨a0,N,cap,hG,rfl,qq5⟩:=hr.at l8 rl (by rw[bZ];rfl);have hO:=h.rg n en l8;rw[bZ] at hO;have xi: ∃xs,w.ownsRow 0 X i.size (.slice a0 len cap) len xs/\eY F w (k+1) (es.take len) xs:=by
          rcases hO with⟨hg,rfl⟩| ⟨b,iZ,cs,k',hg,hh,jL,qco,MZ,yf,dy,_,hE⟩
          ·rw[hG] at hg;simp at hg;obtain⟨rfl,rfl,rfl⟩:=hg;have:len=0:=by omega
           subst this;exact⟨[],World.ownsRow_nil w 0 X i.size,by simpa using eY.nil F w (k+1)⟩
          rw[hk] at jL;cases jL;rw[hG] at hg;simp at hg;obtain⟨rfl,rfl,rfl⟩:=hg;have Wv:J es*(k+1)<=cs.size:=by rw[dy];exact zaq _ MZ
          have hf:=eY.take hE hle Wv;refine⟨_,⟨?_,.inr ⟨b,cap,cs,rfl,za4 _,hh,by omega,yf,by rw[V];exact dy,by rw[V]⟩⟩,hf⟩;rw[hf.1,V];congr 1;simp;omega
         obtain⟨xs,dO,hfx⟩:=xi;obtain⟨B,w',cE,yl,H,R⟩:=rk (ty:=ty) ht hi Qg (by rw[hzs,EK,V]) dO DG (by simpa [maxLen] using kN) r7;have NZ:W.ownBlock (.slice a0 len cap)=aI (G n):=by rw[hG];cases a0<;>rfl
         have Ww: ∀b,a7 (G n) en.obj b↔aI (G n)=Z b:=λb=>by rw[bZ];simp[a7]
         have qhD: ∃a1 n1 U,B= .slice a1 n1 U:=by
          rcases yl.2 with⟨hv,_⟩| ⟨g,qhE,cur,hv,_⟩
          ·exact⟨_,_,_,hv⟩
          exact⟨_,_,_,hv⟩
         have vj:J (es.take len++ys)=len+J ys:=by simp;omega
         have Wx: ∀c,F c->w'.heap[c]?=w.heap[c]?:=λc A=>H.block c (h.gL c A) (λe'=>by rw[NZ] at e';exact h.jb n en c l8 (by rw[Ww];exact e'.symm) A);obtain⟨d1,d2⟩:=h.gj (n:=n) (e1:=⟨aU+1,Y,.arr X C (es.take len++ys)⟩) (g1:=B) (w':=w') (hdr:=r8 _ cE) (λe' cP=>by rw[l8] at cP;cases cP;exact .inl (by simp[rl]))
          (λc A cD=>H.block c A (λe'=>cD ⟨en,l8,by rw[Ww,<-NZ];exact e'.symm⟩)) H.size H.os H.tape H.output
          (λc A=>by
           simp only[a7] at A;rw[<-yi B qhD] at A;rcases R c (by simpa using A) with h2 |h2
           ·exact .inl h2
           exact .inr ⟨en,l8,by rw[Ww,<-NZ];exact h2⟩)
          (yj hk (by omega) (by rw[aM,vj,<-V];exact yl) ((hfx.mono (λ_ h=>h) Wx).append (fj.mono (λ_ h=>h) Wx)))
          (λi hi=>by cases hi)
         have L: ∃a1 U,B= .slice a1 (len+J ys) U:=by
          rcases yl.2 with⟨hv,hn0⟩| ⟨g,qhE,cur,hv,_⟩
          ·exact⟨Y,0,by rw[hv,hn0]⟩
          exact⟨_,_,hv⟩
         obtain⟨a1,cp1,L⟩:=L;obtain⟨U,c2⟩:=cL d1 l (v:=B) (bR.of (.sl n (aU+1) (len+J ys) B (by rw[L];rfl) ⟨_,aX _ _ _,zag _,λ_ _=>⟨_,_,_,by rw[aM];exact L,L,zag _⟩⟩));refine⟨B,w',_,cE,U,?_⟩;rw[c2];exact d2
       cases l
      cases l
     cases l
    ·split at l
     ·rename_i qq;simp only[zac,zca,aB] at qq;obtain⟨r7,kN⟩:=qq;split at l
      ·rename_i s1 v hn;cases hx with
       |d hx=>
        cases hx;obtain⟨B,w',cE,yl,H,R⟩:=rk (ty:=ty) ht hi Qg (by rw[hzs,EK,V]) (World.ownsRow_nil w 0 e i.size) DG (by simpa [maxLen] using kN) (by simpa using r7);have qhD: ∃a1 n1 U,B= .slice a1 n1 U:=by
         rcases yl.2 with⟨hv,_⟩| ⟨g,qhE,cur,hv,_⟩
         ·exact⟨_,_,_,hv⟩
         exact⟨_,_,_,hv⟩
        have eT: ∀c,c<w.heap.size->w'.heap[c]?=w.heap[c]?:=λc A=>H.block c A (by simp[W.ownBlock]);have hf:=(fj.mono (F':=F) (w':=w') (λ_ h=>h) (λc A=>eT c (h.gL c A)))
        simp only[zaE,zbt] at yl;obtain⟨b1,b2,b3,b4⟩:=mn h hn (g1:=B) (w':=w') (hdr:=r8 _ cE) eT H.size H.os H.tape H.output
         (λc A=>by
          simp only[a7] at A;rw[<-yi B qhD] at A;rcases R c (by simpa using A) with h2 |h2
          ·exact h2
          simp[W.ownBlock] at h2)
         (yj hk (by omega) (by rw[aM,<-V];exact yl) hf)
        have L: ∃a1 U,B= .slice a1 (J ys) U:=by
         rcases yl.2 with⟨hv,hn0⟩| ⟨g,qhE,cur,hv,_⟩
         ·exact⟨Y,0,by rw[hv,hn0]⟩
         exact⟨_,_,hv⟩
        obtain⟨a1,cp1,L⟩:=L;obtain⟨U,c2⟩:=cL b1 l (v:=B) (bR.of (.sl (site dst) v (J ys) B (by rw[L];rfl) ⟨_,b4,zag _,λ_ _=>⟨_,_,_,by rw[aM];exact L,L,zag _⟩⟩));refine⟨B,w',_,cE,U,?_⟩;rw[c2];exact b2
      cases l
     cases l
    cases l
   cases l
  cases l
 cases l
end
end Pi
namespace Pi
open Go
section
variable{Q:M}{T:Tg}{F:Nat->Prop}{G:Nat->W}{w:World}{a:Act}{s:S}
theorem Wy{h n k i j}(hk:h.size=k)(A:j<k)(l:i*k+j<n):(madeCells h n).getD (i*k+j) undef=h.getD j undef:=by
 have e:(i*k+j)%h.size=j:=by rw[hk,zcj,Nat.mul_add_mod,Nat.mod_eq_of_lt A]
 have B:j<h.size:=by omega
 simp[madeCells,Array.getD,l,e,B]
theorem r9{F w z A}{k l n}(L:bf F w A z)(B:J z.cells=k)(U:l*k<=n):nw F w (madeCells A.cells n) k (ee l z):=by
 obtain⟨c1,c2,c3⟩:=eS L;have R:A.cells.size=k:=by rw[<-B,<-c1];simp
 intro i x h;rw[List.getElem?_replicate] at h;split at h
 next X=>
  cases h;refine⟨B,c2,λj c H=> ?_⟩;have V:j<k:=by have:=(zab.1 H).1;omega
  have aZ:i*k+j<n:=by
   calc i*k+j<i*k+k:=by omega
    _=(i+1)*k:=by rw[zaV,zbw]
    _<=l*k:=zaq _ X
    _<=n:=U
  rw[Wy R V aZ];exact c3 j _ c (by simp_all) H
 cases h
theorem WA(h:ax Q T F G w a s){dst t p q s'}(A:uT Q s dst t p q=Z s'){vx vy}(R:aL F w G s.rg vx p)(L:aL F w G s.rg vy q):
  ∃v w' G',(Instr.makeSlice t vx vy).run Q w= .ok v w'/\ax Q T F G' w' (a.put dst v) s'/\Ext (Own G s.rg) (Own G' s'.rg) F F w w':=by
 unfold uT at A;split at A
 next e k1 l k2 c X=>
  have ht:=eD X;split at A
  next i k z V hk hz=>
   obtain⟨i',_,zG,_,gM⟩:=ij hk;rw[V] at zG;cases zG;obtain⟨H,Qg,Vd,hzs⟩:=pK V hz;split at A
   ·rename_i fa;simp only[zac,zam] at fa;obtain⟨EK,h0,MZ,h63,B⟩:=fa;have EK:J z.cells=k+1:=by simpa using EK
    split at A
    ·rename_i s1 v hn;cases R with
     |d R=>
      cases R;cases L with
      |d L=>
       cases L;have hr:=run_make (P:=Q) w t e i H ht V Qg k1 k2 l c h0 MZ B h63;have U:l.toNat<=c.toNat:=by omega
       obtain⟨h1,h2,h3,h4⟩:=mn h hn (g1:= .slice (Z ⟨w.heap.size,0,Y⟩) l.toNat c.toNat) (w':=w.alloc (.cells (madeCells H.cells (c.toNat*i.size)) e))
        (λb B=>cb w _ b B) (by simp) rfl rfl rfl (λb B=>by simp[a7,aI] at B;omega)
        (.inr ⟨w.heap.size,c.toNat,madeCells H.cells (c.toNat*i.size),k+1,by rw[aM,zbp],heap_alloc_new w _,hk,by omega,by rw[zbp];exact U,by simp only[maxLen];omega,
         by rw[size_madeCells,gM],by simp,r9 (bf.wW _ _ Vd) EK (by simp_all [zaq])⟩)
       obtain⟨c1,c2⟩:=cL h1 A (v:= .slice (Z ⟨w.heap.size,0,Y⟩) l.toNat c.toNat) (bR.of (.sl (site dst) v l.toNat _ rfl ⟨_,h4,zag _,λ_ _=>⟨_,l.toNat,c.toNat,aM _ _ _,rfl,zag _⟩⟩));grind
    cases A
   cases A
  cases A
 cases A
theorem nw.set{F w cs k i}{es x v}(V:nw F w cs k es)(dy:cs.size=J es*k)(R:i<J es)(H:bf F w v x)(hl:J x.cells=k):
  ((v.cells.toList.zipIdx 0).foldl (λcs x=>cs.setIfInBounds (i*k+x.2) x.1) cs).size=J (es.set i x)*k/\
  nw F w ((v.cells.toList.zipIdx 0).foldl (λcs x=>cs.setIfInBounds (i*k+x.2) x.1) cs) k (es.set i x):=by
 obtain⟨c1,c2,c3⟩:=eS H;have L:i*k+k<=J es*k:=by
  calc i*k+k=(i+1)*k:=by rw[zaV,zbw]
   _<=J es*k:=zaq _ R
 obtain⟨X,h2⟩:=Gx (i*k) v.cells.toList 0 cs (by omega);refine⟨by rw[X,dy,zbi],λl y A=> ?_⟩;by_cases B:i=l
 ·grind
 rw[zbb B] at A;obtain⟨g1,g2,g3⟩:=V l y A;refine⟨g1,g2,λj c U=> ?_⟩;have hj:j<k:=by have:=(zab.1 U).1;omega
 have cD: ¬(i*k+0<=l*k+j/\l*k+j<i*k+0+J v.cells.toList):=by
  rcases zcs B with h |h
  ·have:(i+1)*k<=l*k:=zaq _ h;rw[zaV,zbw] at this;omega
  have:(l+1)*k<=i*k:=zaq _ h;rw[zaV,zbw] at this;omega
 grind
theorem rn{t k}(hk:0<k): ∀ps vs s s' es l F cs,ax Q T F G w a s->dB Q t k s es ps=Z (s',l)->
 (J vs)=J ps->(∀(i:Nat) x y,vs[i]?=Z x->ps[i]?=Z y->x.1=y.1/\aL F w G s.rg x.2 y.2)->cs.size=J es*k->nw F w cs k es->
  ∃F' A,ax Q T F' G w a s'/\Ext (Own G s.rg) (Own G s'.rg) F F' w w/\J l=J es/\A.size=J l*k/\nw F' w A k l/\Instr.fill (λi=>Z (i*k,k)) cs vs=Z A
 | [],vs,s,s',es,l,F,cs,h,hb,hl,_,dy,hE=>by
  obtain⟨rfl,rfl⟩:=hb;have:vs=[]:=by grind
  subst this;exact⟨F,cs,h,Ext.refl _ _ _,rfl,dy,hE,rfl⟩
 | (i,p)::ps,[],s,s',es,l,F,cs,h,hb,hl,_,dy,hE=>by simp at hl
 | (i,p)::ps,(i0,v)::vs,s,s',es,l,F,cs,h,hb,hl,hv,dy,hE=>by
  simp only[dB] at hb;split at hb
  next s1 x hf=>
   split at hb
   ·rename_i U;simp only[zac] at U;have B:J x.cells=k:=by simpa using U.1
    have R:i<J es:=by simp_all
    obtain⟨e0,hp⟩:=hv 0 (i0,v) (i,p) rfl rfl;subst e0;obtain⟨F1,g1,g2,g3,X,V⟩:=zF h hf hp;have H:=hE.mono X (λ_ _=>rfl);obtain⟨m1,m2⟩:=H.set dy R V B;obtain⟨F2,L,k1,k2,k3,k4,k5,k6⟩:=rn hk ps vs s1 s' _ l F1 _ g1 hb (by grind) (λj x y hx hy=>by obtain⟨q1,q2⟩:=hv (j+1) x y (by grind) (by grind);exact⟨q1,q2.mono X (λ_ _=>rfl) g3⟩) m1 m2;refine⟨F2,L,k1,g2.trans k2,by rw[k3,zbi],k4,k5,?_⟩;have A1:v.cells.size=k:=by have:=(eS V).1;grind
    have hle:i0*k+k<=cs.size:=by
     rw[dy]
     calc i0*k+k=(i0+1)*k:=by rw[zaV,zbw]
      _<=J es*k:=zaq _ R
    have fa:(decide (v.cells.size≠k)||decide (i0*k+v.cells.size>cs.size))=C:=by simp;omega
    simp only[Instr.fill,fa,zaF,zbk];rw[<-k6];congr 1;rw[<-zcX];simp
   cases hb
  cases hb
theorem SZ(h:ax Q T F G w a s){dst t len ps}{s'}(l:tJ Q s dst t len ps=Z s'){vs}(hl:J vs.toList=J ps)
  (hv: ∀(i:Nat) x y,vs.toList[i]?=Z x->ps[i]?=Z y->x.1=y.1/\aL F w G s.rg x.2 y.2):
  ∃v w' F' G',(Instr.buildSlice t len vs).run Q w= .ok v w'/\ax Q T F' G' w' (a.put dst v) s'/\Ext (Own G s.rg) (Own G' s'.rg) F F' w w':=by
 unfold tJ at l;split at l
 next e X=>
  have ht:=eD X;split at l
  next i k z V hk hz=>
   obtain⟨i',_,zG,_,gM⟩:=ij hk;rw[V] at zG;cases zG;obtain⟨H,Qg,Vd,hzs⟩:=pK V hz;split at l
   ·rename_i fa;simp only[zac] at fa;obtain⟨⟨EK,WB⟩,GG⟩:=fa;have EK:J z.cells=k+1:=by simpa using EK
    have WB:=zbL WB;split at l
    ·rename_i s1 es hbe;split at l
     ·rename_i s2 aU hn;have U: ∃L:Array W,L.size=J (ee len z)*(k+1)/\nw F w L (k+1) (ee len z)/\((len*(k+1)=0/\L= #[])\/(len*(k+1)≠0/\L=madeCells H.cells (len*(k+1)))):=by
       by_cases B:len*(k+1)=0
       ·have:len=0:=by grind
        subst this;exact⟨#[],by simp,λi x hx=>by simp at hx,.inl ⟨B,rfl⟩⟩
       exact⟨madeCells H.cells (len*(k+1)),by rw[size_madeCells,zbp],r9 (bf.wW _ _ Vd) EK (zag _),.inr ⟨B,rfl⟩⟩
      obtain⟨L,q1,q2,q3⟩:=U;obtain⟨F1,I0,g1,g2,g3,g4,g5,g6⟩:=rn (by omega) ps vs.toList s s1 _ es F L h hbe hl hv q1 q2;have A:J es=len:=by rw[g3,zbp]
      obtain⟨h1,h2,h3,h4⟩:=mn g1 hn (g1:= .slice (Z ⟨w.heap.size,0,Y⟩) len len) (w':=w.alloc (.cells I0 e))
       (λb R=>cb w _ b R) (by simp) rfl rfl rfl (λb R=>by simp[a7,aI] at R;omega)
       (.inr ⟨w.heap.size,len,I0,k+1,by rw[aM,A],heap_alloc_new w _,hk,by omega,by omega,by simp only[maxLen];have:len<=len*(k+1):=Nat.le_mul_of_pos_right _ (by omega);omega,
        by rw[g4,A],by simp,g5.mono (λ_ h=>h) (λb R=>cb w _ b (g1.gL b R))⟩)
      obtain⟨c1,c2⟩:=cL h1 l (v:= .slice (Z ⟨w.heap.size,0,Y⟩) len len) (bR.of (.sl (site dst) aU len _ rfl ⟨_,h4,zag _,λ_ _=>⟨_,len,len,aM _ _ _,rfl,zag _⟩⟩));refine⟨_,_,_,_,?_,c1,?_⟩
      ·have dy:(Go.sizeOf e).run Q w= .ok (k+1) w:=run_sizeOf hk w;unfold Instr.buildSlice;simp only[Sem.run_bind,run_underlying ht,Result.andThen_ok,dy];rw[zat (by omega)];rcases q3 with⟨B,rfl⟩| ⟨B,rfl⟩
       ·have e0:((te (len*(k+1))).map λx=>(#[]:Array W)[x%(#[]:Array W).size]!)= #[]:=by rw[B];simp
        rw[zau B];simp only[Sem.run_bind,Sem.run_pure,Result.andThen_ok];rw[e0,g6];rfl
       have e0:((te (len*(k+1))).map λx=>H.cells[x%H.cells.size]!)=madeCells H.cells (len*(k+1)):=rfl;rw[zat B];have EF:(zeroValue e).run Q w= .ok H w:=by simp[zeroValue,typeInfo,V,Qg]
       simp only[Sem.run_bind,Sem.run_pure,Result.andThen_ok,EF];rw[e0,g6];rfl
      rw[c2];exact g2.trans h2
     cases l
    cases l
   cases l
  cases l
 cases l
theorem s6{t k}: ∀ps es l,r4 Q t k es ps=Z l-> ∀s,dB Q t k s es ps=Z (s,l)
 | [],es,l,h,s=>by simp only[r4,zai] at h;subst h;rfl
 | (i,.d x)::r,es,l,h,s=>by
  have e:pD Q s t (.d x)=Z (s,nzE Q t x):=by
   unfold pD nzE;cases sV Q t with
   |false=>rfl
   |true=>show(nzD Q t x).force (λy=>Z (s,y))=_;rw[D.force_eq]
  simp only[r4] at h;split at h
  next A=>simp only[dB,e,zau A];exact s6 r _ _ h s
  cases h
 | (_,.agg _)::_,_,_,h,_ | (_,.cy _)::_,_,_,h,_ | (_,.ref ..)::_,_,_,h,_ | (_,.eB ..)::_,_,_,h,_ | (_,.fT ..)::_,_,_,h,_ | (_,.sl ..)::_,_,_,h,_ | (_,.nu ..)::_,_,_,h,_ | (_,.mp ..)::_,_,_,h,_ | (_,.fn ..)::_,_,_,h,_ | (_,.bad)::_,_,_,h,_ | (_,.when ..)::_,_,_,h,_=>by simp[r4] at h
theorem ax.grow(h:ax Q T F G w a s) cs e:ax Q T (λb=>F b\/b=w.heap.size) G (w.alloc (.cells cs e)) a s/\Ext (Own G s.rg) (Own G s.rg) F (λb=>F b\/b=w.heap.size) w (w.alloc (.cells cs e)):=by
 have hk: ∀b,b<w.heap.size->(w.alloc (.cells cs e)).heap[b]?=w.heap[b]?:=λb l=>cb w _ b l;have R:(w.alloc (.cells cs e)).heap.size=w.heap.size+1:=by simp
 have B:Ext (Own G s.rg) (Own G s.rg) F (λb=>F b\/b=w.heap.size) w (w.alloc (.cells cs e)):=
  ⟨λ_=> .inl,λb l=>l.elim .inl λe=> .inr (.inr (by omega)),λ_=> .inl,λb l _=>hk b l,by omega,rfl,rfl,rfl⟩
 refine⟨⟨h.oR.go B,h.size,λt p H=>bR.mono (λ_=> .inl) (λb l=>hk b (h.gL b l)) (Names.refl _ _) (h.tm t p H),λn e A=>(h.rg n e A).mono (λ_=> .inl) (λb l=>hk b (h.gL b l)) (Names.refl _ _) rfl (λb l=>hk b ((h.rg n e A).lt l)),h.own,
  λn e b A l L=>L.elim (h.jb n e b A l) λe'=> ?_,λb l=> ?_,h.tag,λb l=>⟨.inl (h.z b l).1,(hk b (h.gL b (h.z b l).1)).trans (h.z b l).2⟩,h.dr,zaJ h.sz B.size⟩,B⟩
 ·have:=(h.rg n e A).lt l;omega
 rcases l with l |l
 ·have:=h.gL b l;omega
 omega
theorem WC(h:ax Q T F G w a s){t len ps p}(l:Ep Q t len ps=Z p){vs}(hl:J vs.toList=J ps)
  (hv: ∀(i:Nat) x y,vs.toList[i]?=Z x->ps[i]?=Z y->x.1=y.1/\aL F w G s.rg x.2 y.2):
  ∃v w' F',(Instr.buildSlice t len vs).run Q w= .ok v w'/\ax Q T F' G w' a s/\aL F' w' G s.rg v p/\Ext (Own G s.rg) (Own G s.rg) F F' w w':=by
 unfold Ep at l;split at l
 next e het=>
  have ht:=eD het;split at l
  next i k z B hk hz=>
   obtain⟨i',_,zG,_,gM⟩:=ij hk;rw[B] at zG;cases zG;obtain⟨R,Qg,Vd,hzs⟩:=pK B hz;split at l
   ·rename_i fa;simp only[zac] at fa;obtain⟨⟨EK,WB⟩,GG⟩:=fa;have EK:J z.cells=k+1:=by simpa using EK
    have WB:=zbL WB;split at l
    ·rename_i es hde;cases l;have hbe:=s6 _ _ _ hde s;have X: ∃U:Array W,U.size=J (ee len z)*(k+1)/\nw F w U (k+1) (ee len z)/\((len*(k+1)=0/\U= #[])\/(len*(k+1)≠0/\U=madeCells R.cells (len*(k+1)))):=by
      by_cases H:len*(k+1)=0
      ·have:len=0:=by grind
       subst this;exact⟨#[],by simp,λi x A=>by simp at A,.inl ⟨H,rfl⟩⟩
      exact⟨madeCells R.cells (len*(k+1)),by rw[size_madeCells,zbp],r9 (bf.wW _ _ Vd) EK (zag _),.inr ⟨H,rfl⟩⟩
     obtain⟨U,q1,q2,q3⟩:=X;obtain⟨F1,L,g1,g2,g3,g4,g5,g6⟩:=rn (by omega) ps vs.toList s s _ es F U h hbe hl hv q1 q2;have V:J es=len:=by rw[g3,zbp]
     obtain⟨h1,h2⟩:=g1.grow L e;have hE:nw (λb=>F1 b\/b=w.heap.size) (w.alloc (.cells L e)) L (k+1) es:=g5.mono (λ_=> .inl) (λb hb=>cb w _ b (g1.gL b hb));refine⟨.slice (Z ⟨w.heap.size,0,Y⟩) len len,_,_,?_,h1,?_,g2.trans h2⟩
     ·have dy:(Go.sizeOf e).run Q w= .ok (k+1) w:=run_sizeOf hk w;unfold Instr.buildSlice;simp only[Sem.run_bind,run_underlying ht,Result.andThen_ok,dy];rw[zat (by omega)];rcases q3 with⟨H,rfl⟩| ⟨H,rfl⟩
      ·have e0:((te (len*(k+1))).map λx=>(#[]:Array W)[x%(#[]:Array W).size]!)= #[]:=by rw[H];simp
       rw[zau H];simp only[Sem.run_bind,Sem.run_pure,Result.andThen_ok];rw[e0,g6];rfl
      have e0:((te (len*(k+1))).map λx=>R.cells[x%R.cells.size]!)=madeCells R.cells (len*(k+1)):=rfl;rw[zat H];have EF:(zeroValue e).run Q w= .ok R w:=by simp[zeroValue,typeInfo,B,Qg]
      simp only[Sem.run_bind,Sem.run_pure,Result.andThen_ok,EF];rw[e0,g6];rfl
     refine .d ?_;have cH: ∀j,j<J es*(k+1)->(w.alloc (.cells L e)).cell? ⟨w.heap.size,0+j,Y⟩=Z (L.getD j undef):=λj hj=>by simp_all
     have:=bf.Qe (F:=λb=>F1 b\/b=w.heap.size) (w:=w.alloc (.cells L e)) w.heap.size 0 (k+1) len es (λj=>L.getD j undef) (by omega) (.inr rfl)
      (λx A=>by obtain⟨i,B,rfl⟩:=zaM A;exact(hE i _ (zae B)).1) (λx A=>by obtain⟨i,B,rfl⟩:=zaM A;exact(hE i _ (zae B)).2.1) cH (λi j x c A hc=>(hE i x A).2.2 j c hc)
     rwa [V] at this
    cases l
   cases l
  cases l
 cases l
theorem GI{t B ty e i}(L:Q.underlying t=Z (.slice e))(V:Q.info? e=Z i){b dLen dCap l}(X:w.heap[b]?=Z (.cells l e (0,0))){x n h}(A:Src Q i.size B x n h w)
  (R:n<=dLen) (J4:J h<=l.size):
  (Builtin.copy_ #[t,B] ty #[.slice (Z ⟨b,0,Y⟩) dLen dCap,x]).run Q w= .ok (goInt n) (w.setRow b (h++l.toList.drop (J h)).toArray):=by
 have H:=run_storeCells_at Q b 0 e h 0 l w X (by grind) A.one;have U:=zco R;simp[Builtin.copy_,run_underlying L,Go.sizeOf,typeInfo,V,A.len,U,A.cells,H]
theorem run_copy_none{t h ty e i}(A:Q.underlying t=Z (.slice e))(H:Q.info? e=Z i){dLen dCap x}(l:Src Q i.size h x 0 [] w):
  (Builtin.copy_ #[t,h] ty #[.slice Y dLen dCap,x]).run Q w= .ok (goInt 0) w:=by
 have B:Nat.min 0 dLen=0:=Nat.zero_min _;simp[Builtin.copy_,run_underlying A,Go.sizeOf,typeInfo,H,l.len,B,l.cells]
theorem WD(h:ax Q T F G w a s){dst t V ty p q s'}(H:uU Q s dst t V p q=Z s'){vx U}(hx:aL F w G s.rg vx p)(hy:aL F w G s.rg U q):
  ∃v w' G',(Builtin.copy_ #[t,V] ty #[vx,U]).run Q w= .ok v w'/\ax Q T F G' w' (a.put dst v) s'/\Ext (Own G s.rg) (Own G' s'.rg) F F w w':=by
 unfold uU at H;split at H
 next e n aU len het=>
  have ht:=eD het;split at H
  next k hk=>
   obtain⟨i,_,hi,_,gM⟩:=ij hk;split at H
   ·rename_i ys A es hys ho;split at H
    ·rename_i hc;simp only[zac,zam] at hc;obtain⟨NL,hle,hyl⟩:=hc;have NL:A=e:=by simpa using NL
     subst NL;obtain⟨B,L,dR,R⟩:=S.bY ho;obtain⟨l,DG,fj⟩:=GH h (by omega) hys hy;have X:Src Q i.size V U (J ys) l w:=by rw[gM];exact DG
     rw[S.fb L] at H;have fh:mj G s.rg n ⟨B.aU,B.tag,.arr A C (ys++es.drop (J ys))⟩ (G n):=λe' cP=>by rw[L] at cP;cases cP;exact .inr ⟨rfl,λ_=>⟨by rw[R];rfl,rfl⟩⟩
     have fin: ∀(w':World) (v:W),(Builtin.copy_ #[t,V] ty #[vx,U]).run Q w= .ok v w'->v= .int DD (J ys)->(∀b,b<w.heap.size-> ¬(∃e,lk s.rg n=Z e/\a7 (G n) e.obj b)->w'.heap[b]?=w.heap[b]?)->
       w.heap.size<=w'.heap.size->w'.os=w.os->w'.tape=w.tape->w'.output=w.output->ny Q F w' G (ins n ⟨B.aU,B.tag,.arr A C (ys++es.drop (J ys))⟩ s.rg) n (.arr A C (ys++es.drop (J ys)))->
       ∃v w' G',(Builtin.copy_ #[t,V] ty #[vx,U]).run Q w= .ok v w'/\ax Q T F G' w' (a.put dst v) s'/\Ext (Own G s.rg) (Own G' s'.rg) F F w w':=by
      intro w' v cE hv eT dy Wm htp bF J5;obtain⟨d1,d2⟩:=h.gj (n:=n) (e1:=⟨B.aU,B.tag,.arr A C (ys++es.drop (J ys))⟩) (g1:=G n) (w':=w') (hdr:=r8 _ cE) fh eT dy Wm htp bF
       (λb hb=> .inr ⟨B,L,by rw[R];exact hb⟩) (by rw[bH];exact J5) (λi zG _=>h.tag n B i L zG (by rw[R];rfl))
      obtain⟨c1,c2⟩:=cL d1 H (v:= .int DD (J ys)) (bR.of (.d (.int DD (J ys))));grind
     have hO:=h.rg n B L;rw[R] at hO;cases hx with
     |sl _ _ _ _ h1 hr=>
      obtain⟨a0,N,cap,hG,rfl,qq5⟩:=hr.at L dR (by rw[R];rfl);rcases hO with⟨hg,rfl⟩| ⟨b,iZ,cs,k',hg,hh,jL,qco,MZ,yf,dy,_,hE⟩
      ·rw[hG] at hg;obtain⟨rfl,rfl,rfl⟩:=hg;have h0:ys=[]:=zaz (by omega);subst h0;have hn0:l=[]:=by have:=fj.1;simpa using this
       subst hn0;exact fin w _ (run_copy_none ht hi X) rfl (λ_ _ _=>rfl) (zag _) rfl rfl rfl (.inl ⟨hG,by simp⟩)
      rw[hk] at jL;cases jL;rw[hG] at hg;obtain⟨rfl,rfl,rfl⟩:=hg;have qci:J ys<=J es:=by omega
      have AY:=fj.1;have J4:J l<=cs.size:=by rw[AY,dy];exact zaq _ (by omega)
      have cE:=GI (ty:=ty) (dLen:=len) (dCap:=cap) ht hi hh X hyl J4;have vj:J (ys++es.drop (J ys))=J es:=by rw[zaf,zaX];omega
      have dO:a7 (G n) B.obj b:=by rw[R,hG];simp[a7,aI]
      have Ws:=h.jb n B b L dO;have hkF: ∀c,F c->(w.setRow b (l++cs.toList.drop (J l)).toArray).heap[c]?=w.heap[c]?:=λc hc=>setRow_other w b c _ (λe=>Ws (e▸hc));refine fin _ _ cE rfl (λc _ cD=>setRow_other w b c _ (λe'=>cD ⟨B,L,by rw[e'];exact dO⟩)) (by simp) rfl rfl rfl
       (.inr ⟨b,cap,_,k+1,by rw[vj];exact hG,setRow_heap w b cs _ A _ hh,hk,by omega,by rw[vj];exact MZ,yf,?_,by simp,?_⟩)
      ·skip
       grind
      refine eY.toE ?_;rw[vj];have hf:=(eY.take hE (zag _) (by simp_all [zaq])).drop (J ys);rw[zan] at hf;have e1:((l++cs.toList.drop (J l)).toArray.toList.take (J es*(k+1)))=l++(cs.toList.take (J es*(k+1))).drop (J ys*(k+1)):=by rw[List.take_append,zak (by simp_all [zaq]),AY,zcS]
      rw[e1];exact(fj.append hf).mono (λ_ h=>h) hkF
     |_=>rename_i hd;cases hd
    cases H
   cases H
  cases H
 cases H
theorem S0{F w z h}{k l}(A:bf F w h z)(B:J z.cells=k):eY F w k (ee l z) (OK h.cells l).toList:=by
 obtain⟨X,c2,c3⟩:=eS A;have L:h.cells.size=k:=by rw[<-B,<-X];simp
 have R:=r9 (l:=l) (n:=l*k) A B (zag _);have V:(madeCells h.cells (l*k)).size=l*k:=by simp[size_madeCells]
 have H:=eY.take (len:=l) R (by simp) (by rw[zbp,V];simp);have e1:(ee l z).take l=ee l z:=zak (by simp);have U:(OK h.cells l).toList=(madeCells h.cells (l*k)).toList.take (l*k):=by rw[zak (by grind)];unfold OK madeCells;rw[L]
 rw[e1] at H;rw[U];exact H
theorem S1(h:ax Q T F G w a s){dst t ty p s'}(H:pF Q s dst t p=Z s'){vx}(hx:aL F w G s.rg vx p):
  ∃v w' G',(Builtin.clear_ #[t] ty #[vx]).run Q w= .ok v w'/\ax Q T F G' w' (a.put dst v) s'/\Ext (Own G s.rg) (Own G' s'.rg) F F w w':=by
 unfold pF at H;split at H
 next e n aU k0 off len het=>
  have ht:=eD het;split at H
  next k z A es hk hz ho=>
   obtain⟨i,_,hi,_,gM⟩:=ij hk;split at H
   ·rename_i hc;simp only[zac,zam] at hc;obtain⟨⟨⟨NL,kU⟩,EK⟩,qhG⟩:=hc;have NL:=zad NL;have kU:=zad kU;have EK:=zad EK;subst NL kU;obtain⟨B,R,dR,X⟩:=S.bY ho;obtain⟨V,EF,MY⟩:=re hz w;rw[S.fb R] at H;generalize U:es.take off++ee len z++es.drop (off+len)=dP at H;have vj:J dP=J es:=by rw[<-U];simp;omega
    have fh:mj G s.rg n ⟨B.aU,B.tag,.arr A C dP⟩ (G n):=λe' cP=>by rw[R] at cP;cases cP;exact .inr ⟨rfl,λ_=>⟨by rw[X];rfl,rfl⟩⟩
    have fin: ∀(w':World),(Builtin.clear_ #[t] ty #[vx]).run Q w= .ok (.tuple #[]) w'->(∀b,b<w.heap.size-> ¬(∃e,lk s.rg n=Z e/\a7 (G n) e.obj b)->w'.heap[b]?=w.heap[b]?)->
      w.heap.size<=w'.heap.size->w'.os=w.os->w'.tape=w.tape->w'.output=w.output->ny Q F w' G (ins n ⟨B.aU,B.tag,.arr A C dP⟩ s.rg) n (.arr A C dP)->
      ∃v w' G',(Builtin.clear_ #[t] ty #[vx]).run Q w= .ok v w'/\ax Q T F G' w' (a.put dst v) s'/\Ext (Own G s.rg) (Own G' s'.rg) F F w w':=by
     intro w' cE eT dy Wm htp bF J5;obtain⟨d1,d2⟩:=h.gj (n:=n) (e1:=⟨B.aU,B.tag,.arr A C dP⟩) (g1:=G n) (w':=w') (hdr:=r8 _ cE) fh eT dy Wm htp bF
      (λb hb=> .inr ⟨B,R,by rw[X];exact hb⟩) (by rw[bH];exact J5) (λi zG _=>h.tag n B i R zG (by rw[X];rfl))
     obtain⟨c1,c2⟩:=cL d1 H (v:= .tuple #[]) (bR.of (.bad _));grind
    have hO:=h.rg n B R;rw[X] at hO;cases hx with
    |nu _ _ _ _ _ _ h1 hr=>
     obtain⟨a0,N,cap,hG,hle,a1,sH,rfl,Wb,hzz⟩:=hr.at R dR (by rw[X];rfl);by_cases h0:len=0
     ·subst h0;have e0:dP=es:=by rw[<-U];simp
      subst e0;refine fin w ?_ (λ_ _ _=>rfl) (zag _) rfl rfl rfl ?_
      ·cases a1<;>simp[Builtin.clear_,run_underlying ht]
      exact hO
     obtain⟨L,ha0,Va⟩: ∃b,a0=Z ⟨b,0,Y⟩/\a1=Z ⟨b,off*(k+1),Y⟩:=by grind
     subst ha0 Va;rcases hO with⟨hg,rfl⟩| ⟨b,iZ,cs,k',hg,hh,jL,qco,MZ,yf,dy,_,hE⟩
     ·rw[hG] at hg;simp at hg
     rw[hk] at jL;cases jL;rw[hG] at hg;obtain⟨rfl,rfl,rfl⟩:=hg;have I3:=S0 (l:=len) MY EK;have AY:J (OK V.cells len).toList=len*(k+1):=by have:=I3.1;grind
     have hole:off*(k+1)+len*(k+1)<=J es*(k+1):=by rw[<-zaV];simp_all [zaq]
     have qtq:J es*(k+1)<=cs.size:=by simp_all [zaq]
     have iM:=run_storeCells_at Q L (off*(k+1)) A (OK V.cells len).toList 0 cs w hh (by omega) (I3.one (by omega));simp only[zb9,AY] at iM;have cE:(Builtin.clear_ #[t] ty #[.slice (Z ⟨L,off*(k+1),Y⟩) len sH]).run Q w= .ok (.tuple #[]) (w.setRow L (cs.toList.take (off*(k+1))++(OK V.cells len).toList++cs.toList.drop (off*(k+1)+len*(k+1))).toArray):=by simp[Builtin.clear_,run_underlying ht,EF,iM]
     have dO:a7 (G n) B.obj L:=by rw[X,hG];simp[a7,aI]
     have Ws:=h.jb n B L R dO;have hkF: ∀c,F c->(w.setRow L (cs.toList.take (off*(k+1))++(OK V.cells len).toList++cs.toList.drop (off*(k+1)+len*(k+1))).toArray).heap[c]?=w.heap[c]?:=λc hc=>setRow_other w L c _ (λe=>Ws (e▸hc));refine fin _ cE (λc _ cD=>setRow_other w L c _ (λe'=>cD ⟨B,R,by rw[e'];exact dO⟩)) (by simp) rfl rfl rfl
      (.inr ⟨L,cap,_,k+1,by rw[vj];exact hG,setRow_heap w L cs _ A _ hh,hk,by omega,by rw[vj];exact MZ,yf,?_,by simp,?_⟩)
     ·skip
      grind
     refine eY.toE ?_;rw[vj,<-U];have f1:=eY.take (len:=off) hE (by omega) (by grind);have f3:=(eY.take hE (zag _) (by grind)).drop (off+len);rw[zan] at f3;have e1:((cs.toList.take (off*(k+1))++(OK V.cells len).toList++cs.toList.drop (off*(k+1)+len*(k+1))).toArray.toList.take (J es*(k+1)))=cs.toList.take (off*(k+1))++(OK V.cells len).toList++(cs.toList.take (J es*(k+1))).drop ((off+len)*(k+1)):=by
      have l1:J (cs.toList.take (off*(k+1)))=off*(k+1):=by simp;omega
      rw[List.take_append,zak (by rw[zaf,l1,AY];exact hole),zaf,l1,AY,zcS,zaV]
     rw[e1];exact((f1.append I3).append f3).mono (λ_ h=>h) hkF
    |_=>rename_i hd;cases hd
   cases H
  cases H
 cases H
end
end Pi
