/- The text PiBase. -/
import GoSem.Dispatch
abbrev zaa:=@List.getElem?_eq_some_iff
abbrev zab:=@Nat.eq_of_beq_eq_true
abbrev zac:=@List.getElem?_eq_getElem
abbrev zad:=@Bool.and_eq_true
abbrev zae:=@Nat.le_refl
abbrev zaf:=@Option.some.injEq
abbrev zag:=@List.length_map
abbrev zah:=@Nat.mul_le_mul_right
abbrev zai:=@List.getElem?_map
abbrev zaj:=@Option.map_eq_some_iff
abbrev zak:=@List.mem_of_getElem?
abbrev zal:=@Option.some.inj
abbrev zam:=@Option.bind_some
abbrev zan:=@List.mem_cons
abbrev zao:=@List.getElem?_of_mem
abbrev zap:=@Array.getElem?_eq_some_iff
abbrev zaq:=@List.getD_eq_getElem?_getD
abbrev zar:=@Bool.false_eq_true
abbrev zas:=@List.length_set
abbrev zat:=@if_pos
abbrev zau:=@List.getElem?_set_ne
abbrev zav:=@Array.getD_eq_getD_getElem?
abbrev zaw:=@List.length_append
abbrev zax:=@List.nodup_cons
abbrev zay:=@List.take_of_length_le
abbrev zaz:=@Nat.add_mul
abbrev zaA:=@Option.map_some
abbrev zaB:=@if_neg
abbrev zaC:=@Array.getElem?_setIfInBounds_ne
abbrev zaD:=@List.getElem?_append_left
abbrev zaE:=@List.getElem?_set_self
abbrev zaF:=@List.length_cons
abbrev zaG:=@List.getElem?_append_right
abbrev zaH:=@List.mem_append
abbrev zaI:=@decide_eq_true_eq
abbrev zaJ:=@List.eq_nil_of_length_eq_zero
abbrev zaK:=@Nat.lt_of_lt_of_le
abbrev zaL:=@List.mem_singleton
abbrev zaM:=@List.getElem_of_mem
abbrev zaN:=@Nat.le_trans
abbrev zaO:=@List.map_cons
abbrev zaP:=@List.mem_cons_of_mem
abbrev zaQ:=@List.mem_map
abbrev zaR:=@List.length_replicate
abbrev zaS:=@List.getElem?_take
abbrev zaT:=@if_true
abbrev zaU:=@List.mem_of_mem_eraseIdx
abbrev zaV:=@Nat.one_mul
abbrev zaW:=@Array.getElem?_setIfInBounds_self_of_lt
abbrev zaX:=@List.getElem_mem
abbrev zaY:=@List.all_eq_true
abbrev zaZ:=@List.flatMap_cons
abbrev za0:=@List.map_append
abbrev za1:=@Array.toList_inj
abbrev za2:=@Nat.zero_le
abbrev za3:=@if_false
abbrev za4:=@List.getElem?_drop
abbrev za5:=@Ne.symm
abbrev za6:=@List.findIdx?_eq_some_iff_getElem
abbrev za7:=@List.ext_getElem?
abbrev za8:=@List.nodup_append
abbrev za9:=@Prod.mk.injEq
abbrev zba:=@Array.getElem?_eq_getElem
abbrev zbb:=@List.cons.injEq
abbrev zbc:=@List.mem_eraseIdx_iff_getElem?
abbrev zbd:=@Nat.ble_eq
abbrev zbe:=@List.any_eq_true
abbrev zbf:=@Nat.add_assoc
abbrev zbg:=@List.length_nil
abbrev zbh:=@List.map_congr_left
abbrev zbi:=@cond_false
abbrev zbj:=@List.mem_flatMap
abbrev zbk:=@cond_true
abbrev zbl:=@List.mem_or_eq_of_mem_set
abbrev zbm:=@decide_eq_true
abbrev zbn:=@Bool.not_eq_true'
abbrev zbo:=@List.getElem?_cons_succ
abbrev zbp:=@Option.bind_eq_some_iff
abbrev zbq:=@Nat.le_succ
abbrev zbr:=@List.mem_map_of_mem
abbrev zbs:=@List.not_mem_nil
abbrev zbt:=@List.find?_cons
abbrev zbu:=@Nat.le_of_ble_eq_true
abbrev zbv:=@List.nil_append
abbrev zbw:=@List.eraseIdx_sublist
abbrev zbx:=@List.map_set
abbrev zby:=@List.set_append_right
abbrev zbz:=@List.pairwise_iff_getElem
abbrev zbA:=@List.length_drop
abbrev zbB:=@List.flatMap_append
abbrev zbC:=@Nat.lt_or_gt_of_ne
abbrev zbD:=@List.pairwise_cons
abbrev zbE:=@List.eraseIdx_append_of_length_le
abbrev zbF:=@List.size_toArray
abbrev zbG:=@List.eraseIdx_eq_take_drop_succ
abbrev zbH:=@List.take_append_drop
abbrev zbI:=@Array.getElem?_toList
abbrev zbJ:=@Nat.add_zero
abbrev zbK:=@Nat.zero_add
abbrev zbL:=@List.getElem?_eq_none
abbrev zbM:=@Option.getD_some
abbrev zbN:=@List.length_take
abbrev zbO:=@List.mem_of_mem_drop
abbrev zbP:=@List.mem_of_mem_take
abbrev zbQ:=@Bool.and_self
abbrev zbR:=@Bool.or_eq_true
abbrev zbS:=@Option.map_none
abbrev zbT:=@decide_eq_false
abbrev zbU:=@List.map_nil
abbrev zbV:=@List.find?_eq_none
abbrev zbW:=@List.mem_cons_self
abbrev zbX:=@List.drop_eq_getElem_cons
abbrev zbY:=@List.append_assoc
abbrev zbZ:=@Function.comp_def
abbrev zb0:=@not_or
abbrev zb1:=@List.any_eq_false
abbrev zb2:=@List.getElem?_cons_zero
abbrev zb3:=@List.eraseIdx_cons_zero
abbrev zb4:=@List.eraseIdx_cons_succ
abbrev zb5:=@true_and
abbrev zb6:=@List.ext_getElem
abbrev zb7:=@List.take_length
abbrev zb8:=@List.drop_eq_nil_of_le
abbrev zb9:=@Bool.eq_iff_iff
abbrev zca:=@Nat.min_eq_left
abbrev zcb:=@Nat.mul_comm
abbrev zcc:=@List.contains_iff_mem
abbrev zcd:=@and_true
abbrev zce:=@List.length_eraseIdx
abbrev zcf:=@List.drop_take
abbrev zcg:=@List.nodup_nil
abbrev zch:=@List.drop_zero
abbrev zci:=@Array.length_toList
abbrev zcj:=@List.set_cons_zero
abbrev zck:=@List.set_cons_succ
abbrev zcl:=@Array.foldl_toList
abbrev zcm:=@or_false
abbrev zcn:=@Nat.eq_or_lt_of_le
abbrev zco:=@Array.toList_push
abbrev zcp:=@List.getElem?_inj
abbrev zcq:=@List.eq_nil_iff_forall_not_mem
abbrev zcr:=@Array.toList_map
abbrev zcs:=@List.append_nil
abbrev zct:=@List.length_eraseIdx_of_lt
abbrev zcu:=@List.drop_drop
abbrev zcv:=@Option.isNone_iff_eq_none
abbrev zcw:=@Classical.byContradiction
abbrev zcx:=@List.findIdx?_eq_none_iff
abbrev zcy:=@Nat.mod_lt
abbrev zcz:=@Array.getElem?_replicate
abbrev zcA:=@Bool.false_or
abbrev zcB:=@List.length_eq_zero_iff
namespace Pi
open Go
inductive D where
 |bool (b:Bool)
 |int (k:IntKind) (n:Int)
 |str (s:List UInt8)
 |agg (cs:List D)
 |sl (k:Nat) (es:List D)
 |bu
 |jf
 |mh
 |tc
 |tf
 |Bn (b len cap:Nat)
 |unk
 deriving Inhabited
def D.cells:D->List D
 | .agg cs=>cs
 |x=>[x]
def D.aI:D->Bool
 | .agg _=>false
 |_=>true
inductive P where
 |d (x:D)
 |agg (ps:List P)
 |ref (n v off:Nat)
 |bR (n v i k off:Nat)
 |dg (x:D) (off:Nat)
 |sl (n v len:Nat)
 |hZ (n v k off len:Nat)
 |mp (n v:Nat)
 |hd (n v:Nat)
 |rf (n v len:Nat)
 |raw (v:Value)
 |fn (f:FuncId) (bH:List P)
 |fL (ps:List P)
 |when (slot:Nat) (want:Bool) (p:P)
 |bad
 deriving Inhabited
def P.skip:P:= .when 0 false .bad
def P.aI:P->Bool
 | .d x=>x.aI
 | .ref .. | .bR .. | .dg .. | .sl .. | .hZ .. | .mp .. | .hd .. | .rf .. | .fn ..=>true
 |_=>false
inductive Obj where
 |gone
 |box (ty:TypeId) (ps:List P)
 |arr (ty:TypeId) (fz:Bool) (es:List D)
 |map (kt:Nat) (get:D->Option D) (n:Int) (fz:Bool)
 |iter (kt vt:Nat) (left:D->Option D) (cur:Option (D×D))
 |fy
 |fZ (kt:Nat) (get:D->Option D) (n:Int) (p:P) (kd:D)
 |bS (kt:Nat) (vals:D->Option Value) (n:Int) (hand:Option (D×P))
 |bC (ty:TypeId) (es:List D) (hand:Option (Nat×Nat×P))
 |deep (x:D) (p:World->Value->Prop)
 deriving Inhabited
structure En where
 az:Nat
 tag:Option Nat
 obj:Obj
def lk{α:Type}:List (Nat×α)->Nat->Option α
 | [],_=>none
 | (k,v)::r,j=>if Nat.beq k j then some v else lk r j
def ins{α:Type}(k:Nat)(v:α):List (Nat×α)->List (Nat×α)
 | []=>[(k,v)]
 | (j,u)::r=>if Nat.blt k j then(k,v)::(j,u)::r else if Nat.beq k j then(k,v)::r else(j,u)::ins k v r
structure S where
 n:Nat
 tm:List (Nat×P)
 rg:List (Nat×En)
def D.dK:D->Option Value
 | .bool b=>some (.bool b)
 | .int k n=>some (.int k n)
 | .str s=>some (.string ⟨⟨s⟩⟩)
 | .bu=>some (.slice none 0 0)
 | .jf=>some (.pointer none)
 | .mh=>some (.map none)
 | .tc=>some .nilFunc
 | .tf=>some .nilIface
 | .agg _ | .sl _ _ | .Bn .. | .unk=>none
def D.bU:List D->Option (List Value)
 | []=>some []
 |x::r=>match x.dK,D.bU r with |some v,some vs=>some (v::vs)|_,_=>none
def D.br:D->Option Value
 | .agg cs=>match D.bU cs with |some vs=>some (.agg ⟨vs⟩)|none=>none
 |x=>x.dK
def P.br:P->Option Value
 | .d x=>x.br
 |_=>none
def D.iw:Value->Option D
 | .bool b=>some (.bool b)
 | .int k n=>some (.int k n)
 | .string s=>some (.str s.data.toList)
 | .slice none 0 0=>some .bu
 | .pointer none=>some .jf
 | .map none=>some .mh
 | .nilFunc=>some .tc
 | .nilIface=>some .tf
 |_=>none
def D.tg:List Value->Option (List D)
 | []=>some []
 |v::r=>match D.iw v,D.tg r with |some x,some xs=>some (x::xs)|_,_=>none
def D.nh:Value->Option D
 | .agg cs=>match D.tg cs.toList with |some xs=>some (.agg xs)|none=>none
 |v=>D.iw v
def ah{α:Type}(Q:Program):Sem α->Option α
 | .pure a=>some a
 | .program k=>ah Q (k Q)
 | .mark _ k=>ah Q k
 |_=>none
def cD(Q:Program)(m:Sem Value):Option P:=
 match ah Q m with
 |some v=>match D.nh v with |some x=>some (.d x)|none=>none
 |none=>none
def S.ev(s:S):Operand->P
 | .tmp t=>(lk s.tm t).getD .bad
 | .const v=>match D.nh v with |some x=> .d x |none=> .bad
 | .func f=> .fn f []
 | .global _=> .bad
def P.under(_:Option (Nat×Bool)):P->P
 | .when ..=> .bad
 |p=>p
def S.eg(s:S)(g:Option (Nat×Bool))(x:Operand):P:=(s.ev x).under g
def S.put(s:S)(dst:Option Nat)(p:P):Option S:=
 match dst with
 |none=>some s
 |some t=>if Nat.blt t s.n then some ⟨s.n,ins t p s.tm,s.rg⟩ else none
def pq:List P->Option (List D)
 | []=>some []
 | .d x::r=>match pq r with |some xs=>some (x::xs)|none=>none
 |_=>none
def yK(ps:List P):P:=match pq ps with |some xs=> .d (.agg xs)|none=> .agg ps
def P.cells:P->List P
 | .agg ps=>ps
 | .d (.agg cs)=>cs.map .d
 |p=>[p]
def P.ib:P->Bool
 | .agg _ | .d _=>true
 |p=>p.aI
set_option backward.match.sparseCases false
def Ju(a b c:Nat):D->Bool
 | .Bn a' b' c'=>Nat.beq a a'&&(Nat.beq b b'&&Nat.beq c c')
 |_=>false
mutual
def D.cP:D->D->Bool
 | .bool a,.bool b=>a==b
 | .int k a,.int k' b=>k==k'&&a==b
 | .str a,.str b=>a==b
 | .agg a,.agg b=>D.xo a b
 | .sl k a,.sl k' b=>k==k'&&D.xo a b
 | .Bn a b c,y=>Ju a b c y
 | .bu,.bu | .jf,.jf | .mh,.mh | .tc,.tc | .tf,.tf | .unk,.unk=>true
 |_,_=>false
def D.xo:List D->List D->Bool
 | [],[]=>true
 |x::xs,y::ys=>D.cP x y&&D.xo xs ys
 |_,_=>false
end
set_option backward.match.sparseCases true
def dR(k v:D)(get:D->Option D):D->Option D:=λk'=>bif D.cP k k' then some v else get k'
def vd(k:D)(get:D->Option D):D->Option D:=λk'=>bif D.cP k k' then none else get k'
def sz(Q:Program)(t:TypeId):Option Nat:=match Q.info? t,Q.underlying t with |some i,some _=>some i.size |_,_=>none
def cd(Q:Program)(t:TypeId):Bool:=match Q.underlying t with |some (.struct _)|some (.array _ _)=>true |_=>false
def bI(Q:Program)(t:TypeId):Option TypeId:=match Q.underlying t with |some (.slice e)=>some e |_=>none
def gw(Q:Program)(t:TypeId)(ps:List P)(off:Nat):Option P:=
 match sz Q t with
 |none=>none
 |some k=>if cd Q t then(if Nat.ble (off+k) ps.length then some (yK ((ps.drop off).take k)) else none) else ps[off]?
def eX(Q:Program)(t:TypeId)(cs:List D)(off:Nat):Option D:=
 match sz Q t with
 |none=>none
 |some k=>if cd Q t then(if Nat.ble (off+k) cs.length then some (.agg ((cs.drop off).take k)) else none) else cs[off]?
def S.obj(s:S)(n v:Nat):Option Obj:=
 match lk s.rg n with
 |some e=>if Nat.beq e.az v then some e.obj else none
 |none=>none
def rh(Q:Program)(go:TypeId->D->D->Option Bool):List Field->List D->List D->Option Bool
 | [],_,_=>some true
 |f::r,xs,ys=>match f.name== "_" with
  |true=>rh Q go r xs ys
  |false=>match eX Q f.type xs f.offset,eX Q f.type ys f.offset with
   |some x,some y=>match go f.type x y,rh Q go r xs ys with
    |some a,some b=>some (a&&b)
    |_,_=>none
   |_,_=>none
def xp(m:Nat)(e:TypeId)(k:Nat):List Field:=(List.range m).map λi=>⟨"x",e,i*k,false, "", "",0⟩
def Bo(Q:Program):Nat->TypeId->D->D->Option Bool
 |0,_,_,_=>none
 |n+1,t,x,y=>match Q.underlying t with
  |some .bool=>match x,y with | .bool a,.bool b=>some (a==b)|_,_=>none
  |some (.int _)=>match x,y with | .int k a,.int k' b=>(match k==k' with |true=>some (a==b)|false=>none)|_,_=>none
  |some .string=>match x,y with | .str a,.str b=>some (a==b)|_,_=>none
  |some (.struct fs)=>match x,y with
   | .agg xs,.agg ys=>match Q.stoodInHeld t with
    |true=>none
    |false=>rh Q (Bo Q n) fs.toList xs ys
   |_,_=>none
  |some (.array m e)=>match x,y with
   | .agg xs,.agg ys=>match sz Q e with
    |some k=>rh Q (Bo Q n) (xp m e k) xs ys
    |none=>none
   |_,_=>none
  |_=>none
def jG(Q:Program):Nat->List Field->Nat->Bool
 |off,[],qV=>Nat.beq off qV
 |off,f::r,qV=>Nat.beq f.offset off&&jG Q (off+Q.cellsOf f.type) r qV
def dS(Q:Program):Nat->TypeId->D->Bool
 |0,_,_=>false
 |n+1,t,x=>match Q.underlying t with
  |some .bool=>(match x with | .bool _=>true |_=>false)
  |some (.int k)=>(match x with | .int k' _=>k==k' |_=>false)
  |some .string=>(match x with | .str _=>true |_=>false)
  |some (.struct fs)=>(match x with
   | .agg cs=>Nat.beq cs.length (Q.cellsOf t)&&jG Q 0 fs.toList (Q.cellsOf t)&& !Q.stoodInHeld t&&fs.toList.all λf=> !(f.name== "_")&&(cd Q f.type ||Nat.beq (Q.cellsOf f.type) 1)&&(match eX Q f.type cs f.offset with |some y=>dS Q n f.type y |none=>false)
   |_=>false)
  |some (.array m e)=>(match x with
   | .agg cs=>(match sz Q e with
    |some k=>Nat.beq cs.length (Q.cellsOf t)&&jG Q 0 (xp m e k) (Q.cellsOf t)&&(xp m e k).all λf=> !(f.name== "_")&&(cd Q f.type ||Nat.beq (Q.cellsOf f.type) 1)&&(match eX Q f.type cs f.offset with |some y=>dS Q n f.type y |none=>false)
    |none=>false)
   |_=>false)
  |_=>false
def D.ve:D->Bool
 | .bool _ | .int _ _ | .str _=>true
 |_=>false
def cq(Q:Program)(kt:TypeId)(k:D):Bool:=dS Q 20 kt k&&k.cells.all D.ve&&(match k.br with
 |some v=>(match ah Q (Instr.checkKey false 10000 kt v),ah Q (Instr.checkKey true 10000 kt v) with |some _,some _=>true |_,_=>false)
 |none=>false)
def dF(Q:Program)(t:TypeId):Option (TypeId×TypeId):=match Q.underlying t with |some (.map k e)=>some (k,e)|_=>none
def eG(k:D):List (D×P)->Option P
 | []=>none
 | (j,p)::r=>bif D.cP j k then some p else eG k r
def mj(k:D)(p:P):List (D×P)->List (D×P)
 | []=>[(k,p)]
 | (j,q)::r=>bif D.cP j k then(k,p)::r else(j,q)::mj k p r
def ni(k:D):List (D×P)->List (D×P)
 | []=>[]
 | (j,q)::r=>bif D.cP j k then r else(j,q)::ni k r
def vf(k:D)(vals:D->Option Value):D->Option Value:=λj=>bif D.cP k j then none else vals j
def zT(vals:D->Option Value)(hand:Option (D×P))(k:D):Option P:=
 match hand with
 |some (k0,p)=>bif D.cP k0 k then some p else(vals k).map P.raw
 |none=>(vals k).map P.raw
def S.setObj(s:S)(n:Nat)(o:Obj):S:=
 match lk s.rg n with
 |some e=>{s with rg:=ins n ⟨e.az,e.tag,o⟩ s.rg}
 |none=>s
def S.new(s:S)(n:Nat)(o:Obj):Option (S×Nat):=
 match lk s.rg n with
 |none=>some ({s with rg:=ins n ⟨0,none,o⟩ s.rg},0)
 |some e=>match e.obj with
  | .gone=>some ({s with rg:=ins n ⟨e.az+1,none,o⟩ s.rg},e.az+1)
  |_=>match e.tag with
   |none=>some ({s with rg:=ins n ⟨e.az+1,none,o⟩ s.rg},e.az+1)
   |some _=>none
def splice(ps:List P)(off:Nat)(qs:List P):List P:=ps.take off++qs++ps.drop (off+qs.length)
def site(dst:Option Nat):Nat:=1000+dst.getD 999
def S.live(s:S)(n v:Nat):Bool:=
 match s.obj n v with
 |some .gone=>false
 |some _=>true
 |none=>false
def gl(s:S)(p:P):Option P:=
 match p with
 | .ref n v _ | .bR n v _ _ _=>if s.live n v then some p else none
 | .dg .. | .fn ..=>some p
 |_=>none
def gm(h:Option (Nat×Nat×P))(i:Nat)(x:D):List P:=
 match h with
 |some (hi,ho,hp)=>if hi=i then(x.cells.map P.d).set ho hp else x.cells.map P.d
 |none=>x.cells.map P.d
def iJ(Q:Program)(s:S)(t:TypeId):P->Option P
 | .ref n v off=>match s.obj n v with |some (.box _ ps)=>gw Q t ps off |_=>none
 | .bR n v i k off=>match s.obj n v with
  |some (.arr ty _ es)=>match sz Q ty,es[i]? with
   |some k',some x=>if Nat.beq k k' then(match eX Q t x.cells off with |some y=>some (.d y)|none=>none) else none
   |_,_=>none
  |some (.bC ty es h)=>match sz Q ty,es[i]? with
   |some k',some x=>if Nat.beq k k' then gw Q t (gm h i x) off else none
   |_,_=>none
  |_=>none
 | .dg x off=>match eX Q t x.cells off with |some y=>some (.d y)|none=>none
 |_=>none
def pr(Q:Program)(t:TypeId)(f:Nat):Option Nat:=
 match Q.underlying t with
 |some (.struct fs)=>match fs[f]? with
  |some fl=>match sz Q fl.type with |some (_+1)=>some fl.offset |_=>none
  |none=>none
 |_=>none
def fb(Q:Program)(s:S)(t:TypeId)(f:Nat)(p:P):Option P:=
 match pr Q t f with
 |none=>none
 |some o=>match p with
  | .ref n v off=>if s.live n v then some (.ref n v (off+o)) else none
  | .bR n v i k off=>if s.live n v then some (.bR n v i k (off+o)) else none
  | .dg x off=>some (.dg x (off+o))
  |_=>none
def j8(Q:Program)(s:S)(len:Nat)(e:TypeId)(p:P)(i:P):Option P:=
 match i,sz Q e with
 | .d (.int _ j),some (k+1)=>if 0<=j/\j<(len:Int) then(match p with
  | .ref n v off=>if s.live n v then some (.ref n v (off+j.toNat*(k+1))) else none
  | .bR n v i k' off=>if s.live n v then some (.bR n v i k' (off+j.toNat*(k+1))) else none
  | .dg x off=>some (.dg x (off+j.toNat*(k+1)))
  |_=>none) else none
 |_,_=>none
def yL(Q:Program)(t:TypeId):Option (Nat×TypeId):=match Q.underlying t with |some (.array n e)=>some (n,e)|_=>none
def dk(Q:Program)(s:S)(t:TypeId)(p:P)(i:P):Option P:=
 match yL Q t with
 |some (n,e)=>j8 Q s n e p i
 |none=>match bI Q t,i with
 |some e,.d (.int _ j)=>match sz Q e with
  |some (k+1)=>match p with
   | .sl n v len=>match s.obj n v with
    |some (.arr ty _ _)=>if Nat.beq ty e then(if 0<=j/\j<(len:Int) then some (.bR n v j.toNat (k+1) 0) else none) else none
    |some (.bC ty _ _)=>if Nat.beq ty e then(if 0<=j/\j<(len:Int) then some (.bR n v j.toNat (k+1) 0) else none) else none
    |_=>none
   | .hZ n v k' off len=>match s.obj n v with
    |some (.arr ty _ _)=>if Nat.beq ty e&&Nat.beq k' (k+1) then(if 0<=j/\j<(len:Int) then some (.bR n v (off+j.toNat) (k+1) 0) else none) else none
    |_=>none
   | .d (.sl k' es)=>if Nat.beq k' (k+1) then(if 0<=j then(match es[j.toNat]? with |some x=>some (.dg x 0)|none=>none) else none) else none
   |_=>none
  |_=>none
 |_,_=>none
def cr(len:Nat)(lo hi:Option P):Option (Nat×Nat):=
 match(match hi with |none=>some len |some (.d (.int _ j))=>if 0<=j/\j<=(len:Int) then some j.toNat else none |_=>none) with
 |none=>none
 |some h=>match lo with
  |none=>some (0,h)
  |some (.d (.int _ j))=>if 0<=j/\j<=(h:Int) then some (j.toNat,h) else none
  |_=>none
def jH(Q:Program)(s:S)(t:TypeId)(p:P)(lo:Option P):P:=
 match p with
 | .sl n v len=>match lo,s.obj n v,(bI Q t).bind (sz Q) with
  |some _,some (.arr ty true es),some (k+1)=>(match sz Q ty with |some k'=>if Nat.beq k' (k+1) then .d (.sl (k+1) (es.take len)) else p |none=>p)
  |_,_,_=>p
 |_=>p
def oS(Q:Program)(s:S)(t:TypeId)(p:P)(lo hi:Option P):Option P:=
 match bI Q t with
 |none=>none
 |some e=>match sz Q e with
  |some (k+1)=>match p with
   | .d (.sl k' es)=>if Nat.beq k' (k+1) then(match cr es.length lo hi with |some (l,h)=>some (.d (.sl k' ((es.take h).drop l)))|none=>none) else none
   | .sl n v len=>match s.obj n v,lo with
    |some (.arr _ _ _),none=>match cr len none hi with |some (_,h)=>some (.sl n v h)|none=>none
    |some (.arr ty _ _),some lo=>match sz Q ty with
     |some k'=>if Nat.beq k' (k+1) then(match cr len (some lo) hi with |some (l,h)=>some (.hZ n v (k+1) l (h-l))|none=>none) else none
     |none=>none
    |_,_=>none
   | .hZ n v k' off len=>match s.obj n v with
    |some (.arr _ _ _)=>if Nat.beq k' (k+1) then(match cr len lo hi with |some (l,h)=>some (.hZ n v (k+1) (off+l) (h-l))|none=>none) else none
    |_=>none
   |_=>none
  |_=>none
def ix(Q:Program)(s:S)(t:TypeId)(p:P)(lo hi:Option P):Option P:=oS Q s t (jH Q s t p lo) lo hi
def vg(s:S)(p:P):Option P:=
 match p with
 | .sl n v len | .hZ n v _ _ len | .rf n v len=>if s.live n v then some (.d (.int .i64 len)) else none
 | .d (.sl _ es)=>some (.d (.int .i64 es.length))
 |_=>none
def vi(s:S)(p:P):Option P:=
 match p with
 | .mp n v=>match s.obj n v with |some (.map _ _ c _)=>some (.d (.int .i64 c))|some (.bS _ _ c _)=>some (.d (.int .i64 c))|_=>none
 |_=>none
def nj(s:S)(p q:P):Option Bool:=
 match p,q with
 | .ref n v _,.d .jf | .bR n v _ _ _,.d .jf | .d .jf,.ref n v _ | .d .jf,.bR n v _ _ _ | .hd n v,.d .jf | .d .jf,.hd n v=>if s.live n v then some false else none
 | .dg _ _,.d .jf | .d .jf,.dg _ _=>some false
 |_,_=>none
def jQ(Q:Program)(s:S)(op:BinOp)(t:TypeId)(x y:Operand)(p q:P):Option P:=
 match p.br,q.br with
 |some a,some b=>cD Q (do eqGuard op t x y a b;binOp op t a b)
 |_,_=>match Q.underlying t,nj s p q,op with
  |some (.pointer _),some r,.eql=>some (.d (.bool r))
  |some (.pointer _),some r,.neq=>some (.d (.bool (!r)))
  |_,_,_=>none
def bU:List P->Option (List Value)
 | []=>some []
 |p::r=>match p.br,bU r with |some v,some vs=>some (v::vs)|_,_=>none
def P.xq:P->Option (List P)
 | .agg ps=>some ps
 | .d (.agg cs)=>some (cs.map .d)
 |_=>none
def xr(Q:Program)(t:TypeId)(f:Nat)(p:P):Option P:=
 match Q.underlying t,p.xq with
 |some (.struct fs),some ps=>match fs[f]? with
  |some fl=>gw Q fl.type ps fl.offset
  |none=>none
 |_,_=>none
def xt(Q:Program)(n:Nat)(e:TypeId)(p:P)(i:P):Option P:=
 match p.xq,i,sz Q e with
 |some ps,.d (.int _ j),some k=>if 0<=j/\j<(n:Int) then gw Q e ps (j.toNat*k) else none
 |_,_,_=>none
def jR(o:Option D)(z:D):D:=o.getD z
def ct(Q:Program)(s:S)(t:TypeId)(p i:P)(ok:Bool)(z:D):Option P:=
 match dF Q t,p,i with
 |some (kt,_),.mp n v,.d k=>match s.obj n v with
  |some (.map jY get _ _)=>if Nat.beq kt jY&&cq Q kt k then some (if ok then .fL [.d ((get k).getD z),.d (.bool (get k).isSome)] else .d ((get k).getD z)) else none
  |some (.fZ jY get _ _ _)=>if !ok&&Nat.beq kt jY&&cq Q kt k then some (.d ((get k).getD z)) else none
  |some (.bS jY vals _ hand)=>if Nat.beq kt jY&&cq Q kt k then some (if ok then .fL [(zT vals hand k).getD (.d z),.d (.bool (zT vals hand k).isSome)] else(zT vals hand k).getD (.d z)) else none
  |_=>none
 |some (kt,_),.d .mh,.d k=>if cq Q kt k then some (if ok then .fL [.d z,.d (.bool false)] else .d z) else none
 |_,_,_=>none
def j9(s:S)(p:P):Option P:=
 match p with
 | .ref n v 0=>match s.obj n v with
  |some (.iter _ _ _ (some (k,x)))=>some (.fL [.d k,.d x])
  |_=>none
 |_=>none
def cQ(Q:Program)(t:TypeId):Option D:=
 match Q.info? t with
 |some i=>match i.zero with |some z=>D.nh z |none=>none
 |none=>none
def yM(fs:Array Field):Sem (Array (Nat×Nat)):=fs.mapM λf=>do pure (f.offset,<-sizeOf f.type)
def vj(pl:Array (Nat×Nat)):List P->List (Nat×P)->Option (List P)
 |ps,[]=>some ps
 |ps,(i,p)::r=>match pl[i]? with
  |some (off,k)=>if Nat.beq p.cells.length k&&Nat.ble (off+k) ps.length&&p.ib then vj pl (splice ps off p.cells) r else none
  |none=>none
def pw(Q:Program)(t:TypeId)(parts:List (Nat×P)):Option P:=
 match Q.underlying t,cQ Q t with
 |some (.struct fs),some z=>match ah Q (yM fs) with
  |some pl=>match vj pl (z.cells.map .d) parts with
   |some qs=>some (yK qs)
   |none=>none
  |none=>none
 |_,_=>none
def pv(Q:Program)(s:S)(o:Oper)(g:Option (Nat×Bool)):Option P:=
 match o.op with
 | .move x | .assign x=>some (s.eg g x)
 | .pick c a b=>match s.eg g c with | .d (.bool r)=>some (if r then s.eg g a else s.eg g b)|_=>none
 | .nilCheck x=>gl s (s.eg g x)
 | .binOp op t x y _=>jQ Q s op t x y (s.eg g x) (s.eg g y)
 | .unOp op _ x=>match(s.eg g x).br with |some v=>cD Q (Op.unary op v)|none=>none
 | .convert a b x=>match(s.eg g x).br with |some v=>cD Q (Go.convert a b v)|none=>none
 | .load t x=>iJ Q s t (s.eg g x)
 | .fieldAddr t x f=>fb Q s t f (s.eg g x)
 | .indexAddr t x i=>dk Q s t (s.eg g x) (s.eg g i)
 | .index t x i=>match Q.underlying t with
  |some (.array n e)=>xt Q n e (s.eg g x) (s.eg g i)
  |_=>match(s.eg g x).br,(s.eg g i).br with |some a,some b=>cD Q (Instr.index t a b)|_,_=>none
 | .field t x f=>xr Q t f (s.eg g x)
 | .extract x i=>match s.eg g x with | .fL ps=>ps[i]? |_=>none
 | .lookup t x i ok=>match(dF Q t).bind λy=>cQ Q y.2 with
  |some z=>ct Q s t (s.eg g x) (s.eg g i) ok z
  |none=>none
 | .entry x=>j9 s (s.eg g x)
 | .slice t x lo hi none=>match(s.eg g x).br with
  |some (.string b)=>match(match lo with |none=>some none |some l=>(s.eg g l).br.map some),(match hi with |none=>some none |some h=>(s.eg g h).br.map some) with
   |some l,some h=>cD Q (Instr.sliceAt t (.string b) l h none)
   |_,_=>none
  |_=>ix Q s t (s.eg g x) (lo.map (s.eg g)) (hi.map (s.eg g))
 | .build t parts=>match bU (parts.toList.map λx=>s.eg g x.2) with
  |some vs=>cD Q (Instr.build t ((parts.toList.map (·.1)).zip vs).toArray)
  |none=>pw Q t (parts.toList.map λx=>(x.1,s.eg g x.2))
 | .makeFunc (.func f) first bH=>match first.toList with
  | []=>some (.fn f (bH.toList.map (s.eg g)))
  |_=>none
 | .call c=>match c.callee with
  | .builtin .len=>match c.args.toList with
   | [x]=>match(s.eg g x).br with
    |some v=>cD Q (Builtin.len_ c.argTypes o.type #[v])
    |none=>match(c.argTypes[0]?).bind (bI Q) with
     |some _=>vg s (s.eg g x)
     |none=>match(c.argTypes[0]?).bind (dF Q) with |some _=>vi s (s.eg g x)|none=>none
   |_=>none
  | .builtin .min=>match bU (c.args.toList.map (s.eg g)) with |some vs=>cD Q (Builtin.min_ c.argTypes o.type vs.toArray)|none=>none
  | .builtin .max=>match bU (c.args.toList.map (s.eg g)) with |some vs=>cD Q (Builtin.max_ c.argTypes o.type vs.toArray)|none=>none
  |_=>none
 |_=>none
end Pi
