/- The text PiBase. -/
import GoSem.Dispatch
abbrev zaa:=@List.getElem?_eq_some_iff
abbrev zab:=@Nat.eq_of_beq_eq_true
abbrev zac:=@List.getElem?_eq_getElem
abbrev zad:=@Bool.and_eq_true
abbrev zae:=@Nat.le_refl
abbrev zaf:=@Option.some.injEq
abbrev zag:=@Nat.mul_le_mul_right
abbrev zah:=@List.getElem?_map
abbrev zai:=@List.length_map
abbrev zaj:=@Option.map_eq_some_iff
abbrev zak:=@List.mem_of_getElem?
abbrev zal:=@Option.some.inj
abbrev zam:=@Option.bind_some
abbrev zan:=@List.mem_cons
abbrev zao:=@List.getElem?_of_mem
abbrev zap:=@Array.getElem?_eq_some_iff
abbrev zaq:=@List.getD_eq_getElem?_getD
abbrev zar:=@Bool.false_eq_true
abbrev zas:=@List.length_set
abbrev zat:=@if_pos
abbrev zau:=@List.getElem?_set_ne
abbrev zav:=@Array.getD_eq_getD_getElem?
abbrev zaw:=@List.length_append
abbrev zax:=@List.nodup_cons
abbrev zay:=@List.take_of_length_le
abbrev zaz:=@Nat.add_mul
abbrev zaA:=@Option.map_some
abbrev zaB:=@List.mem_cons_of_mem
abbrev zaC:=@if_neg
abbrev zaD:=@Array.getElem?_setIfInBounds_ne
abbrev zaE:=@List.getElem?_append_left
abbrev zaF:=@List.getElem?_set_self
abbrev zaG:=@List.getElem?_append_right
abbrev zaH:=@List.mem_append
abbrev zaI:=@List.length_cons
abbrev zaJ:=@List.eq_nil_of_length_eq_zero
abbrev zaK:=@Nat.lt_of_lt_of_le
abbrev zaL:=@List.mem_singleton
abbrev zaM:=@List.getElem_of_mem
abbrev zaN:=@Nat.le_trans
abbrev zaO:=@List.map_cons
abbrev zaP:=@decide_eq_true_eq
abbrev zaQ:=@List.mem_map
abbrev zaR:=@List.length_replicate
abbrev zaS:=@List.getElem?_take
abbrev zaT:=@if_true
abbrev zaU:=@List.mem_of_mem_eraseIdx
abbrev zaV:=@Nat.one_mul
abbrev zaW:=@Array.getElem?_setIfInBounds_self_of_lt
abbrev zaX:=@List.all_eq_true
abbrev zaY:=@List.flatMap_cons
abbrev zaZ:=@List.map_append
abbrev za0:=@Array.toList_inj
abbrev za1:=@Nat.zero_le
abbrev za2:=@if_false
abbrev za3:=@List.getElem?_drop
abbrev za4:=@Ne.symm
abbrev za5:=@List.findIdx?_eq_some_iff_getElem
abbrev za6:=@List.getElem_mem
abbrev za7:=@List.ext_getElem?
abbrev za8:=@List.nodup_append
abbrev za9:=@Prod.mk.injEq
abbrev zba:=@Array.getElem?_eq_getElem
abbrev zbb:=@List.cons.injEq
abbrev zbc:=@List.mem_eraseIdx_iff_getElem?
abbrev zbd:=@Nat.ble_eq
abbrev zbe:=@List.any_eq_true
abbrev zbf:=@Nat.add_assoc
abbrev zbg:=@List.map_congr_left
abbrev zbh:=@List.mem_flatMap
abbrev zbi:=@List.mem_or_eq_of_mem_set
abbrev zbj:=@decide_eq_true
abbrev zbk:=@Bool.not_eq_true'
abbrev zbl:=@List.getElem?_cons_succ
abbrev zbm:=@Option.bind_eq_some_iff
abbrev zbn:=@Nat.le_succ
abbrev zbo:=@List.mem_map_of_mem
abbrev zbp:=@cond_true
abbrev zbq:=@List.not_mem_nil
abbrev zbr:=@cond_false
abbrev zbs:=@List.find?_cons
abbrev zbt:=@Nat.le_of_ble_eq_true
abbrev zbu:=@List.length_nil
abbrev zbv:=@List.nil_append
abbrev zbw:=@List.eraseIdx_sublist
abbrev zbx:=@List.map_set
abbrev zby:=@List.set_append_right
abbrev zbz:=@List.pairwise_iff_getElem
abbrev zbA:=@List.flatMap_append
abbrev zbB:=@Nat.lt_or_gt_of_ne
abbrev zbC:=@List.pairwise_cons
abbrev zbD:=@List.eraseIdx_append_of_length_le
abbrev zbE:=@List.mem_cons_self
abbrev zbF:=@List.size_toArray
abbrev zbG:=@List.eraseIdx_eq_take_drop_succ
abbrev zbH:=@List.take_append_drop
abbrev zbI:=@Array.getElem?_toList
abbrev zbJ:=@Nat.add_zero
abbrev zbK:=@Nat.zero_add
abbrev zbL:=@List.getElem?_eq_none
abbrev zbM:=@Option.getD_some
abbrev zbN:=@List.mem_of_mem_drop
abbrev zbO:=@List.mem_of_mem_take
abbrev zbP:=@Bool.and_self
abbrev zbQ:=@Bool.or_eq_true
abbrev zbR:=@Option.map_none
abbrev zbS:=@decide_eq_false
abbrev zbT:=@List.map_nil
abbrev zbU:=@List.find?_eq_none
abbrev zbV:=@List.drop_eq_getElem_cons
abbrev zbW:=@List.append_assoc
abbrev zbX:=@Function.comp_def
abbrev zbY:=@not_or
abbrev zbZ:=@List.any_eq_false
abbrev zb0:=@List.getElem?_cons_zero
abbrev zb1:=@List.eraseIdx_cons_zero
abbrev zb2:=@List.eraseIdx_cons_succ
abbrev zb3:=@true_and
abbrev zb4:=@List.ext_getElem
abbrev zb5:=@List.length_drop
abbrev zb6:=@List.take_length
abbrev zb7:=@List.drop_eq_nil_of_le
abbrev zb8:=@Bool.eq_iff_iff
abbrev zb9:=@Nat.min_eq_left
abbrev zca:=@Nat.mul_comm
abbrev zcb:=@List.contains_iff_mem
abbrev zcc:=@and_true
abbrev zcd:=@List.length_eraseIdx
abbrev zce:=@List.drop_take
abbrev zcf:=@List.nodup_nil
abbrev zcg:=@List.drop_zero
abbrev zch:=@Array.length_toList
abbrev zci:=@List.set_cons_zero
abbrev zcj:=@List.set_cons_succ
abbrev zck:=@Array.foldl_toList
abbrev zcl:=@or_false
abbrev zcm:=@Nat.eq_or_lt_of_le
abbrev zcn:=@Array.toList_push
abbrev zco:=@List.getElem?_inj
abbrev zcp:=@List.eq_nil_iff_forall_not_mem
abbrev zcq:=@Array.toList_map
abbrev zcr:=@List.length_take
abbrev zcs:=@List.append_nil
abbrev zct:=@List.length_eraseIdx_of_lt
abbrev zcu:=@List.drop_drop
abbrev zcv:=@Option.isNone_iff_eq_none
abbrev zcw:=@Classical.byContradiction
abbrev zcx:=@List.findIdx?_eq_none_iff
abbrev zcy:=@Nat.mod_lt
abbrev zcz:=@Array.getElem?_replicate
abbrev zcA:=@Bool.false_or
abbrev zcB:=@List.length_eq_zero_iff
namespace Pi
open Go
inductive D where
 |bool (b:Bool)
 |int (k:IntKind) (n:Int)
 |str (s:List UInt8)
 |agg (cs:List D)
 |sl (k:Nat) (es:List D)
 |bt
 |jf
 |mc
 |s5
 |s6
 |A7 (b len cap:Nat)
 |unk
 deriving Inhabited
def D.cells:D->List D
 | .agg cs=>cs
 |x=>[x]
def D.aK:D->Bool
 | .agg _=>false
 |_=>true
inductive P where
 |d (x:D)
 |agg (ps:List P)
 |ref (n v off:Nat)
 |bP (n v i k off:Nat)
 |dg (x:D) (off:Nat)
 |sl (n v len:Nat)
 |hZ (n v k off len:Nat)
 |mp (n v:Nat)
 |hd (n v:Nat)
 |rT (n v len:Nat)
 |raw (v:Value)
 |fn (f:FuncId) (bF:List P)
 |fL (ps:List P)
 |when (slot:Nat) (want:Bool) (p:P)
 |bad
 deriving Inhabited
def P.skip:P:= .when 0 false .bad
def P.aK:P->Bool
 | .d x=>x.aK
 | .ref .. | .bP .. | .dg .. | .sl .. | .hZ .. | .mp .. | .hd .. | .rT .. | .fn ..=>true
 |_=>false
inductive Obj where
 |gone
 |box (ty:TypeId) (ps:List P)
 |arr (ty:TypeId) (fz:Bool) (es:List D)
 |map (kt:Nat) (get:D->Option D) (n:Int) (fz:Bool)
 |iter (kt vt:Nat) (left:D->Option D) (cur:Option (D×D))
 |fy
 |fY (kt:Nat) (get:D->Option D) (n:Int) (p:P) (kd:D)
 |bQ (kt:Nat) (vals:D->Option Value) (n:Int) (hand:Option (D×P))
 |bA (ty:TypeId) (es:List D) (hand:Option (Nat×Nat×P))
 |deep (x:D) (p:World->Value->Prop)
 deriving Inhabited
structure En where
 ay:Nat
 tag:Option Nat
 obj:Obj
def lk{α:Type}:List (Nat×α)->Nat->Option α
 | [],_=>none
 | (k,v)::r,j=>if Nat.beq k j then some v else lk r j
def ins{α:Type}(k:Nat)(v:α):List (Nat×α)->List (Nat×α)
 | []=>[(k,v)]
 | (j,u)::r=>if Nat.blt k j then(k,v)::(j,u)::r else if Nat.beq k j then(k,v)::r else(j,u)::ins k v r
structure S where
 n:Nat
 tm:List (Nat×P)
 rg:List (Nat×En)
def D.dJ:D->Option Value
 | .bool b=>some (.bool b)
 | .int k n=>some (.int k n)
 | .str s=>some (.string ⟨⟨s⟩⟩)
 | .bt=>some (.slice none 0 0)
 | .jf=>some (.pointer none)
 | .mc=>some (.map none)
 | .s5=>some .nilFunc
 | .s6=>some .nilIface
 | .agg _ | .sl _ _ | .A7 .. | .unk=>none
def D.bS:List D->Option (List Value)
 | []=>some []
 |x::r=>match x.dJ,D.bS r with |some v,some vs=>some (v::vs)|_,_=>none
def D.bq:D->Option Value
 | .agg cs=>match D.bS cs with |some vs=>some (.agg ⟨vs⟩)|none=>none
 |x=>x.dJ
def P.bq:P->Option Value
 | .d x=>x.bq
 |_=>none
def D.iv:Value->Option D
 | .bool b=>some (.bool b)
 | .int k n=>some (.int k n)
 | .string s=>some (.str s.data.toList)
 | .slice none 0 0=>some .bt
 | .pointer none=>some .jf
 | .map none=>some .mc
 | .nilFunc=>some .s5
 | .nilIface=>some .s6
 |_=>none
def D.s7:List Value->Option (List D)
 | []=>some []
 |v::r=>match D.iv v,D.s7 r with |some x,some xs=>some (x::xs)|_,_=>none
def D.nc:Value->Option D
 | .agg cs=>match D.s7 cs.toList with |some xs=>some (.agg xs)|none=>none
 |v=>D.iv v
def ah{α:Type}(Q:Program):Sem α->Option α
 | .pure a=>some a
 | .program k=>ah Q (k Q)
 | .mark _ k=>ah Q k
 |_=>none
def cC(Q:Program)(m:Sem Value):Option P:=
 match ah Q m with
 |some v=>match D.nc v with |some x=>some (.d x)|none=>none
 |none=>none
def S.ev(s:S):Operand->P
 | .tmp t=>(lk s.tm t).getD .bad
 | .const v=>match D.nc v with |some x=> .d x |none=> .bad
 | .func f=> .fn f []
 | .global _=> .bad
def P.under(_:Option (Nat×Bool)):P->P
 | .when ..=> .bad
 |p=>p
def S.eg(s:S)(g:Option (Nat×Bool))(x:Operand):P:=(s.ev x).under g
def S.put(s:S)(dst:Option Nat)(p:P):Option S:=
 match dst with
 |none=>some s
 |some t=>if Nat.blt t s.n then some ⟨s.n,ins t p s.tm,s.rg⟩ else none
def pk:List P->Option (List D)
 | []=>some []
 | .d x::r=>match pk r with |some xs=>some (x::xs)|none=>none
 |_=>none
def yw(ps:List P):P:=match pk ps with |some xs=> .d (.agg xs)|none=> .agg ps
def P.cells:P->List P
 | .agg ps=>ps
 | .d (.agg cs)=>cs.map .d
 |p=>[p]
def P.ia:P->Bool
 | .agg _ | .d _=>true
 |p=>p.aK
set_option backward.match.sparseCases false
def I0(a b c:Nat):D->Bool
 | .A7 a' b' c'=>Nat.beq a a'&&(Nat.beq b b'&&Nat.beq c c')
 |_=>false
mutual
def D.cP:D->D->Bool
 | .bool a,.bool b=>a==b
 | .int k a,.int k' b=>k==k'&&a==b
 | .str a,.str b=>a==b
 | .agg a,.agg b=>D.xc a b
 | .sl k a,.sl k' b=>k==k'&&D.xc a b
 | .A7 a b c,y=>I0 a b c y
 | .bt,.bt | .jf,.jf | .mc,.mc | .s5,.s5 | .s6,.s6 | .unk,.unk=>true
 |_,_=>false
def D.xc:List D->List D->Bool
 | [],[]=>true
 |x::xs,y::ys=>D.cP x y&&D.xc xs ys
 |_,_=>false
end
set_option backward.match.sparseCases true
def dQ(k v:D)(get:D->Option D):D->Option D:=λk'=>bif D.cP k k' then some v else get k'
def uU(k:D)(get:D->Option D):D->Option D:=λk'=>bif D.cP k k' then none else get k'
def sz(Q:Program)(t:TypeId):Option Nat:=match Q.info? t,Q.underlying t with |some i,some _=>some i.size |_,_=>none
def cn(Q:Program)(t:TypeId):Bool:=match Q.underlying t with |some (.struct _)|some (.array _ _)=>true |_=>false
def bG(Q:Program)(t:TypeId):Option TypeId:=match Q.underlying t with |some (.slice e)=>some e |_=>none
def gw(Q:Program)(t:TypeId)(ps:List P)(off:Nat):Option P:=
 match sz Q t with
 |none=>none
 |some k=>if cn Q t then(if Nat.ble (off+k) ps.length then some (yw ((ps.drop off).take k)) else none) else ps[off]?
def eX(Q:Program)(t:TypeId)(cs:List D)(off:Nat):Option D:=
 match sz Q t with
 |none=>none
 |some k=>if cn Q t then(if Nat.ble (off+k) cs.length then some (.agg ((cs.drop off).take k)) else none) else cs[off]?
def S.obj(s:S)(n v:Nat):Option Obj:=
 match lk s.rg n with
 |some e=>if Nat.beq e.ay v then some e.obj else none
 |none=>none
def q9(Q:Program)(go:TypeId->D->D->Option Bool):List Field->List D->List D->Option Bool
 | [],_,_=>some true
 |f::r,xs,ys=>match f.name== "_" with
  |true=>q9 Q go r xs ys
  |false=>match eX Q f.type xs f.offset,eX Q f.type ys f.offset with
   |some x,some y=>match go f.type x y,q9 Q go r xs ys with
    |some a,some b=>some (a&&b)
    |_,_=>none
   |_,_=>none
def xd(m:Nat)(e:TypeId)(k:Nat):List Field:=(List.range m).map λi=>⟨"x",e,i*k,false, "", "",0⟩
def A8(Q:Program):Nat->TypeId->D->D->Option Bool
 |0,_,_,_=>none
 |n+1,t,x,y=>match Q.underlying t with
  |some .bool=>match x,y with | .bool a,.bool b=>some (a==b)|_,_=>none
  |some (.int _)=>match x,y with | .int k a,.int k' b=>(match k==k' with |true=>some (a==b)|false=>none)|_,_=>none
  |some .string=>match x,y with | .str a,.str b=>some (a==b)|_,_=>none
  |some (.struct fs)=>match x,y with
   | .agg xs,.agg ys=>match Q.stoodInHeld t with
    |true=>none
    |false=>q9 Q (A8 Q n) fs.toList xs ys
   |_,_=>none
  |some (.array m e)=>match x,y with
   | .agg xs,.agg ys=>match sz Q e with
    |some k=>q9 Q (A8 Q n) (xd m e k) xs ys
    |none=>none
   |_,_=>none
  |_=>none
def jH(Q:Program):Nat->List Field->Nat->Bool
 |off,[],qR=>Nat.beq off qR
 |off,f::r,qR=>Nat.beq f.offset off&&jH Q (off+Q.cellsOf f.type) r qR
def dR(Q:Program):Nat->TypeId->D->Bool
 |0,_,_=>false
 |n+1,t,x=>match Q.underlying t with
  |some .bool=>(match x with | .bool _=>true |_=>false)
  |some (.int k)=>(match x with | .int k' _=>k==k' |_=>false)
  |some .string=>(match x with | .str _=>true |_=>false)
  |some (.struct fs)=>(match x with
   | .agg cs=>Nat.beq cs.length (Q.cellsOf t)&&jH Q 0 fs.toList (Q.cellsOf t)&& !Q.stoodInHeld t&&fs.toList.all λf=> !(f.name== "_")&&(cn Q f.type ||Nat.beq (Q.cellsOf f.type) 1)&&(match eX Q f.type cs f.offset with |some y=>dR Q n f.type y |none=>false)
   |_=>false)
  |some (.array m e)=>(match x with
   | .agg cs=>(match sz Q e with
    |some k=>Nat.beq cs.length (Q.cellsOf t)&&jH Q 0 (xd m e k) (Q.cellsOf t)&&(xd m e k).all λf=> !(f.name== "_")&&(cn Q f.type ||Nat.beq (Q.cellsOf f.type) 1)&&(match eX Q f.type cs f.offset with |some y=>dR Q n f.type y |none=>false)
    |none=>false)
   |_=>false)
  |_=>false
def D.uV:D->Bool
 | .bool _ | .int _ _ | .str _=>true
 |_=>false
def cp(Q:Program)(kt:TypeId)(k:D):Bool:=dR Q 20 kt k&&k.cells.all D.uV&&(match k.bq with
 |some v=>(match ah Q (Instr.checkKey false 10000 kt v),ah Q (Instr.checkKey true 10000 kt v) with |some _,some _=>true |_,_=>false)
 |none=>false)
def dE(Q:Program)(t:TypeId):Option (TypeId×TypeId):=match Q.underlying t with |some (.map k e)=>some (k,e)|_=>none
def eG(k:D):List (D×P)->Option P
 | []=>none
 | (j,p)::r=>bif D.cP j k then some p else eG k r
def me(k:D)(p:P):List (D×P)->List (D×P)
 | []=>[(k,p)]
 | (j,q)::r=>bif D.cP j k then(k,p)::r else(j,q)::me k p r
def nf(k:D):List (D×P)->List (D×P)
 | []=>[]
 | (j,q)::r=>bif D.cP j k then r else(j,q)::nf k r
def uW(k:D)(vals:D->Option Value):D->Option Value:=λj=>bif D.cP k j then none else vals j
def zF(vals:D->Option Value)(hand:Option (D×P))(k:D):Option P:=
 match hand with
 |some (k0,p)=>bif D.cP k0 k then some p else(vals k).map P.raw
 |none=>(vals k).map P.raw
def S.setObj(s:S)(n:Nat)(o:Obj):S:=
 match lk s.rg n with
 |some e=>{s with rg:=ins n ⟨e.ay,e.tag,o⟩ s.rg}
 |none=>s
def S.new(s:S)(n:Nat)(o:Obj):Option (S×Nat):=
 match lk s.rg n with
 |none=>some ({s with rg:=ins n ⟨0,none,o⟩ s.rg},0)
 |some e=>match e.obj with
  | .gone=>some ({s with rg:=ins n ⟨e.ay+1,none,o⟩ s.rg},e.ay+1)
  |_=>match e.tag with
   |none=>some ({s with rg:=ins n ⟨e.ay+1,none,o⟩ s.rg},e.ay+1)
   |some _=>none
def splice(ps:List P)(off:Nat)(qs:List P):List P:=ps.take off++qs++ps.drop (off+qs.length)
def site(dst:Option Nat):Nat:=1000+dst.getD 999
def S.live(s:S)(n v:Nat):Bool:=
 match s.obj n v with
 |some .gone=>false
 |some _=>true
 |none=>false
def gk(s:S)(p:P):Option P:=
 match p with
 | .ref n v _ | .bP n v _ _ _=>if s.live n v then some p else none
 | .dg .. | .fn ..=>some p
 |_=>none
def gl(h:Option (Nat×Nat×P))(i:Nat)(x:D):List P:=
 match h with
 |some (hi,ho,hp)=>if hi=i then(x.cells.map P.d).set ho hp else x.cells.map P.d
 |none=>x.cells.map P.d
def iJ(Q:Program)(s:S)(t:TypeId):P->Option P
 | .ref n v off=>match s.obj n v with |some (.box _ ps)=>gw Q t ps off |_=>none
 | .bP n v i k off=>match s.obj n v with
  |some (.arr ty _ es)=>match sz Q ty,es[i]? with
   |some k',some x=>if Nat.beq k k' then(match eX Q t x.cells off with |some y=>some (.d y)|none=>none) else none
   |_,_=>none
  |some (.bA ty es h)=>match sz Q ty,es[i]? with
   |some k',some x=>if Nat.beq k k' then gw Q t (gl h i x) off else none
   |_,_=>none
  |_=>none
 | .dg x off=>match eX Q t x.cells off with |some y=>some (.d y)|none=>none
 |_=>none
def pn(Q:Program)(t:TypeId)(f:Nat):Option Nat:=
 match Q.underlying t with
 |some (.struct fs)=>match fs[f]? with
  |some fl=>match sz Q fl.type with |some (_+1)=>some fl.offset |_=>none
  |none=>none
 |_=>none
def fb(Q:Program)(s:S)(t:TypeId)(f:Nat)(p:P):Option P:=
 match pn Q t f with
 |none=>none
 |some o=>match p with
  | .ref n v off=>if s.live n v then some (.ref n v (off+o)) else none
  | .bP n v i k off=>if s.live n v then some (.bP n v i k (off+o)) else none
  | .dg x off=>some (.dg x (off+o))
  |_=>none
def j8(Q:Program)(s:S)(len:Nat)(e:TypeId)(p:P)(i:P):Option P:=
 match i,sz Q e with
 | .d (.int _ j),some (k+1)=>if 0<=j/\j<(len:Int) then(match p with
  | .ref n v off=>if s.live n v then some (.ref n v (off+j.toNat*(k+1))) else none
  | .bP n v i k' off=>if s.live n v then some (.bP n v i k' (off+j.toNat*(k+1))) else none
  | .dg x off=>some (.dg x (off+j.toNat*(k+1)))
  |_=>none) else none
 |_,_=>none
def yx(Q:Program)(t:TypeId):Option (Nat×TypeId):=match Q.underlying t with |some (.array n e)=>some (n,e)|_=>none
def dk(Q:Program)(s:S)(t:TypeId)(p:P)(i:P):Option P:=
 match yx Q t with
 |some (n,e)=>j8 Q s n e p i
 |none=>match bG Q t,i with
 |some e,.d (.int _ j)=>match sz Q e with
  |some (k+1)=>match p with
   | .sl n v len=>match s.obj n v with
    |some (.arr ty _ _)=>if Nat.beq ty e then(if 0<=j/\j<(len:Int) then some (.bP n v j.toNat (k+1) 0) else none) else none
    |some (.bA ty _ _)=>if Nat.beq ty e then(if 0<=j/\j<(len:Int) then some (.bP n v j.toNat (k+1) 0) else none) else none
    |_=>none
   | .hZ n v k' off len=>match s.obj n v with
    |some (.arr ty _ _)=>if Nat.beq ty e&&Nat.beq k' (k+1) then(if 0<=j/\j<(len:Int) then some (.bP n v (off+j.toNat) (k+1) 0) else none) else none
    |_=>none
   | .d (.sl k' es)=>if Nat.beq k' (k+1) then(if 0<=j then(match es[j.toNat]? with |some x=>some (.dg x 0)|none=>none) else none) else none
   |_=>none
  |_=>none
 |_,_=>none
def cq(len:Nat)(lo hi:Option P):Option (Nat×Nat):=
 match(match hi with |none=>some len |some (.d (.int _ j))=>if 0<=j/\j<=(len:Int) then some j.toNat else none |_=>none) with
 |none=>none
 |some h=>match lo with
  |none=>some (0,h)
  |some (.d (.int _ j))=>if 0<=j/\j<=(h:Int) then some (j.toNat,h) else none
  |_=>none
def jI(Q:Program)(s:S)(t:TypeId)(p:P)(lo:Option P):P:=
 match p with
 | .sl n v len=>match lo,s.obj n v,(bG Q t).bind (sz Q) with
  |some _,some (.arr ty true es),some (k+1)=>(match sz Q ty with |some k'=>if Nat.beq k' (k+1) then .d (.sl (k+1) (es.take len)) else p |none=>p)
  |_,_,_=>p
 |_=>p
def oQ(Q:Program)(s:S)(t:TypeId)(p:P)(lo hi:Option P):Option P:=
 match bG Q t with
 |none=>none
 |some e=>match sz Q e with
  |some (k+1)=>match p with
   | .d (.sl k' es)=>if Nat.beq k' (k+1) then(match cq es.length lo hi with |some (l,h)=>some (.d (.sl k' ((es.take h).drop l)))|none=>none) else none
   | .sl n v len=>match s.obj n v,lo with
    |some (.arr _ _ _),none=>match cq len none hi with |some (_,h)=>some (.sl n v h)|none=>none
    |some (.arr ty _ _),some lo=>match sz Q ty with
     |some k'=>if Nat.beq k' (k+1) then(match cq len (some lo) hi with |some (l,h)=>some (.hZ n v (k+1) l (h-l))|none=>none) else none
     |none=>none
    |_,_=>none
   | .hZ n v k' off len=>match s.obj n v with
    |some (.arr _ _ _)=>if Nat.beq k' (k+1) then(match cq len lo hi with |some (l,h)=>some (.hZ n v (k+1) (off+l) (h-l))|none=>none) else none
    |_=>none
   |_=>none
  |_=>none
def iw(Q:Program)(s:S)(t:TypeId)(p:P)(lo hi:Option P):Option P:=oQ Q s t (jI Q s t p lo) lo hi
def uX(s:S)(p:P):Option P:=
 match p with
 | .sl n v len | .hZ n v _ _ len | .rT n v len=>if s.live n v then some (.d (.int .i64 len)) else none
 | .d (.sl _ es)=>some (.d (.int .i64 es.length))
 |_=>none
def uY(s:S)(p:P):Option P:=
 match p with
 | .mp n v=>match s.obj n v with |some (.map _ _ c _)=>some (.d (.int .i64 c))|some (.bQ _ _ c _)=>some (.d (.int .i64 c))|_=>none
 |_=>none
def ng(s:S)(p q:P):Option Bool:=
 match p,q with
 | .ref n v _,.d .jf | .bP n v _ _ _,.d .jf | .d .jf,.ref n v _ | .d .jf,.bP n v _ _ _ | .hd n v,.d .jf | .d .jf,.hd n v=>if s.live n v then some false else none
 | .dg _ _,.d .jf | .d .jf,.dg _ _=>some false
 |_,_=>none
def jR(Q:Program)(s:S)(op:BinOp)(t:TypeId)(x y:Operand)(p q:P):Option P:=
 match p.bq,q.bq with
 |some a,some b=>cC Q (do eqGuard op t x y a b;binOp op t a b)
 |_,_=>match Q.underlying t,ng s p q,op with
  |some (.pointer _),some r,.eql=>some (.d (.bool r))
  |some (.pointer _),some r,.neq=>some (.d (.bool (!r)))
  |_,_,_=>none
def bS:List P->Option (List Value)
 | []=>some []
 |p::r=>match p.bq,bS r with |some v,some vs=>some (v::vs)|_,_=>none
def P.xe:P->Option (List P)
 | .agg ps=>some ps
 | .d (.agg cs)=>some (cs.map .d)
 |_=>none
def xf(Q:Program)(t:TypeId)(f:Nat)(p:P):Option P:=
 match Q.underlying t,p.xe with
 |some (.struct fs),some ps=>match fs[f]? with
  |some fl=>gw Q fl.type ps fl.offset
  |none=>none
 |_,_=>none
def xg(Q:Program)(n:Nat)(e:TypeId)(p:P)(i:P):Option P:=
 match p.xe,i,sz Q e with
 |some ps,.d (.int _ j),some k=>if 0<=j/\j<(n:Int) then gw Q e ps (j.toNat*k) else none
 |_,_,_=>none
def jS(o:Option D)(z:D):D:=o.getD z
def cr(Q:Program)(s:S)(t:TypeId)(p i:P)(ok:Bool)(z:D):Option P:=
 match dE Q t,p,i with
 |some (kt,_),.mp n v,.d k=>match s.obj n v with
  |some (.map jY get _ _)=>if Nat.beq kt jY&&cp Q kt k then some (if ok then .fL [.d ((get k).getD z),.d (.bool (get k).isSome)] else .d ((get k).getD z)) else none
  |some (.fY jY get _ _ _)=>if !ok&&Nat.beq kt jY&&cp Q kt k then some (.d ((get k).getD z)) else none
  |some (.bQ jY vals _ hand)=>if Nat.beq kt jY&&cp Q kt k then some (if ok then .fL [(zF vals hand k).getD (.d z),.d (.bool (zF vals hand k).isSome)] else(zF vals hand k).getD (.d z)) else none
  |_=>none
 |some (kt,_),.d .mc,.d k=>if cp Q kt k then some (if ok then .fL [.d z,.d (.bool false)] else .d z) else none
 |_,_,_=>none
def j9(s:S)(p:P):Option P:=
 match p with
 | .ref n v 0=>match s.obj n v with
  |some (.iter _ _ _ (some (k,x)))=>some (.fL [.d k,.d x])
  |_=>none
 |_=>none
def cQ(Q:Program)(t:TypeId):Option D:=
 match Q.info? t with
 |some i=>match i.zero with |some z=>D.nc z |none=>none
 |none=>none
def yy(fs:Array Field):Sem (Array (Nat×Nat)):=fs.mapM λf=>do pure (f.offset,<-sizeOf f.type)
def uZ(pl:Array (Nat×Nat)):List P->List (Nat×P)->Option (List P)
 |ps,[]=>some ps
 |ps,(i,p)::r=>match pl[i]? with
  |some (off,k)=>if Nat.beq p.cells.length k&&Nat.ble (off+k) ps.length&&p.ia then uZ pl (splice ps off p.cells) r else none
  |none=>none
def po(Q:Program)(t:TypeId)(parts:List (Nat×P)):Option P:=
 match Q.underlying t,cQ Q t with
 |some (.struct fs),some z=>match ah Q (yy fs) with
  |some pl=>match uZ pl (z.cells.map .d) parts with
   |some qs=>some (yw qs)
   |none=>none
  |none=>none
 |_,_=>none
def pv(Q:Program)(s:S)(o:Oper)(g:Option (Nat×Bool)):Option P:=
 match o.op with
 | .move x | .assign x=>some (s.eg g x)
 | .pick c a b=>match s.eg g c with | .d (.bool r)=>some (if r then s.eg g a else s.eg g b)|_=>none
 | .nilCheck x=>gk s (s.eg g x)
 | .binOp op t x y _=>jR Q s op t x y (s.eg g x) (s.eg g y)
 | .unOp op _ x=>match(s.eg g x).bq with |some v=>cC Q (Op.unary op v)|none=>none
 | .convert a b x=>match(s.eg g x).bq with |some v=>cC Q (Go.convert a b v)|none=>none
 | .load t x=>iJ Q s t (s.eg g x)
 | .fieldAddr t x f=>fb Q s t f (s.eg g x)
 | .indexAddr t x i=>dk Q s t (s.eg g x) (s.eg g i)
 | .index t x i=>match Q.underlying t with
  |some (.array n e)=>xg Q n e (s.eg g x) (s.eg g i)
  |_=>match(s.eg g x).bq,(s.eg g i).bq with |some a,some b=>cC Q (Instr.index t a b)|_,_=>none
 | .field t x f=>xf Q t f (s.eg g x)
 | .extract x i=>match s.eg g x with | .fL ps=>ps[i]? |_=>none
 | .lookup t x i ok=>match(dE Q t).bind λy=>cQ Q y.2 with
  |some z=>cr Q s t (s.eg g x) (s.eg g i) ok z
  |none=>none
 | .entry x=>j9 s (s.eg g x)
 | .slice t x lo hi none=>match(s.eg g x).bq with
  |some (.string b)=>match(match lo with |none=>some none |some l=>(s.eg g l).bq.map some),(match hi with |none=>some none |some h=>(s.eg g h).bq.map some) with
   |some l,some h=>cC Q (Instr.sliceAt t (.string b) l h none)
   |_,_=>none
  |_=>iw Q s t (s.eg g x) (lo.map (s.eg g)) (hi.map (s.eg g))
 | .build t parts=>match bS (parts.toList.map λx=>s.eg g x.2) with
  |some vs=>cC Q (Instr.build t ((parts.toList.map (·.1)).zip vs).toArray)
  |none=>po Q t (parts.toList.map λx=>(x.1,s.eg g x.2))
 | .makeFunc (.func f) first bF=>match first.toList with
  | []=>some (.fn f (bF.toList.map (s.eg g)))
  |_=>none
 | .call c=>match c.callee with
  | .builtin .len=>match c.args.toList with
   | [x]=>match(s.eg g x).bq with
    |some v=>cC Q (Builtin.len_ c.argTypes o.type #[v])
    |none=>match(c.argTypes[0]?).bind (bG Q) with
     |some _=>uX s (s.eg g x)
     |none=>match(c.argTypes[0]?).bind (dE Q) with |some _=>uY s (s.eg g x)|none=>none
   |_=>none
  | .builtin .min=>match bS (c.args.toList.map (s.eg g)) with |some vs=>cC Q (Builtin.min_ c.argTypes o.type vs.toArray)|none=>none
  | .builtin .max=>match bS (c.args.toList.map (s.eg g)) with |some vs=>cC Q (Builtin.max_ c.argTypes o.type vs.toArray)|none=>none
  |_=>none
 |_=>none
end Pi
