/- The text PiK. -/
import Derived.Test.YtpiohccneeblhaaPiCode2
namespace Pi
open Go
def P.dT{β:Type}(p:P)(k:P->β):β:=
 match p with
 | .d x=>x.force λy=>k (.d y)
 | .dg x off=>x.force λy=>k (.dg y off)
 |p=>k p
def P.force{β:Type}(p:P)(k:P->β):β:=
 match p with
 | .agg ps=>iy P.dT ps λqs=>k (.agg qs)
 | .fL ps=>iy P.dT ps λqs=>k (.fL qs)
 | .fn f ps=>iy P.dT ps λqs=>k (.fn f qs)
 |p=>p.dT k
def yP{β:Type}(x:Nat×P)(k:Nat×P->β):β:=match x with | (n,p)=>p.force λq=>k (n,q)
def BU{β:Type}(x:Option (Nat×Nat×P))(k:Option (Nat×Nat×P)->β):β:=match x with |some (i,j,p)=>p.dT λp=>k (some (i,j,p))|none=>k none
def BV{β:Type}(x:Option (D×P))(k:Option (D×P)->β):β:=match x with |some (d,p)=>d.force λd=>p.dT λp=>k (some (d,p))|none=>k none
def yQ{β:Type}(x:Nat×En)(k:Nat×En->β):β:=
 match x with
 | (n,⟨v,t,o⟩)=>match o with
  | .box ty ps=>iy P.dT ps λqs=>k (n,⟨v,t,.box ty qs⟩)
  | .arr ty fz es=>k (n,⟨v,t,.arr ty fz es⟩)
  | .map kt get c fz=>k (n,⟨v,t,.map kt get c fz⟩)
  | .iter kt vt left cur=>k (n,⟨v,t,.iter kt vt left cur⟩)
  | .gone=>k (n,⟨v,t,.gone⟩)
  | .fy=>k (n,⟨v,t,.fy⟩)
  | .fZ kt get c p kd=>p.dT λp=>kd.force λkd=>k (n,⟨v,t,.fZ kt get c p kd⟩)
  | .bS kt vals c hand=>BV hand λhand=>k (n,⟨v,t,.bS kt vals c hand⟩)
  | .deep x p=>k (n,⟨v,t,.deep x p⟩)
  | .bC ty es hand=>BU hand λhand=>k (n,⟨v,t,.bC ty es hand⟩)
def S.force{β:Type}(s:S)(k:S->β):β:=
 match s with
 | ⟨n,tm,rg⟩=>iy yP tm λOY=>iy yQ rg λOZ=>k ⟨n,OY,OZ⟩
theorem P.dA{β:Type}(p:P)(k:P->β):p.dT k=k p:=by
 cases p with
 |d x=>exact D.force_eq x (λy=>k (.d y))
 |dg x off=>exact D.force_eq x (λy=>k (.dg y off))
 |_=>rfl
theorem P.force_eq{β:Type}(p:P)(k:P->β):p.force k=k p:=by
 cases p with
 |agg ps=>exact dZ P.dA ps (λqs=>k (.agg qs))
 |fL ps=>exact dZ P.dA ps (λqs=>k (.fL qs))
 |fn f ps=>exact dZ P.dA ps (λqs=>k (.fn f qs))
 |d x=>exact D.force_eq x (λy=>k (.d y))
 |dg x off=>exact D.force_eq x (λy=>k (.dg y off))
 |_=>rfl
theorem xw{β:Type}(x:Nat×P)(k:Nat×P->β):yP x k=k x:=by
 cases x with
 |mk n p=>exact P.force_eq p (λq=>k (n,q))
theorem zX{β:Type}(x:Option (D×P))(k:Option (D×P)->β):BV x k=k x:=by
 cases x with
 |none=>rfl
 |some y=>obtain⟨d,p⟩:=y;show d.force (λd=>p.dT λp=>k (some (d,p)))=_;rw[D.force_eq,P.dA]
theorem zY{β:Type}(x:Option (Nat×Nat×P))(k:Option (Nat×Nat×P)->β):BU x k=k x:=by
 cases x with
 |none=>rfl
 |some y=>obtain⟨i,j,p⟩:=y;exact P.dA p (λp=>k (some (i,j,p)))
theorem xx{β:Type}(x:Nat×En)(k:Nat×En->β):yQ x k=k x:=by
 obtain⟨n,v,t,o⟩:=x;cases o with
 |box ty ps=>exact dZ P.dA ps (λqs=>k (n,⟨v,t,.box ty qs⟩))
 |fZ kt get c p kd=>show p.dT (λp=>kd.force λkd=>k (n,⟨v,t,.fZ kt get c p kd⟩))=_;rw[P.dA,D.force_eq]
 |bC ty es hand=>exact zY hand (λhand=>k (n,⟨v,t,.bC ty es hand⟩))
 |bS kt vals c hand=>exact zX hand (λhand=>k (n,⟨v,t,.bS kt vals c hand⟩))
 |_=>rfl
theorem S.force_eq{β:Type}(s:S)(k:S->β):s.force k=k s:=by simp only[S.force];rw[dZ xw,dZ xx]
abbrev K(α:Type):=(α->Prop)->Prop
def K.ret{α:Type}(a:α):K α:=λae=>ae a
def K.fail{α:Type}:K α:=λ_=>False
def K.bind{α β:Type}(m:K α)(f:α->K β):K β:=λae=>m λa=>f a ae
def K.cZ{α:Type}(b:Bool)(a:α):K α:=λae=>cond b (ae a) False
def K.dec(b:Bool):K Bool:=λae=>cond b (ae true) (ae false)
def K.cg{α:Type}(o:Option α):K α:=λae=>match o with
 |some a=>ae a
 |none=>False
def D.bB:D->Int | .int _ n=>n |_=>0
def D.L7:D->Bool | .bool b=>b |_=>false
def D.py:D->List UInt8 | .str s=>s |_=>[]
def D.nth(es:List D)(i:Nat):D:=es.getD i .bu
def D.eL(x:D)(j:Nat):D:=x.cells.getD j .bu
def mz(Q:Program):Nat->TypeId->List TypeId
 |0,_=>[]
 |n+1,t=>match Q.underlying t with
  |some (.struct fs)=>fs.toList.flatMap λf=>mz Q n f.type
  |some (.array k e)=>(List.replicate k (mz Q n e)).flatten
  |_=>[t]
def BW(Q:Program)(t:TypeId)(x:D):Option D:=
 match Q.underlying t with
 |some .bool=>some (.bool x.L7)
 |some (.int k)=>some (.int k x.bB)
 |some .string=>some (.str x.py)
 |some (.slice _)=>some x
 |_=>none
def Ld(Q:Program)(t:TypeId)(x:D):Bool:=
 match Q.underlying t,x with
 |some .bool,.bool _=>true
 |some (.int k),.int k' _=>k==k'
 |some .string,.str _=>true
 |some (.slice _),_=>true
 |_,_=>false
def r6(Q:Program)(x:D):Nat->List TypeId->Option (List D)
 |_,[]=>some []
 |j,t::ts=>match BW Q t (x.eL j),r6 Q x (j+1) ts with |some c,some cs=>some (c::cs)|_,_=>none
def EC(Q:Program)(x:D):Nat->List TypeId->Bool
 |_,[]=>true
 |j,t::ts=>Ld Q t (x.eL j)&&EC Q x (j+1) ts
def pz(Q:Program)(t:TypeId)(x:D):Bool:=
 if cd Q t then(match x with | .agg cs=>Nat.beq cs.length (mz Q 20 t).length |_=>false)&&EC Q x 0 (mz Q 20 t) else Ld Q t x
def ri(Q:Program)(t:TypeId)(x:D):K D:=
 match(if cd Q t then(match r6 Q x 0 (mz Q 20 t) with |some cs=>some (D.agg cs)|none=>none) else BW Q t x) with
 |some y=>K.cZ (pz Q t x) y
 |none=>K.fail
def arith(k:IntKind)(n:Int):K D:=
 match k with
 | .i64=>K.cZ (decide (-9223372036854775808<=n/\n<=9223372036854775807)) (.int .i64 n)
 |k=>K.ret (.int k (k.wrap n))
def pA(Q:Program)(op:BinOp)(t:TypeId)(p q:D):Option (K D):=
 match p,q with
 | .int k a,.int k' b=>match op with
  | .shl=>some (K.bind (K.cZ (decide (0<=b)) ()) λ_=>arith k (a*2^(min b.toNat k.bits)))
  | .shr=>some (K.cZ (decide (0<=b)) (.int k (a.fdiv (2^(min b.toNat k.bits)))))
  |_=>if k==k' then(match op with
   | .add=>some (arith k (a+b))
   | .sub=>some (arith k (a-b))
   | .mul=>some (arith k (a*b))
   | .quo=>some (K.bind (K.cZ (!(decide (b=0))) ()) λ_=>arith k (a.tdiv b))
   | .rem=>some (K.cZ (!(decide (b=0))) (.int k (a.tmod b)))
   | .and=>some (K.ret (.int k (k.wrap (BitVec.ofInt k.bits a&&&BitVec.ofInt k.bits b).toNat)))
   | .or=>some (K.ret (.int k (k.wrap (BitVec.ofInt k.bits a |||BitVec.ofInt k.bits b).toNat)))
   | .xor=>some (K.ret (.int k (k.wrap (BitVec.ofInt k.bits a^^^BitVec.ofInt k.bits b).toNat)))
   | .andNot=>some (K.ret (.int k (k.wrap (BitVec.ofInt k.bits a&&& ~~~BitVec.ofInt k.bits b).toNat)))
   | .eql=>some (K.ret (.bool (a==b)))
   | .neq=>some (K.ret (.bool (a !=b)))
   | .lss=>some (K.ret (.bool (a<b)))
   | .leq=>some (K.ret (.bool (a<=b)))
   | .gtr=>some (K.ret (.bool (a>b)))
   | .geq=>some (K.ret (.bool (a>=b)))
   |_=>none) else none
 | .str a,.str b=>match op with
  | .add=>some (K.cZ (decide (a.length+b.length<=9223372036854775807)) (.str (a++b)))
  | .eql=>some (K.ret (.bool (a==b)))
  | .neq=>some (K.ret (.bool (!(a==b))))
  | .lss=>some (K.ret (.bool (Op.bytesLess a b)))
  | .leq=>some (K.ret (.bool (Op.bytesLess a b ||a==b)))
  | .gtr=>some (K.ret (.bool (!(Op.bytesLess a b ||a==b))))
  | .geq=>some (K.ret (.bool (!(Op.bytesLess a b))))
  |_=>none
 | .bool a,.bool b=>match Q.underlying t,op with
  |some .bool,.eql=>some (K.ret (.bool (a==b)))
  |some .bool,.neq=>some (K.ret (.bool (!(a==b))))
  |_,_=>none
 | .agg a,.agg b=>match op with
  | .eql=>match D.bU a,D.bU b,Q.eqGuardType Q.depth t,Bo Q 20 t (.agg a) (.agg b) with
   |some _,some _,false,some c=>some (K.ret (.bool c))
   |_,_,_,_=>none
  | .neq=>match D.bU a,D.bU b,Q.eqGuardType Q.depth t,Bo Q 20 t (.agg a) (.agg b) with
   |some _,some _,false,some c=>some (K.ret (.bool (!c)))
   |_,_,_,_=>none
  |_=>none
 |_,_=>none
def jj(len:Nat)(lo hi:Option P):K (Nat×Nat):=
 K.bind (match hi with
  |none=>K.ret len
  |some (.d (.int _ j))=>K.cZ (decide (0<=j/\j<=(len:Int))) j.toNat
  |_=>K.fail) λh=>match lo with
  |none=>K.ret (0,h)
  |some (.d (.int _ j))=>K.cZ (decide (0<=j/\j<=(h:Int))) (j.toNat,h)
  |_=>K.fail
def lO(Q:Program)(s:S)(t:TypeId)(p:P)(i:P):K P:=
 match yL Q t with
 |some (n,e)=>K.cg (j8 Q s n e p i)
 |none=>match bI Q t,i with
 |some e,.d (.int _ j)=>match sz Q e with
  |some (k+1)=>match p with
   | .sl n v len=>match s.obj n v with
    |some (.arr ty _ _)=>if Nat.beq ty e then K.cZ (decide (0<=j/\j<(len:Int))) (.bR n v j.toNat (k+1) 0) else K.fail
    |some (.bC ty _ _)=>if Nat.beq ty e then K.cZ (decide (0<=j/\j<(len:Int))) (.bR n v j.toNat (k+1) 0) else K.fail
    |_=>K.fail
   | .hZ n v k' off len=>match s.obj n v with
    |some (.arr ty _ _)=>if Nat.beq ty e&&Nat.beq k' (k+1) then K.cZ (decide (0<=j/\j<(len:Int))) (.bR n v (off+j.toNat) (k+1) 0) else K.fail
    |_=>K.fail
   | .d (.sl k' es)=>if Nat.beq k' (k+1) then K.bind (K.cZ (decide (0<=j/\j<(es.length:Int))) ()) λ_=>K.bind (ri Q e (D.nth es j.toNat)) λx=>K.ret (.dg x 0) else K.fail
   |_=>K.fail
  |_=>K.fail
 |_,_=>K.fail
def yR(Q:Program)(s:S)(t:TypeId)(p:P)(lo hi:Option P):K P:=
 match bI Q t with
 |none=>K.fail
 |some e=>match sz Q e with
  |some (k+1)=>match p with
   | .d (.sl k' es)=>if Nat.beq k' (k+1) then K.bind (jj es.length lo hi) λx=>K.ret (.d (.sl k' ((es.take x.2).drop x.1))) else K.fail
   | .sl n v len=>match s.obj n v,lo with
    |some (.arr _ _ _),none=>K.bind (jj len none hi) λx=>K.ret (.sl n v x.2)
    |some (.arr ty _ _),some lo=>match sz Q ty with
     |some k'=>if Nat.beq k' (k+1) then K.bind (jj len (some lo) hi) λx=>K.ret (.hZ n v (k+1) x.1 (x.2-x.1)) else K.fail
     |none=>K.fail
    |_,_=>K.fail
   | .hZ n v k' off len=>match s.obj n v with
    |some (.arr _ _ _)=>if Nat.beq k' (k+1) then K.bind (jj len lo hi) λx=>K.ret (.hZ n v (k+1) (off+x.1) (x.2-x.1)) else K.fail
    |_=>K.fail
   |_=>K.fail
  |_=>K.fail
def xy(Q:Program)(s:S)(t:TypeId)(p:P)(lo hi:Option P):K P:=yR Q s t (jH Q s t p lo) lo hi
def BX(Q:Program)(s:S)(t:TypeId)(p:P):K P:=
 match p with
 | .bR n v i k off=>match s.obj n v with
  |some (.arr ty _ es)=>match sz Q ty with
   |some k'=>if Nat.beq k k' then K.bind (K.cZ (decide (i<es.length)) ()) λ_=>K.bind (ri Q ty (D.nth es i)) λx=>(match eX Q t x.cells off with |some y=>K.ret (.d y)|none=>K.fail) else K.fail
   |none=>K.fail
  |some (.bC ty es h)=>match sz Q ty with
   |some k'=>if Nat.beq k k' then K.bind (K.cZ (decide (i<es.length)) ()) λ_=>K.bind (ri Q ty (D.nth es i)) λx=>(match h with
    |none=>K.cg (gw Q t (x.cells.map P.d) off)
    |some (hi,ho,hp)=>match sz Q t with
     |some (m+1)=>if Nat.ble (off+(m+1)) ho ||Nat.blt ho off then K.cg (gw Q t (x.cells.map P.d) off)
      else K.bind (K.cZ (decide (hi=i)) ()) λ_=>K.cg (gw Q t ((x.cells.map P.d).set ho hp) off)
     |_=>K.fail) else K.fail
   |none=>K.fail
  |_=>K.fail
 |_=>K.cg (iJ Q s t p)
def BY:IntKind->Bool
 | .i8 | .i16 | .i32 | .i64 | .u8 | .u16 | .u32=>true
 |_=>false
def BZ(Q:Program)(a b:TypeId)(x:D):Option (K D):=
 match Q.underlying a,Q.underlying b,x with
 |some (.int ka),some (.int k),.int _ n=>some (if BY ka then arith k n else K.ret (.int k (k.wrap n)))
 |some .string,some .string,.str s=>some (K.ret (.str s))
 |_,_,_=>none
def D.merge(c:Bool)(x y:D):Option D:=
 match x,y with
 | .bool a,.bool b=>some (.bool (bif c then a else b))
 | .int k a,.int k' b=>if k==k' then some (.int k (bif c then a else b)) else none
 | .str a,.str b=>some (.str (bif c then a else b))
 |_,_=>none
def P.merge(c:Bool)(p q:P):Option P:=
 match p,q with
 | .d x,.d y=>match D.merge c x y with |some z=>some (.d z)|none=>none
 |_,_=>none
def tv(Q:Program)(s:S)(dst:Option Nat)(t:TypeId)(p k x:P):K S:=
 match dF Q t,p,k with
 |some (kt,_),.mp n v,.d kd=>match s.obj n v with
  |some (.bS jY vals c none)=>if Nat.beq kt jY&&x.aI then K.bind (K.cZ (cq Q kt kd) ()) λ_=>K.bind (K.cZ (vals kd).isNone ()) λ_=>K.cg ((s.setObj n (.bS kt vals (c+1) (some (kd,x)))).put dst .bad) else K.fail
  |_=>K.fail
 |_,_,_=>K.fail
def B0(Q:Program)(s:S)(dst:Option Nat)(t:TypeId)(p k:P):K S:=
 match dF Q t,p,k with
 |some (kt,_),.mp n v,.d kd=>match s.obj n v with
  |some (.bS jY vals c (some (k0,_)))=>if Nat.beq kt jY then K.bind (K.cZ (cq Q kt kd) ()) λ_=>K.bind (K.cZ (D.cP k0 kd) ()) λ_=>K.cg ((s.setObj n (.bS kt (vf kd vals) (c-1) none)).put dst .bad) else K.fail
  |_=>K.fail
 |_,_,_=>K.fail
def tA(Q:Program)(s:S)(t:TypeId)(p i:P)(ok:Bool):K P:=
 match dF Q t with
 |some (kt,e)=>match cQ Q e,i with
  |some z,.d k=>match p with
   | .mp n v=>match s.obj n v with
    |some (.map jY get _ _)=>if Nat.beq kt jY then K.bind (K.cZ (cq Q kt k) ()) λ_=>K.bind (ri Q e (jR (get k) z)) λy=>K.ret (if ok then .fL [.d y,.d (.bool (get k).isSome)] else .d y) else K.fail
    |some (.fZ jY get _ _ _)=>if !ok&&Nat.beq kt jY then K.bind (K.cZ (cq Q kt k) ()) λ_=>K.bind (ri Q e (jR (get k) z)) λy=>K.ret (.d y) else K.fail
    |some (.bS jY vals _ hand)=>if Nat.beq kt jY then K.bind (K.cZ (cq Q kt k) ()) λ_=>(match hand with
     |some (k0,p)=>K.bind (K.cZ (D.cP k0 k) ()) λ_=>K.ret (if ok then .fL [p,.d (.bool true)] else p)
     |none=>K.bind (K.cZ (vals k).isNone ()) λ_=>K.ret (if ok then .fL [.d z,.d (.bool false)] else .d z)) else K.fail
    |_=>K.fail
   | .d .mh=>K.bind (K.cZ (cq Q kt k) ()) λ_=>K.ret (if ok then .fL [.d z,.d (.bool false)] else .d z)
   |_=>K.fail
  |_,_=>K.fail
 |none=>K.fail
def L8(Q:Program)(s:S)(o:Oper)(g:Option (Nat×Bool)):K P:=
 match o.op with
 | .pick c a b=>match s.eg g c with
  | .d (.bool r)=>(match P.merge r (s.eg g a) (s.eg g b) with
   |some p=>K.ret p
   |none=>K.bind (K.dec r) λr=>K.ret (if r then s.eg g a else s.eg g b))
  |_=>K.fail
 | .binOp op t x y _=>match s.eg g x,s.eg g y with
  | .d p,.d q=>(match pA Q op t p q with
   |some m=>K.bind m λz=>K.ret (.d z)
   |none=>K.cg (jQ Q s op t x y (s.eg g x) (s.eg g y)))
  |p,q=>K.cg (jQ Q s op t x y p q)
 | .unOp op _ x=>match op,s.eg g x with
  | .not,.d (.bool b)=>K.ret (.d (.bool (!b)))
  | .neg,.d (.int k n)=>K.bind (arith k (0-n)) λz=>K.ret (.d z)
  |_,_=>K.cg (pv Q s o g)
 | .convert a b x=>match s.eg g x with
  | .d y=>(match BZ Q a b y with
   |some m=>K.bind m λz=>K.ret (.d z)
   |none=>K.cg (pv Q s o g))
  |_=>K.cg (pv Q s o g)
 | .load t x=>BX Q s t (s.eg g x)
 | .indexAddr t x i=>lO Q s t (s.eg g x) (s.eg g i)
 | .index t x i=>match Q.underlying t,s.eg g x,s.eg g i with
  |some .string,.d (.str l),.d (.int _ j)=>K.cZ (decide (0<=j/\j<(l.length:Int))) (.d (.int .u8 ((l.getD j.toNat 0).toNat)))
  |_,_,_=>K.cg (pv Q s o g)
 | .lookup t x i ok=>tA Q s t (s.eg g x) (s.eg g i) ok
 | .slice t x lo hi none=>match s.eg g x with
  | .d (.str l)=>(match Q.underlying t with
   |some .string=>K.bind (jj l.length (lo.map (s.eg g)) (hi.map (s.eg g))) λx=>K.ret (.d (.str ((l.take x.2).drop x.1)))
   |_=>K.fail)
  | .d .bu=>K.cg (pv Q s o g)
  |p=>xy Q s t p (lo.map (s.eg g)) (hi.map (s.eg g))
 | .call c=>match c.callee with
  | .builtin .len=>match c.args.toList,(c.argTypes[0]?).bind Q.underlying with
   | [x],some .string=>(match s.eg g x with
    | .d (.str l)=>K.ret (.d (.int .i64 l.length))
    |_=>K.fail)
   |_,_=>K.cg (pv Q s o g)
  | .builtin .min=>match c.args.toList.map (s.eg g) with
   | [.d (.int k a),.d (.int _ b)]=>K.ret (.d (.int k (min a b)))
   |_=>K.cg (pv Q s o g)
  | .builtin .max=>match c.args.toList.map (s.eg g) with
   | [.d (.int k a),.d (.int _ b)]=>K.ret (.d (.int k (max a b)))
   |_=>K.cg (pv Q s o g)
  |_=>K.cg (pv Q s o g)
 |_=>K.cg (pv Q s o g)
def xA(Q:Program)(s:S)(t:TypeId)(addr val:P):K S:=
 match addr with
 | .bR n v i k' off=>match sz Q t with
  |none=>K.fail
  |some k=>match kY s n v val with
   |some (ty,es,hi,ho,ds,q)=>match sz Q ty with
    |some k2=>if Nat.beq k' k2&&Nat.beq ds.length k&&Nat.beq k k2&&Nat.beq off 0 then K.bind (K.cZ (decide (i<es.length)) ()) λ_=>K.bind (K.cZ (decide (hi=i)) ()) λ_=>K.ret (s.setObj n (.bC ty (es.set i (.agg ds)) (some (hi,ho,q)))) else K.fail
    |none=>K.fail
   |none=>match jh Q s t val with
   |some (s1,x)=>match s1.obj n v with
    |some (.arr ty false es)=>match sz Q ty with
     |some k2=>if Nat.beq k' k2&&Nat.beq x.cells.length k&&Nat.ble (off+k) k2 then K.bind (K.cZ (decide (i<es.length)) ()) λ_=>K.bind (ri Q ty (D.nth es i)) λy=>K.ret (s1.setObj n (.arr ty false (es.set i (y.cm (y.cells.take off++x.cells++y.cells.drop (off+k)))))) else K.fail
     |none=>K.fail
    |_=>K.fail
   |none=>K.fail
 |_=>K.cg (dH Q s t addr val)
def tB(Q:Program)(s:S)(dst:Option Nat)(t t2:TypeId)(p q:P):K S:=
 match bI Q t with
 |none=>K.fail
 |some e=>
       match Q.info? e,sz Q e with
  |some i,some (k+1)=>match iz Q s t2 (k+1) q,cQ Q e with
   |some ys,some z=>if Nat.beq z.cells.length (k+1) then(match p with
    | .sl n v len=>match lk s.rg n with
     |some en=>match en.obj with
      | .arr ty false es=>if Nat.beq en.az v&&Nat.beq ty e then
        K.bind (K.cZ (Nat.ble len es.length&&bx (len+ys.length) i.bytes) ()) λ_=>
        K.cg (({s with rg:=ins n ⟨v+1,none,.arr ty false (es.take len++ys)⟩ s.rg}:S).put dst (.sl n (v+1) (len+ys.length)))
       else K.fail
      | .bC ty es none=>if Nat.beq en.az v&&Nat.beq ty e then
        K.bind (K.cZ (Nat.ble len es.length&&bx (len+ys.length) i.bytes) ()) λ_=>(match vo ys with
        |some j=>K.cg (({s with rg:=ins n ⟨v+1,none,.bC ty (es.take len++ys) (some (len,j,.d .bu))⟩ s.rg}:S).put dst (.sl n (v+1) (len+ys.length)))
        |none=>K.fail)
       else K.fail
      |_=>K.fail
     |none=>K.fail
    | .d .bu=>K.bind (K.cZ (bx ys.length i.bytes) ()) λ_=>(match s.new (site dst) (.arr e false ys) with
      |some (s1,v)=>K.cg (s1.put dst (.sl (site dst) v ys.length))
      |none=>K.fail)
    |_=>K.fail) else K.fail
   |_,_=>K.fail
  |_,_=>K.fail
def P.B1:P->Bool
 | .sl .. | .hZ ..=>true
 | .d (.sl ..)=>true
 |_=>false
def bytesOf:List D->List UInt8
 | []=>[]
 |x::r=>UInt8.ofNat x.bB.toNat::bytesOf r
def eN:List D->Bool
 | []=>true
 | .int .u8 _::r=>eN r
 |_=>false
def B2(Q:Program)(s:S)(dst:Option Nat)(t:TypeId)(p q:P):K S:=
 match bI Q t,p,q with
 |some e,.d (.int _ l),.d (.int _ c)=>match Q.info? e,sz Q e,cQ Q e with
  |some i,some (k+1),some z=>if Nat.beq z.cells.length (k+1) then K.bind (K.cZ (decide (0<=l/\l<=c/\c<=9223372036854775807/\(i.bytes:Int)*c<=281474976710656)) ()) λ_=>
   (match s.new (site dst) (.arr e false (List.replicate l.toNat z)) with
   |some (s1,v)=>K.cg (s1.put dst (.sl (site dst) v l.toNat))
   |none=>K.fail) else K.fail
  |_,_,_=>K.fail
 |_,_,_=>K.fail
def B3(Q:Program)(s:S)(dst:Option Nat)(t t2:TypeId)(p q:P):K S:=
 match bI Q t,p with
 |some e,.sl n v len=>match sz Q e with
  |some (k+1)=>match iz Q s t2 (k+1) q,s.obj n v with
   |some ys,some (.arr ty false es)=>if Nat.beq ty e then K.bind (K.cZ (decide (len<=es.length/\ys.length<=len)) ()) λ_=>K.cg ((s.setObj n (.arr ty false (ys++es.drop ys.length))).put dst (.d (.int .i64 ys.length))) else K.fail
   |_,_=>K.fail
  |_=>K.fail
 |_,_=>K.fail
def xC(Q:Program)(s:S)(dst:Option Nat)(t:TypeId)(p:P):K S:=
 match bI Q t,p with
 |some e,.hZ n v k off len=>match sz Q e,cQ Q e,s.obj n v with
  |some (k2+1),some z,some (.arr ty false es)=>if Nat.beq ty e&&Nat.beq k (k2+1)&&Nat.beq z.cells.length (k2+1) then K.bind (K.cZ (decide (off+len<=es.length)) ()) λ_=>K.cg ((s.setObj n (.arr ty false (es.take off++List.replicate len z++es.drop (off+len)))).put dst .bad) else K.fail
  |_,_,_=>K.fail
 |_,_=>K.fail
def Od(Q:Program)(s:S)(o:Oper)(g:Option (Nat×Bool)):K S:=
 match o.op with
 | .store t addr x=>K.bind (xA Q s t (s.eg g addr) (s.eg g x)) λs1=>K.cg (s1.put o.dst .bad)
 | .convert t1 t2 x=>match Q.underlying t1,Q.underlying t2 with
  |some (.slice e),some .string=>match Q.underlying e,iz Q s t1 1 (s.eg g x) with
   |some (.int .u8),some ys=>if(s.eg g x).B1 then K.bind (K.cZ (eN ys) ()) λ_=>K.cg (s.put o.dst (.d (.str (bytesOf ys)))) else K.fail
   |_,_=>K.fail
  |_,_=>K.fail
 | .call c=>match c.callee with
  | .builtin .append=>match c.args.toList,c.argTypes.toList with
   | [x,y],[t,t2]=>tB Q s o.dst t t2 (s.eg g x) (s.eg g y)
   |_,_=>K.fail
  | .builtin .copy=>match c.args.toList,c.argTypes.toList with
   | [x,y],[t,t2]=>B3 Q s o.dst t t2 (s.eg g x) (s.eg g y)
   |_,_=>K.fail
  | .builtin .clear=>match c.args.toList,c.argTypes.toList with
   | [x],[t]=>xC Q s o.dst t (s.eg g x)
   |_,_=>K.fail
  | .builtin .delete=>match c.args.toList,c.argTypes.toList with
   | [x,y],t::_=>B0 Q s o.dst t (s.eg g x) (s.eg g y)
   |_,_=>K.fail
  |_=>K.fail
 | .makeSlice t x y=>B2 Q s o.dst t (s.eg g x) (s.eg g y)
 | .mapUpdate t m k x=>if GS Q t then tv Q s o.dst t (s.eg g m) (s.eg g k) (s.eg g x) else K.cg (ef Q s o g)
 |_=>K.cg (ef Q s o g)
def Jz(Q:Program)(o:Oper):Bool:=
 match o.op with
 | .alloc _ | .box .. | .store ..=>true
 | .convert t1 t2 _=>match Q.underlying t1,Q.underlying t2 with
  |some (.slice _),some .string=>true
  |_,_=>false
 | .call c=>match c.callee with
  | .builtin .append | .builtin .copy | .builtin .clear | .builtin .delete=>true
  |_=>false
 | .makeSlice .. | .buildSlice .. | .makeMap .. | .mapUpdate .. | .insert .. | .range .. | .mapEntry .. | .entryStore ..=>true
 |_=>false
def xD(Q:Program)(s:S)(o:Oper)(g:Option (Nat×Bool)):K S:=
 match bT Q o with
 |some _=>K.cg (fA Q s o g)
 |none=>if Jz Q o then Od Q s o g else K.bind (L8 Q s o g) λp=>K.cg (s.put o.dst p)
def B4(Q:Program)(s:S)(o:Oper)(g:Option (Nat×Bool)):K S:=
 match lN o with
 |some (t,len,parts)=>K.cg (match rY Q t len (parts.map λx=>(x.1,s.eg g x.2)) with |some p=>s.put o.dst p |none=>none)
 |none=>xD Q s o g
abbrev cR:=List P->List (Nat×En)->K (P×List (Nat×En))
abbrev KF:=FuncId->cR
def lC(Q:Program)(cf:KF)(s:S)(dst:Option Nat)(f:P)(args:List P):K S:=
 match f with
 | .fn fN bH=>match bL Q s fN (args++bH) with
  |none=>K.fail
  |some (s1,ps)=>
   let ns:=reach s1.rg 1000 ps []
   if cE ns then(match sub s1.rg (toPos s1.rg ns) true 0 ns with
    |none=>K.fail
    |some R0=>K.bind (cf fN (iK (toPos s1.rg ns) ps) R0) λx=>
     let ms:=bV x.2 (reach x.2 1000 (x.1::cF x.2 x.2) [])
     let σ:=dm x.2 s1.rg ns ms (site dst*1000)
     if cE ms&&Nat.ble ms.length 1000 then(match dO x.2 σ 0 ns s1.rg with
      |none=>K.fail
      |some R2=>match gB x.2 σ (site dst*1000) ms R2 with
       |none=>K.fail
       |some R3=>K.cg (({s1 with rg:=R3}:S).put dst (nb σ x.1))) else K.fail) else K.fail
 |_=>K.fail
def B5(Q:Program)(cf:KF)(s:S)(o:Oper)(g:Option (Nat×Bool)):K S:=
 match dU o with
 |some (f,xs)=>lC Q cf s o.dst (s.eg g f) (xs.map (s.eg g))
 |none=>B4 Q s o g
def rep(t:Nat)(v:P):List (Nat×P)->List (Nat×P)
 | []=>[]
 | (k,u)::r=>if Nat.beq k t then(k,v)::r else(k,u)::rep t v r
def tC(dst:Option Nat)(kn:List (Nat×Bool)):List (Nat×Bool):=
 match dst with
 |none=>kn
 |some d=>kn.filter λx=> !Nat.beq x.1 d
def JA(o:Oper):Bool:=match o.op with | .binOp .rem _ _ _ _=>true |_=>false
def GU(ops:List Oper)(o:Oper):Bool:=
 match o.op with
 | .call c=>match c.callee,c.argTypes.toList with
  | .builtin .len,[t]=>(Nat.beq t 9 ||ops.any JA)&&ops.any λp=>match p.op with
   | .binOp .add _ (.tmp u) (.const _) _=>(match o.dst with |some d=>Nat.beq u d |none=>false)
   |_=>false
  |_,_=>false
 |_=>false
def B6(ops:List Oper)(o:Oper)(s:S):K S:=
 if GU ops o then(match o.dst with
  |some d=>match lk s.tm d with
   |some (.d (.int k z))=>λae=> ∀c:Int,c=z->ae ⟨s.n,rep d (.d (.int k c)) s.tm,s.rg⟩
   |_=>K.ret s
  |none=>K.ret s) else K.ret s
def r7(Q:Program)(cf:KF)(ops:List Oper)(kn:List (Nat×Bool))(s:S)(o:Oper):K (S×List (Nat×Bool)):=
 match aG ops o with
 |none=>K.fail
 |some none=>K.bind (B5 Q cf s o none) λs1=>K.bind (B6 ops o s1) λs1=>K.ret (s1,tC o.dst kn)
 |some (some (t,want))=>match lk kn t with
  |some r=>if r==want then K.bind (B5 Q cf s o (some (t,want))) λs1=>K.bind (B6 ops o s1) λs1=>K.ret (s1,tC o.dst kn) else K.bind (K.cg (s.put o.dst .skip)) λs1=>K.ret (s1,tC o.dst kn)
  |none=>match lk s.tm t with
   |some (.d (.bool b))=>K.bind (K.dec b) λr=>
    if r==want then K.bind (B5 Q cf ⟨s.n,rep t (.d (.bool r)) s.tm,s.rg⟩ o (some (t,want))) λs1=>K.bind (B6 ops o s1) λs1=>K.ret (s1,tC o.dst ((t,r)::kn))
    else K.bind (K.cg ((⟨s.n,rep t (.d (.bool r)) s.tm,s.rg⟩:S).put o.dst .skip)) λs1=>K.ret (s1,tC o.dst ((t,r)::kn))
   |some (.when ..)=>K.bind (K.cg (s.put o.dst .skip)) λs1=>K.ret (s1,tC o.dst kn)
   |_=>K.fail
def ic(Q:Program)(cf:KF)(ops:List Oper):List Oper->List (Nat×Bool)->S->K S
 | [],_,s=>K.ret s
 |o::r,kn,s=>K.bind (r7 Q cf ops kn s o) λx=>x.1.force λs1=>ic Q cf ops r x.2 s1
def jk(Q:Program)(cf:KF)(ops:List Oper):List Oper->List (Nat×Bool)->S->K (S×List Step)
 | [],_,s=>K.ret (s,[])
 |o::r,kn,s=>K.bind (r7 Q cf ops kn s o) λx=>x.1.force λs1=>K.bind (jk Q cf ops r x.2 s1) λy=>K.ret (y.1,iL Q ops s o s1::y.2)
def vp(Q:Program)(cf:KF)(ops:List Oper)(cls:Nat)(s:S):K S:=
 match cls with
 |0=>K.fail
 |1=>K.bind (jk Q cf ops ops [] s) λx=>λae=>ki 0 (masks ops []) x.2 (ae x.1)
 |4=>K.bind (jk Q cf (bO ops) (bO ops) [] s) λx=>λae=>ki 0 (masks (bO ops) []) x.2 (ae x.1)
 |2=>ic Q cf ops ops [] s
 |5=>ic Q cf (bO ops) (bO ops) [] s
 |6=>(match tn ops with
  |some (m,t,d)=>(match lz Q t,lk s.tm d with
   |false,none=>K.bind (jk Q cf ops ops [] s) λx=>λae=>ki m (masks ops []) x.2 (ae x.1)
   |_,_=>K.fail)
  |none=>K.fail)
 |_=>K.fail
def bE(dc:Nat->Nat):Code->Bool
 | .region id ops draw=> !draw ||Nat.beq (gE ops.toList) (dc id)
 | .seq a b=>bE dc a&&bE dc b
 | .cond _ a b=>bE dc a&&bE dc b
 | .block _ c | .loop c | .scope c=>bE dc c
 |_=>true
def iC(dc:FuncId->Nat->Nat):Nat->List Func->Bool
 |_,[]=>true
 |i,f::r=>(match f.body with |some c=>bE (dc i) c |none=>true)&&iC dc (i+1) r
def tD(body:S->K (PX×S))(keep:Option (List Nat×List Nat)):Nat->S->K (PX×S)
 |0,_=>K.fail
 |k+1,s=>K.bind (K.cg (cx keep s)) λs0=>K.bind (body s0) λx=>match x.1 with
  | .normal=>tD body keep k x.2
  |_=>K.bind (K.cg (eI keep x.2)) λs2=>K.ret (x.1,s2)
def pB(body:S->K (PX×S))(keep:Option (List Nat×List Nat))(s:S):K (PX×S):=
 K.bind (body s) λx=>match x.1 with
  | .normal=>K.bind (K.cg (cx keep x.2)) λs2=>K.ret (.normal,s2)
  |_=>K.bind (K.cg (eI keep x.2)) λs2=>K.ret (x.1,s2)
def dn(Q:Program)(kf:KF)(kp:Nat->Option (List Nat×List Nat))(hk:List (Nat×(S->K (PX×S))))(dc:Nat->Nat)(lf:Nat):Code->S->K (PX×S)
 | .skip,s=>K.ret (.normal,s)
 | .label _,s=>K.ret (.normal,s)
 | .region id ops draw,s=>K.bind (if draw then vp Q kf ops.toList (dc id) s else ic Q kf ops.toList ops.toList [] s) λs1=>K.ret (.normal,s1)
 | .seq a b,s=>K.bind (dn Q kf kp hk dc lf a s) λx=>match x.1 with
  | .normal=>dn Q kf kp hk dc lf b x.2
  |_=>K.ret x
 | .cond c x y,s=>match s.ev c with
  | .d (.bool b)=>K.bind (K.dec b) λr=>if r then dn Q kf kp hk dc lf x s else dn Q kf kp hk dc lf y s
  |_=>K.fail
 | .block id c,s=>K.bind (dn Q kf kp hk dc lf c s) λx=>match x.1 with
  | .exit kl=>if Nat.beq kl id then K.ret (.normal,x.2) else K.ret x
  |_=>K.ret x
 | .loop c,s=>match lk hk (Code.lB c) with
  |some h=>h s
  |none=>tD (dn Q kf kp hk dc lf c) (kp (Code.lB c)) lf s
 | .scope c,s=>dn Q kf kp hk dc lf c s
 | .exit id,s=>K.ret (.exit id,s)
 | .ret,s=>K.ret (.ret,s)
 |_,_=>K.fail
def tE(Q:Program)(m:Nat)(Iq:List TypeId)(qs:List P)(s:S):K (P×List (Nat×En)):=K.cg (finish Q m Iq qs s)
def iM(Q:Program)(kf:KF)(kp:tq)(hk:List (Nat×(S->K (PX×S))))(dc:FuncId->Nat->Nat)(lf:Nat):KF:=λf ps R=>
 match Q.funcs[f]? with
 |none=>K.fail
 |some fn=>if eV f kp.xs then K.fail else match fn.body with
  |none=>K.fail
  |some c=>if fn.name== "runtime.NumGoroutine" then K.fail else
   K.bind (dn Q kf (kp f) hk (dc f) lf c ⟨fn.ntmps,dB 0 (gF (kp f 999999) Q fn.params.toList ps),R⟩) λx=>match x.1 with
    | .exit _=>K.fail
    |_=>match bW Q x.2 fn.results.toList with
     |some qs=>tE Q R.length fn.resultTypes.toList qs x.2
     |none=>K.fail
def runK(Q:Program)(kp:tq)(dc:FuncId->Nat->Nat)(H:List (FuncId×cR))(lf:Nat):Nat->KF
 |0=>λf ps R=>match lk H f with |some h=>h ps R |none=>K.fail
 |k+1=>λf ps R=>match lk H f with
  |some h=>h ps R
  |none=>iM Q (runK Q kp dc H lf k) kp [] dc lf f ps R
end Pi
