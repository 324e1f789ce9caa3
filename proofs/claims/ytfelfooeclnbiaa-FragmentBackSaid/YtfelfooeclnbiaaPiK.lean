/- The text PiK. -/
import Derived.Test.YtfelfooeclnbiaaPiCode2
namespace Pi
open Go
def P.cZ{β:Type}(p:P)(k:P->β):β:=
 match p with
 | .d x=>x.force λy=>k (.d y)
 | .cl x off=>x.force λy=>k (.cl y off)
 |p=>k p
def P.force{β:Type}(p:P)(k:P->β):β:=
 match p with
 | .agg ps=>eD P.cZ ps λqs=>k (.agg qs)
 | .dW ps=>eD P.cZ ps λqs=>k (.dW qs)
 | .fn f ps=>eD P.cZ ps λqs=>k (.fn f qs)
 |p=>p.cZ k
def tf{β:Type}(x:Nat×P)(k:Nat×P->β):β:=match x with | (n,p)=>p.force λq=>k (n,q)
def wc{β:Type}(x:D×P)(k:D×P->β):β:=match x with | (d,p)=>d.force λd=>p.cZ λp=>k (d,p)
def tg{β:Type}(x:Nat×En)(k:Nat×En->β):β:=
 match x with
 | (n,⟨v,t,o⟩)=>match o with
  | .box ty ps=>eD P.cZ ps λqs=>k (n,⟨v,t,.box ty qs⟩)
  | .arr ty fz es=>k (n,⟨v,t,.arr ty fz es⟩)
  | .map kt get c fz=>k (n,⟨v,t,.map kt get c fz⟩)
  | .iter kt vt left cur=>k (n,⟨v,t,.iter kt vt left cur⟩)
  | .gone=>k (n,⟨v,t,.gone⟩)
  | .iX=>k (n,⟨v,t,.iX⟩)
  | .eb kt get c p kd=>p.cZ λp=>kd.force λkd=>k (n,⟨v,t,.eb kt get c p kd⟩)
  | .a7 kt es=>eD wc es λes=>k (n,⟨v,t,.a7 kt es⟩)
def S.force{β:Type}(s:S)(k:S->β):β:=
 match s with
 | ⟨n,tm,rg⟩=>eD tf tm λGz=>eD tg rg λGA=>k ⟨n,Gz,GA⟩
theorem P.cR{β:Type}(p:P)(k:P->β):p.cZ k=k p:=by
 cases p with
 |d x=>exact D.force_eq x (λy=>k (.d y))
 |cl x off=>exact D.force_eq x (λy=>k (.cl y off))
 |_=>rfl
theorem P.force_eq{β:Type}(p:P)(k:P->β):p.force k=k p:=by
 cases p with
 |agg ps=>exact cy P.cR ps (λqs=>k (.agg qs))
 |dW ps=>exact cy P.cR ps (λqs=>k (.dW qs))
 |fn f ps=>exact cy P.cR ps (λqs=>k (.fn f qs))
 |d x=>exact D.force_eq x (λy=>k (.d y))
 |cl x off=>exact D.force_eq x (λy=>k (.cl y off))
 |_=>rfl
theorem rV{β:Type}(x:Nat×P)(k:Nat×P->β):tf x k=k x:=by
 cases x with
 |mk n p=>exact P.force_eq p (λq=>k (n,q))
theorem uq{β:Type}(x:D×P)(k:D×P->β):wc x k=k x:=by
 cases x with
 |mk d p=>show d.force (λd=>p.cZ λp=>k (d,p))=_;rw[D.force_eq,P.cR]
theorem rW{β:Type}(x:Nat×En)(k:Nat×En->β):tg x k=k x:=by
 obtain⟨n,v,t,o⟩:=x;cases o with
 |box ty ps=>exact cy P.cR ps (λqs=>k (n,⟨v,t,.box ty qs⟩))
 |eb kt get c p kd=>show p.cZ (λp=>kd.force λkd=>k (n,⟨v,t,.eb kt get c p kd⟩))=_;rw[P.cR,D.force_eq]
 |a7 kt es=>exact cy uq es (λes=>k (n,⟨v,t,.a7 kt es⟩))
 |_=>rfl
theorem S.force_eq{β:Type}(s:S)(k:S->β):s.force k=k s:=by simp only[S.force];rw[cy rV,cy rW]
abbrev K(α:Type):=(α->Prop)->Prop
def K.ret{α:Type}(a:α):K α:=λae=>ae a
def K.fail{α:Type}:K α:=λ_=>False
def K.bind{α β:Type}(m:K α)(f:α->K β):K β:=λae=>m λa=>f a ae
def K.dj{α:Type}(b:Bool)(a:α):K α:=λae=>cond b (ae a) False
def K.dec(b:Bool):K Bool:=λae=>cond b (ae true) (ae false)
def K.cm{α:Type}(o:Option α):K α:=λae=>match o with
 |some a=>ae a
 |none=>False
def D.bp:D->Int | .int _ n=>n |_=>0
def D.Ej:D->Bool | .bool b=>b |_=>false
def D.jR:D->List UInt8 | .str s=>s |_=>[]
def D.Ek:D->List D | .sl _ es=>es |_=>[]
def D.nth(es:List D)(i:Nat):D:=es.getD i .dq
def D.iM(x:D)(j:Nat):D:=x.cells.getD j .dq
def jS(Q:Program):Nat->TypeId->List TypeId
 |0,_=>[]
 |n+1,t=>match Q.underlying t with
  |some (.struct fs)=>fs.toList.flatMap λf=>jS Q n f.type
  |some (.array k e)=>(List.replicate k (jS Q n e)).flatten
  |_=>[t]
def wg(Q:Program)(t:TypeId)(x:D):Option D:=
 match Q.underlying t with
 |some .bool=>some (.bool x.Ej)
 |some (.int k)=>some (.int k x.bp)
 |some .string=>some (.str x.jR)
 |some (.slice e)=>match sz Q e with |some (k+1)=>some (.sl (k+1) x.Ek)|_=>none
 |_=>none
def Dx(Q:Program)(t:TypeId)(x:D):Bool:=
 match Q.underlying t,x with
 |some .bool,.bool _=>true
 |some (.int k),.int k' _=>k==k'
 |some .string,.str _=>true
 |some (.slice e),.sl k _=>sz Q e==some k
 |_,_=>false
def n9(Q:Program)(x:D):Nat->List TypeId->Option (List D)
 |_,[]=>some []
 |j,t::ts=>match wg Q t (x.iM j),n9 Q x (j+1) ts with |some c,some cs=>some (c::cs)|_,_=>none
def yD(Q:Program)(x:D):Nat->List TypeId->Bool
 |_,[]=>true
 |j,t::ts=>Dx Q t (x.iM j)&&yD Q x (j+1) ts
def kV(Q:Program)(t:TypeId)(x:D):Bool:=
 if bB Q t then(match x with | .agg cs=>Nat.beq cs.length (jS Q 20 t).length |_=>false)&&yD Q x 0 (jS Q 20 t) else Dx Q t x
def rX(Q:Program)(t:TypeId)(x:D):K D:=
 match(if bB Q t then(match n9 Q x 0 (jS Q 20 t) with |some cs=>some (D.agg cs)|none=>none) else wg Q t x) with
 |some y=>K.dj (kV Q t x) y
 |none=>K.fail
def arith(k:IntKind)(n:Int):K D:=
 match k with
 | .i64=>K.dj (decide (-9223372036854775808<=n/\n<=9223372036854775807)) (.int .i64 n)
 |k=>K.ret (.int k (k.wrap n))
def mb(Q:Program)(op:BinOp)(t:TypeId)(p q:D):Option (K D):=
 match p,q with
 | .int k a,.int k' b=>match op with
  | .shl=>some (K.bind (K.dj (decide (0<=b)) ()) λ_=>arith k (a*2^(min b.toNat k.bits)))
  | .shr=>some (K.dj (decide (0<=b)) (.int k (a.fdiv (2^(min b.toNat k.bits)))))
  |_=>if k==k' then(match op with
   | .add=>some (arith k (a+b))
   | .sub=>some (arith k (a-b))
   | .mul=>some (arith k (a*b))
   | .quo=>some (K.bind (K.dj (!(decide (b=0))) ()) λ_=>arith k (a.tdiv b))
   | .rem=>some (K.dj (!(decide (b=0))) (.int k (a.tmod b)))
   | .and=>some (K.ret (.int k (k.wrap (BitVec.ofInt k.bits a&&&BitVec.ofInt k.bits b).toNat)))
   | .or=>some (K.ret (.int k (k.wrap (BitVec.ofInt k.bits a |||BitVec.ofInt k.bits b).toNat)))
   | .xor=>some (K.ret (.int k (k.wrap (BitVec.ofInt k.bits a^^^BitVec.ofInt k.bits b).toNat)))
   | .andNot=>some (K.ret (.int k (k.wrap (BitVec.ofInt k.bits a&&& ~~~BitVec.ofInt k.bits b).toNat)))
   | .eql=>some (K.ret (.bool (a==b)))
   | .neq=>some (K.ret (.bool (a !=b)))
   | .lss=>some (K.ret (.bool (a<b)))
   | .leq=>some (K.ret (.bool (a<=b)))
   | .gtr=>some (K.ret (.bool (a>b)))
   | .geq=>some (K.ret (.bool (a>=b)))
   |_=>none) else none
 | .str a,.str b=>match op with
  | .add=>some (K.dj (decide (a.length+b.length<=9223372036854775807)) (.str (a++b)))
  | .eql=>some (K.ret (.bool (a==b)))
  | .neq=>some (K.ret (.bool (!(a==b))))
  | .lss=>some (K.ret (.bool (Op.bytesLess a b)))
  | .leq=>some (K.ret (.bool (Op.bytesLess a b ||a==b)))
  | .gtr=>some (K.ret (.bool (!(Op.bytesLess a b ||a==b))))
  | .geq=>some (K.ret (.bool (!(Op.bytesLess a b))))
  |_=>none
 | .bool a,.bool b=>match Q.underlying t,op with
  |some .bool,.eql=>some (K.ret (.bool (a==b)))
  |some .bool,.neq=>some (K.ret (.bool (!(a==b))))
  |_,_=>none
 | .agg a,.agg b=>match op with
  | .eql=>match D.bq a,D.bq b,Q.eqGuardType Q.depth t,vH Q 20 t (.agg a) (.agg b) with
   |some _,some _,false,some c=>some (K.ret (.bool c))
   |_,_,_,_=>none
  | .neq=>match D.bq a,D.bq b,Q.eqGuardType Q.depth t,vH Q 20 t (.agg a) (.agg b) with
   |some _,some _,false,some c=>some (K.ret (.bool (!c)))
   |_,_,_,_=>none
  |_=>none
 |_,_=>none
def fX(len:Nat)(lo hi:Option P):K (Nat×Nat):=
 K.bind (match hi with
  |none=>K.ret len
  |some (.d (.int _ j))=>K.dj (decide (0<=j/\j<=(len:Int))) j.toNat
  |_=>K.fail) λh=>match lo with
  |none=>K.ret (0,h)
  |some (.d (.int _ j))=>K.dj (decide (0<=j/\j<=(h:Int))) (j.toNat,h)
  |_=>K.fail
def jm(Q:Program)(s:S)(t:TypeId)(p:P)(i:P):K P:=
 match s7 Q t with
 |some (n,e)=>K.cm (gN Q s n e p i)
 |none=>match bd Q t,i with
 |some e,.d (.int _ j)=>match sz Q e with
  |some (k+1)=>match p with
   | .sl n v len=>match s.obj n v with
    |some (.arr ty _ _)=>if Nat.beq ty e then K.dj (decide (0<=j/\j<(len:Int))) (.bG n v j.toNat (k+1) 0) else K.fail
    |_=>K.fail
   | .eZ n v k' off len=>match s.obj n v with
    |some (.arr ty _ _)=>if Nat.beq ty e&&Nat.beq k' (k+1) then K.dj (decide (0<=j/\j<(len:Int))) (.bG n v (off+j.toNat) (k+1) 0) else K.fail
    |_=>K.fail
   | .d (.sl k' es)=>if Nat.beq k' (k+1) then K.bind (K.dj (decide (0<=j/\j<(es.length:Int))) ()) λ_=>K.bind (rX Q e (D.nth es j.toNat)) λx=>K.ret (.cl x 0) else K.fail
   |_=>K.fail
  |_=>K.fail
 |_,_=>K.fail
def ti(Q:Program)(s:S)(t:TypeId)(p:P)(lo hi:Option P):K P:=
 match bd Q t with
 |none=>K.fail
 |some e=>match sz Q e with
  |some (k+1)=>match p with
   | .d (.sl k' es)=>if Nat.beq k' (k+1) then K.bind (fX es.length lo hi) λx=>K.ret (.d (.sl k' ((es.take x.2).drop x.1))) else K.fail
   | .sl n v len=>match s.obj n v,lo with
    |some (.arr _ _ _),none=>K.bind (fX len none hi) λx=>K.ret (.sl n v x.2)
    |some (.arr ty _ _),some lo=>match sz Q ty with
     |some k'=>if Nat.beq k' (k+1) then K.bind (fX len (some lo) hi) λx=>K.ret (.eZ n v (k+1) x.1 (x.2-x.1)) else K.fail
     |none=>K.fail
    |_,_=>K.fail
   | .eZ n v k' off len=>match s.obj n v with
    |some (.arr _ _ _)=>if Nat.beq k' (k+1) then K.bind (fX len lo hi) λx=>K.ret (.eZ n v (k+1) (off+x.1) (x.2-x.1)) else K.fail
    |_=>K.fail
   |_=>K.fail
  |_=>K.fail
def rY(Q:Program)(s:S)(t:TypeId)(p:P)(lo hi:Option P):K P:=ti Q s t (gu Q s t p lo) lo hi
def wh(Q:Program)(s:S)(t:TypeId)(p:P):K P:=
 match p with
 | .bG n v i k off=>match s.obj n v with
  |some (.arr ty _ es)=>match sz Q ty with
   |some k'=>if Nat.beq k k' then K.bind (K.dj (decide (i<es.length)) ()) λ_=>K.bind (rX Q ty (D.nth es i)) λx=>(match dm Q t x.cells off with |some y=>K.ret (.d y)|none=>K.fail) else K.fail
   |none=>K.fail
  |_=>K.fail
 |_=>K.cm (iY Q s t p)
def wi:IntKind->Bool
 | .i8 | .i16 | .i32 | .i64 | .u8 | .u16 | .u32=>true
 |_=>false
def wj(Q:Program)(a b:TypeId)(x:D):Option (K D):=
 match Q.underlying a,Q.underlying b,x with
 |some (.int ka),some (.int k),.int _ n=>some (if wi ka then arith k n else K.ret (.int k (k.wrap n)))
 |some .string,some .string,.str s=>some (K.ret (.str s))
 |_,_,_=>none
def D.merge(c:Bool)(x y:D):Option D:=
 match x,y with
 | .bool a,.bool b=>some (.bool (bif c then a else b))
 | .int k a,.int k' b=>if k==k' then some (.int k (bif c then a else b)) else none
 | .str a,.str b=>some (.str (bif c then a else b))
 |_,_=>none
def P.merge(c:Bool)(p q:P):Option P:=
 match p,q with
 | .d x,.d y=>match D.merge c x y with |some z=>some (.d z)|none=>none
 |_,_=>none
def Ax(k:D):List (D×P)->K (Option P)
 | []=>K.ret none
 | (j,p)::r=>K.bind (K.dec (D.fy j k)) λb=>if b then K.ret (some p) else Ax k r
def yE(k:D)(p:P):List (D×P)->K (List (D×P))
 | []=>K.ret [(k,p)]
 | (j,q)::r=>K.bind (K.dec (D.fy j k)) λb=>if b then K.ret ((k,p)::r) else K.bind (yE k p r) λr'=>K.ret ((j,q)::r')
def yF(k:D):List (D×P)->K (List (D×P))
 | []=>K.ret []
 | (j,q)::r=>K.bind (K.dec (D.fy j k)) λb=>if b then K.ret r else K.bind (yF k r) λr'=>K.ret ((j,q)::r')
def o7(Q:Program)(s:S)(dst:Option Nat)(t:TypeId)(p k x:P):K S:=
 match cC Q t,p,k with
 |some (kt,_),.mp n v,.d kd=>match s.obj n v with
  |some (.a7 gJ es)=>if Nat.beq kt gJ&&x.aF then K.bind (K.dj (bH Q kt kd) ()) λ_=>K.bind (yE kd x es) λes'=>K.cm ((s.setObj n (.a7 kt es')).put dst .bad) else K.fail
  |_=>K.fail
 |_,_,_=>K.fail
def wk(Q:Program)(s:S)(dst:Option Nat)(t:TypeId)(p k:P):K S:=
 match cC Q t,p,k with
 |some (kt,_),.mp n v,.d kd=>match s.obj n v with
  |some (.a7 gJ es)=>if Nat.beq kt gJ then K.bind (K.dj (bH Q kt kd) ()) λ_=>K.bind (yF kd es) λes'=>K.cm ((s.setObj n (.a7 kt es')).put dst .bad) else K.fail
  |_=>K.fail
 |_,_,_=>K.fail
def o8(Q:Program)(s:S)(t:TypeId)(p i:P)(ok:Bool):K P:=
 match cC Q t with
 |some (kt,e)=>match bV Q e,i with
  |some z,.d k=>match p with
   | .mp n v=>match s.obj n v with
    |some (.map gJ get _ _)=>if Nat.beq kt gJ then K.bind (K.dj (bH Q kt k) ()) λ_=>K.bind (rX Q e (gE (get k) z)) λy=>K.ret (if ok then .dW [.d y,.d (.bool (get k).isSome)] else .d y) else K.fail
    |some (.eb gJ get _ _ _)=>if !ok&&Nat.beq kt gJ then K.bind (K.dj (bH Q kt k) ()) λ_=>K.bind (rX Q e (gE (get k) z)) λy=>K.ret (.d y) else K.fail
    |some (.a7 gJ es)=>if Nat.beq kt gJ then K.bind (K.dj (bH Q kt k) ()) λ_=>K.bind (Ax k es) λr=>K.ret (if ok then .dW [r.getD (.d z),.d (.bool r.isSome)] else r.getD (.d z)) else K.fail
    |_=>K.fail
   | .d .jJ=>K.bind (K.dj (bH Q kt k) ()) λ_=>K.ret (if ok then .dW [.d z,.d (.bool false)] else .d z)
   |_=>K.fail
  |_,_=>K.fail
 |none=>K.fail
def El(Q:Program)(s:S)(o:Oper)(g:Option (Nat×Bool)):K P:=
 match o.op with
 | .pick c a b=>match s.eg g c with
  | .d (.bool r)=>(match P.merge r (s.eg g a) (s.eg g b) with
   |some p=>K.ret p
   |none=>K.bind (K.dec r) λr=>K.ret (if r then s.eg g a else s.eg g b))
  |_=>K.fail
 | .binOp op t x y _=>match s.eg g x,s.eg g y with
  | .d p,.d q=>(match mb Q op t p q with
   |some m=>K.bind m λz=>K.ret (.d z)
   |none=>K.cm (gD Q s op t x y (s.eg g x) (s.eg g y)))
  |p,q=>K.cm (gD Q s op t x y p q)
 | .unOp op _ x=>match op,s.eg g x with
  | .not,.d (.bool b)=>K.ret (.d (.bool (!b)))
  | .neg,.d (.int k n)=>K.bind (arith k (0-n)) λz=>K.ret (.d z)
  |_,_=>K.cm (pv Q s o g)
 | .convert a b x=>match s.eg g x with
  | .d y=>(match wj Q a b y with
   |some m=>K.bind m λz=>K.ret (.d z)
   |none=>K.cm (pv Q s o g))
  |_=>K.cm (pv Q s o g)
 | .load t x=>wh Q s t (s.eg g x)
 | .indexAddr t x i=>jm Q s t (s.eg g x) (s.eg g i)
 | .index t x i=>match Q.underlying t,s.eg g x,s.eg g i with
  |some .string,.d (.str l),.d (.int _ j)=>K.dj (decide (0<=j/\j<(l.length:Int))) (.d (.int .u8 ((l.getD j.toNat 0).toNat)))
  |_,_,_=>K.cm (pv Q s o g)
 | .lookup t x i ok=>o8 Q s t (s.eg g x) (s.eg g i) ok
 | .slice t x lo hi none=>match s.eg g x with
  | .d (.str l)=>(match Q.underlying t with
   |some .string=>K.bind (fX l.length (lo.map (s.eg g)) (hi.map (s.eg g))) λx=>K.ret (.d (.str ((l.take x.2).drop x.1)))
   |_=>K.fail)
  | .d .dq=>K.cm (pv Q s o g)
  |p=>rY Q s t p (lo.map (s.eg g)) (hi.map (s.eg g))
 | .call c=>match c.callee with
  | .builtin .len=>match c.args.toList,(c.argTypes[0]?).bind Q.underlying with
   | [x],some .string=>(match s.eg g x with
    | .d (.str l)=>K.ret (.d (.int .i64 l.length))
    |_=>K.fail)
   |_,_=>K.cm (pv Q s o g)
  | .builtin .min=>match c.args.toList.map (s.eg g) with
   | [.d (.int k a),.d (.int _ b)]=>K.ret (.d (.int k (min a b)))
   |_=>K.cm (pv Q s o g)
  | .builtin .max=>match c.args.toList.map (s.eg g) with
   | [.d (.int k a),.d (.int _ b)]=>K.ret (.d (.int k (max a b)))
   |_=>K.cm (pv Q s o g)
  |_=>K.cm (pv Q s o g)
 |_=>K.cm (pv Q s o g)
def rZ(Q:Program)(s:S)(t:TypeId)(addr val:P):K S:=
 match addr with
 | .bG n v i k' off=>match sz Q t with
  |none=>K.fail
  |some k=>match fU Q s t val with
   |some (s1,x)=>match s1.obj n v with
    |some (.arr ty false es)=>match sz Q ty with
     |some k2=>if Nat.beq k' k2&&Nat.beq x.cells.length k&&Nat.ble (off+k) k2 then K.bind (K.dj (decide (i<es.length)) ()) λ_=>K.bind (rX Q ty (D.nth es i)) λy=>K.ret (s1.setObj n (.arr ty false (es.set i (y.bc (y.cells.take off++x.cells++y.cells.drop (off+k)))))) else K.fail
     |none=>K.fail
    |_=>K.fail
   |none=>K.fail
 |_=>K.cm (cP Q s t addr val)
def o9(Q:Program)(s:S)(dst:Option Nat)(t t2:TypeId)(p q:P):K S:=
 match bd Q t with
 |none=>K.fail
 |some e=>
       match Q.info? e,sz Q e with
  |some i,some (k+1)=>match fi Q s t2 (k+1) q,bV Q e with
   |some ys,some z=>if Nat.beq z.cells.length (k+1) then(match p with
    | .sl n v len=>match lk s.rg n with
     |some en=>match en.obj with
      | .arr ty false es=>if Nat.beq en.ay v&&Nat.beq ty e then
        K.bind (K.dj (Nat.ble len es.length&&eE (len+ys.length) i.bytes) ()) λ_=>
        K.cm (({s with rg:=ins n ⟨v+1,none,.arr ty false (es.take len++ys)⟩ s.rg}:S).put dst (.sl n (v+1) (len+ys.length)))
       else K.fail
      |_=>K.fail
     |none=>K.fail
    | .d .dq=>K.bind (K.dj (eE ys.length i.bytes) ()) λ_=>(match s.new (site dst) (.arr e false ys) with
      |some (s1,v)=>K.cm (s1.put dst (.sl (site dst) v ys.length))
      |none=>K.fail)
    |_=>K.fail) else K.fail
   |_,_=>K.fail
  |_,_=>K.fail
def P.wm:P->Bool
 | .sl .. | .eZ ..=>true
 | .d (.sl ..)=>true
 |_=>false
def bytesOf:List D->List UInt8
 | []=>[]
 |x::r=>UInt8.ofNat x.bp.toNat::bytesOf r
def da:List D->Bool
 | []=>true
 | .int .u8 _::r=>da r
 |_=>false
def wo(Q:Program)(s:S)(dst:Option Nat)(t:TypeId)(p q:P):K S:=
 match bd Q t,p,q with
 |some e,.d (.int _ l),.d (.int _ c)=>match Q.info? e,sz Q e,bV Q e with
  |some i,some (k+1),some z=>if Nat.beq z.cells.length (k+1) then K.bind (K.dj (decide (0<=l/\l<=c/\c<=9223372036854775807/\(i.bytes:Int)*c<=281474976710656)) ()) λ_=>
   (match s.new (site dst) (.arr e false (List.replicate l.toNat z)) with
   |some (s1,v)=>K.cm (s1.put dst (.sl (site dst) v l.toNat))
   |none=>K.fail) else K.fail
  |_,_,_=>K.fail
 |_,_,_=>K.fail
def wq(Q:Program)(s:S)(dst:Option Nat)(t t2:TypeId)(p q:P):K S:=
 match bd Q t,p with
 |some e,.sl n v len=>match sz Q e with
  |some (k+1)=>match fi Q s t2 (k+1) q,s.obj n v with
   |some ys,some (.arr ty false es)=>if Nat.beq ty e then K.bind (K.dj (decide (len<=es.length/\ys.length<=len)) ()) λ_=>K.cm ((s.setObj n (.arr ty false (ys++es.drop ys.length))).put dst (.d (.int .i64 ys.length))) else K.fail
   |_,_=>K.fail
  |_=>K.fail
 |_,_=>K.fail
def r0(Q:Program)(s:S)(dst:Option Nat)(t:TypeId)(p:P):K S:=
 match bd Q t,p with
 |some e,.eZ n v k off len=>match sz Q e,bV Q e,s.obj n v with
  |some (k2+1),some z,some (.arr ty false es)=>if Nat.beq ty e&&Nat.beq k (k2+1)&&Nat.beq z.cells.length (k2+1) then K.bind (K.dj (decide (off+len<=es.length)) ()) λ_=>K.cm ((s.setObj n (.arr ty false (es.take off++List.replicate len z++es.drop (off+len)))).put dst .bad) else K.fail
  |_,_,_=>K.fail
 |_,_=>K.fail
def FW(Q:Program)(s:S)(o:Oper)(g:Option (Nat×Bool)):K S:=
 match o.op with
 | .store t addr x=>K.bind (rZ Q s t (s.eg g addr) (s.eg g x)) λs1=>K.cm (s1.put o.dst .bad)
 | .convert t1 t2 x=>match Q.underlying t1,Q.underlying t2 with
  |some (.slice e),some .string=>match Q.underlying e,fi Q s t1 1 (s.eg g x) with
   |some (.int .u8),some ys=>if(s.eg g x).wm then K.bind (K.dj (da ys) ()) λ_=>K.cm (s.put o.dst (.d (.str (bytesOf ys)))) else K.fail
   |_,_=>K.fail
  |_,_=>K.fail
 | .call c=>match c.callee with
  | .builtin .append=>match c.args.toList,c.argTypes.toList with
   | [x,y],[t,t2]=>o9 Q s o.dst t t2 (s.eg g x) (s.eg g y)
   |_,_=>K.fail
  | .builtin .copy=>match c.args.toList,c.argTypes.toList with
   | [x,y],[t,t2]=>wq Q s o.dst t t2 (s.eg g x) (s.eg g y)
   |_,_=>K.fail
  | .builtin .clear=>match c.args.toList,c.argTypes.toList with
   | [x],[t]=>r0 Q s o.dst t (s.eg g x)
   |_,_=>K.fail
  | .builtin .delete=>match c.args.toList,c.argTypes.toList with
   | [x,y],t::_=>wk Q s o.dst t (s.eg g x) (s.eg g y)
   |_,_=>K.fail
  |_=>K.fail
 | .makeSlice t x y=>wo Q s o.dst t (s.eg g x) (s.eg g y)
 | .mapUpdate t m k x=>if Aw Q t then o7 Q s o.dst t (s.eg g m) (s.eg g k) (s.eg g x) else K.cm (ef Q s o g)
 |_=>K.cm (ef Q s o g)
def Ci(Q:Program)(o:Oper):Bool:=
 match o.op with
 | .alloc _ | .box .. | .store ..=>true
 | .convert t1 t2 _=>match Q.underlying t1,Q.underlying t2 with
  |some (.slice _),some .string=>true
  |_,_=>false
 | .call c=>match c.callee with
  | .builtin .append | .builtin .copy | .builtin .clear | .builtin .delete=>true
  |_=>false
 | .makeSlice .. | .buildSlice .. | .makeMap .. | .mapUpdate .. | .insert .. | .range .. | .mapEntry .. | .entryStore ..=>true
 |_=>false
def r1(Q:Program)(s:S)(o:Oper)(g:Option (Nat×Bool)):K S:=
 match bm Q o with
 |some _=>K.cm (dL Q s o g)
 |none=>if Ci Q o then FW Q s o g else K.bind (El Q s o g) λp=>K.cm (s.put o.dst p)
def wu(Q:Program)(s:S)(o:Oper)(g:Option (Nat×Bool)):K S:=
 match jl o with
 |some (t,len,parts)=>K.cm (match n5 Q t len (parts.map λx=>(x.1,s.eg g x.2)) with |some p=>s.put o.dst p |none=>none)
 |none=>r1 Q s o g
abbrev gF:=List P->List (Nat×En)->K (P×List (Nat×En))
abbrev KF:=FuncId->gF
def wv(Q:Program)(cf:KF)(s:S)(dst:Option Nat)(f:P)(args:List P):K S:=
 match f with
 | .fn gS cn=>match br Q s gS (args++cn) with
  |none=>K.fail
  |some (s1,ps)=>
   let ns:=reach s1.rg 1000 ps []
   if du ns then(match sub s1.rg (toPos s1.rg ns) true 0 ns with
    |none=>K.fail
    |some R0=>K.bind (cf gS (iL (toPos s1.rg ns) ps) R0) λx=>
     let ms:=c6 x.2 (reach x.2 1000 (x.1::fB x.2 x.2) [])
     let σ:=eI x.2 s1.rg ns ms (site dst*1000)
     if du ms&&Nat.ble ms.length 1000 then(match dF x.2 σ 0 ns s1.rg with
      |none=>K.fail
      |some R2=>match fW x.2 σ (site dst*1000) ms R2 with
       |none=>K.fail
       |some R3=>K.cm (({s1 with rg:=R3}:S).put dst (n6 σ x.1))) else K.fail) else K.fail
 |_=>K.fail
def wx(Q:Program)(cf:KF)(s:S)(o:Oper)(g:Option (Nat×Bool)):K S:=
 match eJ o with
 |some (f,xs)=>wv Q cf s o.dst (s.eg g f) (xs.map (s.eg g))
 |none=>wu Q s o g
def rep(t:Nat)(v:P):List (Nat×P)->List (Nat×P)
 | []=>[]
 | (k,u)::r=>if Nat.beq k t then(k,v)::r else(k,u)::rep t v r
def pb(dst:Option Nat)(kn:List (Nat×Bool)):List (Nat×Bool):=
 match dst with
 |none=>kn
 |some d=>kn.filter λx=> !Nat.beq x.1 d
def Cj(o:Oper):Bool:=match o.op with | .binOp .rem _ _ _ _=>true |_=>false
def Ay(ops:List Oper)(o:Oper):Bool:=
 match o.op with
 | .call c=>match c.callee,c.argTypes.toList with
  | .builtin .len,[t]=>(Nat.beq t 9 ||ops.any Cj)&&ops.any λp=>match p.op with
   | .binOp .add _ (.tmp u) (.const _) _=>(match o.dst with |some d=>Nat.beq u d |none=>false)
   |_=>false
  |_,_=>false
 |_=>false
def wy(ops:List Oper)(o:Oper)(s:S):K S:=
 if Ay ops o then(match o.dst with
  |some d=>match lk s.tm d with
   |some (.d (.int k z))=>λae=> ∀c:Int,c=z->ae ⟨s.n,rep d (.d (.int k c)) s.tm,s.rg⟩
   |_=>K.ret s
  |none=>K.ret s) else K.ret s
def tj(Q:Program)(cf:KF)(ops:List Oper)(kn:List (Nat×Bool))(s:S)(o:Oper):K (S×List (Nat×Bool)):=
 match aA ops o with
 |none=>K.fail
 |some none=>K.bind (wx Q cf s o none) λs1=>K.bind (wy ops o s1) λs1=>K.ret (s1,pb o.dst kn)
 |some (some (t,want))=>match lk kn t with
  |some r=>if r==want then K.bind (wx Q cf s o (some (t,want))) λs1=>K.bind (wy ops o s1) λs1=>K.ret (s1,pb o.dst kn) else K.bind (K.cm (s.put o.dst .skip)) λs1=>K.ret (s1,pb o.dst kn)
  |none=>match lk s.tm t with
   |some (.d (.bool b))=>K.bind (K.dec b) λr=>
    if r==want then K.bind (wx Q cf ⟨s.n,rep t (.d (.bool r)) s.tm,s.rg⟩ o (some (t,want))) λs1=>K.bind (wy ops o s1) λs1=>K.ret (s1,pb o.dst ((t,r)::kn))
    else K.bind (K.cm ((⟨s.n,rep t (.d (.bool r)) s.tm,s.rg⟩:S).put o.dst .skip)) λs1=>K.ret (s1,pb o.dst ((t,r)::kn))
   |some (.when ..)=>K.bind (K.cm (s.put o.dst .skip)) λs1=>K.ret (s1,pb o.dst kn)
   |_=>K.fail
def fY(Q:Program)(cf:KF)(ops:List Oper):List Oper->List (Nat×Bool)->S->K S
 | [],_,s=>K.ret s
 |o::r,kn,s=>K.bind (tj Q cf ops kn s o) λx=>x.1.force λs1=>fY Q cf ops r x.2 s1
def fZ(Q:Program)(cf:KF)(ops:List Oper):List Oper->List (Nat×Bool)->S->K (S×List Step)
 | [],_,s=>K.ret (s,[])
 |o::r,kn,s=>K.bind (tj Q cf ops kn s o) λx=>x.1.force λs1=>K.bind (fZ Q cf ops r x.2 s1) λy=>K.ret (y.1,fC Q ops s o s1::y.2)
def wz(Q:Program)(cf:KF)(ops:List Oper)(cls:Nat)(s:S):K S:=
 match cls with
 |0=>K.fail
 |1=>K.bind (fZ Q cf ops ops [] s) λx=>λae=>gU 0 (masks ops []) x.2 (ae x.1)
 |4=>K.bind (fZ Q cf (bg ops) (bg ops) [] s) λx=>λae=>gU 0 (masks (bg ops) []) x.2 (ae x.1)
 |2=>fY Q cf ops ops [] s
 |5=>fY Q cf (bg ops) (bg ops) [] s
 |6=>(match o4 ops with
  |some (m,t,d)=>(match iZ Q t,lk s.tm d with
   |false,none=>K.bind (fZ Q cf ops ops [] s) λx=>λae=>gU m (masks ops []) x.2 (ae x.1)
   |_,_=>K.fail)
  |none=>K.fail)
 |_=>K.fail
def e8(dc:Nat->Nat):Code->Bool
 | .region id ops draw=> !draw ||Nat.beq (eM ops.toList) (dc id)
 | .seq a b=>e8 dc a&&e8 dc b
 | .cond _ a b=>e8 dc a&&e8 dc b
 | .block _ c | .loop c | .scope c=>e8 dc c
 |_=>true
def jn(dc:FuncId->Nat->Nat):Nat->List Func->Bool
 |_,[]=>true
 |i,f::r=>(match f.body with |some c=>e8 (dc i) c |none=>true)&&jn dc (i+1) r
def pd(body:S->K (PX×S))(keep:Option (List Nat×List Nat)):Nat->S->K (PX×S)
 |0,_=>K.fail
 |k+1,s=>K.bind (K.cm (fm keep s)) λs0=>K.bind (body s0) λx=>match x.1 with
  | .normal=>pd body keep k x.2
  |_=>K.bind (K.cm (gW keep x.2)) λs2=>K.ret (x.1,s2)
def pe(body:S->K (PX×S))(keep:Option (List Nat×List Nat))(s:S):K (PX×S):=
 K.bind (body s) λx=>match x.1 with
  | .normal=>K.bind (K.cm (fm keep x.2)) λs2=>K.ret (.normal,s2)
  |_=>K.bind (K.cm (gW keep x.2)) λs2=>K.ret (x.1,s2)
def cr(Q:Program)(kf:KF)(kp:Nat->Option (List Nat×List Nat))(hk:List (Nat×(S->K (PX×S))))(dc:Nat->Nat)(lf:Nat):Code->S->K (PX×S)
 | .skip,s=>K.ret (.normal,s)
 | .label _,s=>K.ret (.normal,s)
 | .region id ops draw,s=>K.bind (if draw then wz Q kf ops.toList (dc id) s else fY Q kf ops.toList ops.toList [] s) λs1=>K.ret (.normal,s1)
 | .seq a b,s=>K.bind (cr Q kf kp hk dc lf a s) λx=>match x.1 with
  | .normal=>cr Q kf kp hk dc lf b x.2
  |_=>K.ret x
 | .cond c x y,s=>match s.ev c with
  | .d (.bool b)=>K.bind (K.dec b) λr=>if r then cr Q kf kp hk dc lf x s else cr Q kf kp hk dc lf y s
  |_=>K.fail
 | .block id c,s=>K.bind (cr Q kf kp hk dc lf c s) λx=>match x.1 with
  | .exit tc=>if Nat.beq tc id then K.ret (.normal,x.2) else K.ret x
  |_=>K.ret x
 | .loop c,s=>match lk hk (Code.rD c) with
  |some h=>h s
  |none=>pd (cr Q kf kp hk dc lf c) (kp (Code.rD c)) lf s
 | .scope c,s=>cr Q kf kp hk dc lf c s
 | .exit id,s=>K.ret (.exit id,s)
 | .ret,s=>K.ret (.ret,s)
 |_,_=>K.fail
def tk(Q:Program)(m:Nat)(BN:List TypeId)(qs:List P)(s:S):K (P×List (Nat×En)):=K.cm (finish Q m BN qs s)
def fD(Q:Program)(kf:KF)(kp:rT)(hk:List (Nat×(S->K (PX×S))))(dc:FuncId->Nat->Nat)(lf:Nat):KF:=λf ps R=>
 match Q.funcs[f]? with
 |none=>K.fail
 |some fn=>if dR f kp.xs then K.fail else match fn.body with
  |none=>K.fail
  |some c=>if fn.name== "runtime.NumGoroutine" then K.fail else
   K.bind (cr Q kf (kp f) hk (dc f) lf c ⟨fn.ntmps,ei 0 (gX (kp f 999999) Q fn.params.toList ps),R⟩) λx=>match x.1 with
    | .exit _=>K.fail
    |_=>match cH Q x.2 fn.results.toList with
     |some qs=>tk Q R.length fn.resultTypes.toList qs x.2
     |none=>K.fail
def runK(Q:Program)(kp:rT)(dc:FuncId->Nat->Nat)(H:List (FuncId×gF))(lf:Nat):Nat->KF
 |0=>λf ps R=>match lk H f with |some h=>h ps R |none=>K.fail
 |k+1=>λf ps R=>match lk H f with
  |some h=>h ps R
  |none=>fD Q (runK Q kp dc H lf k) kp [] dc lf f ps R
end Pi
