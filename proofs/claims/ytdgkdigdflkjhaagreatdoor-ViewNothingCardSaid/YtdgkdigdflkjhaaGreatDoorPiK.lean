/- The text PiK. -/
import Derived.Test.YtdgkdigdflkjhaaGreatDoorPiCode2
namespace Pi
open Go
def P.kg{β:Type}(p:P)(k:P->β):=
 match p with
 | .d x=>x.force λy=>k (.d y)
 | .fh x off=>x.force λy=>k (.fh y off)
 |p=>k p
def P.force{β:Type}(p:P)(k:P->β):=
 match p with
 | .agg ps=>nu P.kg ps λqs=>k (.agg qs)
 | .dz ps=>nu P.kg ps λqs=>k (.dz qs)
 | .fn f ps=>nu P.kg ps λqs=>k (.fn f qs)
 |p=>p.kg k
def NC{β:Type}(x:Nat×P)(k:Nat×P->β):=match x with | (n,p)=>p.force λq=>k (n,q)
def NF{β:Type}(x:Nat×En)(k:Nat×En->β):=
 match x with
 | (n,⟨v,t,o⟩)=>match o with
  | .box ty ps=>nu P.kg ps λqs=>k (n,⟨v,t,.box ty qs⟩)
  | .arr ty fz es=>k (n,⟨v,t,.arr ty fz es⟩)
  | .map kt get c fz=>k (n,⟨v,t,.map kt get c fz⟩)
  | .iter kt vt left cur=>k (n,⟨v,t,.iter kt vt left cur⟩)
  | .gone=>k (n,⟨v,t,.gone⟩)
  | .eJ=>k (n,⟨v,t,.eJ⟩)
  | .kM kt get c p kd=>p.kg λp=>kd.force λkd=>k (n,⟨v,t,.kM kt get c p kd⟩)
def S.force{β:Type}(s:S)(k:S->β):=
 match s with
 | ⟨n,tm,rg⟩=>nu NC tm λtm'=>nu NF rg λrg'=>k ⟨n,tm',rg'⟩
theorem P.jj{β:Type} p (k:P->β):p.kg k=k p:=by
 cases p with
 |d x=>exact D.force_eq x (λy=>k (.d y))
 |fh x off=>exact D.force_eq x (λy=>k (.fh y off))
 |_=>rfl
theorem P.force_eq{β:Type} p (k:P->β):p.force k=k p:=by
 cases p with
 |agg ps=>exact h9 P.jj ps (λqs=>k (.agg qs))
 |dz ps=>exact h9 P.jj ps (λqs=>k (.dz qs))
 |fn f ps=>exact h9 P.jj ps (λqs=>k (.fn f qs))
 |d x=>exact D.force_eq x (λy=>k (.d y))
 |fh x off=>exact D.force_eq x (λy=>k (.fh y off))
 |_=>rfl
theorem Lo{β:Type} x (k:Nat×P->β):NC x k=k x:=by
 cases x with
 |mk n p=>exact P.force_eq p (λq=>k (n,q))
theorem Lp{β:Type} x (k:Nat×En->β):NF x k=k x:=by
 obtain⟨n,v,t,o⟩:=x;cases o with
 |box ty ps=>exact h9 P.jj ps (λqs=>k (n,⟨v,t,.box ty qs⟩))
 |kM kt get c p kd=>show p.kg (λp=>kd.force λkd=>k (n,⟨v,t,.kM kt get c p kd⟩))=_;rw[P.jj,D.force_eq]
 |_=>rfl
theorem S.force_eq{β:Type} s (k:S->β):s.force k=k s:=by simp only[S.force];rw[h9 Lo,h9 Lp]
abbrev K(α:Type):=(α->Prop)->Prop
def K.ret{α:Type}(a:α):K α:=λae=>ae a
def K.fail{α:Type}:K α:=λ_=>False
def K.bind{α β:Type}(m:K α)(f:α->K β):K β:=λae=>m λa=>f a ae
def K.ki{α:Type}(b:Bool)(a:α):K α:=λae=>cond b (ae a) False
def K.dec(b:Bool):K Bool:=λae=>cond b (ae true) (ae false)
def K.dU{α:Type}(o:Option α):K α:=λae=>match o with
 |some a=>ae a
 |none=>False
def D.aj:D->Int | .int _ n=>n |_=>0
def D.dp:D->Bool | .bool b=>b |_=>false
def D.cJ:D->List UInt8 | .str s=>s |_=>[]
def D.gW:D->List D | .sl _ es=>es |_=>[]
def D.nth(es:List D) i:=es.getD i .e9
def D.au(x:D) j:=x.cells.getD j .e9
def uv(Q:Program):Nat->TypeId->List TypeId
 |0,_=>[]
 |n+1,t=>match Q.underlying t with
  |some (.struct fs)=>fs.toList.flatMap λf=>uv Q n f.type
  |some (.array k e)=>(List.replicate k (uv Q n e)).flatten
  |_=>[t]
def TA(Q:Program)(t:TypeId)(x:D):Option D:=
 match Q.underlying t with
 |some .bool=>some (.bool x.dp)
 |some (.int k)=>some (.int k x.aj)
 |some .string=>some (.str x.cJ)
 |some (.slice e)=>match sz Q e with |some (k+1)=>some (.sl (k+1) x.gW)|_=>none
 |_=>none
def isC(Q:Program)(t:TypeId)(x:D):Bool:=
 match Q.underlying t,x with
 |some .bool,.bool _=>true
 |some (.int k),.int k' _=>k==k'
 |some .string,.str _=>true
 |some (.slice e),.sl k _=>sz Q e==some k
 |_,_=>false
def Di(Q:Program)(x:D):Nat->List TypeId->Option (List D)
 |_,[]=>some []
 |j,t::ts=>match TA Q t (x.au j),Di Q x (j+1) ts with |some c,some cs=>some (c::cs)|_,_=>none
def qae(Q:Program)(x:D):Nat->List TypeId->Bool
 |_,[]=>true
 |j,t::ts=>isC Q t (x.au j)&&qae Q x (j+1) ts
def bO Q t x:=
 if dT Q t then(match x with | .agg cs=>Nat.beq cs.length (uv Q 20 t).length |_=>false)&&qae Q x 0 (uv Q 20 t) else isC Q t x
def EZ(Q:Program)(t:TypeId)(x:D):K D:=
 match(if dT Q t then(match Di Q x 0 (uv Q 20 t) with |some cs=>some (D.agg cs)|none=>none) else TA Q t x) with
 |some y=>K.ki (bO Q t x) y
 |none=>K.fail
def arith(k:IntKind)(n:Int):K D:=
 match k with
 | .i64=>K.ki (decide (-9223372036854775808<=n/\n<=9223372036854775807)) (.int .i64 n)
 |k=>K.ret (.int k (k.wrap n))
def zu(Q:Program)(op:BinOp)(t:TypeId)(p q:D):=
 match p,q with
 | .int k a,.int k' b=>match op with
  | .shl=>some (K.bind (K.ki (decide (0<=b)) ()) λ_=>arith k (a*2^(min b.toNat k.bits)))
  | .shr=>some (K.ki (decide (0<=b)) (.int k (a.fdiv (2^(min b.toNat k.bits)))))
  |_=>if k==k' then(match op with
   | .add=>some (arith k (a+b))
   | .sub=>some (arith k (a-b))
   | .mul=>some (arith k (a*b))
   | .quo=>some (K.bind (K.ki (!(decide (b=0))) ()) λ_=>arith k (a.tdiv b))
   | .rem=>some (K.ki (!(decide (b=0))) (.int k (a.tmod b)))
   | .and=>some (K.ret (.int k (k.wrap (BitVec.ofInt k.bits a&&&BitVec.ofInt k.bits b).toNat)))
   | .or=>some (K.ret (.int k (k.wrap (BitVec.ofInt k.bits a |||BitVec.ofInt k.bits b).toNat)))
   | .xor=>some (K.ret (.int k (k.wrap (BitVec.ofInt k.bits a^^^BitVec.ofInt k.bits b).toNat)))
   | .andNot=>some (K.ret (.int k (k.wrap (BitVec.ofInt k.bits a&&& ~~~BitVec.ofInt k.bits b).toNat)))
   | .eql=>some (K.ret (.bool (a==b)))
   | .neq=>some (K.ret (.bool (a !=b)))
   | .lss=>some (K.ret (.bool (a<b)))
   | .leq=>some (K.ret (.bool (a<=b)))
   | .gtr=>some (K.ret (.bool (a>b)))
   | .geq=>some (K.ret (.bool (a>=b)))
   |_=>none) else none
 | .str a,.str b=>match op with
  | .add=>some (K.ki (decide (a.length+b.length<=9223372036854775807)) (.str (a++b)))
  | .eql=>some (K.ret (.bool (a==b)))
  | .neq=>some (K.ret (.bool (!(a==b))))
  | .lss=>some (K.ret (.bool (Op.bytesLess a b)))
  | .leq=>some (K.ret (.bool (Op.bytesLess a b ||a==b)))
  | .gtr=>some (K.ret (.bool (!(Op.bytesLess a b ||a==b))))
  | .geq=>some (K.ret (.bool (!(Op.bytesLess a b))))
  |_=>none
 | .bool a,.bool b=>match Q.underlying t,op with
  |some .bool,.eql=>some (K.ret (.bool (a==b)))
  |some .bool,.neq=>some (K.ret (.bool (!(a==b))))
  |_,_=>none
 | .agg a,.agg b=>match op with
  | .eql=>match D.dt a,D.dt b,Q.eqGuardType Q.depth t,eqD Q 20 t (.agg a) (.agg b) with
   |some _,some _,false,some c=>some (K.ret (.bool c))
   |_,_,_,_=>none
  | .neq=>match D.dt a,D.dt b,Q.eqGuardType Q.depth t,eqD Q 20 t (.agg a) (.agg b) with
   |some _,some _,false,some c=>some (K.ret (.bool (!c)))
   |_,_,_,_=>none
  |_=>none
 |_,_=>none
def oY(len:Nat)(lo hi:Option P):=
 K.bind (match hi with
  |none=>K.ret len
  |some (.d (.int _ j))=>K.ki (decide (0<=j/\j<=(len:Int))) j.toNat
  |_=>K.fail) λh=>match lo with
  |none=>K.ret (0,h)
  |some (.d (.int _ j))=>K.ki (decide (0<=j/\j<=(h:Int))) (j.toNat,h)
  |_=>K.fail
def s6(Q:Program)(s:S)(t:TypeId)(p:P)(i:P):K P:=
 match Ny Q t with
 |some (n,e)=>K.dU (qq Q s n e p i)
 |none=>match cX Q t,i with
 |some e,.d (.int _ j)=>match sz Q e with
  |some (k+1)=>match p with
   | .sl n v len=>match s.obj n v with
    |some (.arr ty _ _)=>if Nat.beq ty e then K.ki (decide (0<=j/\j<(len:Int))) (.dJ n v j.toNat (k+1) 0) else K.fail
    |_=>K.fail
   | .mG n v k' off len=>match s.obj n v with
    |some (.arr ty _ _)=>if Nat.beq ty e&&Nat.beq k' (k+1) then K.ki (decide (0<=j/\j<(len:Int))) (.dJ n v (off+j.toNat) (k+1) 0) else K.fail
    |_=>K.fail
   | .d (.sl k' es)=>if Nat.beq k' (k+1) then K.bind (K.ki (decide (0<=j/\j<(es.length:Int))) ()) λ_=>K.bind (EZ Q e (D.nth es j.toNat)) λx=>K.ret (.fh x 0) else K.fail
   |_=>K.fail
  |_=>K.fail
 |_,_=>K.fail
def NG(Q:Program)(s:S)(t:TypeId)(p:P)(lo hi:Option P):K P:=
 match cX Q t with
 |none=>K.fail
 |some e=>match sz Q e with
  |some (k+1)=>match p with
   | .d (.sl k' es)=>if Nat.beq k' (k+1) then K.bind (oY es.length lo hi) λx=>K.ret (.d (.sl k' ((es.take x.2).drop x.1))) else K.fail
   | .sl n v len=>match s.obj n v,lo with
    |some (.arr _ _ _),none=>K.bind (oY len none hi) λx=>K.ret (.sl n v x.2)
    |some (.arr ty _ _),some lo=>match sz Q ty with
     |some k'=>if Nat.beq k' (k+1) then K.bind (oY len (some lo) hi) λx=>K.ret (.mG n v (k+1) x.1 (x.2-x.1)) else K.fail
     |none=>K.fail
    |_,_=>K.fail
   | .mG n v k' off len=>match s.obj n v with
    |some (.arr _ _ _)=>if Nat.beq k' (k+1) then K.bind (oY len lo hi) λx=>K.ret (.mG n v (k+1) (off+x.1) (x.2-x.1)) else K.fail
    |_=>K.fail
   |_=>K.fail
  |_=>K.fail
def Lq Q s t p lo hi:=NG Q s t (pP Q s t p lo) lo hi
def TB(Q:Program)(s:S)(t:TypeId)(p:P):K P:=
 match p with
 | .dJ n v i k off=>match s.obj n v with
  |some (.arr ty _ es)=>match sz Q ty with
   |some k'=>if Nat.beq k k' then K.bind (K.ki (decide (i<es.length)) ()) λ_=>K.bind (EZ Q ty (D.nth es i)) λx=>(match jI Q t x.cells off with |some y=>K.ret (.d y)|none=>K.fail) else K.fail
   |none=>K.fail
  |_=>K.fail
 |_=>K.dU (sf Q s t p)
def TC:IntKind->Bool
 | .i8 | .i16 | .i32 | .i64 | .u8 | .u16 | .u32=>true
 |_=>false
def TD(Q:Program)(a b:TypeId)(x:D):Option (K D):=
 match Q.underlying a,Q.underlying b,x with
 |some (.int ka),some (.int k),.int _ n=>some (if TC ka then arith k n else K.ret (.int k (k.wrap n)))
 |some .string,some .string,.str s=>some (K.ret (.str s))
 |_,_,_=>none
def D.merge(c:Bool)(x y:D):Option D:=
 match x,y with
 | .bool a,.bool b=>some (.bool (bif c then a else b))
 | .int k a,.int k' b=>if k==k' then some (.int k (bif c then a else b)) else none
 | .str a,.str b=>some (.str (bif c then a else b))
 |_,_=>none
def P.merge(c:Bool)(p q:P):Option P:=
 match p,q with
 | .d x,.d y=>match D.merge c x y with |some z=>some (.d z)|none=>none
 |_,_=>none
def E0(Q:Program)(s:S)(t:TypeId)(p i:P)(ok:Bool):K P:=
 match jJ Q t with
 |some (kt,e)=>match eK Q e,i with
  |some z,.d k=>match p with
   | .mp n v=>match s.obj n v with
    |some (.map zq get _ _)=>if Nat.beq kt zq then K.bind (K.ki (fp Q kt k) ()) λ_=>K.bind (EZ Q e (aQ (get k) z)) λy=>K.ret (if ok then .dz [.d y,.d (.bool (get k).isSome)] else .d y) else K.fail
    |some (.kM zq get _ _ _)=>if !ok&&Nat.beq kt zq then K.bind (K.ki (fp Q kt k) ()) λ_=>K.bind (EZ Q e (aQ (get k) z)) λy=>K.ret (.d y) else K.fail
    |_=>K.fail
   | .d .ui=>K.bind (K.ki (fp Q kt k) ()) λ_=>K.ret (if ok then .dz [.d z,.d (.bool false)] else .d z)
   |_=>K.fail
  |_,_=>K.fail
 |none=>K.fail
def pvK Q (s:S)(o:Oper) g:=
 match o.op with
 | .pick c a b=>match s.eg g c with
  | .d (.bool r)=>(match P.merge r (s.eg g a) (s.eg g b) with
   |some p=>K.ret p
   |none=>K.bind (K.dec r) λr=>K.ret (if r then s.eg g a else s.eg g b))
  |_=>K.fail
 | .binOp op t x y _=>match s.eg g x,s.eg g y with
  | .d p,.d q=>(match zu Q op t p q with
   |some m=>K.bind m λz=>K.ret (.d z)
   |none=>K.dU (pY Q s op t x y (s.eg g x) (s.eg g y)))
  |p,q=>K.dU (pY Q s op t x y p q)
 | .unOp op _ x=>match op,s.eg g x with
  | .not,.d (.bool b)=>K.ret (.d (.bool (!b)))
  | .neg,.d (.int k n)=>K.bind (arith k (0-n)) λz=>K.ret (.d z)
  |_,_=>K.dU (pv Q s o g)
 | .convert a b x=>match s.eg g x with
  | .d y=>(match TD Q a b y with
   |some m=>K.bind m λz=>K.ret (.d z)
   |none=>K.dU (pv Q s o g))
  |_=>K.dU (pv Q s o g)
 | .load t x=>TB Q s t (s.eg g x)
 | .indexAddr t x i=>s6 Q s t (s.eg g x) (s.eg g i)
 | .index t x i=>match Q.underlying t,s.eg g x,s.eg g i with
  |some .string,.d (.str l),.d (.int _ j)=>K.ki (decide (0<=j/\j<(l.length:Int))) (.d (.int .u8 ((l.getD j.toNat 0).toNat)))
  |_,_,_=>K.dU (pv Q s o g)
 | .lookup t x i ok=>E0 Q s t (s.eg g x) (s.eg g i) ok
 | .slice t x lo hi none=>match s.eg g x with
  | .d (.str l)=>(match Q.underlying t with
   |some .string=>K.bind (oY l.length (lo.map (s.eg g)) (hi.map (s.eg g))) λx=>K.ret (.d (.str ((l.take x.2).drop x.1)))
   |_=>K.fail)
  | .d .e9=>K.dU (pv Q s o g)
  |p=>Lq Q s t p (lo.map (s.eg g)) (hi.map (s.eg g))
 | .call c=>match c.callee with
  | .builtin .len=>match c.args.toList,(c.argTypes[0]?).bind Q.underlying with
   | [x],some .string=>(match s.eg g x with
    | .d (.str l)=>K.ret (.d (.int .i64 l.length))
    |_=>K.fail)
   |_,_=>K.dU (pv Q s o g)
  | .builtin .min=>match c.args.toList.map (s.eg g) with
   | [.d (.int k a),.d (.int _ b)]=>K.ret (.d (.int k (min a b)))
   |_=>K.dU (pv Q s o g)
  | .builtin .max=>match c.args.toList.map (s.eg g) with
   | [.d (.int k a),.d (.int _ b)]=>K.ret (.d (.int k (max a b)))
   |_=>K.dU (pv Q s o g)
  |_=>K.dU (pv Q s o g)
 |_=>K.dU (pv Q s o g)
def Lr Q s t (addr val:P):=
 match addr with
 | .dJ n v i k' off=>match sz Q t with
  |none=>K.fail
  |some k=>match oW Q s t val with
   |some (s1,x)=>match s1.obj n v with
    |some (.arr ty false es)=>match sz Q ty with
     |some k2=>if Nat.beq k' k2&&Nat.beq x.cells.length k&&Nat.ble (off+k) k2 then K.bind (K.ki (decide (i<es.length)) ()) λ_=>K.bind (EZ Q ty (D.nth es i)) λy=>K.ret (s1.setObj n (.arr ty false (es.set i (y.aT (y.cells.take off++x.cells++y.cells.drop (off+k)))))) else K.fail
     |none=>K.fail
    |_=>K.fail
   |none=>K.fail
 |_=>K.dU (gU Q s t addr val)
def E1(Q:Program)(s:S)(dst:Option Nat)(t t2:TypeId)(p q:P):K S:=
 match cX Q t with
 |none=>K.fail
 |some e=>
       match Q.info? e,sz Q e with
  |some i,some (k+1)=>match nv Q s t2 (k+1) q,eK Q e with
   |some ys,some z=>if Nat.beq z.cells.length (k+1) then(match p with
    | .sl n v len=>match lk s.rg n with
     |some en=>match en.obj with
      | .arr ty false es=>if Nat.beq en.aV v&&Nat.beq ty e then
        K.bind (K.ki (Nat.ble len es.length&&aG (len+ys.length) i.bytes) ()) λ_=>
        K.dU (({s with rg:=ins n ⟨v+1,none,.arr ty false (es.take len++ys)⟩ s.rg}:S).put dst (.sl n (v+1) (len+ys.length)))
       else K.fail
      |_=>K.fail
     |none=>K.fail
    | .d .e9=>K.bind (K.ki (aG ys.length i.bytes) ()) λ_=>(match s.new (site dst) (.arr e false ys) with
      |some (s1,v)=>K.dU (s1.put dst (.sl (site dst) v ys.length))
      |none=>K.fail)
    |_=>K.fail) else K.fail
   |_,_=>K.fail
  |_,_=>K.fail
def P.isRow:P->Bool
 | .sl .. | .mG ..=>true
 | .d (.sl ..)=>true
 |_=>false
def bytesOf:List D->List UInt8
 | []=>[]
 |x::r=>UInt8.ofNat x.aj.toNat::bytesOf r
def iF:List D->Bool
 | []=>true
 | .int .u8 _::r=>iF r
 |_=>false
def TE(Q:Program)(s:S)(dst:Option Nat)(t:TypeId)(p q:P):K S:=
 match cX Q t,p,q with
 |some e,.d (.int _ l),.d (.int _ c)=>match Q.info? e,sz Q e,eK Q e with
  |some i,some (k+1),some z=>if Nat.beq z.cells.length (k+1) then K.bind (K.ki (decide (0<=l/\l<=c/\c<=9223372036854775807/\(i.bytes:Int)*c<=281474976710656)) ()) λ_=>
   (match s.new (site dst) (.arr e false (List.replicate l.toNat z)) with
   |some (s1,v)=>K.dU (s1.put dst (.sl (site dst) v l.toNat))
   |none=>K.fail) else K.fail
  |_,_,_=>K.fail
 |_,_,_=>K.fail
def TG(Q:Program)(s:S)(dst:Option Nat)(t t2:TypeId)(p q:P):K S:=
 match cX Q t,p with
 |some e,.sl n v len=>match sz Q e with
  |some (k+1)=>match nv Q s t2 (k+1) q,s.obj n v with
   |some ys,some (.arr ty false es)=>if Nat.beq ty e then K.bind (K.ki (decide (len<=es.length/\ys.length<=len)) ()) λ_=>K.dU ((s.setObj n (.arr ty false (ys++es.drop ys.length))).put dst (.d (.int .i64 ys.length))) else K.fail
   |_,_=>K.fail
  |_=>K.fail
 |_,_=>K.fail
def Ls(Q:Program)(s:S)(dst:Option Nat)(t:TypeId)(p:P):K S:=
 match cX Q t,p with
 |some e,.mG n v k off len=>match sz Q e,eK Q e,s.obj n v with
  |some (k2+1),some z,some (.arr ty false es)=>if Nat.beq ty e&&Nat.beq k (k2+1)&&Nat.beq z.cells.length (k2+1) then K.bind (K.ki (decide (off+len<=es.length)) ()) λ_=>K.dU ((s.setObj n (.arr ty false (es.take off++List.replicate len z++es.drop (off+len)))).put dst .bad) else K.fail
  |_,_,_=>K.fail
 |_,_=>K.fail
def efK Q s (o:Oper) g:=
 match o.op with
 | .store t addr x=>K.bind (Lr Q s t (s.eg g addr) (s.eg g x)) λs1=>K.dU (s1.put o.dst .bad)
 | .convert t1 t2 x=>match Q.underlying t1,Q.underlying t2 with
  |some (.slice e),some .string=>match Q.underlying e,nv Q s t1 1 (s.eg g x) with
   |some (.int .u8),some ys=>if(s.eg g x).isRow then K.bind (K.ki (iF ys) ()) λ_=>K.dU (s.put o.dst (.d (.str (bytesOf ys)))) else K.fail
   |_,_=>K.fail
  |_,_=>K.fail
 | .call c=>match c.callee with
  | .builtin .append=>match c.args.toList,c.argTypes.toList with
   | [x,y],[t,t2]=>E1 Q s o.dst t t2 (s.eg g x) (s.eg g y)
   |_,_=>K.fail
  | .builtin .copy=>match c.args.toList,c.argTypes.toList with
   | [x,y],[t,t2]=>TG Q s o.dst t t2 (s.eg g x) (s.eg g y)
   |_,_=>K.fail
  | .builtin .clear=>match c.args.toList,c.argTypes.toList with
   | [x],[t]=>Ls Q s o.dst t (s.eg g x)
   |_,_=>K.fail
  | .builtin .delete=>K.dU (ef Q s o g)
  |_=>K.fail
 | .makeSlice t x y=>TE Q s o.dst t (s.eg g x) (s.eg g y)
 |_=>K.dU (ef Q s o g)
def qir(Q:Program)(o:Oper):=
 match o.op with
 | .alloc _ | .box .. | .store ..=>true
 | .convert t1 t2 _=>match Q.underlying t1,Q.underlying t2 with
  |some (.slice _),some .string=>true
  |_,_=>false
 | .call c=>match c.callee with
  | .builtin .append | .builtin .copy | .builtin .clear | .builtin .delete=>true
  |_=>false
 | .makeSlice .. | .buildSlice .. | .makeMap .. | .mapUpdate .. | .insert .. | .range .. | .mapEntry .. | .entryStore ..=>true
 |_=>false
def Lt(Q:Program)(s:S)(o:Oper)(g:Option (Nat×Bool)):K S:=
 match dn Q o with
 |some _=>K.dU (jK Q s o g)
 |none=>if qir Q o then efK Q s o g else K.bind (pvK Q s o g) λp=>K.dU (s.put o.dst p)
def TH(Q:Program)(s:S)(o:Oper)(g:Option (Nat×Bool)):K S:=
 match sZ o with
 |some (t,len,parts)=>K.dU (match De Q t len (parts.map λx=>(x.1,s.eg g x.2)) with |some p=>s.put o.dst p |none=>none)
 |none=>Lt Q s o g
abbrev a8:=List P->List (Nat×En)->K (P×List (Nat×En))
abbrev KF:=FuncId->a8
def sk Q (cf:KF) s dst (f:P)(args:List P):=
 match f with
 | .fn jZ cW=>match cZ Q s jZ (args++cW) with
  |none=>K.fail
  |some (s1,ps)=>
   let ns:=reach s1.rg 1000 ps []
   if ez ns then(match sub s1.rg (toPos s1.rg ns) true 0 ns with
    |none=>K.fail
    |some R0=>K.bind (cf jZ (nY (toPos s1.rg ns) ps) R0) λx=>
     let ms:=du x.2 (reach x.2 1000 (x.1::fu x.2 x.2) [])
     let σ:=ft x.2 s1.rg ns ms (site dst*1000)
     if ez ms&&Nat.ble ms.length 1000 then(match gM x.2 σ 0 ns s1.rg with
      |none=>K.fail
      |some R2=>match lA x.2 σ (site dst*1000) ms R2 with
       |none=>K.fail
       |some R3=>K.dU (({s1 with rg:=R3}:S).put dst (Df σ x.1))) else K.fail) else K.fail
 |_=>K.fail
def TI(Q:Program)(cf:KF)(s:S)(o:Oper)(g:Option (Nat×Bool)):K S:=
 match gV o with
 |some (f,xs)=>sk Q cf s o.dst (s.eg g f) (xs.map (s.eg g))
 |none=>TH Q s o g
def rep(t:Nat)(v:P):List (Nat×P)->List (Nat×P)
 | []=>[]
 | (k,u)::r=>if Nat.beq k t then(k,v)::r else(k,u)::rep t v r
def E2(dst:Option Nat)(kn:List (Nat×Bool)):=
 match dst with
 |none=>kn
 |some d=>kn.filter λx=> !Nat.beq x.1 d
def qis(o:Oper):=match o.op with | .binOp .rem _ _ _ _=>true |_=>false
def qfp(ops:List Oper)(o:Oper):=
 match o.op with
 | .call c=>match c.callee,c.argTypes.toList with
  | .builtin .len,[t]=>(Nat.beq t 9 ||ops.any qis)&&ops.any λp=>match p.op with
   | .binOp .add _ (.tmp u) (.const _) _=>(match o.dst with |some d=>Nat.beq u d |none=>false)
   |_=>false
  |_,_=>false
 |_=>false
def TJ ops o (s:S):=
 if qfp ops o then(match o.dst with
  |some d=>match lk s.tm d with
   |some (.d (.int k z))=>λae=> ∀c:Int,c=z->ae ⟨s.n,rep d (.d (.int k c)) s.tm,s.rg⟩
   |_=>K.ret s
  |none=>K.ret s) else K.ret s
def Dj(Q:Program)(cf:KF)(ops:List Oper)(kn:List (Nat×Bool))(s:S)(o:Oper):K (S×List (Nat×Bool)):=
 match br ops o with
 |none=>K.fail
 |some none=>K.bind (TI Q cf s o none) λs1=>K.bind (TJ ops o s1) λs1=>K.ret (s1,E2 o.dst kn)
 |some (some (t,want))=>match lk kn t with
  |some r=>if r==want then K.bind (TI Q cf s o (some (t,want))) λs1=>K.bind (TJ ops o s1) λs1=>K.ret (s1,E2 o.dst kn) else K.bind (K.dU (s.put o.dst .skip)) λs1=>K.ret (s1,E2 o.dst kn)
  |none=>match lk s.tm t with
   |some (.d (.bool b))=>K.bind (K.dec b) λr=>
    if r==want then K.bind (TI Q cf ⟨s.n,rep t (.d (.bool r)) s.tm,s.rg⟩ o (some (t,want))) λs1=>K.bind (TJ ops o s1) λs1=>K.ret (s1,E2 o.dst ((t,r)::kn))
    else K.bind (K.dU ((⟨s.n,rep t (.d (.bool r)) s.tm,s.rg⟩:S).put o.dst .skip)) λs1=>K.ret (s1,E2 o.dst ((t,r)::kn))
   |some (.when ..)=>K.bind (K.dU (s.put o.dst .skip)) λs1=>K.ret (s1,E2 o.dst kn)
   |_=>K.fail
def mQ(Q:Program)(cf:KF)(ops:List Oper):List Oper->List (Nat×Bool)->S->K S
 | [],_,s=>K.ret s
 |o::r,kn,s=>K.bind (Dj Q cf ops kn s o) λx=>x.1.force λs1=>mQ Q cf ops r x.2 s1
def oZ(Q:Program)(cf:KF)(ops:List Oper):List Oper->List (Nat×Bool)->S->K (S×List Step)
 | [],_,s=>K.ret (s,[])
 |o::r,kn,s=>K.bind (Dj Q cf ops kn s o) λx=>x.1.force λs1=>K.bind (oZ Q cf ops r x.2 s1) λy=>K.ret (y.1,nZ Q ops s o s1::y.2)
def HT Q cf ops cls (s:S):=
 match cls with
 |0=>K.fail
 |1=>K.bind (oZ Q cf ops ops [] s) λx=>λae=>qy 0 (masks ops []) x.2 (ae x.1)
 |4=>K.bind (oZ Q cf (da ops) (da ops) [] s) λx=>λae=>qy 0 (masks (da ops) []) x.2 (ae x.1)
 |2=>mQ Q cf ops ops [] s
 |5=>mQ Q cf (da ops) (da ops) [] s
 |6=>(match EW ops with
  |some (m,t,d)=>(match sg Q t,lk s.tm d with
   |false,none=>K.bind (oZ Q cf ops ops [] s) λx=>λae=>qy m (masks ops []) x.2 (ae x.1)
   |_,_=>K.fail)
  |none=>K.fail)
 |_=>K.fail
def cj(dc:Nat->Nat):Code->Bool
 | .region id ops draw=> !draw ||Nat.beq (lD ops.toList) (dc id)
 | .seq a b=>cj dc a&&cj dc b
 | .cond _ a b=>cj dc a&&cj dc b
 | .block _ c | .loop c | .scope c=>cj dc c
 |_=>true
def nz(dc:FuncId->Nat->Nat):Nat->List Func->Bool
 |_,[]=>true
 |i,f::r=>(match f.body with |some c=>cj (dc i) c |none=>true)&&nz dc (i+1) r
def E3(body:S->K (PX×S))(keep:Option (List Nat×List Nat)):Nat->S->K (PX×S)
 |0,_=>K.fail
 |k+1,s=>K.bind (K.dU (cG keep s)) λs0=>K.bind (body s0) λx=>match x.1 with
  | .normal=>E3 body keep k x.2
  |_=>K.bind (K.dU (dL keep x.2)) λs2=>K.ret (x.1,s2)
def zw(body:S->K (PX×S)) keep s:=
 K.bind (body s) λx=>match x.1 with
  | .normal=>K.bind (K.dU (cG keep x.2)) λs2=>K.ret (.normal,s2)
  |_=>K.bind (K.dU (dL keep x.2)) λs2=>K.ret (x.1,s2)
def fw(Q:Program)(kf:KF)(kp:Nat->Option (List Nat×List Nat))(hk:List (Nat×(S->K (PX×S))))(dc:Nat->Nat)(lf:Nat):Code->S->K (PX×S)
 | .skip,s=>K.ret (.normal,s)
 | .label _,s=>K.ret (.normal,s)
 | .region id ops draw,s=>K.bind (if draw then HT Q kf ops.toList (dc id) s else mQ Q kf ops.toList ops.toList [] s) λs1=>K.ret (.normal,s1)
 | .seq a b,s=>K.bind (fw Q kf kp hk dc lf a s) λx=>match x.1 with
  | .normal=>fw Q kf kp hk dc lf b x.2
  |_=>K.ret x
 | .cond c x y,s=>match s.ev c with
  | .d (.bool b)=>K.bind (K.dec b) λr=>if r then fw Q kf kp hk dc lf x s else fw Q kf kp hk dc lf y s
  |_=>K.fail
 | .block id c,s=>K.bind (fw Q kf kp hk dc lf c s) λx=>match x.1 with
  | .exit qA=>if Nat.beq qA id then K.ret (.normal,x.2) else K.ret x
  |_=>K.ret x
 | .loop c,s=>match lk hk (Code.s5 c) with
  |some h=>h s
  |none=>E3 (fw Q kf kp hk dc lf c) (kp (Code.s5 c)) lf s
 | .scope c,s=>fw Q kf kp hk dc lf c s
 | .exit id,s=>K.ret (.exit id,s)
 | .ret,s=>K.ret (.ret,s)
 |_,_=>K.fail
def E4 Q m rts qs s:=K.dU (finish Q m rts qs s)
def n0(Q:Program)(kf:KF)(kp:rq)(hk:List (Nat×(S->K (PX×S))))(dc:FuncId->Nat->Nat)(lf:Nat):KF:=λf ps R=>
 match Q.funcs[f]? with
 |none=>K.fail
 |some fn=>if iw f kp.xs then K.fail else match fn.body with
  |none=>K.fail
  |some c=>if fn.name== "runtime.NumGoroutine" then K.fail else
   K.bind (fw Q kf (kp f) hk (dc f) lf c ⟨fn.ntmps,fT 0 (lE (kp f 999999) Q fn.params.toList ps),R⟩) λx=>match x.1 with
    | .exit _=>K.fail
    |_=>match dv Q x.2 fn.results.toList with
     |some qs=>E4 Q R.length fn.resultTypes.toList qs x.2
     |none=>K.fail
def runK(Q:Program)(kp:rq)(dc:FuncId->Nat->Nat)(H:List (FuncId×a8))(lf:Nat):Nat->KF
 |0=>λf ps R=>match lk H f with |some h=>h ps R |none=>K.fail
 |k+1=>λf ps R=>match lk H f with
  |some h=>h ps R
  |none=>n0 Q (runK Q kp dc H lf k) kp [] dc lf f ps R
end Pi
