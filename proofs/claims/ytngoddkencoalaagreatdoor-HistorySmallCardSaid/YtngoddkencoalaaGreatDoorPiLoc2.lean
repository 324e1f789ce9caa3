/- The text PiLoc2. -/
import Derived.Test.YtngoddkencoalaaGreatDoorPiLoc
namespace Pi
open Go
theorem qcv(Q:Program){s s2:S}{o:Oper}(h:Alike s s2 o.op.operands.toList)(g:Option (Nat×Bool)): ∃c,ef Q s o g=fin s o.dst c/\ef Q s2 o g=fin s2 o.dst c:=by
 unfold ef;split
 next t ho=>
  split
  next z hz=>exact pQ h (yo Q s o.dst t _)
  exact⟨none,rfl,rfl⟩
 next t x ho=>
  rw[h.eg (x:=x) (by simp[ho,Op.operands])];split
  ·exact pQ h (yo Q s o.dst t _)
  exact⟨none,rfl,rfl⟩
 next t ad x ho=>
  rw[h.eg (x:=ad) (by simp[ho,Op.operands]),h.eg (x:=x) (by simp[ho,Op.operands])];refine pQ (f:=λs'=>match gF Q s' t (s.eg g ad) (s.eg g x) with |some s1=>s1.put o.dst .bad |none=>none) h ?_;cases h1:gF Q s t (s.eg g ad) (s.eg g x) with
  |none=>exact⟨none,λm=>by simp only[BE,h1];rfl⟩
  |some s1=>exact⟨some (s1.rg,.bad),λm=>by grind [BE,ia,QN]⟩
 next t1 t2 x ho=>
  rw[h.eg (x:=x) (by simp[ho,Op.operands])];refine pQ (f:=λs'=>match Q.underlying t1,Q.underlying t2 with
   |some (.slice e),some .string=>match Q.underlying e,mF Q s' t1 1 (s.eg g x) with
    |some (.int .u8),some ys=>match jS ys with |some l=>s'.put o.dst (.d (.str l))|none=>none
    |_,_=>none
   |_,_=>none) h ?_
  split
  next e h1 h2=>
   simp only[Loc,C7];split
   ·split
    ·exact⟨some (s.rg,_),λm=>rfl⟩
    exact⟨none,λm=>rfl⟩
   exact⟨none,λm=>rfl⟩
  exact⟨none,λm=>rfl⟩
 next c ho=>
  have hm: ∀y∈c.args.toList,y∈o.op.operands.toList:=λy hy=>by simp only[ho,Op.operands,Call.operands];grind
  split
  ·split
   next x y t t2 cW Fu=>rw[h.eg (x:=x) (hm x (by rw[cW];simp)),h.eg (x:=y) (hm y (by rw[cW];simp))];exact pQ h (FA Q s o.dst t t2 _ _)
   exact⟨none,rfl,rfl⟩
  ·split
   next x y t t2 cW Fu=>rw[h.eg (x:=x) (hm x (by rw[cW];simp)),h.eg (x:=y) (hm y (by rw[cW];simp))];exact pQ h (M3 Q s o.dst t t2 _ _)
   exact⟨none,rfl,rfl⟩
  ·split
   next x t cW Fu=>rw[h.eg (x:=x) (hm x (by rw[cW];simp))];exact pQ h (IZ Q s o.dst t _)
   exact⟨none,rfl,rfl⟩
  exact⟨none,rfl,rfl⟩
 next t x y ho=>rw[h.eg (x:=x) (by simp[ho,Op.operands]),h.eg (x:=y) (by simp[ho,Op.operands])];exact pQ h (M1 Q s o.dst t _ _)
 next t ho=>exact pQ h (Da Q s o.dst t)
 next t m k x ho=>rw[h.eg (x:=m) (by simp[ho,Op.operands]),h.eg (x:=k) (by simp[ho,Op.operands]),h.eg (x:=x) (by simp[ho,Op.operands])];exact pQ h (vW Q s o.dst t _ _ _)
 next t m k x ho=>rw[h.eg (x:=m) (by simp[ho,Op.operands]),h.eg (x:=k) (by simp[ho,Op.operands]),h.eg (x:=x) (by simp[ho,Op.operands])];exact pQ h (vW Q s o.dst t _ _ _)
 next t x ho=>rw[h.eg (x:=x) (by simp[ho,Op.operands])];exact pQ h (IX Q s o.dst t _)
 next t m k ho=>rw[h.eg (x:=m) (by simp[ho,Op.operands]),h.eg (x:=k) (by simp[ho,Op.operands])];exact pQ h (FB Q s o.dst t _ _)
 next t m st x ho=>rw[h.eg (x:=m) (by simp[ho,Op.operands]),h.eg (x:=st) (by simp[ho,Op.operands]),h.eg (x:=x) (by simp[ho,Op.operands])];exact pQ h (IW Q s o.dst _ _ _)
 next t len parts ho=>
  have e:parts.toList.map (λx=>(x.1,s2.eg g x.2))=parts.toList.map (λx=>(x.1,s.eg g x.2)):=zbF λx hx=>by have:=h.eg (x:=x.2) (by simp only[ho,Op.operands];grind) g;rw[this]
  rw[e];exact pQ h (IY Q s o.dst t len _)
 exact⟨none,rfl,rfl⟩
theorem M4(Q:Program){s s2:S}{o:Oper}(h:Alike s s2 o.op.operands.toList)(g:Option (Nat×Bool)): ∃c,jx Q s o g=fin s o.dst c/\jx Q s2 o g=fin s2 o.dst c:=by
 unfold jx;split
 next e he=>
  refine pQ (f:=λs'=>match s'.new (site o.dst) (.arr e false []) with |some (s1,v)=>s1.put o.dst (.sl (site o.dst) v 0)|none=>none) h ?_;cases h1:s.new (site o.dst) (.arr e false []) with
  |none=>exact⟨none,λm=>by simp only[j7,h1];rfl⟩
  |some r=>exact⟨some (r.1.rg,_),λm=>by simp only[j7,h1];exact ia m (rK h1)⟩
 rw[yq h g];split
 next p hp=>exact⟨some (s.rg,p),rfl,by unfold fin;rw[<-h.rg]⟩
 exact qcv Q h g
theorem QO(Q:Program){s s2:S}{o:Oper}(h:Alike s s2 o.op.operands.toList)(g:Option (Nat×Bool)): ∃c,exec Q s o g=fin s o.dst c/\exec Q s2 o g=fin s2 o.dst c:=by
 unfold exec;cases hm:r7 o with
 |none=>exact M4 Q h g
 |some r=>
  obtain⟨t,len,parts⟩:=r;obtain⟨ps,ho,rfl,_⟩:=uR hm;have e:ps.toList.map (λx=>(x.1,s2.eg g x.2))=ps.toList.map (λx=>(x.1,s.eg g x.2)):=zbF λx hx=>by rw[h.eg (by simp[Op.operands];grind)]
  simp only[e];cases Bi Q t len (ps.toList.map λx=>(x.1,s.eg g x.2)) with
  |none=>exact⟨none,rfl,rfl⟩
  |some p=>exact⟨some (s.rg,p),rfl,by unfold fin;rw[<-h.rg]⟩
theorem I0(Q:Program)(cf:CF)(s:S)(dst:Option Nat)(f:P)(args:List P):Loc (λs=>mG Q cf s dst f args) s dst:=by
 unfold mG;cases f with
 |fn kP cP=>
  cases h1:cV Q s kP (args++cP) with
  |none=>exact⟨none,λm=>by simp only[vV,h1];rfl⟩
  |some r=>
   obtain⟨s1,qs⟩:=r;have hn:=IV _ _ _ _ h1;have e0: ∀m,(s1.wt m).rg=s1.rg:=λ_=>rfl;unfold Loc;simp only[vV,h1,zaL,e0];split
   ·split
    ·exact⟨none,λm=>rfl⟩
    split
    ·exact⟨none,λm=>rfl⟩
    split
    ·split
     ·exact⟨none,λm=>rfl⟩
     split
     ·exact⟨none,λm=>rfl⟩
     rename_i R3 h3;exact⟨some (R3,_),λm=>by unfold fin S.wt;rw[hn]⟩
    exact⟨none,λm=>rfl⟩
   exact⟨none,λm=>rfl⟩
 |_=>exact⟨none,λm=>rfl⟩
theorem BG(Q:Program)(cf:CF){s s2:S}{o:Oper}(h:Alike s s2 o.op.operands.toList)(g:Option (Nat×Bool)): ∃c,gk Q cf s o g=fin s o.dst c/\gk Q cf s2 o g=fin s2 o.dst c:=by
 unfold gk;split
 next f xs hc=>
  have hf:f∈o.op.operands.toList/\ ∀y∈xs,y∈o.op.operands.toList:=by
   unfold gG at hc;split at hc
   ·rename_i c ho;split at hc
    next f' lv=>simp[ho,Op.operands,Call.operands,lv];grind
    cases hc
   cases hc
  rw[h.eg hf.1,h.egs hf.2];exact pQ h (I0 Q cf s o.dst _ _)
 exact QO Q h g
def xn(W:List Nat×Nat×Nat)(n:Nat):Prop:=n∈W.1\/(W.2.1<=n/\n<W.2.2)
theorem eU{s s':S}{n v:Nat}{o:Obj}(h:s.new n o=some (s',v)){m:Nat}(hm:m≠n):lk s'.rg m=lk s.rg m:=by obtain⟨rfl,_⟩:=S.lz h;grind [b9]
theorem c8(s:S)(n:Nat)(o:Obj){m:Nat}(hm:m≠n):lk (s.setObj n o).rg m=lk s.rg m:=by grind [S.setObj,b9]
theorem bA{s s':S}{dst:Option Nat}{p:P}(h:s.put dst p=some s'):s'.rg=s.rg:=by unfold S.put at h;grind
theorem yr{s:S}{n:Nat}{p q:P}{t:Option TypeId}{s':S}(h:ti s n p t=some (s',q)){m:Nat}(hm:m≠n):lk s'.rg m=lk s.rg m:=by unfold ti at h;grind [eU]
theorem pR: ∀(ps:List P) (ts:List (Option TypeId)) (n:Nat) (s s':S) (qs:List P),cv s n ps ts=some (s',qs)-> ∀m,(m<n\/n+ps.length<=m)->lk s'.rg m=lk s.rg m
 | [],_,_,s,s',qs,h,m,hm=>by simp[cv] at h;rw[<-h.1]
 |p::ps,ts,n,s,s',qs,h,m,hm=>by
  simp only[cv] at h;simp only[zap] at hm;split at h
  ·cases h
  rename_i s1 q h1;split at h
  next s2 qs2 h2=>simp at h;rw[<-h.1,pR ps _ _ _ _ _ h2 m (by omega),yr h1 (by omega)]
  cases h
theorem lA{Q:Program}{s s':S}{p:P}{x:D}(h:pz Q s p=some (s',x)){m:Nat}(hm:m∉bK [p]):lk s'.rg m=lk s.rg m:=by unfold pz at h;grind [c8,bK]
theorem ob(p:P)(ps:List P):bK (p::ps)=bK [p]++bK ps:=by cases p<;>simp[bK]
theorem yu{Q:Program}: ∀(ps:List P) (s s':S) (xs:List D),qY Q s ps=some (s',xs)-> ∀m,m∉bK ps->lk s'.rg m=lk s.rg m
 | [],s,s',xs,h,m,hm=>by simp[qY] at h;rw[<-h.1]
 |p::ps,s,s',xs,h,m,hm=>by
  rw[ob] at hm;simp only[zaI,zcL] at hm;simp only[qY] at h;split at h
  ·cases h
  rename_i s1 x h1;split at h
  next s2 xs2 h2=>simp at h;rw[<-h.1,yu ps _ _ _ h2 m hm.2,lA h1 hm.1]
  cases h
theorem BH{Q:Program}{s s':S}{p:P}{x:D}(h:EB Q s p=some (s',x)){m:Nat}(hm:m∉bK p.cells):lk s'.rg m=lk s.rg m:=by
 unfold EB at h;split at h
 ·split at h
  next h1=>simp at h;rw[<-h.1];exact yu _ _ _ _ h1 m hm
  cases h
 cases p with
 |sl n v len=>exact lA h hm
 |l0 n v k off len=>exact lA h hm
 |d x=>simp[pz] at h;rw[<-h.1]
 |_=>simp[pz] at h
theorem pS: ∀(a b:List P),bK (a++b)=bK a++bK b
 | [],_=>rfl
 |p::a,b=>by rw[List.cons_append,ob,pS a b,ob p a,za0]
theorem oc{Q:Program}{s s':S}{t:TypeId}{p:P}{x:D}(h:nT Q s t p=some (s',x)){m:Nat}(hm:m∉bK p.cells):lk s'.rg m=lk s.rg m:=by grind [uQ,BH]
theorem Db{Q:Program}{s s':S}{t:TypeId}{p q:P}(h:k9 Q s t p=some (s',q)){m:Nat}(hm:m∉bK p.cells):lk s'.rg m=lk s.rg m:=by unfold k9 at h;grind [oc,D.force_eq]
theorem rL{Q:Program}: ∀(ps:List P) (ts:List TypeId) (s s':S) (xs:List P),eI Q s ts ps=some (s',xs)-> ∀m,m∉bK (ps.flatMap P.cells)->lk s'.rg m=lk s.rg m
 | [],ts,s,s',xs,h,m,hm=>by simp[eI] at h;rw[<-h.1]
 |p::ps,ts,s,s',xs,h,m,hm=>by
  rw[zct,pS] at hm;simp only[zaI,zcL] at hm;simp only[eI] at h;split at h
  ·cases h
  rename_i s1 x h1;have e1:lk s1.rg m=lk s.rg m:=by
   unfold pB at h1;split at h1
   ·split at h1
    next hf=>simp at h1;rw[<-h1.1];exact lA hf hm.1
    cases h1
   ·split at h1
    next hf=>simp at h1;rw[<-h1.1];exact lA hf hm.1
    cases h1
   grind [Db]
  split at h
  next s2 xs2 h2=>simp at h;rw[<-h.1,rL ps _ _ _ _ h2 m hm.2,e1]
  cases h
theorem yw{Q:Program}{f:FuncId}(ps:List P)(s s':S)(xs:List P)(h:cV Q s f ps=some (s',xs))(m:Nat)(hm:m∉bK (ps.flatMap P.cells)):lk s'.rg m=lk s.rg m:=by grind [cV,rL]
def I1(m:Nat)(q:P):P->Prop
 | .ref n _ off=>m≠n/\m≠2000000+n*1000+off
 | .dG n _ _ _ _=>m≠n/\m∉bK q.cells
 |_=>True
def vY(m:Nat)(dst:Option Nat):P->Prop
 | .sl n _ _=>m≠n
 |_=>m≠site dst
theorem Dc{Q:Program}{s s':S}{t:TypeId}{p q:P}(h:gF Q s t p q=some s'){m:Nat}(hm:I1 m q p):lk s'.rg m=lk s.rg m:=by
 unfold gF at h;split at h
 ·cases h
 split at h
 ·split at h
  next h1=>
   split at h
   ·split at h
    ·simp at h;rw[<-h,c8 _ _ _ hm.1,yr h1 hm.2]
    cases h
   cases h
  cases h
 ·split at h
  next h1=>
   split at h
   ·split at h
    ·split at h
     ·simp only[zam] at h;rw[<-h,c8 _ _ _ hm.1,oc h1 hm.2]
     cases h
    cases h
   cases h
  cases h
 cases h
theorem tL{Q:Program}{s s':S}{dst:Option Nat}{t:TypeId}{ps:List P}(h:nS Q s dst t ps=some s'){m:Nat}(h1:m≠site dst)(h2:m<site dst*1000\/site dst*1000+ps.length<=m):lk s'.rg m=lk s.rg m:=by
 unfold nS at h;split at h
 ·cases h
 rename_i s1 qs g1;split at h
 next s2 v g2=>rw[bA h,eU g2 h1,pR _ _ _ _ _ _ g1 m h2]
 cases h
theorem AI{Q:Program}{s s':S}{dst:Option Nat}{t t2:TypeId}{p q:P}(h:jl Q s dst t t2 p q=some s'){m:Nat}(hm:vY m dst p):lk s'.rg m=lk s.rg m:=by
 unfold jl at h;split at h
 ·cases h
 split at h
 ·split at h
  ·split at h
   ·split at h
    ·split at h
     ·split at h
      ·split at h
       ·rw[bA h];exact b9 _ _ (zbD hm)
       cases h
      cases h
     cases h
    ·split at h
     ·split at h
      next g2=>rw[bA h,eU g2 hm]
      cases h
     cases h
    cases h
   cases h
  cases h
 cases h
theorem FE{Q:Program}{s s':S}{dst:Option Nat}{t:TypeId}{p q:P}(h:tj Q s dst t p q=some s'){m:Nat}(hm:m≠site dst):lk s'.rg m=lk s.rg m:=by
 unfold tj at h;split at h
 ·split at h
  ·split at h
   ·split at h
    next hn=>rw[bA h,eU hn hm]
    cases h
   cases h
  cases h
 cases h
theorem yx{Q:Program}{s s':S}{dst:Option Nat}{t:TypeId}(h:k8 Q s dst t=some s'){m:Nat}(hm:m≠site dst):lk s'.rg m=lk s.rg m:=by
 unfold k8 at h;split at h
 ·split at h
  next hn=>rw[bA h,eU hn hm]
  cases h
 cases h
def tM(m:Nat):P->Prop
 | .mp n _=>m≠n
 |_=>True
theorem rM{Q:Program}{s s':S}{dst:Option Nat}{t:TypeId}{p k x:P}(h:jm Q s dst t p k x=some s'){m:Nat}(hm:tM m p)(hx:m∉bK x.cells):lk s'.rg m=lk s.rg m:=by
 unfold jm at h;split at h
 ·split at h
  next hf=>
   split at h
   ·split at h
    ·rw[bA h,c8 _ _ _ hm,oc hf hx]
    cases h
   cases h
  cases h
 cases h
theorem AJ{Q:Program}{s s':S}{dst:Option Nat}{t:TypeId}{p k:P}(h:jn Q s dst t p k=some s'){m:Nat}(hd:m≠site dst)(hm:tM m p):lk s'.rg m=lk s.rg m:=by
 unfold jn at h;split at h
 ·split at h
  ·split at h
   ·split at h
    ·split at h
     next hn=>rw[bA h,c8 _ _ _ hm,eU hn hd]
     cases h
    cases h
   cases h
  cases h
 cases h
theorem Dd{Q:Program}{s s':S}{dst:Option Nat}{p st x:P}(h:pA Q s dst p st x=some s'){m:Nat}(hm:tM m p)(hx:m∉bK x.cells):lk s'.rg m=lk s.rg m:=by
 unfold pA at h;split at h
 ·split at h
  next hf=>
   split at h
   ·split at h
    ·rw[bA h,c8 _ _ _ hm,BH hf hx]
    cases h
   cases h
  cases h
 cases h
theorem tN{Q:Program}{s s':S}{dst:Option Nat}{t:TypeId}{p:P}(h:r6 Q s dst t p=some s'){m:Nat}(hd:m≠site dst)(hm:tM m p):lk s'.rg m=lk s.rg m:=by
 unfold r6 at h;split at h
 ·split at h
  ·split at h
   ·split at h
    next hn=>rw[bA h,eU hn hd,c8 _ _ _ hm]
    cases h
   cases h
  cases h
 ·split at h
  next hn=>rw[bA h,eU hn hd]
  cases h
 cases h
theorem pT{Q:Program}{t:TypeId}{k:Nat}: ∀(ps:List (Nat×P)) (s s':S) (es fH:List D),cU Q t k s es ps=some (s',fH)-> ∀m,(∀x∈ps,m∉bK x.2.cells)->lk s'.rg m=lk s.rg m
 | [],s,s',es,fH,h,m,_=>by simp[cU] at h;rw[h.1]
 | (i,p)::r,s,s',es,fH,h,m,hm=>by
  simp only[cU] at h;split at h
  next s1 x h1=>
   split at h
   ·rw[pT r s1 s' _ fH h m (λx hx=>hm x (by simp[hx])),oc h1 (hm (i,p) (by simp))]
   cases h
  cases h
theorem De{Q:Program}{s s':S}{dst:Option Nat}{t:TypeId}{len:Nat}{ps:List (Nat×P)}(h:r5 Q s dst t len ps=some s'){m:Nat}(hm:m≠site dst)(hp: ∀x∈ps,m∉bK x.2.cells):lk s'.rg m=lk s.rg m:=by
 unfold r5 at h;split at h
 ·split at h
  ·split at h
   ·split at h
    ·rename_i hb;split at h
     next hn=>rw[bA h,eU hn hm,pT _ _ _ _ _ hb m hp]
     cases h
    cases h
   cases h
  cases h
 cases h
def BI(m:Nat):P->Prop
 | .sl n _ _=>m≠n
 |_=>True
theorem FF{Q:Program}{s s':S}{dst:Option Nat}{t t2:TypeId}{p q:P}(h:tq Q s dst t t2 p q=some s'){m:Nat}(hm:BI m p):lk s'.rg m=lk s.rg m:=by
 unfold tq at h;split at h
 ·split at h
  ·split at h
   ·split at h
    ·rw[bA h,c8 _ _ _ hm]
    cases h
   cases h
  cases h
 cases h
def yy(m:Nat):P->Prop
 | .l0 n _ _ _ _=>m≠n
 |_=>True
theorem Df{Q:Program}{s s':S}{dst:Option Nat}{t:TypeId}{p:P}(h:nU Q s dst t p=some s'){m:Nat}(hm:yy m p):lk s'.rg m=lk s.rg m:=by
 unfold nU at h;split at h
 ·split at h
  ·split at h
   ·rw[bA h,c8 _ _ _ hm]
   cases h
  cases h
 cases h
theorem rN(R1:List (Nat×En))(σ:Nat->Nat->Option (Nat×Nat)): ∀(ns:List Nat) (i0:Nat) (R R2:List (Nat×En)),gy R1 σ i0 ns R=some R2-> ∀m,m∉ns->lk R2 m=lk R m
 | [],i0,R,R2,h,m,hm=>by simp[gy] at h;rw[h]
 |n::ns,i0,R,R2,h,m,hm=>by
  simp only[zaw,zcL] at hm;simp only[gy] at h;split at h
  ·cases h
  rw[rN R1 σ ns _ _ _ h m hm.2,b9 _ _ (zbD hm.1)]
theorem Dg{Q:Program}{cf:CF}{s s':S}{dst:Option Nat}{kP:FuncId}{cP args:List P}(h:mG Q cf s dst (.fn kP cP) args=some s'){s1:S}{qs:List P}(hf:cV Q s kP (args++cP)=some (s1,qs)){m:Nat}
  (h1:m∉bK ((args++cP).flatMap P.cells)) (h2:m∉reach s1.rg 1000 qs []) (h3:m<site dst*1000\/site dst*1000+1000<=m):lk s'.rg m=lk s.rg m:=by
 unfold mG at h;simp only[hf] at h;split at h
 ·split at h
  ·cases h
  split at h
  ·cases h
  split at h
  next W5=>
   have hle:=(zab _ _▸W5:_/\_).2;simp only[zb0] at hle;split at h
   ·cases h
   rename_i R2 hb;split at h
   ·cases h
   rename_i R3 hn;rw[bA h];rw[(uS _ _ _ _ _ _ hn m).2 (by omega),rN _ _ _ _ _ _ hb m h2,yw _ _ _ _ hf m h1]
  cases h
 cases h
theorem vZ{Q:Program}{cf:CF}{s s':S}{o:Oper}{g:Option (Nat×Bool)}(h:gk Q cf s o g=some s'){m:Nat}(hm: ¬xn (writes Q s o g) m):lk s'.rg m=lk s.rg m:=by
 unfold gk at h;unfold writes at hm;split at h
 next f xs hc=>
  unfold gG at hc;split at hc
  next c ho=>
   split at hc
   ·rename_i f' lv;have VQ:dh Q o=none:=by unfold dh;rw[ho]
    simp only[VQ,ho,lv] at hm;grind [cV,mG,xn,Dg]
   cases hc
  cases hc
 unfold exec at h;split at h
 ·grind [bA]
 unfold jx at h;split at h
 next e he=>
  simp only[he] at hm;split at h
  next s1 v hn=>rw[bA h,eU hn (by simpa [xn] using hm)]
  cases h
 rename_i he;simp only[he] at hm;split at h
 ·rw[bA h]
 unfold ef at h;split at h
 ·grind [xn,tL,pJ]
 ·grind [xn,tL]
 next t ad x ho=>
  simp only[ho] at hm;split at h
  next s1 h1=>
   rw[bA h];refine Dc h1 ?_;generalize s.eg g ad=pa at hm;cases pa with
   |ref n v off=>simp only[xn,zaw,zcL] at hm;exact⟨hm.1.1,by omega⟩
   |dG n v i k off=>simp only[xn,zaw,zcL] at hm;exact⟨hm.1.1,hm.1.2⟩
   |_=>trivial
  cases h
 ·grind [bA]
 next c ho=>simp only[ho] at hm;grind [AI,vY,xn,FF,BI,Df,yy]
 ·grind [xn,FE]
 ·grind [xn,yx]
 next t mo k x ho=>
  simp only[ho] at hm;cases hp:s.eg g mo with
  |mp n v=>rw[hp] at hm h;simp only[xn,zaw,zcL] at hm;exact rM h hm.1.1 hm.1.2
  |_=>rw[hp] at h;simp[jm] at h
 next t mo k x ho=>
  simp only[ho] at hm;cases hp:s.eg g mo with
  |mp n v=>rw[hp] at hm h;simp only[xn,zaw,zcL] at hm;exact rM h hm.1.1 hm.1.2
  |_=>rw[hp] at h;simp[jm] at h
 next t x ho=>
  simp only[ho] at hm;cases hp:s.eg g x with
  |mp n v=>rw[hp] at hm h;simp only[xn,zaw,zc2,or_false,zcL] at hm;exact tN h hm.1.1 hm.1.2
  |_=>rw[hp] at hm h;simp only[xn,zaw,zc2,or_false,zcL] at hm;exact tN h hm.1 trivial
 next t mo k ho=>
  simp only[ho] at hm;cases hp:s.eg g mo with
  |mp n v=>rw[hp] at hm h;simp only[xn,zaw,zc2,or_false,zcL] at hm;exact AJ h hm.1.1 hm.1.2
  |_=>rw[hp] at h;simp[jn] at h
 next t mo st x ho=>
  simp only[ho] at hm;cases hp:s.eg g mo with
  |mp n v=>rw[hp] at hm h;simp only[xn,zaw,zcL] at hm;exact Dd h hm.1.1 hm.1.2
  |_=>rw[hp] at h;simp[pA] at h
 ·grind [xn,De]
 cases h
end Pi
