/- The text PiLoc. -/
import Derived.Test.YtpiohccneeblhaaPiRegion
namespace Pi
open Go
def S.wt(s:S)(m:List (Nat×P)):S:=⟨s.n,m,s.rg⟩
theorem fS(s:S)(m:List (Nat×P))(n v:Nat):(s.wt m).obj n v=s.obj n v:=rfl
theorem fi(s:S)(m:List (Nat×P))(n:Nat)(o:Obj):(s.wt m).new n o=(s.new n o).map λx=>(x.1.wt m,x.2):=by
 unfold S.new S.wt;simp only;split
 ·rfl
 split
 ·rfl
 split<;>rfl
theorem bG(s:S)(m:List (Nat×P))(n:Nat)(o:Obj):(s.wt m).setObj n o=(s.setObj n o).wt m:=by unfold S.setObj S.wt;simp only;split<;>rfl
theorem zn(s:S)(m:List (Nat×P))(n:Nat)(p:P)(t:Option TypeId):ml (s.wt m) n p t=(ml s n p t).map λx=>(x.1.wt m,x.2):=by
 unfold ml;split
 ·rw[fi];cases s.new n _<;>rfl
 rfl
theorem im(m:List (Nat×P)): ∀(ps:List P) (ts:List (Option TypeId)) (n:Nat) (s:S),bh (s.wt m) n ps ts=(bh s n ps ts).map λx=>(x.1.wt m,x.2)
 | [],_,_,_=>rfl
 |p::ps,ts,n,s=>by
  simp only[bh];rw[zn];cases h:ml s n p (ts.headD none) with
  |none=>rfl
  |some r=>simp only[zaA];rw[im m ps ts.tail (n+1) r.1];cases bh r.1 (n+1) ps ts.tail<;>rfl
theorem oZ(Q:Program)(s:S)(m:List (Nat×P))(p:P):kb Q (s.wt m) p=(kb Q s p).map λx=>(x.1.wt m,x.2):=by
 unfold kb;split
 ·rfl
 ·rw[fS];split
  ·split
   ·rw[bG];rfl
   rfl
  ·split
   ·rw[bG];rfl
   rfl
  rfl
 ·rw[fS];split
  ·split
   ·split
    ·rw[bG];rfl
    rfl
   rfl
  rfl
 rfl
theorem zo(Q:Program)(m:List (Nat×P)): ∀(ps:List P) (s:S),lj Q (s.wt m) ps=(lj Q s ps).map λx=>(x.1.wt m,x.2)
 | [],_=>rfl
 |p::ps,s=>by
  simp only[lj];rw[oZ];cases h:kb Q s p with
  |none=>rfl
  |some r=>simp only[zaA];rw[zo Q m ps r.1];cases lj Q r.1 ps<;>rfl
theorem ya(Q:Program)(s:S)(m:List (Nat×P))(p:P):uR Q (s.wt m) p=(uR Q s p).map λx=>(x.1.wt m,x.2):=by
 unfold uR;split
 ·rw[zo];cases lj Q s _<;>rfl
 exact oZ Q s m p
theorem o5(Q:Program)(s:S)(t:TypeId)(m:List (Nat×P))(p:P):jh Q (s.wt m) t p=(jh Q s t p).map λx=>(x.1.wt m,x.2):=by
 unfold jh;split
 ·exact ya Q s m p
 rw[ya];cases uR Q s p with
 |none=>rfl
 |some r=>simp only[zaA,D.force_eq]
theorem Az(Q:Program)(s:S)(t:TypeId)(m:List (Nat×P))(p:P):gA Q (s.wt m) t p=(gA Q s t p).map λx=>(x.1.wt m,x.2):=by
 unfold gA;split
 ·split
  ·rw[o5];cases jh Q s t _<;>rfl
  rfl
 ·split
  ·simp only[D.force_eq];rfl
  rfl
 rfl
theorem AA(Q:Program)(s:S)(t:TypeId)(m:List (Nat×P))(p:P):ke Q (s.wt m) t p=(ke Q s t p).map λx=>(x.1.wt m,x.2):=by
 unfold ke;split
 ·rw[oZ];cases kb Q s _<;>rfl
 ·rw[oZ];cases kb Q s _<;>rfl
 exact Az Q s t m _
theorem qc(Q:Program)(m:List (Nat×P)): ∀(ps:List P) (ts:List TypeId) (s:S),cU Q (s.wt m) ts ps=(cU Q s ts ps).map λx=>(x.1.wt m,x.2)
 | [],_,_=>rfl
 |p::ps,ts,s=>by
  simp only[cU];rw[AA];cases h:ke Q s (ts.headD 0) p with
  |none=>rfl
  |some r=>simp only[zaA];rw[qc Q m ps ts.tail r.1];cases cU Q r.1 ts.tail ps<;>rfl
theorem nO(Q:Program)(m:List (Nat×P))(f:FuncId)(ps:List P)(s:S):bL Q (s.wt m) f ps=(bL Q s f ps).map λx=>(x.1.wt m,x.2):=by
 unfold bL;split
 ·rfl
 exact qc Q m ps _ s
theorem sA(Q:Program)(s:S)(m:List (Nat×P))(t:TypeId)(p q:P):dH Q (s.wt m) t p q=(dH Q s t p q).map λx=>x.wt m:=by
 unfold dH;split
 ·rfl
 split
 ·rw[zn];cases ml s _ q _ with
  |none=>rfl
  |some r=>
   simp only[zaA,fS];split
   ·split
    ·rw[bG];rfl
    rfl
   rfl
 ·rw[show∀n v val,kY (s.wt m) n v val=kY s n v val from λ_ _ _=>rfl];split
  ·split
   ·split
    ·rw[bG];rfl
    rfl
   rfl
  rw[o5];cases jh Q s t q with
  |none=>rfl
  |some r=>
   simp only[zaA,fS];split
   ·split
    ·split
     ·rw[bG];rfl
     rfl
    rfl
   rfl
 rfl
theorem tY(Q:Program)(s:S)(m:List (Nat×P))(t2:TypeId)(k:Nat)(p:P):iz Q (s.wt m) t2 k p=iz Q s t2 k p:=rfl
def fin(s:S)(dst:Option Nat)(c:Option (List (Nat×En)×P)):Option S:=
 match c with
 |some (R,p)=>(⟨s.n,s.tm,R⟩:S).put dst p
 |none=>none
def Loc(f:S->Option S)(s:S)(dst:Option Nat):Prop:= ∃c,∀m,f (s.wt m)=fin (s.wt m) dst c
theorem dv{s s1:S}{dst:Option Nat}{p:P}(m:List (Nat×P))(hn:s1.n=s.n):(s1.wt m).put dst p=fin (s.wt m) dst (some (s1.rg,p)):=by unfold fin S.wt;rw[hn]
theorem kG{s:S}{n v:Nat}{o:Obj}{s':S}(h:s.new n o=some (s',v)):s'.n=s.n:=by obtain⟨rfl,_⟩:=S.gO h;rfl
theorem cw(s:S)(n:Nat)(o:Obj):(s.setObj n o).n=s.n:=by unfold S.setObj;split<;>rfl
theorem CQ{s:S}{n:Nat}{p q:P}{t:Option TypeId}{s':S}(h:ml s n p t=some (s',q)):s'.n=s.n:=by
 unfold ml at h;split at h
 ·split at h
  next hn=>simp at h;rw[<-h.1];exact kG hn
  cases h
 simp at h;rw[<-h.1]
theorem qd: ∀(ps:List P) (ts:List (Option TypeId)) (n:Nat) (s s':S) (qs:List P),bh s n ps ts=some (s',qs)->s'.n=s.n
 | [],_,_,s,s',qs,h=>by simp[bh] at h;rw[<-h.1]
 |p::ps,ts,n,s,s',qs,h=>by
  simp only[bh] at h;split at h
  ·cases h
  rename_i s1 q h1;split at h
  next s2 Hb h2=>simp at h;rw[<-h.1,qd ps _ _ _ _ _ h2,CQ h1]
  cases h
theorem tZ{Q:Program}{s s':S}{p:P}{x:D}(h:kb Q s p=some (s',x)):s'.n=s.n:=by
 unfold kb at h;split at h
 ·simp at h;rw[<-h.1]
 ·split at h
  ·split at h
   ·simp at h;rw[<-h.1];exact cw _ _ _
   cases h
  ·split at h
   ·simp at h;rw[<-h.1];exact cw _ _ _
   cases h
  cases h
 ·split at h
  ·split at h
   ·split at h
    ·simp at h;rw[<-h.1];exact cw _ _ _
    cases h
   cases h
  cases h
 cases h
theorem CR{Q:Program}: ∀(ps:List P) (s s':S) (xs:List D),lj Q s ps=some (s',xs)->s'.n=s.n
 | [],s,s',xs,h=>by simp[lj] at h;rw[<-h.1]
 |p::ps,s,s',xs,h=>by
  simp only[lj] at h;split at h
  ·cases h
  rename_i s1 x h1;split at h
  next s2 GV h2=>simp at h;rw[<-h.1,CR ps _ _ _ h2,tZ h1]
  cases h
theorem Gn{Q:Program}{s s':S}{p:P}{x:D}(h:uR Q s p=some (s',x)):s'.n=s.n:=by
 unfold uR at h;split at h
 ·split at h
  next h1=>simp at h;rw[<-h.1];exact CR _ _ _ _ h1
  cases h
 exact tZ h
theorem ua{Q:Program}{s s':S}{t:TypeId}{p:P}{x:D}(h:jh Q s t p=some (s',x)):s'.n=s.n:=by obtain⟨y,h1,_⟩:=nu h;exact Gn h1
theorem CS{Q:Program}{s s':S}{t:TypeId}{p q:P}(h:gA Q s t p=some (s',q)):s'.n=s.n:=by
 unfold gA at h;split at h
 ·split at h
  ·split at h
   next hf=>simp at h;rw[<-h.1];exact ua hf
   cases h
  simp at h;rw[<-h.1]
 ·split at h
  ·rw[D.force_eq] at h;simp at h;rw[<-h.1]
  simp at h;rw[<-h.1]
 simp at h;rw[<-h.1]
theorem sB{Q:Program}: ∀(ps:List P) (ts:List TypeId) (s s':S) (xs:List P),cU Q s ts ps=some (s',xs)->s'.n=s.n
 | [],ts,s,s',xs,h=>by simp[cU] at h;rw[<-h.1]
 |p::ps,ts,s,s',xs,h=>by
  simp only[cU] at h;split at h
  ·cases h
  rename_i s1 x h1;have e1:s1.n=s.n:=by
   unfold ke at h1;split at h1
   ·split at h1
    next hf=>simp at h1;rw[<-h1.1];exact tZ hf
    cases h1
   ·split at h1
    next hf=>simp at h1;rw[<-h1.1];exact tZ hf
    cases h1
   exact CS h1
  split at h
  next s2 GV h2=>simp at h;rw[<-h.1,sB ps _ _ _ _ h2,e1]
  cases h
theorem CT{Q:Program}{s s':S}{t:TypeId}{p q:P}(h:dH Q s t p q=some s'):s'.n=s.n:=by
 unfold dH at h;split at h
 ·cases h
 split at h
 ·split at h
  next h1=>
   split at h
   ·split at h
    ·simp at h;rw[<-h,cw,CQ h1]
    cases h
   cases h
  cases h
 ·split at h
  ·split at h
   ·split at h
    ·simp only[zaf] at h;rw[<-h,cw]
    cases h
   cases h
  split at h
  next h1=>
   split at h
   ·split at h
    ·split at h
     ·simp only[zaf] at h;rw[<-h,cw,ua h1]
     cases h
    cases h
   cases h
  cases h
 cases h
theorem yb{Q:Program}{f:FuncId}(ps:List P)(s s':S)(xs:List P)(h:bL Q s f ps=some (s',xs)):s'.n=s.n:=by
 unfold bL at h;split at h
 ·simp only[zaf,za9] at h;rw[h.1]
 exact sB ps _ s s' xs h
theorem qe(Q:Program)(s:S)(dst:Option Nat)(t:TypeId)(ps:List P):Loc (λs=>jg Q s dst t ps) s dst:=by
 unfold jg;cases h:bh s (site dst*1000) ps (kX Q 20 t) with
 |none=>exact⟨none,λm=>by simp only[im,h];rfl⟩
 |some r=>
  cases h2:r.1.new (site dst) (.box t r.2) with
  |none=>exact⟨none,λm=>by simp only[im,h,zaA,fi,h2];rfl⟩
  |some r2=>exact⟨some (r2.1.rg,.ref (site dst) r2.2 0),λm=>by simp only[im,h,zaA,fi,h2];exact dv m (by rw[kG h2,qd _ _ _ _ _ _ h])⟩
theorem vX(Q:Program)(s:S)(dst:Option Nat)(t t2:TypeId)(p q:P):Loc (λs=>eH Q s dst t t2 p q) s dst:=by
 unfold Loc eH;cases h1:bI Q t with
 |none=>exact⟨none,λm=>rfl⟩
 |some e=>
  simp only[];cases h2:Q.info? e with
  |none=>exact⟨none,λm=>rfl⟩
  |some i=>
   cases h3:sz Q e with
   |none=>exact⟨none,λm=>rfl⟩
   |some k=>
    cases k with
    |zero=>exact⟨none,λm=>rfl⟩
    |succ k=>
     simp only[tY];cases h4:iz Q s t2 (k+1) q with
     |none=>exact⟨none,λm=>rfl⟩
     |some ys=>
      cases h5:cQ Q e with
      |none=>exact⟨none,λm=>rfl⟩
      |some z=>
       simp only[];cases h6:Nat.beq z.cells.length (k+1) with
       |false=>exact⟨none,λm=>rfl⟩
       |true=>
        simp only[zaT];cases p with
        |sl n v len=>
         have e0: ∀m,(s.wt m).rg=s.rg:=λ_=>rfl;simp only[e0];cases h7:lk s.rg n with
         |none=>exact⟨none,λm=>rfl⟩
         |some en=>
          simp only[];cases h8:en.obj with
          |arr ty fz es=>
           cases fz with
           |true=>exact⟨none,λm=>rfl⟩
           |false=>
            simp only[];split
            ·exact⟨some (_,_),λm=>rfl⟩
            exact⟨none,λm=>rfl⟩
          |bC ty es hd=>
           cases hd with
           |some y=>exact⟨none,λm=>rfl⟩
           |none=>
            simp only[];split
            ·cases vo ys with
             |none=>exact⟨none,λm=>rfl⟩
             |some j=>exact⟨some (_,_),λm=>rfl⟩
            exact⟨none,λm=>rfl⟩
          |_=>exact⟨none,λm=>rfl⟩
        |d x=>
         cases x with
         |bu=>
          simp only[fi];split
          ·cases h7:s.new (site dst) (.arr e false ys) with
           |none=>exact⟨none,λm=>rfl⟩
           |some r2=>exact⟨some (r2.1.rg,_),λm=>dv m (kG h7)⟩
          exact⟨none,λm=>rfl⟩
         |_=>exact⟨none,λm=>rfl⟩
        |_=>exact⟨none,λm=>rfl⟩
theorem AB(Q:Program)(s:S)(dst:Option Nat)(t:TypeId)(p q:P):Loc (λs=>mr Q s dst t p q) s dst:=by
 unfold Loc mr;split
 next e k1 l k2 c h1=>
  split
  next i k z h2 h3 h4=>
   split
   ·simp only[fi];cases h7:s.new (site dst) (.arr e false (List.replicate l.toNat z)) with
    |none=>exact⟨none,λm=>rfl⟩
    |some r2=>exact⟨some (r2.1.rg,_),λm=>dv m (kG h7)⟩
   exact⟨none,λm=>rfl⟩
  exact⟨none,λm=>rfl⟩
 exact⟨none,λm=>rfl⟩
theorem ub(Q:Program)(s:S)(dst:Option Nat)(t:TypeId):Loc (λs=>gx Q s dst t) s dst:=by
 unfold Loc gx;split
 next kt e h1=>
  simp only[fi];cases h7:s.new (site dst) (.map kt (λ_=>none) 0 false) with
  |none=>exact⟨none,λm=>rfl⟩
  |some r2=>exact⟨some (r2.1.rg,_),λm=>dv m (kG h7)⟩
 exact⟨none,λm=>rfl⟩
theorem uc(Q:Program)(s:S)(dst:Option Nat)(t:TypeId):Loc (λs=>gy Q s dst t) s dst:=by
 unfold Loc gy;split
 next kt e h1=>
  simp only[fi];cases h7:s.new (site dst) (.bS kt (λ_=>none) 0 none) with
  |none=>exact⟨none,λm=>rfl⟩
  |some r2=>exact⟨some (r2.1.rg,_),λm=>dv m (kG h7)⟩
 exact⟨none,λm=>rfl⟩
theorem vY(Q:Program)(s:S)(dst:Option Nat)(t:TypeId)(p k x:P):Loc (λs=>fp Q s dst t p k x) s dst:=by
 unfold Loc fp;split
 next kt e n v kd h1=>
  simp only[fS];split
  ·split
   ·simp only[bG];exact⟨some (_,.bad),λm=>dv m (cw _ _ _)⟩
   exact⟨none,λm=>rfl⟩
  exact⟨none,λm=>rfl⟩
 exact⟨none,λm=>rfl⟩
theorem CU(Q:Program)(s:S)(dst:Option Nat)(t:TypeId)(p k:P):Loc (λs=>tk Q s dst t p k) s dst:=by
 unfold Loc tk;split
 next kt e n v kd h1=>
  simp only[fS];split
  ·split
   ·simp only[bG];exact⟨some (_,.bad),λm=>dv m (cw _ _ _)⟩
   exact⟨none,λm=>rfl⟩
  exact⟨none,λm=>rfl⟩
 exact⟨none,λm=>rfl⟩
theorem nP(Q:Program)(s:S)(dst:Option Nat)(t:TypeId)(p k x:P):Loc (λs=>fq Q s dst t p k x) s dst:=by
 unfold Loc fq;split
 next kt e n v kd h1=>
  simp only[o5];cases h2:jh Q s e x with
  |none=>exact⟨none,λm=>rfl⟩
  |some y=>
   simp only[zaA,fS];split
   ·split
    ·simp only[bG];exact⟨some (_,.bad),λm=>dv m ((cw _ _ _).trans (ua h2))⟩
    exact⟨none,λm=>rfl⟩
   exact⟨none,λm=>rfl⟩
 exact⟨none,λm=>rfl⟩
theorem vZ(Q:Program)(s:S)(dst:Option Nat)(t:TypeId)(p k:P):Loc (λs=>fr Q s dst t p k) s dst:=by
 unfold Loc fr;split
 next kt e n v kd h1=>
  split
  ·simp only[fS];split
   ·rename_i jY get c h2;split
    ·simp only[fi];cases h7:s.new (site dst) .fy with
     |none=>exact⟨none,λm=>rfl⟩
     |some r2=>simp only[zaA,bG];exact⟨some (_,_),λm=>dv m ((cw _ _ _).trans (kG h7))⟩
    exact⟨none,λm=>rfl⟩
   exact⟨none,λm=>rfl⟩
  exact⟨none,λm=>rfl⟩
 exact⟨none,λm=>rfl⟩
theorem yc(Q:Program)(s:S)(dst:Option Nat)(p st x:P):Loc (λs=>kc Q s dst p st x) s dst:=by
 unfold Loc kc;split
 ·simp only[ya];cases h2:uR Q s x with
  |none=>exact⟨none,λm=>rfl⟩
  |some y=>
   simp only[zaA,fS];split
   ·split
    ·simp only[bG];exact⟨some (_,.bad),λm=>dv m ((cw _ _ _).trans (Gn h2))⟩
    exact⟨none,λm=>rfl⟩
   exact⟨none,λm=>rfl⟩
 exact⟨none,λm=>rfl⟩
theorem yd(Q:Program)(s:S)(dst:Option Nat)(t:TypeId)(p:P):Loc (λs=>lM Q s dst t p) s dst:=by
 unfold Loc lM;split
 next kt vt n v h1=>
  simp only[fS];split
  next jY get c fz h2=>
   split
   ·simp only[bG,fi];cases h7:(s.setObj n (.map kt get c true)).new (site dst) (.iter kt vt get none) with
    |none=>exact⟨none,λm=>rfl⟩
    |some r2=>exact⟨some (r2.1.rg,_),λm=>dv m ((kG h7).trans (cw _ _ _))⟩
   exact⟨none,λm=>rfl⟩
  exact⟨none,λm=>rfl⟩
 next kt vt h1=>
  simp only[fi];cases h7:s.new (site dst) (.iter kt vt (λ_=>none) none) with
  |none=>exact⟨none,λm=>rfl⟩
  |some r2=>exact⟨some (r2.1.rg,_),λm=>dv m (kG h7)⟩
 exact⟨none,λm=>rfl⟩
theorem nQ(Q:Program)(t:TypeId)(k:Nat)(m:List (Nat×P)): ∀(ps:List (Nat×P)) (s:S) (es:List D),bK Q t k (s.wt m) es ps=(bK Q t k s es ps).map λx=>(x.1.wt m,x.2)
 | [],s,es=>rfl
 | (i,p)::r,s,es=>by
  simp only[bK,o5];cases h:jh Q s t p with
  |none=>rfl
  |some y=>
   simp only[zaA];split
   ·exact nQ Q t k m r y.1 _
   rfl
theorem qf{Q:Program}{t:TypeId}{k:Nat}: ∀(ps:List (Nat×P)) (s s':S) (es es':List D),bK Q t k s es ps=some (s',es')->s'.n=s.n
 | [],s,s',es,es',h=>by simp[bK] at h;rw[h.1]
 | (i,p)::r,s,s',es,es',h=>by
  simp only[bK] at h;split at h
  next s1 x h1=>
   split at h
   ·rw[qf r s1 s' _ es' h,ua h1]
   cases h
  cases h
theorem ye(Q:Program)(s:S)(dst:Option Nat)(t:TypeId)(len:Nat)(parts:List (Nat×P)):Loc (λs=>lL Q s dst t len parts) s dst:=by
 unfold Loc lL;split
 next e h1=>
  split
  next i k z h2 h3 h4=>
   split
   ·simp only[nQ];cases h5:bK Q e (k+1) s (List.replicate len z) parts with
    |none=>exact⟨none,λm=>rfl⟩
    |some r=>
     simp only[zaA,fi];cases h7:r.1.new (site dst) (.arr e false r.2) with
     |none=>exact⟨none,λm=>rfl⟩
     |some r2=>exact⟨some (r2.1.rg,_),λm=>dv m (by rw[kG h7,qf _ _ _ _ _ h5])⟩
   exact⟨none,λm=>rfl⟩
  exact⟨none,λm=>rfl⟩
 exact⟨none,λm=>rfl⟩
theorem yf(Q:Program)(s:S)(dst:Option Nat)(t:TypeId)(p:P):Loc (λs=>ji Q s dst t p) s dst:=by
 unfold Loc ji;split
 ·simp only[fS,bG];split
  ·split
   ·exact⟨some (_,_),λm=>dv m (cw _ _ _)⟩
   exact⟨none,λm=>rfl⟩
  exact⟨none,λm=>rfl⟩
 exact⟨none,λm=>rfl⟩
theorem AE(Q:Program)(s:S)(dst:Option Nat)(t t2:TypeId)(p q:P):Loc (λs=>mv Q s dst t t2 p q) s dst:=by
 unfold Loc mv;split
 ·split
  ·simp only[tY,fS,bG];split
   ·split
    ·exact⟨some (_,_),λm=>dv m (cw _ _ _)⟩
    exact⟨none,λm=>rfl⟩
   exact⟨none,λm=>rfl⟩
  exact⟨none,λm=>rfl⟩
 exact⟨none,λm=>rfl⟩
structure Alike(s s2:S)(xs:List Operand):Prop where
 n:s2.n=s.n
 rg:s2.rg=s.rg
 ev: ∀x∈xs,s2.ev x=s.ev x
theorem Alike.wt{s s2:S}{xs:List Operand}(h:Alike s s2 xs):s2=s.wt s2.tm:=by
 cases s2 with
 |mk n tm rg=>have h1:=h.n;have h2:=h.rg;simp only at h1 h2;subst h1 h2;rfl
theorem Alike.eg{s s2:S}{xs:List Operand}(h:Alike s s2 xs){x:Operand}(hx:x∈xs)(g:Option (Nat×Bool)):s2.eg g x=s.eg g x:=by unfold S.eg;rw[h.ev x hx]
theorem Alike.Lu{s s2:S}{xs:List Operand}(h:Alike s s2 xs){ys:List Operand}(hy: ∀y∈ys,y∈xs)(g:Option (Nat×Bool)):ys.map (s2.eg g)=ys.map (s.eg g):=
 zbh λy MG=>h.eg (hy y MG) g
theorem iV{f:S->Option S}{s s2:S}{xs:List Operand}{dst:Option Nat}(h:Alike s s2 xs)(hl:Loc f s dst): ∃c,f s=fin s dst c/\f s2=fin s2 dst c:=by
 obtain⟨c,hc⟩:=hl;refine⟨c,?_,?_⟩
 ·exact hc s.tm
 have e:=h.wt;rw[e];exact hc s2.tm
theorem qg{Q:Program}{s s2:S}{o:Oper}(h:Alike s s2 o.op.operands.toList)(g:Option (Nat×Bool)):pv Q s2 o g=pv Q s o g:=by
 have hs:=h.wt;have mem: ∀{x:Operand},x∈o.op.operands->x∈o.op.operands.toList:=λhx=>by simpa using hx
 unfold pv;split
 next x ho=>rw[h.eg (by simp[ho,Op.operands])]
 next x ho=>rw[h.eg (by simp[ho,Op.operands])]
 next c x y ho=>rw[h.eg (x:=c) (by simp[ho,Op.operands]),h.eg (x:=x) (by simp[ho,Op.operands]),h.eg (x:=y) (by simp[ho,Op.operands])]
 next x ho=>rw[h.eg (by simp[ho,Op.operands]),hs];rfl
 next op t x y yt ho=>rw[h.eg (x:=x) (by simp[ho,Op.operands]),h.eg (x:=y) (by simp[ho,Op.operands]),hs];rfl
 next op t x ho=>rw[h.eg (by simp[ho,Op.operands])]
 next t1 t2 x ho=>rw[h.eg (by simp[ho,Op.operands])]
 next t x ho=>rw[h.eg (by simp[ho,Op.operands]),hs];rfl
 next t x f ho=>rw[h.eg (by simp[ho,Op.operands]),hs];rfl
 next t x i ho=>rw[h.eg (x:=x) (by simp[ho,Op.operands]),h.eg (x:=i) (by simp[ho,Op.operands]),hs];rfl
 next t x i ho=>rw[h.eg (x:=x) (by simp[ho,Op.operands]),h.eg (x:=i) (by simp[ho,Op.operands])]
 next t x f ho=>rw[h.eg (by simp[ho,Op.operands])]
 next x i ho=>rw[h.eg (by simp[ho,Op.operands])]
 next t x i ok ho=>rw[h.eg (x:=x) (by simp[ho,Op.operands]),h.eg (x:=i) (by simp[ho,Op.operands]),hs];rfl
 next x ho=>
  have e5: ∀p,j9 s2 p=j9 s p:=λp=>by rw[hs];rfl
  rw[e5,h.eg (by simp[ho,Op.operands])]
 next t x lo hi ho=>
  have e5: ∀p l h',ix Q s2 t p l h'=ix Q s t p l h':=λp l h'=>by rw[hs];rfl
  rw[e5,h.eg (x:=x) (by simp[ho,Op.operands])];cases lo with
  |none=>cases hi with
   |none=>rfl
   |some u=>simp only[zaA];rw[h.eg (x:=u) (by simp[ho,Op.operands])];rfl
  |some l=>cases hi with
   |none=>simp only[zaA];rw[h.eg (x:=l) (by simp[ho,Op.operands])];rfl
   |some u=>simp only[zaA];rw[h.eg (x:=l) (by simp[ho,Op.operands]),h.eg (x:=u) (by simp[ho,Op.operands])]
 next t parts ho=>
  have e:parts.toList.map (λx=>s2.eg g x.2)=parts.toList.map (λx=>s.eg g x.2):=zbh λx hx=>h.eg (by simp only[ho,Op.operands];exact zbr (f:=λx:Nat×Operand=>x.2) hx) g;have e2:parts.toList.map (λx=>(x.1,s2.eg g x.2))=parts.toList.map (λx=>(x.1,s.eg g x.2)):=zbh λx hx=>by rw[h.eg (x:=x.2) (by simp only[ho,Op.operands];exact zbr (f:=λx:Nat×Operand=>x.2) hx) g]
  rw[e,e2]
 next f first bH ho=>
  have e:bH.toList.map (s2.eg g)=bH.toList.map (s.eg g):=h.Lu (λy hy=>by simp only[ho,Op.operands];simp at hy;simp[hy]) g;rw[e]
 next c ho=>
  have hm: ∀y∈c.args.toList,y∈o.op.operands.toList:=λy hy=>by simp only[ho,Op.operands,Call.operands];simp at hy;simp[hy]
  split
  ·split
   ·rename_i x bq;rw[h.eg (x:=x) (hm x (by rw[bq];simp))];have e5: ∀p,vg s2 p=vg s p:=λp=>by rw[hs];rfl
    have e6: ∀p,vi s2 p=vi s p:=λp=>by rw[hs];rfl
    rw[e5,e6]
   rfl
  ·rw[h.Lu hm]
  ·rw[h.Lu hm]
  rfl
 rfl
end Pi
