/- The text PiLoc. -/
import Derived.Test.YtfelfooeclnbiaaPiRegion
namespace Pi
open Go
def S.wt(s:S)(m:List (Nat×P)):S:=⟨s.n,m,s.rg⟩
theorem dV(s:S)(m:List (Nat×P))(n v:Nat):(s.wt m).obj n v=s.obj n v:=rfl
theorem dx(s:S)(m:List (Nat×P))(n:Nat)(o:Obj):(s.wt m).new n o=(s.new n o).map λx=>(x.1.wt m,x.2):=by
 unfold S.new S.wt;simp only;split
 ·rfl
 split
 ·rfl
 split<;>rfl
theorem bF(s:S)(m:List (Nat×P))(n:Nat)(o:Obj):(s.wt m).setObj n o=(s.setObj n o).wt m:=by unfold S.setObj S.wt;simp only;split<;>rfl
theorem tM(s:S)(m:List (Nat×P))(n:Nat)(p:P)(t:Option TypeId):jL (s.wt m) n p t=(jL s n p t).map λx=>(x.1.wt m,x.2):=by
 unfold jL;split
 ·rw[dx];cases s.new n _<;>rfl
 rfl
theorem fc(m:List (Nat×P)): ∀(ps:List P) (ts:List (Option TypeId)) (n:Nat) (s:S),aT (s.wt m) n ps ts=(aT s n ps ts).map λx=>(x.1.wt m,x.2)
 | [],_,_,_=>rfl
 |p::ps,ts,n,s=>by
  simp only[aT];rw[tM];cases h:jL s n p (ts.headD none) with
  |none=>rfl
  |some r=>simp only[zap];rw[fc m ps ts.tail (n+1) r.1];cases aT r.1 (n+1) ps ts.tail<;>rfl
theorem l3(Q:Program)(s:S)(m:List (Nat×P))(p:P):gP Q (s.wt m) p=(gP Q s p).map λx=>(x.1.wt m,x.2):=by
 unfold gP;split
 ·rfl
 ·rw[dV];split
  ·split
   ·rw[bF];rfl
   rfl
  rfl
 ·rw[dV];split
  ·split
   ·split
    ·rw[bF];rfl
    rfl
   rfl
  rfl
 rfl
theorem tN(Q:Program)(m:List (Nat×P)): ∀(ps:List P) (s:S),iK Q (s.wt m) ps=(iK Q s ps).map λx=>(x.1.wt m,x.2)
 | [],_=>rfl
 |p::ps,s=>by
  simp only[iK];rw[l3];cases h:gP Q s p with
  |none=>rfl
  |some r=>simp only[zap];rw[tN Q m ps r.1];cases iK Q r.1 ps<;>rfl
theorem sB(Q:Program)(s:S)(m:List (Nat×P))(p:P):qc Q (s.wt m) p=(qc Q s p).map λx=>(x.1.wt m,x.2):=by
 unfold qc;split
 ·rw[tN];cases iK Q s _<;>rfl
 exact l3 Q s m p
theorem l4(Q:Program)(s:S)(t:TypeId)(m:List (Nat×P))(p:P):fU Q (s.wt m) t p=(fU Q s t p).map λx=>(x.1.wt m,x.2):=by
 unfold fU;split
 ·exact sB Q s m p
 rw[sB];cases qc Q s p with
 |none=>rfl
 |some r=>simp only[zap,D.force_eq]
theorem uS(Q:Program)(s:S)(t:TypeId)(m:List (Nat×P))(p:P):eH Q (s.wt m) t p=(eH Q s t p).map λx=>(x.1.wt m,x.2):=by
 unfold eH;split
 ·split
  ·rw[l4];cases fU Q s t _<;>rfl
  rfl
 ·split
  ·simp only[D.force_eq];rfl
  rfl
 rfl
theorem uT(Q:Program)(s:S)(t:TypeId)(m:List (Nat×P))(p:P):gR Q (s.wt m) t p=(gR Q s t p).map λx=>(x.1.wt m,x.2):=by
 unfold gR;split
 ·rw[l3];cases gP Q s _<;>rfl
 ·rw[l3];cases gP Q s _<;>rfl
 exact uS Q s t m _
theorem mJ(Q:Program)(m:List (Nat×P)): ∀(ps:List P) (ts:List TypeId) (s:S),bY Q (s.wt m) ts ps=(bY Q s ts ps).map λx=>(x.1.wt m,x.2)
 | [],_,_=>rfl
 |p::ps,ts,s=>by
  simp only[bY];rw[uT];cases h:gR Q s (ts.headD 0) p with
  |none=>rfl
  |some r=>simp only[zap];rw[mJ Q m ps ts.tail r.1];cases bY Q r.1 ts.tail ps<;>rfl
theorem lh(Q:Program)(m:List (Nat×P))(f:FuncId)(ps:List P)(s:S):br Q (s.wt m) f ps=(br Q s f ps).map λx=>(x.1.wt m,x.2):=by
 unfold br;split
 ·rfl
 exact mJ Q m ps _ s
theorem oE(Q:Program)(s:S)(m:List (Nat×P))(t:TypeId)(p q:P):cP Q (s.wt m) t p q=(cP Q s t p q).map λx=>x.wt m:=by
 unfold cP;split
 ·rfl
 split
 ·rw[tM];cases jL s _ q _ with
  |none=>rfl
  |some r=>
   simp only[zap,dV];split
   ·split
    ·rw[bF];rfl
    rfl
   rfl
 ·rw[l4];cases fU Q s t q with
  |none=>rfl
  |some r=>
   simp only[zap,dV];split
   ·split
    ·split
     ·rw[bF];rfl
     rfl
    rfl
   rfl
 rfl
theorem pD(Q:Program)(s:S)(m:List (Nat×P))(t2:TypeId)(k:Nat)(p:P):fi Q (s.wt m) t2 k p=fi Q s t2 k p:=rfl
def fin(s:S)(dst:Option Nat)(c:Option (List (Nat×En)×P)):Option S:=
 match c with
 |some (R,p)=>(⟨s.n,s.tm,R⟩:S).put dst p
 |none=>none
def Loc(f:S->Option S)(s:S)(dst:Option Nat):Prop:= ∃c,∀m,f (s.wt m)=fin (s.wt m) dst c
theorem cw{s s1:S}{dst:Option Nat}{p:P}(m:List (Nat×P))(hn:s1.n=s.n):(s1.wt m).put dst p=fin (s.wt m) dst (some (s1.rg,p)):=by unfold fin S.wt;rw[hn]
theorem hZ{s:S}{n v:Nat}{o:Obj}{s':S}(h:s.new n o=some (s',v)):s'.n=s.n:=by obtain⟨rfl,_⟩:=S.eS h;rfl
theorem cb(s:S)(n:Nat)(o:Obj):(s.setObj n o).n=s.n:=by unfold S.setObj;split<;>rfl
theorem xg{s:S}{n:Nat}{p q:P}{t:Option TypeId}{s':S}(h:jL s n p t=some (s',q)):s'.n=s.n:=by
 unfold jL at h;split at h
 ·split at h
  next hn=>simp at h;rw[<-h.1];exact hZ hn
  cases h
 simp at h;rw[<-h.1]
theorem mK: ∀(ps:List P) (ts:List (Option TypeId)) (n:Nat) (s s':S) (qs:List P),aT s n ps ts=some (s',qs)->s'.n=s.n
 | [],_,_,s,s',qs,h=>by simp[aT] at h;rw[<-h.1]
 |p::ps,ts,n,s,s',qs,h=>by
  simp only[aT] at h;split at h
  ·cases h
  rename_i s1 q h1;split at h
  next s2 AO h2=>simp at h;rw[<-h.1,mK ps _ _ _ _ _ h2,xg h1]
  cases h
theorem pF{Q:Program}{s s':S}{p:P}{x:D}(h:gP Q s p=some (s',x)):s'.n=s.n:=by
 unfold gP at h;split at h
 ·simp at h;rw[<-h.1]
 ·split at h
  ·split at h
   ·simp at h;rw[<-h.1];exact cb _ _ _
   cases h
  cases h
 ·split at h
  ·split at h
   ·split at h
    ·simp at h;rw[<-h.1];exact cb _ _ _
    cases h
   cases h
  cases h
 cases h
theorem xh{Q:Program}: ∀(ps:List P) (s s':S) (xs:List D),iK Q s ps=some (s',xs)->s'.n=s.n
 | [],s,s',xs,h=>by simp[iK] at h;rw[<-h.1]
 |p::ps,s,s',xs,h=>by
  simp only[iK] at h;split at h
  ·cases h
  rename_i s1 x h1;split at h
  next s2 Az h2=>simp at h;rw[<-h.1,xh ps _ _ _ h2,pF h1]
  cases h
theorem Af{Q:Program}{s s':S}{p:P}{x:D}(h:qc Q s p=some (s',x)):s'.n=s.n:=by
 unfold qc at h;split at h
 ·split at h
  next h1=>simp at h;rw[<-h.1];exact xh _ _ _ _ h1
  cases h
 exact pF h
theorem pG{Q:Program}{s s':S}{t:TypeId}{p:P}{x:D}(h:fU Q s t p=some (s',x)):s'.n=s.n:=by obtain⟨y,h1,_⟩:=kF h;exact Af h1
theorem xi{Q:Program}{s s':S}{t:TypeId}{p q:P}(h:eH Q s t p=some (s',q)):s'.n=s.n:=by
 unfold eH at h;split at h
 ·split at h
  ·split at h
   next hf=>simp at h;rw[<-h.1];exact pG hf
   cases h
  simp at h;rw[<-h.1]
 ·split at h
  ·rw[D.force_eq] at h;simp at h;rw[<-h.1]
  simp at h;rw[<-h.1]
 simp at h;rw[<-h.1]
theorem oF{Q:Program}: ∀(ps:List P) (ts:List TypeId) (s s':S) (xs:List P),bY Q s ts ps=some (s',xs)->s'.n=s.n
 | [],ts,s,s',xs,h=>by simp[bY] at h;rw[<-h.1]
 |p::ps,ts,s,s',xs,h=>by
  simp only[bY] at h;split at h
  ·cases h
  rename_i s1 x h1;have e1:s1.n=s.n:=by
   unfold gR at h1;split at h1
   ·split at h1
    next hf=>simp at h1;rw[<-h1.1];exact pF hf
    cases h1
   ·split at h1
    next hf=>simp at h1;rw[<-h1.1];exact pF hf
    cases h1
   exact xi h1
  split at h
  next s2 Az h2=>simp at h;rw[<-h.1,oF ps _ _ _ _ h2,e1]
  cases h
theorem xj{Q:Program}{s s':S}{t:TypeId}{p q:P}(h:cP Q s t p q=some s'):s'.n=s.n:=by
 unfold cP at h;split at h
 ·cases h
 split at h
 ·split at h
  next h1=>
   split at h
   ·split at h
    ·simp at h;rw[<-h,cb,xg h1]
    cases h
   cases h
  cases h
 ·split at h
  next h1=>
   split at h
   ·split at h
    ·split at h
     ·simp only[zae] at h;rw[<-h,cb,pG h1]
     cases h
    cases h
   cases h
  cases h
 cases h
theorem sC{Q:Program}{f:FuncId}(ps:List P)(s s':S)(xs:List P)(h:br Q s f ps=some (s',xs)):s'.n=s.n:=by
 unfold br at h;split at h
 ·simp only[zae,za4] at h;rw[h.1]
 exact oF ps _ s s' xs h
theorem mL(Q:Program)(s:S)(dst:Option Nat)(t:TypeId)(ps:List P):Loc (λs=>fT Q s dst t ps) s dst:=by
 unfold fT;cases h:aT s (site dst*1000) ps (iy Q 20 t) with
 |none=>exact⟨none,λm=>by simp only[fc,h];rfl⟩
 |some r=>
  cases h2:r.1.new (site dst) (.box t r.2) with
  |none=>exact⟨none,λm=>by simp only[fc,h,zap,dx,h2];rfl⟩
  |some r2=>exact⟨some (r2.1.rg,.ref (site dst) r2.2 0),λm=>by simp only[fc,h,zap,dx,h2];exact cw m (by rw[hZ h2,mK _ _ _ _ _ _ h])⟩
theorem qO(Q:Program)(s:S)(dst:Option Nat)(t t2:TypeId)(p q:P):Loc (λs=>dB Q s dst t t2 p q) s dst:=by
 unfold Loc dB;cases h1:bd Q t with
 |none=>exact⟨none,λm=>rfl⟩
 |some e=>
  simp only[];cases h2:Q.info? e with
  |none=>exact⟨none,λm=>rfl⟩
  |some i=>
   cases h3:sz Q e with
   |none=>exact⟨none,λm=>rfl⟩
   |some k=>
    cases k with
    |zero=>exact⟨none,λm=>rfl⟩
    |succ k=>
     simp only[pD];cases h4:fi Q s t2 (k+1) q with
     |none=>exact⟨none,λm=>rfl⟩
     |some ys=>
      cases h5:bV Q e with
      |none=>exact⟨none,λm=>rfl⟩
      |some z=>
       simp only[];cases h6:Nat.beq z.cells.length (k+1) with
       |false=>exact⟨none,λm=>rfl⟩
       |true=>
        simp only[za2];cases p with
        |sl n v len=>
         have e0: ∀m,(s.wt m).rg=s.rg:=λ_=>rfl;simp only[e0];cases h7:lk s.rg n with
         |none=>exact⟨none,λm=>rfl⟩
         |some en=>
          simp only[];cases h8:en.obj with
          |arr ty fz es=>
           cases fz with
           |true=>exact⟨none,λm=>rfl⟩
           |false=>
            simp only[];split
            ·exact⟨some (_,_),λm=>rfl⟩
            exact⟨none,λm=>rfl⟩
          |_=>exact⟨none,λm=>rfl⟩
        |d x=>
         cases x with
         |dq=>
          simp only[dx];split
          ·cases h7:s.new (site dst) (.arr e false ys) with
           |none=>exact⟨none,λm=>rfl⟩
           |some r2=>exact⟨some (r2.1.rg,_),λm=>cw m (hZ h7)⟩
          exact⟨none,λm=>rfl⟩
         |_=>exact⟨none,λm=>rfl⟩
        |_=>exact⟨none,λm=>rfl⟩
theorem uU(Q:Program)(s:S)(dst:Option Nat)(t:TypeId)(p q:P):Loc (λs=>jM Q s dst t p q) s dst:=by
 unfold Loc jM;split
 next e k1 l k2 c h1=>
  split
  next i k z h2 h3 h4=>
   split
   ·simp only[dx];cases h7:s.new (site dst) (.arr e false (List.replicate l.toNat z)) with
    |none=>exact⟨none,λm=>rfl⟩
    |some r2=>exact⟨some (r2.1.rg,_),λm=>cw m (hZ h7)⟩
   exact⟨none,λm=>rfl⟩
  exact⟨none,λm=>rfl⟩
 exact⟨none,λm=>rfl⟩
theorem pH(Q:Program)(s:S)(dst:Option Nat)(t:TypeId):Loc (λs=>eF Q s dst t) s dst:=by
 unfold Loc eF;split
 next kt e h1=>
  simp only[dx];cases h7:s.new (site dst) (.map kt (λ_=>none) 0 false) with
  |none=>exact⟨none,λm=>rfl⟩
  |some r2=>exact⟨some (r2.1.rg,_),λm=>cw m (hZ h7)⟩
 exact⟨none,λm=>rfl⟩
theorem pI(Q:Program)(s:S)(dst:Option Nat)(t:TypeId):Loc (λs=>eG Q s dst t) s dst:=by
 unfold Loc eG;split
 next kt e h1=>
  simp only[dx];cases h7:s.new (site dst) (.a7 kt []) with
  |none=>exact⟨none,λm=>rfl⟩
  |some r2=>exact⟨some (r2.1.rg,_),λm=>cw m (hZ h7)⟩
 exact⟨none,λm=>rfl⟩
theorem qP(Q:Program)(s:S)(dst:Option Nat)(t:TypeId)(p k x:P):Loc (λs=>dC Q s dst t p k x) s dst:=by
 unfold Loc dC;split
 next kt e n v kd h1=>
  simp only[dV];split
  ·split
   ·simp only[bF];exact⟨some (_,.bad),λm=>cw m (cb _ _ _)⟩
   exact⟨none,λm=>rfl⟩
  exact⟨none,λm=>rfl⟩
 exact⟨none,λm=>rfl⟩
theorem xl(Q:Program)(s:S)(dst:Option Nat)(t:TypeId)(p k:P):Loc (λs=>oZ Q s dst t p k) s dst:=by
 unfold Loc oZ;split
 next kt e n v kd h1=>
  simp only[dV];split
  ·split
   ·simp only[bF];exact⟨some (_,.bad),λm=>cw m (cb _ _ _)⟩
   exact⟨none,λm=>rfl⟩
  exact⟨none,λm=>rfl⟩
 exact⟨none,λm=>rfl⟩
theorem lj(Q:Program)(s:S)(dst:Option Nat)(t:TypeId)(p k x:P):Loc (λs=>dD Q s dst t p k x) s dst:=by
 unfold Loc dD;split
 next kt e n v kd h1=>
  simp only[l4];cases h2:fU Q s e x with
  |none=>exact⟨none,λm=>rfl⟩
  |some y=>
   simp only[zap,dV];split
   ·split
    ·simp only[bF];exact⟨some (_,.bad),λm=>cw m ((cb _ _ _).trans (pG h2))⟩
    exact⟨none,λm=>rfl⟩
   exact⟨none,λm=>rfl⟩
 exact⟨none,λm=>rfl⟩
theorem qQ(Q:Program)(s:S)(dst:Option Nat)(t:TypeId)(p k:P):Loc (λs=>dE Q s dst t p k) s dst:=by
 unfold Loc dE;split
 next kt e n v kd h1=>
  split
  ·simp only[dV];split
   ·rename_i gJ get c h2;split
    ·simp only[dx];cases h7:s.new (site dst) .iX with
     |none=>exact⟨none,λm=>rfl⟩
     |some r2=>simp only[zap,bF];exact⟨some (_,_),λm=>cw m ((cb _ _ _).trans (hZ h7))⟩
    exact⟨none,λm=>rfl⟩
   exact⟨none,λm=>rfl⟩
  exact⟨none,λm=>rfl⟩
 exact⟨none,λm=>rfl⟩
theorem sE(Q:Program)(s:S)(dst:Option Nat)(p st x:P):Loc (λs=>gQ Q s dst p st x) s dst:=by
 unfold Loc gQ;split
 ·simp only[sB];cases h2:qc Q s x with
  |none=>exact⟨none,λm=>rfl⟩
  |some y=>
   simp only[zap,dV];split
   ·split
    ·simp only[bF];exact⟨some (_,.bad),λm=>cw m ((cb _ _ _).trans (Af h2))⟩
    exact⟨none,λm=>rfl⟩
   exact⟨none,λm=>rfl⟩
 exact⟨none,λm=>rfl⟩
theorem sF(Q:Program)(s:S)(dst:Option Nat)(t:TypeId)(p:P):Loc (λs=>jk Q s dst t p) s dst:=by
 unfold Loc jk;split
 next kt vt n v h1=>
  simp only[dV];split
  next gJ get c fz h2=>
   split
   ·simp only[bF,dx];cases h7:(s.setObj n (.map kt get c true)).new (site dst) (.iter kt vt get none) with
    |none=>exact⟨none,λm=>rfl⟩
    |some r2=>exact⟨some (r2.1.rg,_),λm=>cw m ((hZ h7).trans (cb _ _ _))⟩
   exact⟨none,λm=>rfl⟩
  exact⟨none,λm=>rfl⟩
 next kt vt h1=>
  simp only[dx];cases h7:s.new (site dst) (.iter kt vt (λ_=>none) none) with
  |none=>exact⟨none,λm=>rfl⟩
  |some r2=>exact⟨some (r2.1.rg,_),λm=>cw m (hZ h7)⟩
 exact⟨none,λm=>rfl⟩
theorem ll(Q:Program)(t:TypeId)(k:Nat)(m:List (Nat×P)): ∀(ps:List (Nat×P)) (s:S) (es:List D),bf Q t k (s.wt m) es ps=(bf Q t k s es ps).map λx=>(x.1.wt m,x.2)
 | [],s,es=>rfl
 | (i,p)::r,s,es=>by
  simp only[bf,l4];cases h:fU Q s t p with
  |none=>rfl
  |some y=>
   simp only[zap];split
   ·exact ll Q t k m r y.1 _
   rfl
theorem mM{Q:Program}{t:TypeId}{k:Nat}: ∀(ps:List (Nat×P)) (s s':S) (es es':List D),bf Q t k s es ps=some (s',es')->s'.n=s.n
 | [],s,s',es,es',h=>by simp[bf] at h;rw[h.1]
 | (i,p)::r,s,s',es,es',h=>by
  simp only[bf] at h;split at h
  next s1 x h1=>
   split at h
   ·rw[mM r s1 s' _ es' h,pG h1]
   cases h
  cases h
theorem sG(Q:Program)(s:S)(dst:Option Nat)(t:TypeId)(len:Nat)(parts:List (Nat×P)):Loc (λs=>jj Q s dst t len parts) s dst:=by
 unfold Loc jj;split
 next e h1=>
  split
  next i k z h2 h3 h4=>
   split
   ·simp only[ll];cases h5:bf Q e (k+1) s (List.replicate len z) parts with
    |none=>exact⟨none,λm=>rfl⟩
    |some r=>
     simp only[zap,dx];cases h7:r.1.new (site dst) (.arr e false r.2) with
     |none=>exact⟨none,λm=>rfl⟩
     |some r2=>exact⟨some (r2.1.rg,_),λm=>cw m (by rw[hZ h7,mM _ _ _ _ _ h5])⟩
   exact⟨none,λm=>rfl⟩
  exact⟨none,λm=>rfl⟩
 exact⟨none,λm=>rfl⟩
theorem sH(Q:Program)(s:S)(dst:Option Nat)(t:TypeId)(p:P):Loc (λs=>fV Q s dst t p) s dst:=by
 unfold Loc fV;split
 ·simp only[dV,bF];split
  ·split
   ·exact⟨some (_,_),λm=>cw m (cb _ _ _)⟩
   exact⟨none,λm=>rfl⟩
  exact⟨none,λm=>rfl⟩
 exact⟨none,λm=>rfl⟩
theorem uV(Q:Program)(s:S)(dst:Option Nat)(t t2:TypeId)(p q:P):Loc (λs=>jN Q s dst t t2 p q) s dst:=by
 unfold Loc jN;split
 ·split
  ·simp only[pD,dV,bF];split
   ·split
    ·exact⟨some (_,_),λm=>cw m (cb _ _ _)⟩
    exact⟨none,λm=>rfl⟩
   exact⟨none,λm=>rfl⟩
  exact⟨none,λm=>rfl⟩
 exact⟨none,λm=>rfl⟩
structure Alike(s s2:S)(xs:List Operand):Prop where
 n:s2.n=s.n
 rg:s2.rg=s.rg
 ev: ∀x∈xs,s2.ev x=s.ev x
theorem Alike.wt{s s2:S}{xs:List Operand}(h:Alike s s2 xs):s2=s.wt s2.tm:=by
 cases s2 with
 |mk n tm rg=>have h1:=h.n;have h2:=h.rg;simp only at h1 h2;subst h1 h2;rfl
theorem Alike.eg{s s2:S}{xs:List Operand}(h:Alike s s2 xs){x:Operand}(hx:x∈xs)(g:Option (Nat×Bool)):s2.eg g x=s.eg g x:=by unfold S.eg;rw[h.ev x hx]
theorem Alike.DK{s s2:S}{xs:List Operand}(h:Alike s s2 xs){ys:List Operand}(hy: ∀y∈ys,y∈xs)(g:Option (Nat×Bool)):ys.map (s2.eg g)=ys.map (s.eg g):=
 za9 λy ES=>h.eg (hy y ES) g
theorem fI{f:S->Option S}{s s2:S}{xs:List Operand}{dst:Option Nat}(h:Alike s s2 xs)(hl:Loc f s dst): ∃c,f s=fin s dst c/\f s2=fin s2 dst c:=by
 obtain⟨c,hc⟩:=hl;refine⟨c,?_,?_⟩
 ·exact hc s.tm
 have e:=h.wt;rw[e];exact hc s2.tm
theorem mN{Q:Program}{s s2:S}{o:Oper}(h:Alike s s2 o.op.operands.toList)(g:Option (Nat×Bool)):pv Q s2 o g=pv Q s o g:=by
 have hs:=h.wt;have mem: ∀{x:Operand},x∈o.op.operands->x∈o.op.operands.toList:=λhx=>by simpa using hx
 unfold pv;split
 next x ho=>rw[h.eg (by simp[ho,Op.operands])]
 next x ho=>rw[h.eg (by simp[ho,Op.operands])]
 next c x y ho=>rw[h.eg (x:=c) (by simp[ho,Op.operands]),h.eg (x:=x) (by simp[ho,Op.operands]),h.eg (x:=y) (by simp[ho,Op.operands])]
 next x ho=>rw[h.eg (by simp[ho,Op.operands]),hs];rfl
 next op t x y yt ho=>rw[h.eg (x:=x) (by simp[ho,Op.operands]),h.eg (x:=y) (by simp[ho,Op.operands]),hs];rfl
 next op t x ho=>rw[h.eg (by simp[ho,Op.operands])]
 next t1 t2 x ho=>rw[h.eg (by simp[ho,Op.operands])]
 next t x ho=>rw[h.eg (by simp[ho,Op.operands]),hs];rfl
 next t x f ho=>rw[h.eg (by simp[ho,Op.operands]),hs];rfl
 next t x i ho=>rw[h.eg (x:=x) (by simp[ho,Op.operands]),h.eg (x:=i) (by simp[ho,Op.operands]),hs];rfl
 next t x i ho=>rw[h.eg (x:=x) (by simp[ho,Op.operands]),h.eg (x:=i) (by simp[ho,Op.operands])]
 next t x f ho=>rw[h.eg (by simp[ho,Op.operands])]
 next x i ho=>rw[h.eg (by simp[ho,Op.operands])]
 next t x i ok ho=>rw[h.eg (x:=x) (by simp[ho,Op.operands]),h.eg (x:=i) (by simp[ho,Op.operands]),hs];rfl
 next x ho=>
  have e5: ∀p,gO s2 p=gO s p:=λp=>by rw[hs];rfl
  rw[e5,h.eg (by simp[ho,Op.operands])]
 next t x lo hi ho=>
  have e5: ∀p l h',fh Q s2 t p l h'=fh Q s t p l h':=λp l h'=>by rw[hs];rfl
  rw[e5,h.eg (x:=x) (by simp[ho,Op.operands])];cases lo with
  |none=>cases hi with
   |none=>rfl
   |some u=>simp only[zap];rw[h.eg (x:=u) (by simp[ho,Op.operands])];rfl
  |some l=>cases hi with
   |none=>simp only[zap];rw[h.eg (x:=l) (by simp[ho,Op.operands])];rfl
   |some u=>simp only[zap];rw[h.eg (x:=l) (by simp[ho,Op.operands]),h.eg (x:=u) (by simp[ho,Op.operands])]
 next t parts ho=>
  have e:parts.toList.map (λx=>s2.eg g x.2)=parts.toList.map (λx=>s.eg g x.2):=za9 λx hx=>h.eg (by simp only[ho,Op.operands];exact zbi (f:=λx:Nat×Operand=>x.2) hx) g;have e2:parts.toList.map (λx=>(x.1,s2.eg g x.2))=parts.toList.map (λx=>(x.1,s.eg g x.2)):=za9 λx hx=>by rw[h.eg (x:=x.2) (by simp only[ho,Op.operands];exact zbi (f:=λx:Nat×Operand=>x.2) hx) g]
  rw[e,e2]
 next f first cn ho=>
  have e:cn.toList.map (s2.eg g)=cn.toList.map (s.eg g):=h.DK (λy hy=>by simp only[ho,Op.operands];simp at hy;simp[hy]) g;rw[e]
 next c ho=>
  have hm: ∀y∈c.args.toList,y∈o.op.operands.toList:=λy hy=>by simp only[ho,Op.operands,Call.operands];simp at hy;simp[hy]
  split
  ·split
   ·rename_i x bt;rw[h.eg (x:=x) (hm x (by rw[bt];simp))];have e5: ∀p,qf s2 p=qf s p:=λp=>by rw[hs];rfl
    have e6: ∀p,qg s2 p=qg s p:=λp=>by rw[hs];rfl
    rw[e5,e6]
   rfl
  ·rw[h.DK hm]
  ·rw[h.DK hm]
  rfl
 rfl
end Pi
