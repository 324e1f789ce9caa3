/- The text PiLoc. -/
import Derived.Test.YtfelfooeclnbiaaPiRegion
namespace Pi
open Go
def S.wt(s:S)(m:List (Nat×P)):S:=⟨s.n,m,s.rg⟩
theorem dU(s:S)(m:List (Nat×P))(n v:Nat):(s.wt m).obj n v=s.obj n v:=rfl
theorem du(s:S)(m:List (Nat×P))(n:Nat)(o:Obj):(s.wt m).new n o=(s.new n o).map λx=>(x.1.wt m,x.2):=by
 unfold S.new S.wt;simp only;split
 ·rfl
 split
 ·rfl
 split<;>rfl
theorem bC(s:S)(m:List (Nat×P))(n:Nat)(o:Obj):(s.wt m).setObj n o=(s.setObj n o).wt m:=by unfold S.setObj S.wt;simp only;split<;>rfl
theorem tV(s:S)(m:List (Nat×P))(n:Nat)(p:P)(t:Option TypeId):jU (s.wt m) n p t=(jU s n p t).map λx=>(x.1.wt m,x.2):=by
 unfold jU;split
 ·rw[du];cases s.new n _<;>rfl
 rfl
theorem fg(m:List (Nat×P)): ∀(ps:List P) (ts:List (Option TypeId)) (n:Nat) (s:S),aS (s.wt m) n ps ts=(aS s n ps ts).map λx=>(x.1.wt m,x.2)
 | [],_,_,_=>rfl
 |p::ps,ts,n,s=>by
  simp only[aS];rw[tV];cases h:jU s n p (ts.headD none) with
  |none=>rfl
  |some r=>simp only[zam];rw[fg m ps ts.tail (n+1) r.1];cases aS r.1 (n+1) ps ts.tail<;>rfl
theorem l9(Q:Program)(s:S)(m:List (Nat×P))(p:P):gW Q (s.wt m) p=(gW Q s p).map λx=>(x.1.wt m,x.2):=by
 unfold gW;split
 ·rfl
 ·rw[dU];split
  ·split
   ·rw[bC];rfl
   rfl
  rfl
 ·rw[dU];split
  ·split
   ·split
    ·rw[bC];rfl
    rfl
   rfl
  rfl
 rfl
theorem tW(Q:Program)(m:List (Nat×P)): ∀(ps:List P) (s:S),iV Q (s.wt m) ps=(iV Q s ps).map λx=>(x.1.wt m,x.2)
 | [],_=>rfl
 |p::ps,s=>by
  simp only[iV];rw[l9];cases h:gW Q s p with
  |none=>rfl
  |some r=>simp only[zam];rw[tW Q m ps r.1];cases iV Q r.1 ps<;>rfl
theorem sO(Q:Program)(s:S)(m:List (Nat×P))(p:P):qj Q (s.wt m) p=(qj Q s p).map λx=>(x.1.wt m,x.2):=by
 unfold qj;split
 ·rw[tW];cases iV Q s _<;>rfl
 exact l9 Q s m p
theorem ma(Q:Program)(s:S)(t:TypeId)(m:List (Nat×P))(p:P):fW Q (s.wt m) t p=(fW Q s t p).map λx=>(x.1.wt m,x.2):=by
 unfold fW;split
 ·exact sO Q s m p
 rw[sO];cases qj Q s p with
 |none=>rfl
 |some r=>simp only[zam,D.force_eq]
theorem uU(Q:Program)(s:S)(t:TypeId)(m:List (Nat×P))(p:P):eG Q (s.wt m) t p=(eG Q s t p).map λx=>(x.1.wt m,x.2):=by
 unfold eG;split
 ·split
  ·rw[ma];cases fW Q s t _<;>rfl
  rfl
 ·split
  ·simp only[D.force_eq];rfl
  rfl
 rfl
theorem uV(Q:Program)(s:S)(t:TypeId)(m:List (Nat×P))(p:P):gY Q (s.wt m) t p=(gY Q s t p).map λx=>(x.1.wt m,x.2):=by
 unfold gY;split
 ·rw[l9];cases gW Q s _<;>rfl
 ·rw[l9];cases gW Q s _<;>rfl
 exact uU Q s t m _
theorem mS(Q:Program)(m:List (Nat×P)): ∀(ps:List P) (ts:List TypeId) (s:S),bW Q (s.wt m) ts ps=(bW Q s ts ps).map λx=>(x.1.wt m,x.2)
 | [],_,_=>rfl
 |p::ps,ts,s=>by
  simp only[bW];rw[uV];cases h:gY Q s (ts.headD 0) p with
  |none=>rfl
  |some r=>simp only[zam];rw[mS Q m ps ts.tail r.1];cases bW Q r.1 ts.tail ps<;>rfl
theorem lv(Q:Program)(m:List (Nat×P))(f:FuncId)(ps:List P)(s:S):bn Q (s.wt m) f ps=(bn Q s f ps).map λx=>(x.1.wt m,x.2):=by
 unfold bn;split
 ·rfl
 exact mS Q m ps _ s
theorem oI(Q:Program)(s:S)(m:List (Nat×P))(t:TypeId)(p q:P):cL Q (s.wt m) t p q=(cL Q s t p q).map λx=>x.wt m:=by
 unfold cL;split
 ·rfl
 split
 ·rw[tV];cases jU s _ q _ with
  |none=>rfl
  |some r=>
   simp only[zam,dU];split
   ·split
    ·rw[bC];rfl
    rfl
   rfl
 ·rw[ma];cases fW Q s t q with
  |none=>rfl
  |some r=>
   simp only[zam,dU];split
   ·split
    ·split
     ·rw[bC];rfl
     rfl
    rfl
   rfl
 rfl
theorem pJ(Q:Program)(s:S)(m:List (Nat×P))(t2:TypeId)(k:Nat)(p:P):fm Q (s.wt m) t2 k p=fm Q s t2 k p:=rfl
def fin(s:S)(dst:Option Nat)(c:Option (List (Nat×En)×P)):Option S:=
 match c with
 |some (R,p)=>(⟨s.n,s.tm,R⟩:S).put dst p
 |none=>none
def Loc(f:S->Option S)(s:S)(dst:Option Nat):Prop:= ∃c,∀m,f (s.wt m)=fin (s.wt m) dst c
theorem ct{s s1:S}{dst:Option Nat}{p:P}(m:List (Nat×P))(hn:s1.n=s.n):(s1.wt m).put dst p=fin (s.wt m) dst (some (s1.rg,p)):=by unfold fin S.wt;rw[hn]
theorem im{s:S}{n v:Nat}{o:Obj}{s':S}(h:s.new n o=some (s',v)):s'.n=s.n:=by obtain⟨rfl,_⟩:=S.eR h;rfl
theorem b7(s:S)(n:Nat)(o:Obj):(s.setObj n o).n=s.n:=by unfold S.setObj;split<;>rfl
theorem xg{s:S}{n:Nat}{p q:P}{t:Option TypeId}{s':S}(h:jU s n p t=some (s',q)):s'.n=s.n:=by
 unfold jU at h;split at h
 ·split at h
  next hn=>simp at h;rw[<-h.1];exact im hn
  cases h
 simp at h;rw[<-h.1]
theorem mT: ∀(ps:List P) (ts:List (Option TypeId)) (n:Nat) (s s':S) (qs:List P),aS s n ps ts=some (s',qs)->s'.n=s.n
 | [],_,_,s,s',qs,h=>by simp[aS] at h;rw[<-h.1]
 |p::ps,ts,n,s,s',qs,h=>by
  simp only[aS] at h;split at h
  ·cases h
  rename_i s1 q h1;split at h
  next s2 A6 h2=>simp at h;rw[<-h.1,mT ps _ _ _ _ _ h2,xg h1]
  cases h
theorem pK{Q:Program}{s s':S}{p:P}{x:D}(h:gW Q s p=some (s',x)):s'.n=s.n:=by
 unfold gW at h;split at h
 ·simp at h;rw[<-h.1]
 ·split at h
  ·split at h
   ·simp at h;rw[<-h.1];exact b7 _ _ _
   cases h
  cases h
 ·split at h
  ·split at h
   ·split at h
    ·simp at h;rw[<-h.1];exact b7 _ _ _
    cases h
   cases h
  cases h
 cases h
theorem xh{Q:Program}: ∀(ps:List P) (s s':S) (xs:List D),iV Q s ps=some (s',xs)->s'.n=s.n
 | [],s,s',xs,h=>by simp[iV] at h;rw[<-h.1]
 |p::ps,s,s',xs,h=>by
  simp only[iV] at h;split at h
  ·cases h
  rename_i s1 x h1;split at h
  next s2 AU h2=>simp at h;rw[<-h.1,xh ps _ _ _ h2,pK h1]
  cases h
theorem An{Q:Program}{s s':S}{p:P}{x:D}(h:qj Q s p=some (s',x)):s'.n=s.n:=by
 unfold qj at h;split at h
 ·split at h
  next h1=>simp at h;rw[<-h.1];exact xh _ _ _ _ h1
  cases h
 exact pK h
theorem pL{Q:Program}{s s':S}{t:TypeId}{p:P}{x:D}(h:fW Q s t p=some (s',x)):s'.n=s.n:=by obtain⟨y,h1,_⟩:=kO h;exact An h1
theorem xi{Q:Program}{s s':S}{t:TypeId}{p q:P}(h:eG Q s t p=some (s',q)):s'.n=s.n:=by
 unfold eG at h;split at h
 ·split at h
  ·split at h
   next hf=>simp at h;rw[<-h.1];exact pL hf
   cases h
  simp at h;rw[<-h.1]
 ·split at h
  ·rw[D.force_eq] at h;simp at h;rw[<-h.1]
  simp at h;rw[<-h.1]
 simp at h;rw[<-h.1]
theorem oJ{Q:Program}: ∀(ps:List P) (ts:List TypeId) (s s':S) (xs:List P),bW Q s ts ps=some (s',xs)->s'.n=s.n
 | [],ts,s,s',xs,h=>by simp[bW] at h;rw[<-h.1]
 |p::ps,ts,s,s',xs,h=>by
  simp only[bW] at h;split at h
  ·cases h
  rename_i s1 x h1;have e1:s1.n=s.n:=by
   unfold gY at h1;split at h1
   ·split at h1
    next hf=>simp at h1;rw[<-h1.1];exact pK hf
    cases h1
   ·split at h1
    next hf=>simp at h1;rw[<-h1.1];exact pK hf
    cases h1
   exact xi h1
  split at h
  next s2 AU h2=>simp at h;rw[<-h.1,oJ ps _ _ _ _ h2,e1]
  cases h
theorem xj{Q:Program}{s s':S}{t:TypeId}{p q:P}(h:cL Q s t p q=some s'):s'.n=s.n:=by
 unfold cL at h;split at h
 ·cases h
 split at h
 ·split at h
  next h1=>
   split at h
   ·split at h
    ·simp at h;rw[<-h,b7,xg h1]
    cases h
   cases h
  cases h
 ·split at h
  next h1=>
   split at h
   ·split at h
    ·split at h
     ·simp only[zae] at h;rw[<-h,b7,pL h1]
     cases h
    cases h
   cases h
  cases h
 cases h
theorem sP{Q:Program}{f:FuncId}(ps:List P)(s s':S)(xs:List P)(h:bn Q s f ps=some (s',xs)):s'.n=s.n:=by
 unfold bn at h;split at h
 ·simp only[zae,zaV] at h;rw[h.1]
 exact oJ ps _ s s' xs h
theorem mU(Q:Program)(s:S)(dst:Option Nat)(t:TypeId)(ps:List P):Loc (λs=>fV Q s dst t ps) s dst:=by
 unfold fV;cases h:aS s (site dst*1000) ps (iJ Q 20 t) with
 |none=>exact⟨none,λm=>by simp only[fg,h];rfl⟩
 |some r=>
  cases h2:r.1.new (site dst) (.box t r.2) with
  |none=>exact⟨none,λm=>by simp only[fg,h,zam,du,h2];rfl⟩
  |some r2=>exact⟨some (r2.1.rg,.ref (site dst) r2.2 0),λm=>by simp only[fg,h,zam,du,h2];exact ct m (by rw[im h2,mT _ _ _ _ _ _ h])⟩
theorem q8(Q:Program)(s:S)(dst:Option Nat)(t t2:TypeId)(p q:P):Loc (λs=>dy Q s dst t t2 p q) s dst:=by
 unfold Loc dy;cases h1:bc Q t with
 |none=>exact⟨none,λm=>rfl⟩
 |some e=>
  simp only[];cases h2:Q.info? e with
  |none=>exact⟨none,λm=>rfl⟩
  |some i=>
   cases h3:sz Q e with
   |none=>exact⟨none,λm=>rfl⟩
   |some k=>
    cases k with
    |zero=>exact⟨none,λm=>rfl⟩
    |succ k=>
     simp only[pJ];cases h4:fm Q s t2 (k+1) q with
     |none=>exact⟨none,λm=>rfl⟩
     |some ys=>
      cases h5:bS Q e with
      |none=>exact⟨none,λm=>rfl⟩
      |some z=>
       simp only[];cases h6:Nat.beq z.cells.length (k+1) with
       |false=>exact⟨none,λm=>rfl⟩
       |true=>
        simp only[zaT];cases p with
        |sl n v len=>
         have e0: ∀m,(s.wt m).rg=s.rg:=λ_=>rfl;simp only[e0];cases h7:lk s.rg n with
         |none=>exact⟨none,λm=>rfl⟩
         |some en=>
          simp only[];cases h8:en.obj with
          |arr ty fz es=>
           cases fz with
           |true=>exact⟨none,λm=>rfl⟩
           |false=>
            simp only[];split
            ·exact⟨some (_,_),λm=>rfl⟩
            exact⟨none,λm=>rfl⟩
          |_=>exact⟨none,λm=>rfl⟩
        |d x=>
         cases x with
         |dm=>
          simp only[du];split
          ·cases h7:s.new (site dst) (.arr e false ys) with
           |none=>exact⟨none,λm=>rfl⟩
           |some r2=>exact⟨some (r2.1.rg,_),λm=>ct m (im h7)⟩
          exact⟨none,λm=>rfl⟩
         |_=>exact⟨none,λm=>rfl⟩
        |_=>exact⟨none,λm=>rfl⟩
theorem uW(Q:Program)(s:S)(dst:Option Nat)(t:TypeId)(p q:P):Loc (λs=>jV Q s dst t p q) s dst:=by
 unfold Loc jV;split
 next e k1 l k2 c h1=>
  split
  next i k z h2 h3 h4=>
   split
   ·simp only[du];cases h7:s.new (site dst) (.arr e false (List.replicate l.toNat z)) with
    |none=>exact⟨none,λm=>rfl⟩
    |some r2=>exact⟨some (r2.1.rg,_),λm=>ct m (im h7)⟩
   exact⟨none,λm=>rfl⟩
  exact⟨none,λm=>rfl⟩
 exact⟨none,λm=>rfl⟩
theorem pM(Q:Program)(s:S)(dst:Option Nat)(t:TypeId):Loc (λs=>eE Q s dst t) s dst:=by
 unfold Loc eE;split
 next kt e h1=>
  simp only[du];cases h7:s.new (site dst) (.map kt (λ_=>none) 0 false) with
  |none=>exact⟨none,λm=>rfl⟩
  |some r2=>exact⟨some (r2.1.rg,_),λm=>ct m (im h7)⟩
 exact⟨none,λm=>rfl⟩
theorem pN(Q:Program)(s:S)(dst:Option Nat)(t:TypeId):Loc (λs=>eF Q s dst t) s dst:=by
 unfold Loc eF;split
 next kt e h1=>
  simp only[du];cases h7:s.new (site dst) (.aN kt []) with
  |none=>exact⟨none,λm=>rfl⟩
  |some r2=>exact⟨some (r2.1.rg,_),λm=>ct m (im h7)⟩
 exact⟨none,λm=>rfl⟩
theorem q9(Q:Program)(s:S)(dst:Option Nat)(t:TypeId)(p k x:P):Loc (λs=>dz Q s dst t p k x) s dst:=by
 unfold Loc dz;split
 next kt e n v kd h1=>
  simp only[dU];split
  ·split
   ·simp only[bC];exact⟨some (_,.bad),λm=>ct m (b7 _ _ _)⟩
   exact⟨none,λm=>rfl⟩
  exact⟨none,λm=>rfl⟩
 exact⟨none,λm=>rfl⟩
theorem xl(Q:Program)(s:S)(dst:Option Nat)(t:TypeId)(p k:P):Loc (λs=>o9 Q s dst t p k) s dst:=by
 unfold Loc o9;split
 next kt e n v kd h1=>
  simp only[dU];split
  ·split
   ·simp only[bC];exact⟨some (_,.bad),λm=>ct m (b7 _ _ _)⟩
   exact⟨none,λm=>rfl⟩
  exact⟨none,λm=>rfl⟩
 exact⟨none,λm=>rfl⟩
theorem lx(Q:Program)(s:S)(dst:Option Nat)(t:TypeId)(p k x:P):Loc (λs=>dA Q s dst t p k x) s dst:=by
 unfold Loc dA;split
 next kt e n v kd h1=>
  simp only[ma];cases h2:fW Q s e x with
  |none=>exact⟨none,λm=>rfl⟩
  |some y=>
   simp only[zam,dU];split
   ·split
    ·simp only[bC];exact⟨some (_,.bad),λm=>ct m ((b7 _ _ _).trans (pL h2))⟩
    exact⟨none,λm=>rfl⟩
   exact⟨none,λm=>rfl⟩
 exact⟨none,λm=>rfl⟩
theorem ra(Q:Program)(s:S)(dst:Option Nat)(t:TypeId)(p k:P):Loc (λs=>dB Q s dst t p k) s dst:=by
 unfold Loc dB;split
 next kt e n v kd h1=>
  split
  ·simp only[dU];split
   ·rename_i gP get c h2;split
    ·simp only[du];cases h7:s.new (site dst) .jh with
     |none=>exact⟨none,λm=>rfl⟩
     |some r2=>simp only[zam,bC];exact⟨some (_,_),λm=>ct m ((b7 _ _ _).trans (im h7))⟩
    exact⟨none,λm=>rfl⟩
   exact⟨none,λm=>rfl⟩
  exact⟨none,λm=>rfl⟩
 exact⟨none,λm=>rfl⟩
theorem sQ(Q:Program)(s:S)(dst:Option Nat)(p st x:P):Loc (λs=>gX Q s dst p st x) s dst:=by
 unfold Loc gX;split
 ·simp only[sO];cases h2:qj Q s x with
  |none=>exact⟨none,λm=>rfl⟩
  |some y=>
   simp only[zam,dU];split
   ·split
    ·simp only[bC];exact⟨some (_,.bad),λm=>ct m ((b7 _ _ _).trans (An h2))⟩
    exact⟨none,λm=>rfl⟩
   exact⟨none,λm=>rfl⟩
 exact⟨none,λm=>rfl⟩
theorem sR(Q:Program)(s:S)(dst:Option Nat)(t:TypeId)(p:P):Loc (λs=>jx Q s dst t p) s dst:=by
 unfold Loc jx;split
 next kt vt n v h1=>
  simp only[dU];split
  next gP get c fz h2=>
   split
   ·simp only[bC,du];cases h7:(s.setObj n (.map kt get c true)).new (site dst) (.iter kt vt get none) with
    |none=>exact⟨none,λm=>rfl⟩
    |some r2=>exact⟨some (r2.1.rg,_),λm=>ct m ((im h7).trans (b7 _ _ _))⟩
   exact⟨none,λm=>rfl⟩
  exact⟨none,λm=>rfl⟩
 next kt vt h1=>
  simp only[du];cases h7:s.new (site dst) (.iter kt vt (λ_=>none) none) with
  |none=>exact⟨none,λm=>rfl⟩
  |some r2=>exact⟨some (r2.1.rg,_),λm=>ct m (im h7)⟩
 exact⟨none,λm=>rfl⟩
theorem ly(Q:Program)(t:TypeId)(k:Nat)(m:List (Nat×P)): ∀(ps:List (Nat×P)) (s:S) (es:List D),bd Q t k (s.wt m) es ps=(bd Q t k s es ps).map λx=>(x.1.wt m,x.2)
 | [],s,es=>rfl
 | (i,p)::r,s,es=>by
  simp only[bd,ma];cases h:fW Q s t p with
  |none=>rfl
  |some y=>
   simp only[zam];split
   ·exact ly Q t k m r y.1 _
   rfl
theorem mV{Q:Program}{t:TypeId}{k:Nat}: ∀(ps:List (Nat×P)) (s s':S) (es es':List D),bd Q t k s es ps=some (s',es')->s'.n=s.n
 | [],s,s',es,es',h=>by simp[bd] at h;rw[h.1]
 | (i,p)::r,s,s',es,es',h=>by
  simp only[bd] at h;split at h
  next s1 x h1=>
   split at h
   ·rw[mV r s1 s' _ es' h,pL h1]
   cases h
  cases h
theorem sS(Q:Program)(s:S)(dst:Option Nat)(t:TypeId)(len:Nat)(parts:List (Nat×P)):Loc (λs=>jv Q s dst t len parts) s dst:=by
 unfold Loc jv;split
 next e h1=>
  split
  next i k z h2 h3 h4=>
   split
   ·simp only[ly];cases h5:bd Q e (k+1) s (List.replicate len z) parts with
    |none=>exact⟨none,λm=>rfl⟩
    |some r=>
     simp only[zam,du];cases h7:r.1.new (site dst) (.arr e false r.2) with
     |none=>exact⟨none,λm=>rfl⟩
     |some r2=>exact⟨some (r2.1.rg,_),λm=>ct m (by rw[im h7,mV _ _ _ _ _ h5])⟩
   exact⟨none,λm=>rfl⟩
  exact⟨none,λm=>rfl⟩
 exact⟨none,λm=>rfl⟩
theorem sT(Q:Program)(s:S)(dst:Option Nat)(t:TypeId)(p:P):Loc (λs=>fX Q s dst t p) s dst:=by
 unfold Loc fX;split
 ·simp only[dU,bC];split
  ·split
   ·exact⟨some (_,_),λm=>ct m (b7 _ _ _)⟩
   exact⟨none,λm=>rfl⟩
  exact⟨none,λm=>rfl⟩
 exact⟨none,λm=>rfl⟩
theorem uX(Q:Program)(s:S)(dst:Option Nat)(t t2:TypeId)(p q:P):Loc (λs=>jW Q s dst t t2 p q) s dst:=by
 unfold Loc jW;split
 ·split
  ·simp only[pJ,dU,bC];split
   ·split
    ·exact⟨some (_,_),λm=>ct m (b7 _ _ _)⟩
    exact⟨none,λm=>rfl⟩
   exact⟨none,λm=>rfl⟩
  exact⟨none,λm=>rfl⟩
 exact⟨none,λm=>rfl⟩
structure Alike(s s2:S)(xs:List Operand):Prop where
 n:s2.n=s.n
 rg:s2.rg=s.rg
 ev: ∀x∈xs,s2.ev x=s.ev x
theorem Alike.wt{s s2:S}{xs:List Operand}(h:Alike s s2 xs):s2=s.wt s2.tm:=by
 cases s2 with
 |mk n tm rg=>have h1:=h.n;have h2:=h.rg;simp only at h1 h2;subst h1 h2;rfl
theorem Alike.eg{s s2:S}{xs:List Operand}(h:Alike s s2 xs){x:Operand}(hx:x∈xs)(g:Option (Nat×Bool)):s2.eg g x=s.eg g x:=by unfold S.eg;rw[h.ev x hx]
theorem Alike.Eo{s s2:S}{xs:List Operand}(h:Alike s s2 xs){ys:List Operand}(hy: ∀y∈ys,y∈xs)(g:Option (Nat×Bool)):ys.map (s2.eg g)=ys.map (s.eg g):=
 za0 λy Fy=>h.eg (hy y Fy) g
theorem fK{f:S->Option S}{s s2:S}{xs:List Operand}{dst:Option Nat}(h:Alike s s2 xs)(hl:Loc f s dst): ∃c,f s=fin s dst c/\f s2=fin s2 dst c:=by
 obtain⟨c,hc⟩:=hl;refine⟨c,?_,?_⟩
 ·exact hc s.tm
 have e:=h.wt;rw[e];exact hc s2.tm
theorem mW{Q:Program}{s s2:S}{o:Oper}(h:Alike s s2 o.op.operands.toList)(g:Option (Nat×Bool)):pv Q s2 o g=pv Q s o g:=by
 have hs:=h.wt;have mem: ∀{x:Operand},x∈o.op.operands->x∈o.op.operands.toList:=λhx=>by simpa using hx
 unfold pv;split
 next x ho=>rw[h.eg (by simp[ho,Op.operands])]
 next x ho=>rw[h.eg (by simp[ho,Op.operands])]
 next c x y ho=>rw[h.eg (x:=c) (by simp[ho,Op.operands]),h.eg (x:=x) (by simp[ho,Op.operands]),h.eg (x:=y) (by simp[ho,Op.operands])]
 next x ho=>rw[h.eg (by simp[ho,Op.operands]),hs];rfl
 next op t x y yt ho=>rw[h.eg (x:=x) (by simp[ho,Op.operands]),h.eg (x:=y) (by simp[ho,Op.operands]),hs];rfl
 next op t x ho=>rw[h.eg (by simp[ho,Op.operands])]
 next t1 t2 x ho=>rw[h.eg (by simp[ho,Op.operands])]
 next t x ho=>rw[h.eg (by simp[ho,Op.operands]),hs];rfl
 next t x f ho=>rw[h.eg (by simp[ho,Op.operands]),hs];rfl
 next t x i ho=>rw[h.eg (x:=x) (by simp[ho,Op.operands]),h.eg (x:=i) (by simp[ho,Op.operands]),hs];rfl
 next t x i ho=>rw[h.eg (x:=x) (by simp[ho,Op.operands]),h.eg (x:=i) (by simp[ho,Op.operands])]
 next t x f ho=>rw[h.eg (by simp[ho,Op.operands])]
 next x i ho=>rw[h.eg (by simp[ho,Op.operands])]
 next t x i ok ho=>rw[h.eg (x:=x) (by simp[ho,Op.operands]),h.eg (x:=i) (by simp[ho,Op.operands]),hs];rfl
 next x ho=>
  have e5: ∀p,gV s2 p=gV s p:=λp=>by rw[hs];rfl
  rw[e5,h.eg (by simp[ho,Op.operands])]
 next t x lo hi ho=>
  have e5: ∀p l h',fj Q s2 t p l h'=fj Q s t p l h':=λp l h'=>by rw[hs];rfl
  rw[e5,h.eg (x:=x) (by simp[ho,Op.operands])];cases lo with
  |none=>cases hi with
   |none=>rfl
   |some u=>simp only[zam];rw[h.eg (x:=u) (by simp[ho,Op.operands])];rfl
  |some l=>cases hi with
   |none=>simp only[zam];rw[h.eg (x:=l) (by simp[ho,Op.operands])];rfl
   |some u=>simp only[zam];rw[h.eg (x:=l) (by simp[ho,Op.operands]),h.eg (x:=u) (by simp[ho,Op.operands])]
 next t parts ho=>
  have e:parts.toList.map (λx=>s2.eg g x.2)=parts.toList.map (λx=>s.eg g x.2):=za0 λx hx=>h.eg (by simp only[ho,Op.operands];exact zba (f:=λx:Nat×Operand=>x.2) hx) g;have e2:parts.toList.map (λx=>(x.1,s2.eg g x.2))=parts.toList.map (λx=>(x.1,s.eg g x.2)):=za0 λx hx=>by rw[h.eg (x:=x.2) (by simp only[ho,Op.operands];exact zba (f:=λx:Nat×Operand=>x.2) hx) g]
  rw[e,e2]
 next f first cl ho=>
  have e:cl.toList.map (s2.eg g)=cl.toList.map (s.eg g):=h.Eo (λy hy=>by simp only[ho,Op.operands];simp at hy;simp[hy]) g;rw[e]
 next c ho=>
  have hm: ∀y∈c.args.toList,y∈o.op.operands.toList:=λy hy=>by simp only[ho,Op.operands,Call.operands];simp at hy;simp[hy]
  split
  ·split
   ·rename_i x bq;rw[h.eg (x:=x) (hm x (by rw[bq];simp))];have e5: ∀p,qy s2 p=qy s p:=λp=>by rw[hs];rfl
    have e6: ∀p,qz s2 p=qz s p:=λp=>by rw[hs];rfl
    rw[e5,e6]
   rfl
  ·rw[h.Eo hm]
  ·rw[h.Eo hm]
  rfl
 rfl
end Pi
