/- The text PiLoc. -/
import Derived.Test.YtfelfooeclnbiaaPiRegion
namespace Pi
open Go
def S.wt(s:S)(m:List (Nat×P)):S:=⟨s.n,m,s.rg⟩
theorem dM(s:S)(m:List (Nat×P))(n v:Nat):(s.wt m).obj n v=s.obj n v:=rfl
theorem dm(s:S)(m:List (Nat×P))(n:Nat)(o:Obj):(s.wt m).new n o=(s.new n o).map λx=>(x.1.wt m,x.2):=by
 unfold S.new S.wt;simp only;split
 ·rfl
 split
 ·rfl
 split<;>rfl
theorem br(s:S)(m:List (Nat×P))(n:Nat)(o:Obj):(s.wt m).setObj n o=(s.setObj n o).wt m:=by unfold S.setObj S.wt;simp only;split<;>rfl
theorem sA(s:S)(m:List (Nat×P))(n:Nat)(p:P)(t:Option TypeId):ji (s.wt m) n p t=(ji s n p t).map λx=>(x.1.wt m,x.2):=by
 unfold ji;split
 ·rw[dm];cases s.new n _<;>rfl
 rfl
theorem eR(m:List (Nat×P)): ∀(ps:List P) (ts:List (Option TypeId)) (n:Nat) (s:S),aR (s.wt m) n ps ts=(aR s n ps ts).map λx=>(x.1.wt m,x.2)
 | [],_,_,_=>rfl
 |p::ps,ts,n,s=>by
  simp only[aR];rw[sA];cases h:ji s n p (ts.headD none) with
  |none=>rfl
  |some r=>simp only[zan];rw[eR m ps ts.tail (n+1) r.1];cases aR r.1 (n+1) ps ts.tail<;>rfl
theorem lu(Q:Program)(s:S)(m:List (Nat×P))(p:P):gw Q (s.wt m) p=(gw Q s p).map λx=>(x.1.wt m,x.2):=by
 unfold gw;split
 ·rfl
 ·rw[dM];split
  ·split
   ·rw[br];rfl
   rfl
  rfl
 ·rw[dM];split
  ·split
   ·split
    ·rw[br];rfl
    rfl
   rfl
  rfl
 rfl
theorem sB(Q:Program)(m:List (Nat×P)): ∀(ps:List P) (s:S),ib Q (s.wt m) ps=(ib Q s ps).map λx=>(x.1.wt m,x.2)
 | [],_=>rfl
 |p::ps,s=>by
  simp only[ib];rw[lu];cases h:gw Q s p with
  |none=>rfl
  |some r=>simp only[zan];rw[sB Q m ps r.1];cases ib Q r.1 ps<;>rfl
theorem ru(Q:Program)(s:S)(m:List (Nat×P))(p:P):pe Q (s.wt m) p=(pe Q s p).map λx=>(x.1.wt m,x.2):=by
 unfold pe;split
 ·rw[sB];cases ib Q s _<;>rfl
 exact lu Q s m p
theorem lv(Q:Program)(s:S)(t:TypeId)(m:List (Nat×P))(p:P):fE Q (s.wt m) t p=(fE Q s t p).map λx=>(x.1.wt m,x.2):=by
 unfold fE;split
 ·exact ru Q s m p
 rw[ru];cases pe Q s p with
 |none=>rfl
 |some r=>simp only[zan,D.force_eq]
theorem tD(Q:Program)(s:S)(t:TypeId)(m:List (Nat×P))(p:P):ek Q (s.wt m) t p=(ek Q s t p).map λx=>(x.1.wt m,x.2):=by
 unfold ek;split
 ·split
  ·rw[lv];cases fE Q s t _<;>rfl
  rfl
 ·split
  ·simp only[D.force_eq];rfl
  rfl
 rfl
theorem tE(Q:Program)(s:S)(t:TypeId)(m:List (Nat×P))(p:P):gy Q (s.wt m) t p=(gy Q s t p).map λx=>(x.1.wt m,x.2):=by
 unfold gy;split
 ·rw[lu];cases gw Q s _<;>rfl
 ·rw[lu];cases gw Q s _<;>rfl
 exact tD Q s t m _
theorem l0(Q:Program)(m:List (Nat×P)): ∀(ps:List P) (ts:List TypeId) (s:S),bN Q (s.wt m) ts ps=(bN Q s ts ps).map λx=>(x.1.wt m,x.2)
 | [],_,_=>rfl
 |p::ps,ts,s=>by
  simp only[bN];rw[tE];cases h:gy Q s (ts.headD 0) p with
  |none=>rfl
  |some r=>simp only[zan];rw[l0 Q m ps ts.tail r.1];cases bN Q r.1 ts.tail ps<;>rfl
theorem kA(Q:Program)(m:List (Nat×P))(f:FuncId)(ps:List P)(s:S):bd Q (s.wt m) f ps=(bd Q s f ps).map λx=>(x.1.wt m,x.2):=by
 unfold bd;split
 ·rfl
 exact l0 Q m ps _ s
theorem nK(Q:Program)(s:S)(m:List (Nat×P))(t:TypeId)(p q:P):cC Q (s.wt m) t p q=(cC Q s t p q).map λx=>x.wt m:=by
 unfold cC;split
 ·rfl
 split
 ·rw[sA];cases ji s _ q _ with
  |none=>rfl
  |some r=>
   simp only[zan,dM];split
   ·split
    ·rw[br];rfl
    rfl
   rfl
 ·rw[lv];cases fE Q s t q with
  |none=>rfl
  |some r=>
   simp only[zan,dM];split
   ·split
    ·split
     ·rw[br];rfl
     rfl
    rfl
   rfl
 rfl
theorem oJ(Q:Program)(s:S)(m:List (Nat×P))(t2:TypeId)(k:Nat)(p:P):eW Q (s.wt m) t2 k p=eW Q s t2 k p:=rfl
def fin(s:S)(dst:Option Nat)(c:Option (List (Nat×En)×P)):Option S:=
 match c with
 |some (R,p)=>(⟨s.n,s.tm,R⟩:S).put dst p
 |none=>none
def Loc(f:S->Option S)(s:S)(dst:Option Nat):Prop:= ∃c,∀m,f (s.wt m)=fin (s.wt m) dst c
theorem b9{s s1:S}{dst:Option Nat}{p:P}(m:List (Nat×P))(hn:s1.n=s.n):(s1.wt m).put dst p=fin (s.wt m) dst (some (s1.rg,p)):=by unfold fin S.wt;rw[hn]
theorem gP{s:S}{n v:Nat}{o:Obj}{s':S}(h:s.new n o=some (s',v)):s'.n=s.n:=by obtain⟨rfl,_⟩:=S.eD h;rfl
theorem bP(s:S)(n:Nat)(o:Obj):(s.setObj n o).n=s.n:=by unfold S.setObj;split<;>rfl
theorem vO{s:S}{n:Nat}{p q:P}{t:Option TypeId}{s':S}(h:ji s n p t=some (s',q)):s'.n=s.n:=by
 unfold ji at h;split at h
 ·split at h
  next hn=>simp at h;rw[<-h.1];exact gP hn
  cases h
 simp at h;rw[<-h.1]
theorem l3: ∀(ps:List P) (ts:List (Option TypeId)) (n:Nat) (s s':S) (qs:List P),aR s n ps ts=some (s',qs)->s'.n=s.n
 | [],_,_,s,s',qs,h=>by simp[aR] at h;rw[<-h.1]
 |p::ps,ts,n,s,s',qs,h=>by
  simp only[aR] at h;split at h
  ·cases h
  rename_i s1 q h1;split at h
  next s2 yJ h2=>simp at h;rw[<-h.1,l3 ps _ _ _ _ _ h2,vO h1]
  cases h
theorem oK{Q:Program}{s s':S}{p:P}{x:D}(h:gw Q s p=some (s',x)):s'.n=s.n:=by
 unfold gw at h;split at h
 ·simp at h;rw[<-h.1]
 ·split at h
  ·split at h
   ·simp at h;rw[<-h.1];exact bP _ _ _
   cases h
  cases h
 ·split at h
  ·split at h
   ·split at h
    ·simp at h;rw[<-h.1];exact bP _ _ _
    cases h
   cases h
  cases h
 cases h
theorem vP{Q:Program}: ∀(ps:List P) (s s':S) (xs:List D),ib Q s ps=some (s',xs)->s'.n=s.n
 | [],s,s',xs,h=>by simp[ib] at h;rw[<-h.1]
 |p::ps,s,s',xs,h=>by
  simp only[ib] at h;split at h
  ·cases h
  rename_i s1 x h1;split at h
  next s2 yy h2=>simp at h;rw[<-h.1,vP ps _ _ _ h2,oK h1]
  cases h
theorem yh{Q:Program}{s s':S}{p:P}{x:D}(h:pe Q s p=some (s',x)):s'.n=s.n:=by
 unfold pe at h;split at h
 ·split at h
  next h1=>simp at h;rw[<-h.1];exact vP _ _ _ _ h1
  cases h
 exact oK h
theorem oL{Q:Program}{s s':S}{t:TypeId}{p:P}{x:D}(h:fE Q s t p=some (s',x)):s'.n=s.n:=by obtain⟨y,h1,_⟩:=jT h;exact yh h1
theorem vQ{Q:Program}{s s':S}{t:TypeId}{p q:P}(h:ek Q s t p=some (s',q)):s'.n=s.n:=by
 unfold ek at h;split at h
 ·split at h
  ·split at h
   next hf=>simp at h;rw[<-h.1];exact oL hf
   cases h
  simp at h;rw[<-h.1]
 ·split at h
  ·rw[D.force_eq] at h;simp at h;rw[<-h.1]
  simp at h;rw[<-h.1]
 simp at h;rw[<-h.1]
theorem nL{Q:Program}: ∀(ps:List P) (ts:List TypeId) (s s':S) (xs:List P),bN Q s ts ps=some (s',xs)->s'.n=s.n
 | [],ts,s,s',xs,h=>by simp[bN] at h;rw[<-h.1]
 |p::ps,ts,s,s',xs,h=>by
  simp only[bN] at h;split at h
  ·cases h
  rename_i s1 x h1;have e1:s1.n=s.n:=by
   unfold gy at h1;split at h1
   ·split at h1
    next hf=>simp at h1;rw[<-h1.1];exact oK hf
    cases h1
   ·split at h1
    next hf=>simp at h1;rw[<-h1.1];exact oK hf
    cases h1
   exact vQ h1
  split at h
  next s2 yy h2=>simp at h;rw[<-h.1,nL ps _ _ _ _ h2,e1]
  cases h
theorem vR{Q:Program}{s s':S}{t:TypeId}{p q:P}(h:cC Q s t p q=some s'):s'.n=s.n:=by
 unfold cC at h;split at h
 ·cases h
 split at h
 ·split at h
  next h1=>
   split at h
   ·split at h
    ·simp at h;rw[<-h,bP,vO h1]
    cases h
   cases h
  cases h
 ·split at h
  next h1=>
   split at h
   ·split at h
    ·split at h
     ·simp only[zae] at h;rw[<-h,bP,oL h1]
     cases h
    cases h
   cases h
  cases h
 cases h
theorem rv{Q:Program}{f:FuncId}(ps:List P)(s s':S)(xs:List P)(h:bd Q s f ps=some (s',xs)):s'.n=s.n:=by
 unfold bd at h;split at h
 ·simp only[zae,zaQ] at h;rw[h.1]
 exact nL ps _ s s' xs h
theorem l4(Q:Program)(s:S)(dst:Option Nat)(t:TypeId)(ps:List P):Loc (λs=>fD Q s dst t ps) s dst:=by
 unfold fD;cases h:aR s (site dst*1000) ps (hI Q 20 t) with
 |none=>exact⟨none,λm=>by simp only[eR,h];rfl⟩
 |some r=>
  cases h2:r.1.new (site dst) (.box t r.2) with
  |none=>exact⟨none,λm=>by simp only[eR,h,zan,dm,h2];rfl⟩
  |some r2=>exact⟨some (r2.1.rg,.ref (site dst) r2.2 0),λm=>by simp only[eR,h,zan,dm,h2];exact b9 m (by rw[gP h2,l3 _ _ _ _ _ _ h])⟩
theorem pY(Q:Program)(s:S)(dst:Option Nat)(t t2:TypeId)(p q:P):Loc (λs=>dt Q s dst t t2 p q) s dst:=by
 unfold Loc dt;cases h1:aX Q t with
 |none=>exact⟨none,λm=>rfl⟩
 |some e=>
  simp only[];cases h2:Q.info? e with
  |none=>exact⟨none,λm=>rfl⟩
  |some i=>
   cases h3:sz Q e with
   |none=>exact⟨none,λm=>rfl⟩
   |some k=>
    cases k with
    |zero=>exact⟨none,λm=>rfl⟩
    |succ k=>
     simp only[oJ];cases h4:eW Q s t2 (k+1) q with
     |none=>exact⟨none,λm=>rfl⟩
     |some ys=>
      cases h5:bK Q e with
      |none=>exact⟨none,λm=>rfl⟩
      |some z=>
       simp only[];cases h6:Nat.beq z.cells.length (k+1) with
       |false=>exact⟨none,λm=>rfl⟩
       |true=>
        simp only[zaR];cases p with
        |sl n v len=>
         have e0: ∀m,(s.wt m).rg=s.rg:=λ_=>rfl;simp only[e0];cases h7:lk s.rg n with
         |none=>exact⟨none,λm=>rfl⟩
         |some en=>
          simp only[];cases h8:en.obj with
          |arr ty fz es=>
           cases fz with
           |true=>exact⟨none,λm=>rfl⟩
           |false=>
            simp only[];split
            ·exact⟨some (_,_),λm=>rfl⟩
            exact⟨none,λm=>rfl⟩
          |_=>exact⟨none,λm=>rfl⟩
        |d x=>
         cases x with
         |cV=>
          simp only[dm];split
          ·cases h7:s.new (site dst) (.arr e false ys) with
           |none=>exact⟨none,λm=>rfl⟩
           |some r2=>exact⟨some (r2.1.rg,_),λm=>b9 m (gP h7)⟩
          exact⟨none,λm=>rfl⟩
         |_=>exact⟨none,λm=>rfl⟩
        |_=>exact⟨none,λm=>rfl⟩
theorem tF(Q:Program)(s:S)(dst:Option Nat)(t:TypeId)(p q:P):Loc (λs=>jj Q s dst t p q) s dst:=by
 unfold Loc jj;split
 next e k1 l k2 c h1=>
  split
  next i k z h2 h3 h4=>
   split
   ·simp only[dm];cases h7:s.new (site dst) (.arr e false (List.replicate l.toNat z)) with
    |none=>exact⟨none,λm=>rfl⟩
    |some r2=>exact⟨some (r2.1.rg,_),λm=>b9 m (gP h7)⟩
   exact⟨none,λm=>rfl⟩
  exact⟨none,λm=>rfl⟩
 exact⟨none,λm=>rfl⟩
theorem oM(Q:Program)(s:S)(dst:Option Nat)(t:TypeId):Loc (λs=>ec Q s dst t) s dst:=by
 unfold Loc ec;split
 next kt e h1=>
  simp only[dm];cases h7:s.new (site dst) (.map kt (λ_=>none) 0 false) with
  |none=>exact⟨none,λm=>rfl⟩
  |some r2=>exact⟨some (r2.1.rg,_),λm=>b9 m (gP h7)⟩
 exact⟨none,λm=>rfl⟩
theorem oN(Q:Program)(s:S)(dst:Option Nat)(t:TypeId):Loc (λs=>ei Q s dst t) s dst:=by
 unfold Loc ei;split
 next kt e h1=>
  simp only[dm];cases h7:s.new (site dst) (.cb kt []) with
  |none=>exact⟨none,λm=>rfl⟩
  |some r2=>exact⟨some (r2.1.rg,_),λm=>b9 m (gP h7)⟩
 exact⟨none,λm=>rfl⟩
theorem pZ(Q:Program)(s:S)(dst:Option Nat)(t:TypeId)(p k x:P):Loc (λs=>du Q s dst t p k x) s dst:=by
 unfold Loc du;split
 next kt e n v kd h1=>
  simp only[dM];split
  ·split
   ·simp only[br];exact⟨some (_,.bad),λm=>b9 m (bP _ _ _)⟩
   exact⟨none,λm=>rfl⟩
  exact⟨none,λm=>rfl⟩
 exact⟨none,λm=>rfl⟩
theorem vS(Q:Program)(s:S)(dst:Option Nat)(t:TypeId)(p k:P):Loc (λs=>n5 Q s dst t p k) s dst:=by
 unfold Loc n5;split
 next kt e n v kd h1=>
  simp only[dM];split
  ·split
   ·simp only[br];exact⟨some (_,.bad),λm=>b9 m (bP _ _ _)⟩
   exact⟨none,λm=>rfl⟩
  exact⟨none,λm=>rfl⟩
 exact⟨none,λm=>rfl⟩
theorem kB(Q:Program)(s:S)(dst:Option Nat)(t:TypeId)(p k x:P):Loc (λs=>dv Q s dst t p k x) s dst:=by
 unfold Loc dv;split
 next kt e n v kd h1=>
  simp only[lv];cases h2:fE Q s e x with
  |none=>exact⟨none,λm=>rfl⟩
  |some y=>
   simp only[zan,dM];split
   ·split
    ·simp only[br];exact⟨some (_,.bad),λm=>b9 m ((bP _ _ _).trans (oL h2))⟩
    exact⟨none,λm=>rfl⟩
   exact⟨none,λm=>rfl⟩
 exact⟨none,λm=>rfl⟩
theorem p3(Q:Program)(s:S)(dst:Option Nat)(t:TypeId)(p k:P):Loc (λs=>dw Q s dst t p k) s dst:=by
 unfold Loc dw;split
 next kt e n v kd h1=>
  split
  ·simp only[dM];split
   ·rename_i gn get c h2;split
    ·simp only[dm];cases h7:s.new (site dst) .iq with
     |none=>exact⟨none,λm=>rfl⟩
     |some r2=>simp only[zan,br];exact⟨some (_,_),λm=>b9 m ((bP _ _ _).trans (gP h7))⟩
    exact⟨none,λm=>rfl⟩
   exact⟨none,λm=>rfl⟩
  exact⟨none,λm=>rfl⟩
 exact⟨none,λm=>rfl⟩
theorem ry(Q:Program)(s:S)(dst:Option Nat)(p st x:P):Loc (λs=>gx Q s dst p st x) s dst:=by
 unfold Loc gx;split
 ·simp only[ru];cases h2:pe Q s x with
  |none=>exact⟨none,λm=>rfl⟩
  |some y=>
   simp only[zan,dM];split
   ·split
    ·simp only[br];exact⟨some (_,.bad),λm=>b9 m ((bP _ _ _).trans (yh h2))⟩
    exact⟨none,λm=>rfl⟩
   exact⟨none,λm=>rfl⟩
 exact⟨none,λm=>rfl⟩
theorem rz(Q:Program)(s:S)(dst:Option Nat)(t:TypeId)(p:P):Loc (λs=>iK Q s dst t p) s dst:=by
 unfold Loc iK;split
 next kt vt n v h1=>
  simp only[dM];split
  next gn get c fz h2=>
   split
   ·simp only[br,dm];cases h7:(s.setObj n (.map kt get c true)).new (site dst) (.iter kt vt get none) with
    |none=>exact⟨none,λm=>rfl⟩
    |some r2=>exact⟨some (r2.1.rg,_),λm=>b9 m ((gP h7).trans (bP _ _ _))⟩
   exact⟨none,λm=>rfl⟩
  exact⟨none,λm=>rfl⟩
 next kt vt h1=>
  simp only[dm];cases h7:s.new (site dst) (.iter kt vt (λ_=>none) none) with
  |none=>exact⟨none,λm=>rfl⟩
  |some r2=>exact⟨some (r2.1.rg,_),λm=>b9 m (gP h7)⟩
 exact⟨none,λm=>rfl⟩
theorem kC(Q:Program)(t:TypeId)(k:Nat)(m:List (Nat×P)): ∀(ps:List (Nat×P)) (s:S) (es:List D),aY Q t k (s.wt m) es ps=(aY Q t k s es ps).map λx=>(x.1.wt m,x.2)
 | [],s,es=>rfl
 | (i,p)::r,s,es=>by
  simp only[aY,lv];cases h:fE Q s t p with
  |none=>rfl
  |some y=>
   simp only[zan];split
   ·exact kC Q t k m r y.1 _
   rfl
theorem l5{Q:Program}{t:TypeId}{k:Nat}: ∀(ps:List (Nat×P)) (s s':S) (es es':List D),aY Q t k s es ps=some (s',es')->s'.n=s.n
 | [],s,s',es,es',h=>by simp[aY] at h;rw[h.1]
 | (i,p)::r,s,s',es,es',h=>by
  simp only[aY] at h;split at h
  next s1 x h1=>
   split at h
   ·rw[l5 r s1 s' _ es' h,oL h1]
   cases h
  cases h
theorem rA(Q:Program)(s:S)(dst:Option Nat)(t:TypeId)(len:Nat)(parts:List (Nat×P)):Loc (λs=>iJ Q s dst t len parts) s dst:=by
 unfold Loc iJ;split
 next e h1=>
  split
  next i k z h2 h3 h4=>
   split
   ·simp only[kC];cases h5:aY Q e (k+1) s (List.replicate len z) parts with
    |none=>exact⟨none,λm=>rfl⟩
    |some r=>
     simp only[zan,dm];cases h7:r.1.new (site dst) (.arr e false r.2) with
     |none=>exact⟨none,λm=>rfl⟩
     |some r2=>exact⟨some (r2.1.rg,_),λm=>b9 m (by rw[gP h7,l5 _ _ _ _ _ h5])⟩
   exact⟨none,λm=>rfl⟩
  exact⟨none,λm=>rfl⟩
 exact⟨none,λm=>rfl⟩
theorem rB(Q:Program)(s:S)(dst:Option Nat)(t:TypeId)(p:P):Loc (λs=>fF Q s dst t p) s dst:=by
 unfold Loc fF;split
 ·simp only[dM,br];split
  ·split
   ·exact⟨some (_,_),λm=>b9 m (bP _ _ _)⟩
   exact⟨none,λm=>rfl⟩
  exact⟨none,λm=>rfl⟩
 exact⟨none,λm=>rfl⟩
theorem tG(Q:Program)(s:S)(dst:Option Nat)(t t2:TypeId)(p q:P):Loc (λs=>jk Q s dst t t2 p q) s dst:=by
 unfold Loc jk;split
 ·split
  ·simp only[oJ,dM,br];split
   ·split
    ·exact⟨some (_,_),λm=>b9 m (bP _ _ _)⟩
    exact⟨none,λm=>rfl⟩
   exact⟨none,λm=>rfl⟩
  exact⟨none,λm=>rfl⟩
 exact⟨none,λm=>rfl⟩
structure Alike(s s2:S)(xs:List Operand):Prop where
 n:s2.n=s.n
 rg:s2.rg=s.rg
 ev: ∀x∈xs,s2.ev x=s.ev x
theorem Alike.wt{s s2:S}{xs:List Operand}(h:Alike s s2 xs):s2=s.wt s2.tm:=by
 cases s2 with
 |mk n tm rg=>have h1:=h.n;have h2:=h.rg;simp only at h1 h2;subst h1 h2;rfl
theorem Alike.eg{s s2:S}{xs:List Operand}(h:Alike s s2 xs){x:Operand}(hx:x∈xs)(g:Option (Nat×Bool)):s2.eg g x=s.eg g x:=by unfold S.eg;rw[h.ev x hx]
theorem Alike.Bu{s s2:S}{xs:List Operand}(h:Alike s s2 xs){ys:List Operand}(hy: ∀y∈ys,y∈xs)(g:Option (Nat×Bool)):ys.map (s2.eg g)=ys.map (s.eg g):=
 za1 λy Cc=>h.eg (hy y Cc) g
theorem fu{f:S->Option S}{s s2:S}{xs:List Operand}{dst:Option Nat}(h:Alike s s2 xs)(hl:Loc f s dst): ∃c,f s=fin s dst c/\f s2=fin s2 dst c:=by
 obtain⟨c,hc⟩:=hl;refine⟨c,?_,?_⟩
 ·exact hc s.tm
 have e:=h.wt;rw[e];exact hc s2.tm
theorem l6{Q:Program}{s s2:S}{o:Oper}(h:Alike s s2 o.op.operands.toList)(g:Option (Nat×Bool)):pv Q s2 o g=pv Q s o g:=by
 have hs:=h.wt;have mem: ∀{x:Operand},x∈o.op.operands->x∈o.op.operands.toList:=λhx=>by simpa using hx
 unfold pv;split
 next x ho=>rw[h.eg (by simp[ho,Op.operands])]
 next x ho=>rw[h.eg (by simp[ho,Op.operands])]
 next c x y ho=>rw[h.eg (x:=c) (by simp[ho,Op.operands]),h.eg (x:=x) (by simp[ho,Op.operands]),h.eg (x:=y) (by simp[ho,Op.operands])]
 next x ho=>rw[h.eg (by simp[ho,Op.operands]),hs];rfl
 next op t x y yt ho=>rw[h.eg (x:=x) (by simp[ho,Op.operands]),h.eg (x:=y) (by simp[ho,Op.operands]),hs];rfl
 next op t x ho=>rw[h.eg (by simp[ho,Op.operands])]
 next t1 t2 x ho=>rw[h.eg (by simp[ho,Op.operands])]
 next t x ho=>rw[h.eg (by simp[ho,Op.operands]),hs];rfl
 next t x f ho=>rw[h.eg (by simp[ho,Op.operands]),hs];rfl
 next t x i ho=>rw[h.eg (x:=x) (by simp[ho,Op.operands]),h.eg (x:=i) (by simp[ho,Op.operands]),hs];rfl
 next t x i ho=>rw[h.eg (x:=x) (by simp[ho,Op.operands]),h.eg (x:=i) (by simp[ho,Op.operands])]
 next t x f ho=>rw[h.eg (by simp[ho,Op.operands])]
 next x i ho=>rw[h.eg (by simp[ho,Op.operands])]
 next t x i ok ho=>rw[h.eg (x:=x) (by simp[ho,Op.operands]),h.eg (x:=i) (by simp[ho,Op.operands]),hs];rfl
 next x ho=>
  have e5: ∀p,gv s2 p=gv s p:=λp=>by rw[hs];rfl
  rw[e5,h.eg (by simp[ho,Op.operands])]
 next t x lo hi ho=>
  have e5: ∀p l h',eV Q s2 t p l h'=eV Q s t p l h':=λp l h'=>by rw[hs];rfl
  rw[e5,h.eg (x:=x) (by simp[ho,Op.operands])];cases lo with
  |none=>cases hi with
   |none=>rfl
   |some u=>simp only[zan];rw[h.eg (x:=u) (by simp[ho,Op.operands])];rfl
  |some l=>cases hi with
   |none=>simp only[zan];rw[h.eg (x:=l) (by simp[ho,Op.operands])];rfl
   |some u=>simp only[zan];rw[h.eg (x:=l) (by simp[ho,Op.operands]),h.eg (x:=u) (by simp[ho,Op.operands])]
 next t parts ho=>
  have e:parts.toList.map (λx=>s2.eg g x.2)=parts.toList.map (λx=>s.eg g x.2):=za1 λx hx=>h.eg (by simp only[ho,Op.operands];exact zba (f:=λx:Nat×Operand=>x.2) hx) g;have e2:parts.toList.map (λx=>(x.1,s2.eg g x.2))=parts.toList.map (λx=>(x.1,s.eg g x.2)):=za1 λx hx=>by rw[h.eg (x:=x.2) (by simp only[ho,Op.operands];exact zba (f:=λx:Nat×Operand=>x.2) hx) g]
  rw[e,e2]
 next f first bV ho=>
  have e:bV.toList.map (s2.eg g)=bV.toList.map (s.eg g):=h.Bu (λy hy=>by simp only[ho,Op.operands];simp at hy;simp[hy]) g;rw[e]
 next c ho=>
  have hm: ∀y∈c.args.toList,y∈o.op.operands.toList:=λy hy=>by simp only[ho,Op.operands,Call.operands];simp at hy;simp[hy]
  split
  ·split
   ·rename_i x bf;rw[h.eg (x:=x) (hm x (by rw[bf];simp))];have e5: ∀p,pk s2 p=pk s p:=λp=>by rw[hs];rfl
    have e6: ∀p,pn s2 p=pn s p:=λp=>by rw[hs];rfl
    rw[e5,e6]
   rfl
  ·rw[h.Bu hm]
  ·rw[h.Bu hm]
  rfl
 rfl
end Pi
