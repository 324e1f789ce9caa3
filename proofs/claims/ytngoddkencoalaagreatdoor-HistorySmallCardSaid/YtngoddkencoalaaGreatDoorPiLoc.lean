/- The text PiLoc. -/
import Derived.Test.YtngoddkencoalaaGreatDoorPiRegion
namespace Pi
open Go
def S.wt(s:S)(m:List (Nat×P)):S:=⟨s.n,m,s.rg⟩
theorem mK(s:S)(m:List (Nat×P))(n v:Nat):(s.wt m).obj n v=s.obj n v:=rfl
theorem j7(s:S)(m:List (Nat×P))(n:Nat)(o:Obj):(s.wt m).new n o=(s.new n o).map λx=>(x.1.wt m,x.2):=by
 unfold S.new S.wt;simp only;split
 ·rfl
 split
 ·rfl
 split<;>rfl
theorem eT(s:S)(m:List (Nat×P))(n:Nat)(o:Obj):(s.wt m).setObj n o=(s.setObj n o).wt m:=by unfold S.setObj S.wt;simp only;split<;>rfl
theorem K1(s:S)(m:List (Nat×P))(n:Nat)(p:P)(t:Option TypeId):ti (s.wt m) n p t=(ti s n p t).map λx=>(x.1.wt m,x.2):=by
 unfold ti;split
 ·rw[j7];cases s.new n _<;>rfl
 rfl
theorem ml(m:List (Nat×P)): ∀(ps:List P) (ts:List (Option TypeId)) (n:Nat) (s:S),cv (s.wt m) n ps ts=(cv s n ps ts).map λx=>(x.1.wt m,x.2)
 | [],_,_,_=>rfl
 |p::ps,ts,n,s=>by
  simp only[cv];rw[K1];cases h:ti s n p (ts.headD none) with
  |none=>rfl
  |some r=>simp only[zaL];rw[ml m ps ts.tail (n+1) r.1];cases cv r.1 (n+1) ps ts.tail<;>rfl
theorem xj(Q:Program)(s:S)(m:List (Nat×P))(p:P):pz Q (s.wt m) p=(pz Q s p).map λx=>(x.1.wt m,x.2):=by
 unfold pz;split
 ·rfl
 ·rw[mK];split
  ·split
   ·rw[eT];rfl
   rfl
  rfl
 ·rw[mK];split
  ·split
   ·split
    ·rw[eT];rfl
    rfl
   rfl
  rfl
 rfl
theorem K2(Q:Program)(m:List (Nat×P)): ∀(ps:List P) (s:S),qY Q (s.wt m) ps=(qY Q s ps).map λx=>(x.1.wt m,x.2)
 | [],_=>rfl
 |p::ps,s=>by
  simp only[qY];rw[xj];cases h:pz Q s p with
  |none=>rfl
  |some r=>simp only[zaL];rw[K2 Q m ps r.1];cases qY Q r.1 ps<;>rfl
theorem IU(Q:Program)(s:S)(m:List (Nat×P))(p:P):EB Q (s.wt m) p=(EB Q s p).map λx=>(x.1.wt m,x.2):=by
 unfold EB;split
 ·rw[K2];cases qY Q s _<;>rfl
 exact xj Q s m p
theorem xl(Q:Program)(s:S)(t:TypeId)(m:List (Nat×P))(p:P):nT Q (s.wt m) t p=(nT Q s t p).map λx=>(x.1.wt m,x.2):=by
 unfold nT;split
 ·exact IU Q s m p
 rw[IU];cases EB Q s p with
 |none=>rfl
 |some r=>simp only[zaL,D.force_eq]
theorem MZ(Q:Program)(s:S)(t:TypeId)(m:List (Nat×P))(p:P):k9 Q (s.wt m) t p=(k9 Q s t p).map λx=>(x.1.wt m,x.2):=by
 unfold k9;split
 ·split
  ·rw[xl];cases nT Q s t _<;>rfl
  rfl
 ·split
  ·simp only[D.force_eq];rfl
  rfl
 rfl
theorem M0(Q:Program)(s:S)(t:TypeId)(m:List (Nat×P))(p:P):pB Q (s.wt m) t p=(pB Q s t p).map λx=>(x.1.wt m,x.2):=by
 unfold pB;split
 ·rw[xj];cases pz Q s _<;>rfl
 ·rw[xj];cases pz Q s _<;>rfl
 exact MZ Q s t m _
theorem yl(Q:Program)(m:List (Nat×P)): ∀(ps:List P) (ts:List TypeId) (s:S),eI Q (s.wt m) ts ps=(eI Q s ts ps).map λx=>(x.1.wt m,x.2)
 | [],_,_=>rfl
 |p::ps,ts,s=>by
  simp only[eI];rw[M0];cases h:pB Q s (ts.headD 0) p with
  |none=>rfl
  |some r=>simp only[zaL];rw[yl Q m ps ts.tail r.1];cases eI Q r.1 ts.tail ps<;>rfl
theorem vV(Q:Program)(m:List (Nat×P))(f:FuncId)(ps:List P)(s:S):cV Q (s.wt m) f ps=(cV Q s f ps).map λx=>(x.1.wt m,x.2):=by
 unfold cV;split
 ·rfl
 exact yl Q m ps _ s
theorem BE(Q:Program)(s:S)(m:List (Nat×P))(t:TypeId)(p q:P):gF Q (s.wt m) t p q=(gF Q s t p q).map λx=>x.wt m:=by
 unfold gF;split
 ·rfl
 split
 ·rw[K1];cases ti s _ q _ with
  |none=>rfl
  |some r=>
   simp only[zaL,mK];split
   ·split
    ·rw[eT];rfl
    rfl
   rfl
 ·rw[xl];cases nT Q s t q with
  |none=>rfl
  |some r=>
   simp only[zaL,mK];split
   ·split
    ·split
     ·rw[eT];rfl
     rfl
    rfl
   rfl
 rfl
theorem C7(Q:Program)(s:S)(m:List (Nat×P))(t2:TypeId)(k:Nat)(p:P):mF Q (s.wt m) t2 k p=mF Q s t2 k p:=rfl
def fin(s:S)(dst:Option Nat)(c:Option (List (Nat×En)×P)):Option S:=
 match c with
 |some (R,p)=>(⟨s.n,s.tm,R⟩:S).put dst p
 |none=>none
def Loc(f:S->Option S)(s:S)(dst:Option Nat):Prop:= ∃c,∀m,f (s.wt m)=fin (s.wt m) dst c
theorem ia{s s1:S}{dst:Option Nat}{p:P}(m:List (Nat×P))(hn:s1.n=s.n):(s1.wt m).put dst p=fin (s.wt m) dst (some (s1.rg,p)):=by unfold fin S.wt;rw[hn]
theorem rK{s:S}{n v:Nat}{o:Obj}{s':S}(h:s.new n o=some (s',v)):s'.n=s.n:=by obtain⟨rfl,_⟩:=S.lz h;rfl
theorem gm(s:S)(n:Nat)(o:Obj):(s.setObj n o).n=s.n:=by unfold S.setObj;split<;>rfl
theorem QK{s:S}{n:Nat}{p q:P}{t:Option TypeId}{s':S}(h:ti s n p t=some (s',q)):s'.n=s.n:=by
 unfold ti at h;split at h
 ·split at h
  next hn=>simp at h;rw[<-h.1];exact rK hn
  cases h
 simp at h;rw[<-h.1]
theorem yn: ∀(ps:List P) (ts:List (Option TypeId)) (n:Nat) (s s':S) (qs:List P),cv s n ps ts=some (s',qs)->s'.n=s.n
 | [],_,_,s,s',qs,h=>by simp[cv] at h;rw[<-h.1]
 |p::ps,ts,n,s,s',qs,h=>by
  simp only[cv] at h;split at h
  ·cases h
  rename_i s1 q h1;split at h
  next s2 qs2 h2=>simp at h;rw[<-h.1,yn ps _ _ _ _ _ h2,QK h1]
  cases h
theorem C8{Q:Program}{s s':S}{p:P}{x:D}(h:pz Q s p=some (s',x)):s'.n=s.n:=by
 unfold pz at h;split at h
 ·simp at h;rw[<-h.1]
 ·split at h
  ·split at h
   ·simp at h;rw[<-h.1];exact gm _ _ _
   cases h
  cases h
 ·split at h
  ·split at h
   ·split at h
    ·simp at h;rw[<-h.1];exact gm _ _ _
    cases h
   cases h
  cases h
 cases h
theorem QL{Q:Program}: ∀(ps:List P) (s s':S) (xs:List D),qY Q s ps=some (s',xs)->s'.n=s.n
 | [],s,s',xs,h=>by simp[qY] at h;rw[<-h.1]
 |p::ps,s,s',xs,h=>by
  simp only[qY] at h;split at h
  ·cases h
  rename_i s1 x h1;split at h
  next s2 xs2 h2=>simp at h;rw[<-h.1,QL ps _ _ _ h2,C8 h1]
  cases h
theorem qbl{Q:Program}{s s':S}{p:P}{x:D}(h:EB Q s p=some (s',x)):s'.n=s.n:=by
 unfold EB at h;split at h
 ·split at h
  next h1=>simp at h;rw[<-h.1];exact QL _ _ _ _ h1
  cases h
 exact C8 h
theorem C9{Q:Program}{s s':S}{t:TypeId}{p:P}{x:D}(h:nT Q s t p=some (s',x)):s'.n=s.n:=by obtain⟨y,h1,_⟩:=uQ h;exact qbl h1
theorem QM{Q:Program}{s s':S}{t:TypeId}{p q:P}(h:k9 Q s t p=some (s',q)):s'.n=s.n:=by
 unfold k9 at h;split at h
 ·split at h
  ·split at h
   next hf=>simp at h;rw[<-h.1];exact C9 hf
   cases h
  simp at h;rw[<-h.1]
 ·split at h
  ·rw[D.force_eq] at h;simp at h;rw[<-h.1]
  simp at h;rw[<-h.1]
 simp at h;rw[<-h.1]
theorem BF{Q:Program}: ∀(ps:List P) (ts:List TypeId) (s s':S) (xs:List P),eI Q s ts ps=some (s',xs)->s'.n=s.n
 | [],ts,s,s',xs,h=>by simp[eI] at h;rw[<-h.1]
 |p::ps,ts,s,s',xs,h=>by
  simp only[eI] at h;split at h
  ·cases h
  rename_i s1 x h1;have e1:s1.n=s.n:=by
   unfold pB at h1;split at h1
   ·split at h1
    next hf=>simp at h1;rw[<-h1.1];exact C8 hf
    cases h1
   ·split at h1
    next hf=>simp at h1;rw[<-h1.1];exact C8 hf
    cases h1
   exact QM h1
  split at h
  next s2 xs2 h2=>simp at h;rw[<-h.1,BF ps _ _ _ _ h2,e1]
  cases h
theorem QN{Q:Program}{s s':S}{t:TypeId}{p q:P}(h:gF Q s t p q=some s'):s'.n=s.n:=by
 unfold gF at h;split at h
 ·cases h
 split at h
 ·split at h
  next h1=>
   split at h
   ·split at h
    ·simp at h;rw[<-h,gm,QK h1]
    cases h
   cases h
  cases h
 ·split at h
  next h1=>
   split at h
   ·split at h
    ·split at h
     ·simp only[zam] at h;rw[<-h,gm,C9 h1]
     cases h
    cases h
   cases h
  cases h
 cases h
theorem IV{Q:Program}{f:FuncId}(ps:List P)(s s':S)(xs:List P)(h:cV Q s f ps=some (s',xs)):s'.n=s.n:=by
 unfold cV at h;split at h
 ·simp only[zam,zbC] at h;rw[h.1]
 exact BF ps _ s s' xs h
theorem yo(Q:Program)(s:S)(dst:Option Nat)(t:TypeId)(ps:List P):Loc (λs=>nS Q s dst t ps) s dst:=by
 unfold nS;cases h:cv s (site dst*1000) ps (qA Q 20 t) with
 |none=>exact⟨none,λm=>by simp only[ml,h];rfl⟩
 |some r=>
  cases h2:r.1.new (site dst) (.box t r.2) with
  |none=>exact⟨none,λm=>by simp only[ml,h,zaL,j7,h2];rfl⟩
  |some r2=>exact⟨some (r2.1.rg,.ref (site dst) r2.2 0),λm=>by simp only[ml,h,zaL,j7,h2];exact ia m (by rw[rK h2,yn _ _ _ _ _ _ h])⟩
theorem FA(Q:Program)(s:S)(dst:Option Nat)(t t2:TypeId)(p q:P):Loc (λs=>jl Q s dst t t2 p q) s dst:=by
 unfold Loc jl;cases h1:cQ Q t with
 |none=>exact⟨none,λm=>rfl⟩
 |some e=>
  simp only[];cases h2:Q.info? e with
  |none=>exact⟨none,λm=>rfl⟩
  |some i=>
   cases h3:sz Q e with
   |none=>exact⟨none,λm=>rfl⟩
   |some k=>
    cases k with
    |zero=>exact⟨none,λm=>rfl⟩
    |succ k=>
     simp only[C7];cases h4:mF Q s t2 (k+1) q with
     |none=>exact⟨none,λm=>rfl⟩
     |some ys=>
      cases h5:eF Q e with
      |none=>exact⟨none,λm=>rfl⟩
      |some z=>
       simp only[];cases h6:Nat.beq z.cells.length (k+1) with
       |false=>exact⟨none,λm=>rfl⟩
       |true=>
        simp only[zba];cases p with
        |sl n v len=>
         have e0: ∀m,(s.wt m).rg=s.rg:=λ_=>rfl;simp only[e0];cases h7:lk s.rg n with
         |none=>exact⟨none,λm=>rfl⟩
         |some en=>
          simp only[];cases h8:en.obj with
          |arr ty fz es=>
           cases fz with
           |true=>exact⟨none,λm=>rfl⟩
           |false=>
            simp only[];split
            ·exact⟨some (_,_),λm=>rfl⟩
            exact⟨none,λm=>rfl⟩
          |_=>exact⟨none,λm=>rfl⟩
        |d x=>
         cases x with
         |fX=>
          simp only[j7];split
          ·cases h7:s.new (site dst) (.arr e false ys) with
           |none=>exact⟨none,λm=>rfl⟩
           |some r2=>exact⟨some (r2.1.rg,_),λm=>ia m (rK h7)⟩
          exact⟨none,λm=>rfl⟩
         |_=>exact⟨none,λm=>rfl⟩
        |_=>exact⟨none,λm=>rfl⟩
theorem M1(Q:Program)(s:S)(dst:Option Nat)(t:TypeId)(p q:P):Loc (λs=>tj Q s dst t p q) s dst:=by
 unfold Loc tj;split
 next e k1 l k2 c h1=>
  split
  next i k z h2 h3 h4=>
   split
   ·simp only[j7];cases h7:s.new (site dst) (.arr e false (List.replicate l.toNat z)) with
    |none=>exact⟨none,λm=>rfl⟩
    |some r2=>exact⟨some (r2.1.rg,_),λm=>ia m (rK h7)⟩
   exact⟨none,λm=>rfl⟩
  exact⟨none,λm=>rfl⟩
 exact⟨none,λm=>rfl⟩
theorem Da(Q:Program)(s:S)(dst:Option Nat)(t:TypeId):Loc (λs=>k8 Q s dst t) s dst:=by
 unfold Loc k8;split
 next kt e h1=>
  simp only[j7];cases h7:s.new (site dst) (.map kt (λ_=>none) 0 false) with
  |none=>exact⟨none,λm=>rfl⟩
  |some r2=>exact⟨some (r2.1.rg,_),λm=>ia m (rK h7)⟩
 exact⟨none,λm=>rfl⟩
theorem vW(Q:Program)(s:S)(dst:Option Nat)(t:TypeId)(p k x:P):Loc (λs=>jm Q s dst t p k x) s dst:=by
 unfold Loc jm;split
 next kt e n v kd h1=>
  simp only[xl];cases h2:nT Q s e x with
  |none=>exact⟨none,λm=>rfl⟩
  |some y=>
   simp only[zaL,mK];split
   ·split
    ·simp only[eT];exact⟨some (_,.bad),λm=>ia m ((gm _ _ _).trans (C9 h2))⟩
    exact⟨none,λm=>rfl⟩
   exact⟨none,λm=>rfl⟩
 exact⟨none,λm=>rfl⟩
theorem FB(Q:Program)(s:S)(dst:Option Nat)(t:TypeId)(p k:P):Loc (λs=>jn Q s dst t p k) s dst:=by
 unfold Loc jn;split
 next kt e n v kd h1=>
  split
  ·simp only[mK];split
   ·rename_i Au get c h2;split
    ·simp only[j7];cases h7:s.new (site dst) .eE with
     |none=>exact⟨none,λm=>rfl⟩
     |some r2=>simp only[zaL,eT];exact⟨some (_,_),λm=>ia m ((gm _ _ _).trans (rK h7))⟩
    exact⟨none,λm=>rfl⟩
   exact⟨none,λm=>rfl⟩
  exact⟨none,λm=>rfl⟩
 exact⟨none,λm=>rfl⟩
theorem IW(Q:Program)(s:S)(dst:Option Nat)(p st x:P):Loc (λs=>pA Q s dst p st x) s dst:=by
 unfold Loc pA;split
 ·simp only[IU];cases h2:EB Q s x with
  |none=>exact⟨none,λm=>rfl⟩
  |some y=>
   simp only[zaL,mK];split
   ·split
    ·simp only[eT];exact⟨some (_,.bad),λm=>ia m ((gm _ _ _).trans (qbl h2))⟩
    exact⟨none,λm=>rfl⟩
   exact⟨none,λm=>rfl⟩
 exact⟨none,λm=>rfl⟩
theorem IX(Q:Program)(s:S)(dst:Option Nat)(t:TypeId)(p:P):Loc (λs=>r6 Q s dst t p) s dst:=by
 unfold Loc r6;split
 next kt vt n v h1=>
  simp only[mK];split
  next Au get c fz h2=>
   split
   ·simp only[eT,j7];cases h7:(s.setObj n (.map kt get c true)).new (site dst) (.iter kt vt get none) with
    |none=>exact⟨none,λm=>rfl⟩
    |some r2=>exact⟨some (r2.1.rg,_),λm=>ia m ((rK h7).trans (gm _ _ _))⟩
   exact⟨none,λm=>rfl⟩
  exact⟨none,λm=>rfl⟩
 next kt vt h1=>
  simp only[j7];cases h7:s.new (site dst) (.iter kt vt (λ_=>none) none) with
  |none=>exact⟨none,λm=>rfl⟩
  |some r2=>exact⟨some (r2.1.rg,_),λm=>ia m (rK h7)⟩
 exact⟨none,λm=>rfl⟩
theorem vX(Q:Program)(t:TypeId)(k:Nat)(m:List (Nat×P)): ∀(ps:List (Nat×P)) (s:S) (es:List D),cU Q t k (s.wt m) es ps=(cU Q t k s es ps).map λx=>(x.1.wt m,x.2)
 | [],s,es=>rfl
 | (i,p)::r,s,es=>by
  simp only[cU,xl];cases h:nT Q s t p with
  |none=>rfl
  |some y=>
   simp only[zaL];split
   ·exact vX Q t k m r y.1 _
   rfl
theorem yp{Q:Program}{t:TypeId}{k:Nat}: ∀(ps:List (Nat×P)) (s s':S) (es fH:List D),cU Q t k s es ps=some (s',fH)->s'.n=s.n
 | [],s,s',es,fH,h=>by simp[cU] at h;rw[h.1]
 | (i,p)::r,s,s',es,fH,h=>by
  simp only[cU] at h;split at h
  next s1 x h1=>
   split at h
   ·rw[yp r s1 s' _ fH h,C9 h1]
   cases h
  cases h
theorem IY(Q:Program)(s:S)(dst:Option Nat)(t:TypeId)(len:Nat)(parts:List (Nat×P)):Loc (λs=>r5 Q s dst t len parts) s dst:=by
 unfold Loc r5;split
 next e h1=>
  split
  next i k z h2 h3 h4=>
   split
   ·simp only[vX];cases h5:cU Q e (k+1) s (List.replicate len z) parts with
    |none=>exact⟨none,λm=>rfl⟩
    |some r=>
     simp only[zaL,j7];cases h7:r.1.new (site dst) (.arr e false r.2) with
     |none=>exact⟨none,λm=>rfl⟩
     |some r2=>exact⟨some (r2.1.rg,_),λm=>ia m (by rw[rK h7,yp _ _ _ _ _ h5])⟩
   exact⟨none,λm=>rfl⟩
  exact⟨none,λm=>rfl⟩
 exact⟨none,λm=>rfl⟩
theorem IZ(Q:Program)(s:S)(dst:Option Nat)(t:TypeId)(p:P):Loc (λs=>nU Q s dst t p) s dst:=by
 unfold Loc nU;split
 ·simp only[mK,eT];split
  ·split
   ·exact⟨some (_,_),λm=>ia m (gm _ _ _)⟩
   exact⟨none,λm=>rfl⟩
  exact⟨none,λm=>rfl⟩
 exact⟨none,λm=>rfl⟩
theorem M3(Q:Program)(s:S)(dst:Option Nat)(t t2:TypeId)(p q:P):Loc (λs=>tq Q s dst t t2 p q) s dst:=by
 unfold Loc tq;split
 ·split
  ·simp only[C7,mK,eT];split
   ·split
    ·exact⟨some (_,_),λm=>ia m (gm _ _ _)⟩
    exact⟨none,λm=>rfl⟩
   exact⟨none,λm=>rfl⟩
  exact⟨none,λm=>rfl⟩
 exact⟨none,λm=>rfl⟩
structure Alike(s s2:S)(xs:List Operand):Prop where
 n:s2.n=s.n
 rg:s2.rg=s.rg
 ev: ∀x∈xs,s2.ev x=s.ev x
theorem Alike.wt{s s2:S}{xs:List Operand}(h:Alike s s2 xs):s2=s.wt s2.tm:=by
 cases s2 with
 |mk n tm rg=>have h1:=h.n;have h2:=h.rg;simp only at h1 h2;subst h1 h2;rfl
theorem Alike.eg{s s2:S}{xs:List Operand}(h:Alike s s2 xs){x:Operand}(hx:x∈xs)(g:Option (Nat×Bool)):s2.eg g x=s.eg g x:=by unfold S.eg;rw[h.ev x hx]
theorem Alike.egs{s s2:S}{xs:List Operand}(h:Alike s s2 xs){ys:List Operand}(hy: ∀y∈ys,y∈xs)(g:Option (Nat×Bool)):ys.map (s2.eg g)=ys.map (s.eg g):=
 zbF λy hyy=>h.eg (hy y hyy) g
theorem pQ{f:S->Option S}{s s2:S}{xs:List Operand}{dst:Option Nat}(h:Alike s s2 xs)(hl:Loc f s dst): ∃c,f s=fin s dst c/\f s2=fin s2 dst c:=by
 obtain⟨c,hc⟩:=hl;refine⟨c,?_,?_⟩
 ·exact hc s.tm
 have e:=h.wt;rw[e];exact hc s2.tm
theorem yq{Q:Program}{s s2:S}{o:Oper}(h:Alike s s2 o.op.operands.toList)(g:Option (Nat×Bool)):pv Q s2 o g=pv Q s o g:=by
 have hs:=h.wt;have mem: ∀{x:Operand},x∈o.op.operands->x∈o.op.operands.toList:=λhx=>by simpa using hx
 unfold pv;split
 next x ho=>rw[h.eg (by simp[ho,Op.operands])]
 next x ho=>rw[h.eg (by simp[ho,Op.operands])]
 next c x y ho=>rw[h.eg (x:=c) (by simp[ho,Op.operands]),h.eg (x:=x) (by simp[ho,Op.operands]),h.eg (x:=y) (by simp[ho,Op.operands])]
 next x ho=>rw[h.eg (by simp[ho,Op.operands]),hs];rfl
 next op t x y yt ho=>rw[h.eg (x:=x) (by simp[ho,Op.operands]),h.eg (x:=y) (by simp[ho,Op.operands]),hs];rfl
 next op t x ho=>rw[h.eg (by simp[ho,Op.operands])]
 next t1 t2 x ho=>rw[h.eg (by simp[ho,Op.operands])]
 next t x ho=>rw[h.eg (by simp[ho,Op.operands]),hs];rfl
 next t x f ho=>rw[h.eg (by simp[ho,Op.operands]),hs];rfl
 next t x i ho=>rw[h.eg (x:=x) (by simp[ho,Op.operands]),h.eg (x:=i) (by simp[ho,Op.operands]),hs];rfl
 next t x i ho=>rw[h.eg (x:=x) (by simp[ho,Op.operands]),h.eg (x:=i) (by simp[ho,Op.operands])]
 next t x f ho=>rw[h.eg (by simp[ho,Op.operands])]
 next x i ho=>rw[h.eg (by simp[ho,Op.operands])]
 next t x i ok ho=>rw[h.eg (x:=x) (by simp[ho,Op.operands]),h.eg (x:=i) (by simp[ho,Op.operands]),hs];rfl
 next x ho=>
  have e5: ∀p,py s2 p=py s p:=λp=>by rw[hs];rfl
  rw[e5,h.eg (by simp[ho,Op.operands])]
 next t x lo hi ho=>
  have e5: ∀p l h',mD Q s2 t p l h'=mD Q s t p l h':=λp l h'=>by rw[hs];rfl
  rw[e5,h.eg (x:=x) (by simp[ho,Op.operands])];cases lo with
  |none=>cases hi with
   |none=>rfl
   |some u=>simp only[zaL];rw[h.eg (x:=u) (by simp[ho,Op.operands])];rfl
  |some l=>cases hi with
   |none=>simp only[zaL];rw[h.eg (x:=l) (by simp[ho,Op.operands])];rfl
   |some u=>simp only[zaL];rw[h.eg (x:=l) (by simp[ho,Op.operands]),h.eg (x:=u) (by simp[ho,Op.operands])]
 next t parts ho=>
  have e:parts.toList.map (λx=>s2.eg g x.2)=parts.toList.map (λx=>s.eg g x.2):=zbF λx hx=>h.eg (by simp only[ho,Op.operands];exact za6 (f:=λx:Nat×Operand=>x.2) hx) g;have e2:parts.toList.map (λx=>(x.1,s2.eg g x.2))=parts.toList.map (λx=>(x.1,s.eg g x.2)):=zbF λx hx=>by rw[h.eg (x:=x.2) (by simp only[ho,Op.operands];exact za6 (f:=λx:Nat×Operand=>x.2) hx) g]
  rw[e,e2]
 next f first cP ho=>
  have e:cP.toList.map (s2.eg g)=cP.toList.map (s.eg g):=h.egs (λy hy=>by simp only[ho,Op.operands];simp at hy;simp[hy]) g;rw[e]
 next c ho=>
  have hm: ∀y∈c.args.toList,y∈o.op.operands.toList:=λy hy=>by simp only[ho,Op.operands,Call.operands];simp at hy;simp[hy]
  split
  ·split
   ·rename_i x cW;rw[h.eg (x:=x) (hm x (by rw[cW];simp))];have e5: ∀p,E0 s2 p=E0 s p:=λp=>by rw[hs];rfl
    have e6: ∀p,E1 s2 p=E1 s p:=λp=>by rw[hs];rfl
    rw[e5,e6]
   rfl
  ·rw[h.egs hm]
  ·rw[h.egs hm]
  rfl
 rfl
end Pi
