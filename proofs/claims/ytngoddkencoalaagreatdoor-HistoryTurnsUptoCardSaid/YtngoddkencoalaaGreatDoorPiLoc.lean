/- The text PiLoc. -/
import Derived.Test.YtngoddkencoalaaGreatDoorPiRegion
namespace Pi
open Go
def S.wt(s:S)(m:List (Nat×P)):S:=⟨s.n,m,s.rg⟩
theorem mW(s:S)(m:List (Nat×P))(n v:Nat):(s.wt m).obj n v=s.obj n v:=rfl
theorem j9(s:S)(m:List (Nat×P))(n:Nat)(o:Obj):(s.wt m).new n o=(s.new n o).map λx=>(x.1.wt m,x.2):=by
 unfold S.new S.wt;simp only;split
 ·rfl
 split
 ·rfl
 split<;>rfl
theorem eU(s:S)(m:List (Nat×P))(n:Nat)(o:Obj):(s.wt m).setObj n o=(s.setObj n o).wt m:=by unfold S.setObj S.wt;simp only;split<;>rfl
theorem MC(s:S)(m:List (Nat×P))(n:Nat)(p:P)(t:Option TypeId):tC (s.wt m) n p t=(tC s n p t).map λx=>(x.1.wt m,x.2):=by
 unfold tC;split
 ·rw[j9];cases s.new n _<;>rfl
 rfl
theorem mC(m:List (Nat×P)): ∀(ps:List P) (ts:List (Option TypeId)) (n:Nat) (s:S),cq (s.wt m) n ps ts=(cq s n ps ts).map λx=>(x.1.wt m,x.2)
 | [],_,_,_=>rfl
 |p::ps,ts,n,s=>by
  simp only[cq];rw[MC];cases h:tC s n p (ts.headD none) with
  |none=>rfl
  |some r=>simp only[zaJ];rw[mC m ps ts.tail (n+1) r.1];cases cq r.1 (n+1) ps ts.tail<;>rfl
theorem xQ(Q:Program)(s:S)(m:List (Nat×P))(p:P):qc Q (s.wt m) p=(qc Q s p).map λx=>(x.1.wt m,x.2):=by
 unfold qc;split
 ·rfl
 ·rw[mW];split
  ·split
   ·rw[eU];rfl
   rfl
  rfl
 ·rw[mW];split
  ·split
   ·split
    ·rw[eU];rfl
    rfl
   rfl
  rfl
 rfl
theorem MD(Q:Program)(m:List (Nat×P)): ∀(ps:List P) (s:S),rq Q (s.wt m) ps=(rq Q s ps).map λx=>(x.1.wt m,x.2)
 | [],_=>rfl
 |p::ps,s=>by
  simp only[rq];rw[xQ];cases h:qc Q s p with
  |none=>rfl
  |some r=>simp only[zaJ];rw[MD Q m ps r.1];cases rq Q r.1 ps<;>rfl
theorem Kl(Q:Program)(s:S)(m:List (Nat×P))(p:P):FK Q (s.wt m) p=(FK Q s p).map λx=>(x.1.wt m,x.2):=by
 unfold FK;split
 ·rw[MD];cases rq Q s _<;>rfl
 exact xQ Q s m p
theorem xR(Q:Program)(s:S)(t:TypeId)(m:List (Nat×P))(p:P):ov Q (s.wt m) t p=(ov Q s t p).map λx=>(x.1.wt m,x.2):=by
 unfold ov;split
 ·exact Kl Q s m p
 rw[Kl];cases FK Q s p with
 |none=>rfl
 |some r=>simp only[zaJ,D.force_eq]
theorem OU(Q:Program)(s:S)(t:TypeId)(m:List (Nat×P))(p:P):ll Q (s.wt m) t p=(ll Q s t p).map λx=>(x.1.wt m,x.2):=by
 unfold ll;split
 ·split
  ·rw[xR];cases ov Q s t _<;>rfl
  rfl
 ·split
  ·simp only[D.force_eq];rfl
  rfl
 rfl
theorem OV(Q:Program)(s:S)(t:TypeId)(m:List (Nat×P))(p:P):qe Q (s.wt m) t p=(qe Q s t p).map λx=>(x.1.wt m,x.2):=by
 unfold qe;split
 ·rw[xQ];cases qc Q s _<;>rfl
 ·rw[xQ];cases qc Q s _<;>rfl
 exact OU Q s t m _
theorem y7(Q:Program)(m:List (Nat×P)): ∀(ps:List P) (ts:List TypeId) (s:S),eF Q (s.wt m) ts ps=(eF Q s ts ps).map λx=>(x.1.wt m,x.2)
 | [],_,_=>rfl
 |p::ps,ts,s=>by
  simp only[eF];rw[OV];cases h:qe Q s (ts.headD 0) p with
  |none=>rfl
  |some r=>simp only[zaJ];rw[y7 Q m ps ts.tail r.1];cases eF Q r.1 ts.tail ps<;>rfl
theorem wz(Q:Program)(m:List (Nat×P))(f:FuncId)(ps:List P)(s:S):cV Q (s.wt m) f ps=(cV Q s f ps).map λx=>(x.1.wt m,x.2):=by
 unfold cV;split
 ·rfl
 exact y7 Q m ps _ s
theorem CA(Q:Program)(s:S)(m:List (Nat×P))(t:TypeId)(p q:P):gB Q (s.wt m) t p q=(gB Q s t p q).map λx=>x.wt m:=by
 unfold gB;split
 ·rfl
 split
 ·rw[MC];cases tC s _ q _ with
  |none=>rfl
  |some r=>
   simp only[zaJ,mW];split
   ·split
    ·rw[eU];rfl
    rfl
   rfl
 ·rw[xR];cases ov Q s t q with
  |none=>rfl
  |some r=>
   simp only[zaJ,mW];split
   ·split
    ·split
     ·rw[eU];rfl
     rfl
    rfl
   rfl
 rfl
theorem Ec(Q:Program)(s:S)(m:List (Nat×P))(t2:TypeId)(k:Nat)(p:P):mR Q (s.wt m) t2 k p=mR Q s t2 k p:=rfl
def fin(s:S)(dst:Option Nat)(c:Option (List (Nat×En)×P)):Option S:=
 match c with
 |some (R,p)=>(⟨s.n,s.tm,R⟩:S).put dst p
 |none=>none
def Loc(f:S->Option S)(s:S)(dst:Option Nat):Prop:= ∃c,∀m,f (s.wt m)=fin (s.wt m) dst c
theorem ia{s s1:S}{dst:Option Nat}{p:P}(m:List (Nat×P))(hn:s1.n=s.n):(s1.wt m).put dst p=fin (s.wt m) dst (some (s1.rg,p)):=by unfold fin S.wt;rw[hn]
theorem rW{s:S}{n v:Nat}{o:Obj}{s':S}(h:s.new n o=some (s',v)):s'.n=s.n:=by obtain⟨rfl,_⟩:=S.lE h;rfl
theorem gm(s:S)(n:Nat)(o:Obj):(s.setObj n o).n=s.n:=by unfold S.setObj;split<;>rfl
theorem Sz{s:S}{n:Nat}{p q:P}{t:Option TypeId}{s':S}(h:tC s n p t=some (s',q)):s'.n=s.n:=by
 unfold tC at h;split at h
 ·split at h
  next hn=>simp at h;rw[<-h.1];exact rW hn
  cases h
 simp at h;rw[<-h.1]
theorem y8: ∀(ps:List P) (ts:List (Option TypeId)) (n:Nat) (s s':S) (qs:List P),cq s n ps ts=some (s',qs)->s'.n=s.n
 | [],_,_,s,s',qs,h=>by simp[cq] at h;rw[<-h.1]
 |p::ps,ts,n,s,s',qs,h=>by
  simp only[cq] at h;split at h
  ·cases h
  rename_i s1 q h1;split at h
  next s2 qs2 h2=>simp at h;rw[<-h.1,y8 ps _ _ _ _ _ h2,Sz h1]
  cases h
theorem Ed{Q:Program}{s s':S}{p:P}{x:D}(h:qc Q s p=some (s',x)):s'.n=s.n:=by
 unfold qc at h;split at h
 ·simp at h;rw[<-h.1]
 ·split at h
  ·split at h
   ·simp at h;rw[<-h.1];exact gm _ _ _
   cases h
  cases h
 ·split at h
  ·split at h
   ·split at h
    ·simp at h;rw[<-h.1];exact gm _ _ _
    cases h
   cases h
  cases h
 cases h
theorem SA{Q:Program}: ∀(ps:List P) (s s':S) (xs:List D),rq Q s ps=some (s',xs)->s'.n=s.n
 | [],s,s',xs,h=>by simp[rq] at h;rw[<-h.1]
 |p::ps,s,s',xs,h=>by
  simp only[rq] at h;split at h
  ·cases h
  rename_i s1 x h1;split at h
  next s2 xs2 h2=>simp at h;rw[<-h.1,SA ps _ _ _ h2,Ed h1]
  cases h
theorem qdd{Q:Program}{s s':S}{p:P}{x:D}(h:FK Q s p=some (s',x)):s'.n=s.n:=by
 unfold FK at h;split at h
 ·split at h
  next h1=>simp at h;rw[<-h.1];exact SA _ _ _ _ h1
  cases h
 exact Ed h
theorem Ee{Q:Program}{s s':S}{t:TypeId}{p:P}{x:D}(h:ov Q s t p=some (s',x)):s'.n=s.n:=by obtain⟨y,h1,_⟩:=vr h;exact qdd h1
theorem SB{Q:Program}{s s':S}{t:TypeId}{p q:P}(h:ll Q s t p=some (s',q)):s'.n=s.n:=by
 unfold ll at h;split at h
 ·split at h
  ·split at h
   next hf=>simp at h;rw[<-h.1];exact Ee hf
   cases h
  simp at h;rw[<-h.1]
 ·split at h
  ·rw[D.force_eq] at h;simp at h;rw[<-h.1]
  simp at h;rw[<-h.1]
 simp at h;rw[<-h.1]
theorem CB{Q:Program}: ∀(ps:List P) (ts:List TypeId) (s s':S) (xs:List P),eF Q s ts ps=some (s',xs)->s'.n=s.n
 | [],ts,s,s',xs,h=>by simp[eF] at h;rw[<-h.1]
 |p::ps,ts,s,s',xs,h=>by
  simp only[eF] at h;split at h
  ·cases h
  rename_i s1 x h1;have e1:s1.n=s.n:=by
   unfold qe at h1;split at h1
   ·split at h1
    next hf=>simp at h1;rw[<-h1.1];exact Ed hf
    cases h1
   ·split at h1
    next hf=>simp at h1;rw[<-h1.1];exact Ed hf
    cases h1
   exact SB h1
  split at h
  next s2 xs2 h2=>simp at h;rw[<-h.1,CB ps _ _ _ _ h2,e1]
  cases h
theorem SC{Q:Program}{s s':S}{t:TypeId}{p q:P}(h:gB Q s t p q=some s'):s'.n=s.n:=by
 unfold gB at h;split at h
 ·cases h
 split at h
 ·split at h
  next h1=>
   split at h
   ·split at h
    ·simp at h;rw[<-h,gm,Sz h1]
    cases h
   cases h
  cases h
 ·split at h
  next h1=>
   split at h
   ·split at h
    ·split at h
     ·simp only[zam] at h;rw[<-h,gm,Ee h1]
     cases h
    cases h
   cases h
  cases h
 cases h
theorem Km{Q:Program}{f:FuncId}(ps:List P)(s s':S)(xs:List P)(h:cV Q s f ps=some (s',xs)):s'.n=s.n:=by
 unfold cV at h;split at h
 ·simp only[zam,zbN] at h;rw[h.1]
 exact CB ps _ s s' xs h
theorem y9(Q:Program)(s:S)(dst:Option Nat)(t:TypeId)(ps:List P):Loc (λs=>ou Q s dst t ps) s dst:=by
 unfold ou;cases h:cq s (site dst*1000) ps (qS Q 20 t) with
 |none=>exact⟨none,λm=>by simp only[mC,h];rfl⟩
 |some r=>
  cases h2:r.1.new (site dst) (.box t r.2) with
  |none=>exact⟨none,λm=>by simp only[mC,h,zaJ,j9,h2];rfl⟩
  |some r2=>exact⟨some (r2.1.rg,.ref (site dst) r2.2 0),λm=>by simp only[mC,h,zaJ,j9,h2];exact ia m (by rw[rW h2,y8 _ _ _ _ _ _ h])⟩
theorem G6(Q:Program)(s:S)(dst:Option Nat)(t t2:TypeId)(p q:P):Loc (λs=>jn Q s dst t t2 p q) s dst:=by
 unfold Loc jn;cases h1:cR Q t with
 |none=>exact⟨none,λm=>rfl⟩
 |some e=>
  simp only[];cases h2:Q.info? e with
  |none=>exact⟨none,λm=>rfl⟩
  |some i=>
   cases h3:sz Q e with
   |none=>exact⟨none,λm=>rfl⟩
   |some k=>
    cases k with
    |zero=>exact⟨none,λm=>rfl⟩
    |succ k=>
     simp only[Ec];cases h4:mR Q s t2 (k+1) q with
     |none=>exact⟨none,λm=>rfl⟩
     |some ys=>
      cases h5:ez Q e with
      |none=>exact⟨none,λm=>rfl⟩
      |some z=>
       simp only[];cases h6:Nat.beq z.cells.length (k+1) with
       |false=>exact⟨none,λm=>rfl⟩
       |true=>
        simp only[zbr];cases p with
        |sl n v len=>
         have e0: ∀m,(s.wt m).rg=s.rg:=λ_=>rfl;simp only[e0];cases h7:lk s.rg n with
         |none=>exact⟨none,λm=>rfl⟩
         |some en=>
          simp only[];cases h8:en.obj with
          |arr ty fz es=>
           cases fz with
           |true=>exact⟨none,λm=>rfl⟩
           |false=>
            simp only[];split
            ·exact⟨some (_,_),λm=>rfl⟩
            exact⟨none,λm=>rfl⟩
          |_=>exact⟨none,λm=>rfl⟩
        |d x=>
         cases x with
         |fk=>
          simp only[j9];split
          ·cases h7:s.new (site dst) (.arr e false ys) with
           |none=>exact⟨none,λm=>rfl⟩
           |some r2=>exact⟨some (r2.1.rg,_),λm=>ia m (rW h7)⟩
          exact⟨none,λm=>rfl⟩
         |_=>exact⟨none,λm=>rfl⟩
        |_=>exact⟨none,λm=>rfl⟩
theorem OW(Q:Program)(s:S)(dst:Option Nat)(t:TypeId)(p q:P):Loc (λs=>tD Q s dst t p q) s dst:=by
 unfold Loc tD;split
 next e k1 l k2 c h1=>
  split
  next i k z h2 h3 h4=>
   split
   ·simp only[j9];cases h7:s.new (site dst) (.arr e false (List.replicate l.toNat z)) with
    |none=>exact⟨none,λm=>rfl⟩
    |some r2=>exact⟨some (r2.1.rg,_),λm=>ia m (rW h7)⟩
   exact⟨none,λm=>rfl⟩
  exact⟨none,λm=>rfl⟩
 exact⟨none,λm=>rfl⟩
theorem Ef(Q:Program)(s:S)(dst:Option Nat)(t:TypeId):Loc (λs=>lj Q s dst t) s dst:=by
 unfold Loc lj;split
 next kt e h1=>
  simp only[j9];cases h7:s.new (site dst) (.map kt (λ_=>none) 0 false) with
  |none=>exact⟨none,λm=>rfl⟩
  |some r2=>exact⟨some (r2.1.rg,_),λm=>ia m (rW h7)⟩
 exact⟨none,λm=>rfl⟩
theorem wA(Q:Program)(s:S)(dst:Option Nat)(t:TypeId)(p k x:P):Loc (λs=>jo Q s dst t p k x) s dst:=by
 unfold Loc jo;split
 next kt e n v kd h1=>
  simp only[xR];cases h2:ov Q s e x with
  |none=>exact⟨none,λm=>rfl⟩
  |some y=>
   simp only[zaJ,mW];split
   ·split
    ·simp only[eU];exact⟨some (_,.bad),λm=>ia m ((gm _ _ _).trans (Ee h2))⟩
    exact⟨none,λm=>rfl⟩
   exact⟨none,λm=>rfl⟩
 exact⟨none,λm=>rfl⟩
theorem G7(Q:Program)(s:S)(dst:Option Nat)(t:TypeId)(p k:P):Loc (λs=>jq Q s dst t p k) s dst:=by
 unfold Loc jq;split
 next kt e n v kd h1=>
  split
  ·simp only[mW];split
   ·rename_i Bu get c h2;split
    ·simp only[j9];cases h7:s.new (site dst) .ey with
     |none=>exact⟨none,λm=>rfl⟩
     |some r2=>simp only[zaJ,eU];exact⟨some (_,_),λm=>ia m ((gm _ _ _).trans (rW h7))⟩
    exact⟨none,λm=>rfl⟩
   exact⟨none,λm=>rfl⟩
  exact⟨none,λm=>rfl⟩
 exact⟨none,λm=>rfl⟩
theorem Kn(Q:Program)(s:S)(dst:Option Nat)(p st x:P):Loc (λs=>qd Q s dst p st x) s dst:=by
 unfold Loc qd;split
 ·simp only[Kl];cases h2:FK Q s x with
  |none=>exact⟨none,λm=>rfl⟩
  |some y=>
   simp only[zaJ,mW];split
   ·split
    ·simp only[eU];exact⟨some (_,.bad),λm=>ia m ((gm _ _ _).trans (qdd h2))⟩
    exact⟨none,λm=>rfl⟩
   exact⟨none,λm=>rfl⟩
 exact⟨none,λm=>rfl⟩
theorem Ko(Q:Program)(s:S)(dst:Option Nat)(t:TypeId)(p:P):Loc (λs=>sd Q s dst t p) s dst:=by
 unfold Loc sd;split
 next kt vt n v h1=>
  simp only[mW];split
  next Bu get c fz h2=>
   split
   ·simp only[eU,j9];cases h7:(s.setObj n (.map kt get c true)).new (site dst) (.iter kt vt get none) with
    |none=>exact⟨none,λm=>rfl⟩
    |some r2=>exact⟨some (r2.1.rg,_),λm=>ia m ((rW h7).trans (gm _ _ _))⟩
   exact⟨none,λm=>rfl⟩
  exact⟨none,λm=>rfl⟩
 next kt vt h1=>
  simp only[j9];cases h7:s.new (site dst) (.iter kt vt (λ_=>none) none) with
  |none=>exact⟨none,λm=>rfl⟩
  |some r2=>exact⟨some (r2.1.rg,_),λm=>ia m (rW h7)⟩
 exact⟨none,λm=>rfl⟩
theorem wB(Q:Program)(t:TypeId)(k:Nat)(m:List (Nat×P)): ∀(ps:List (Nat×P)) (s:S) (es:List D),cU Q t k (s.wt m) es ps=(cU Q t k s es ps).map λx=>(x.1.wt m,x.2)
 | [],s,es=>rfl
 | (i,p)::r,s,es=>by
  simp only[cU,xR];cases h:ov Q s t p with
  |none=>rfl
  |some y=>
   simp only[zaJ];split
   ·exact wB Q t k m r y.1 _
   rfl
theorem za{Q:Program}{t:TypeId}{k:Nat}: ∀(ps:List (Nat×P)) (s s':S) (es fG:List D),cU Q t k s es ps=some (s',fG)->s'.n=s.n
 | [],s,s',es,fG,h=>by simp[cU] at h;rw[h.1]
 | (i,p)::r,s,s',es,fG,h=>by
  simp only[cU] at h;split at h
  next s1 x h1=>
   split at h
   ·rw[za r s1 s' _ fG h,Ee h1]
   cases h
  cases h
theorem Kp(Q:Program)(s:S)(dst:Option Nat)(t:TypeId)(len:Nat)(parts:List (Nat×P)):Loc (λs=>sc Q s dst t len parts) s dst:=by
 unfold Loc sc;split
 next e h1=>
  split
  next i k z h2 h3 h4=>
   split
   ·simp only[wB];cases h5:cU Q e (k+1) s (List.replicate len z) parts with
    |none=>exact⟨none,λm=>rfl⟩
    |some r=>
     simp only[zaJ,j9];cases h7:r.1.new (site dst) (.arr e false r.2) with
     |none=>exact⟨none,λm=>rfl⟩
     |some r2=>exact⟨some (r2.1.rg,_),λm=>ia m (by rw[rW h7,za _ _ _ _ _ h5])⟩
   exact⟨none,λm=>rfl⟩
  exact⟨none,λm=>rfl⟩
 exact⟨none,λm=>rfl⟩
theorem Kq(Q:Program)(s:S)(dst:Option Nat)(t:TypeId)(p:P):Loc (λs=>oz Q s dst t p) s dst:=by
 unfold Loc oz;split
 ·simp only[mW,eU];split
  ·split
   ·exact⟨some (_,_),λm=>ia m (gm _ _ _)⟩
   exact⟨none,λm=>rfl⟩
  exact⟨none,λm=>rfl⟩
 exact⟨none,λm=>rfl⟩
theorem OX(Q:Program)(s:S)(dst:Option Nat)(t t2:TypeId)(p q:P):Loc (λs=>tE Q s dst t t2 p q) s dst:=by
 unfold Loc tE;split
 ·split
  ·simp only[Ec,mW,eU];split
   ·split
    ·exact⟨some (_,_),λm=>ia m (gm _ _ _)⟩
    exact⟨none,λm=>rfl⟩
   exact⟨none,λm=>rfl⟩
  exact⟨none,λm=>rfl⟩
 exact⟨none,λm=>rfl⟩
structure Alike(s s2:S)(xs:List Operand):Prop where
 n:s2.n=s.n
 rg:s2.rg=s.rg
 ev: ∀x∈xs,s2.ev x=s.ev x
theorem Alike.wt{s s2:S}{xs:List Operand}(h:Alike s s2 xs):s2=s.wt s2.tm:=by
 cases s2 with
 |mk n tm rg=>have h1:=h.n;have h2:=h.rg;simp only at h1 h2;subst h1 h2;rfl
theorem Alike.eg{s s2:S}{xs:List Operand}(h:Alike s s2 xs){x:Operand}(hx:x∈xs)(g:Option (Nat×Bool)):s2.eg g x=s.eg g x:=by unfold S.eg;rw[h.ev x hx]
theorem Alike.egs{s s2:S}{xs:List Operand}(h:Alike s s2 xs){ys:List Operand}(hy: ∀y∈ys,y∈xs)(g:Option (Nat×Bool)):ys.map (s2.eg g)=ys.map (s.eg g):=
 zbK λy hyy=>h.eg (hy y hyy) g
theorem qt{f:S->Option S}{s s2:S}{xs:List Operand}{dst:Option Nat}(h:Alike s s2 xs)(hl:Loc f s dst): ∃c,f s=fin s dst c/\f s2=fin s2 dst c:=by
 obtain⟨c,hc⟩:=hl;refine⟨c,?_,?_⟩
 ·exact hc s.tm
 have e:=h.wt;rw[e];exact hc s2.tm
theorem zb{Q:Program}{s s2:S}{o:Oper}(h:Alike s s2 o.op.operands.toList)(g:Option (Nat×Bool)):pv Q s2 o g=pv Q s o g:=by
 have hs:=h.wt;have mem: ∀{x:Operand},x∈o.op.operands->x∈o.op.operands.toList:=λhx=>by simpa using hx
 unfold pv;split
 next x ho=>rw[h.eg (by simp[ho,Op.operands])]
 next x ho=>rw[h.eg (by simp[ho,Op.operands])]
 next c x y ho=>rw[h.eg (x:=c) (by simp[ho,Op.operands]),h.eg (x:=x) (by simp[ho,Op.operands]),h.eg (x:=y) (by simp[ho,Op.operands])]
 next x ho=>rw[h.eg (by simp[ho,Op.operands]),hs];rfl
 next op t x y yt ho=>rw[h.eg (x:=x) (by simp[ho,Op.operands]),h.eg (x:=y) (by simp[ho,Op.operands]),hs];rfl
 next op t x ho=>rw[h.eg (by simp[ho,Op.operands])]
 next t1 t2 x ho=>rw[h.eg (by simp[ho,Op.operands])]
 next t x ho=>rw[h.eg (by simp[ho,Op.operands]),hs];rfl
 next t x f ho=>rw[h.eg (by simp[ho,Op.operands]),hs];rfl
 next t x i ho=>rw[h.eg (x:=x) (by simp[ho,Op.operands]),h.eg (x:=i) (by simp[ho,Op.operands]),hs];rfl
 next t x i ho=>rw[h.eg (x:=x) (by simp[ho,Op.operands]),h.eg (x:=i) (by simp[ho,Op.operands])]
 next t x f ho=>rw[h.eg (by simp[ho,Op.operands])]
 next x i ho=>rw[h.eg (by simp[ho,Op.operands])]
 next t x i ok ho=>rw[h.eg (x:=x) (by simp[ho,Op.operands]),h.eg (x:=i) (by simp[ho,Op.operands]),hs];rfl
 next x ho=>
  have e5: ∀p,qb s2 p=qb s p:=λp=>by rw[hs];rfl
  rw[e5,h.eg (by simp[ho,Op.operands])]
 next t x lo hi ho=>
  have e5: ∀p l h',mP Q s2 t p l h'=mP Q s t p l h':=λp l h'=>by rw[hs];rfl
  rw[e5,h.eg (x:=x) (by simp[ho,Op.operands])];cases lo with
  |none=>cases hi with
   |none=>rfl
   |some u=>simp only[zaJ];rw[h.eg (x:=u) (by simp[ho,Op.operands])];rfl
  |some l=>cases hi with
   |none=>simp only[zaJ];rw[h.eg (x:=l) (by simp[ho,Op.operands])];rfl
   |some u=>simp only[zaJ];rw[h.eg (x:=l) (by simp[ho,Op.operands]),h.eg (x:=u) (by simp[ho,Op.operands])]
 next t parts ho=>
  have e:parts.toList.map (λx=>s2.eg g x.2)=parts.toList.map (λx=>s.eg g x.2):=zbK λx hx=>h.eg (by simp only[ho,Op.operands];exact za8 (f:=λx:Nat×Operand=>x.2) hx) g;have e2:parts.toList.map (λx=>(x.1,s2.eg g x.2))=parts.toList.map (λx=>(x.1,s.eg g x.2)):=zbK λx hx=>by rw[h.eg (x:=x.2) (by simp only[ho,Op.operands];exact za8 (f:=λx:Nat×Operand=>x.2) hx) g]
  rw[e,e2]
 next f first cQ ho=>
  have e:cQ.toList.map (s2.eg g)=cQ.toList.map (s.eg g):=h.egs (λy hy=>by simp only[ho,Op.operands];simp at hy;simp[hy]) g;rw[e]
 next c ho=>
  have hm: ∀y∈c.args.toList,y∈o.op.operands.toList:=λy hy=>by simp only[ho,Op.operands,Call.operands];simp at hy;simp[hy]
  split
  ·split
   ·rename_i x cW;rw[h.eg (x:=x) (hm x (by rw[cW];simp))];have e5: ∀p,Gr s2 p=Gr s p:=λp=>by rw[hs];rfl
    have e6: ∀p,Gs s2 p=Gs s p:=λp=>by rw[hs];rfl
    rw[e5,e6]
   rfl
  ·rw[h.egs hm]
  ·rw[h.egs hm]
  rfl
 rfl
end Pi
