/- The text PiLoc. -/
import Derived.Test.YtfelfooeclnbiaaGreatDoorPiRegion
namespace Pi
open Go
def S.wt(s:S)(m:List (Nat×P)):S:=⟨s.n,m,s.rg⟩
theorem l6(s:S)(m:List (Nat×P))(n v:Nat):(s.wt m).obj n v=s.obj n v:=rfl
theorem jK(s:S)(m:List (Nat×P))(n:Nat)(o:Obj):(s.wt m).new n o=(s.new n o).map λx=>(x.1.wt m,x.2):=by
 unfold S.new S.wt;simp only;split
 ·rfl
 split
 ·rfl
 split<;>rfl
theorem eL(s:S)(m:List (Nat×P))(n:Nat)(o:Obj):(s.wt m).setObj n o=(s.setObj n o).wt m:=by unfold S.setObj S.wt;simp only;split<;>rfl
theorem Ks(s:S)(m:List (Nat×P))(n:Nat)(p:P)(t:Option TypeId):sf (s.wt m) n p t=(sf s n p t).map λx=>(x.1.wt m,x.2):=by
 unfold sf;split
 ·rw[jK];cases s.new n _<;>rfl
 rfl
theorem lJ(m:List (Nat×P)): ∀(ps:List P) (ts:List (Option TypeId)) (n:Nat) (s:S),ca (s.wt m) n ps ts=(ca s n ps ts).map λx=>(x.1.wt m,x.2)
 | [],_,_,_=>rfl
 |p::ps,ts,n,s=>by
  simp only[ca];rw[Ks];cases h:sf s n p (ts.headD none) with
  |none=>rfl
  |some r=>simp only[zaJ];rw[lJ m ps ts.tail (n+1) r.1];cases ca r.1 (n+1) ps ts.tail<;>rfl
theorem wH(Q:Program)(s:S)(m:List (Nat×P))(p:P):o6 Q (s.wt m) p=(o6 Q s p).map λx=>(x.1.wt m,x.2):=by
 unfold o6;split
 ·rfl
 ·rw[l6];split
  ·split
   ·rw[eL];rfl
   rfl
  rfl
 ·rw[l6];split
  ·split
   ·split
    ·rw[eL];rfl
    rfl
   rfl
  rfl
 rfl
theorem Kt(Q:Program)(m:List (Nat×P)): ∀(ps:List P) (s:S),qn Q (s.wt m) ps=(qn Q s ps).map λx=>(x.1.wt m,x.2)
 | [],_=>rfl
 |p::ps,s=>by
  simp only[qn];rw[wH];cases h:o6 Q s p with
  |none=>rfl
  |some r=>simp only[zaJ];rw[Kt Q m ps r.1];cases qn Q r.1 ps<;>rfl
theorem Ii(Q:Program)(s:S)(m:List (Nat×P))(p:P):DM Q (s.wt m) p=(DM Q s p).map λx=>(x.1.wt m,x.2):=by
 unfold DM;split
 ·rw[Kt];cases qn Q s _<;>rfl
 exact wH Q s m p
theorem wI(Q:Program)(s:S)(t:TypeId)(m:List (Nat×P))(p:P):nq Q (s.wt m) t p=(nq Q s t p).map λx=>(x.1.wt m,x.2):=by
 unfold nq;split
 ·exact Ii Q s m p
 rw[Ii];cases DM Q s p with
 |none=>rfl
 |some r=>simp only[zaJ,D.force_eq]
theorem Mt(Q:Program)(s:S)(t:TypeId)(m:List (Nat×P))(p:P):kC Q (s.wt m) t p=(kC Q s t p).map λx=>(x.1.wt m,x.2):=by
 unfold kC;split
 ·split
  ·rw[wI];cases nq Q s t _<;>rfl
  rfl
 ·split
  ·simp only[D.force_eq];rfl
  rfl
 rfl
theorem Mu(Q:Program)(s:S)(t:TypeId)(m:List (Nat×P))(p:P):o8 Q (s.wt m) t p=(o8 Q s t p).map λx=>(x.1.wt m,x.2):=by
 unfold o8;split
 ·rw[wH];cases o6 Q s _<;>rfl
 ·rw[wH];cases o6 Q s _<;>rfl
 exact Mt Q s t m _
theorem xC(Q:Program)(m:List (Nat×P)): ∀(ps:List P) (ts:List TypeId) (s:S),ep Q (s.wt m) ts ps=(ep Q s ts ps).map λx=>(x.1.wt m,x.2)
 | [],_,_=>rfl
 |p::ps,ts,s=>by
  simp only[ep];rw[Mu];cases h:o8 Q s (ts.headD 0) p with
  |none=>rfl
  |some r=>simp only[zaJ];rw[xC Q m ps ts.tail r.1];cases ep Q r.1 ts.tail ps<;>rfl
theorem vr(Q:Program)(m:List (Nat×P))(f:FuncId)(ps:List P)(s:S):cL Q (s.wt m) f ps=(cL Q s f ps).map λx=>(x.1.wt m,x.2):=by
 unfold cL;split
 ·rfl
 exact xC Q m ps _ s
theorem AV(Q:Program)(s:S)(m:List (Nat×P))(t:TypeId)(p q:P):gw Q (s.wt m) t p q=(gw Q s t p q).map λx=>x.wt m:=by
 unfold gw;split
 ·rfl
 split
 ·rw[Ks];cases sf s _ q _ with
  |none=>rfl
  |some r=>
   simp only[zaJ,l6];split
   ·split
    ·rw[eL];rfl
    rfl
   rfl
 ·rw[wI];cases nq Q s t q with
  |none=>rfl
  |some r=>
   simp only[zaJ,l6];split
   ·split
    ·split
     ·rw[eL];rfl
     rfl
    rfl
   rfl
 rfl
theorem Cq(Q:Program)(s:S)(m:List (Nat×P))(t2:TypeId)(k:Nat)(p:P):lW Q (s.wt m) t2 k p=lW Q s t2 k p:=rfl
def fin(s:S)(dst:Option Nat)(c:Option (List (Nat×En)×P)):Option S:=
 match c with
 |some (R,p)=>(⟨s.n,s.tm,R⟩:S).put dst p
 |none=>none
def Loc(f:S->Option S)(s:S)(dst:Option Nat):Prop:= ∃c,∀m,f (s.wt m)=fin (s.wt m) dst c
theorem gY{s s1:S}{dst:Option Nat}{p:P}(m:List (Nat×P))(hn:s1.n=s.n):(s1.wt m).put dst p=fin (s.wt m) dst (some (s1.rg,p)):=by unfold fin S.wt;rw[hn]
theorem qM{s:S}{n v:Nat}{o:Obj}{s':S}(h:s.new n o=some (s',v)):s'.n=s.n:=by obtain⟨rfl,_⟩:=S.kR h;rfl
theorem gf(s:S)(n:Nat)(o:Obj):(s.setObj n o).n=s.n:=by unfold S.setObj;split<;>rfl
theorem PV{s:S}{n:Nat}{p q:P}{t:Option TypeId}{s':S}(h:sf s n p t=some (s',q)):s'.n=s.n:=by
 unfold sf at h;split at h
 ·split at h
  next hn=>simp at h;rw[<-h.1];exact qM hn
  cases h
 simp at h;rw[<-h.1]
theorem xD: ∀(ps:List P) (ts:List (Option TypeId)) (n:Nat) (s s':S) (qs:List P),ca s n ps ts=some (s',qs)->s'.n=s.n
 | [],_,_,s,s',qs,h=>by simp[ca] at h;rw[<-h.1]
 |p::ps,ts,n,s,s',qs,h=>by
  simp only[ca] at h;split at h
  ·cases h
  rename_i s1 q h1;split at h
  next s2 qs2 h2=>simp at h;rw[<-h.1,xD ps _ _ _ _ _ h2,PV h1]
  cases h
theorem Cr{Q:Program}{s s':S}{p:P}{x:D}(h:o6 Q s p=some (s',x)):s'.n=s.n:=by
 unfold o6 at h;split at h
 ·simp at h;rw[<-h.1]
 ·split at h
  ·split at h
   ·simp at h;rw[<-h.1];exact gf _ _ _
   cases h
  cases h
 ·split at h
  ·split at h
   ·split at h
    ·simp at h;rw[<-h.1];exact gf _ _ _
    cases h
   cases h
  cases h
 cases h
theorem PW{Q:Program}: ∀(ps:List P) (s s':S) (xs:List D),qn Q s ps=some (s',xs)->s'.n=s.n
 | [],s,s',xs,h=>by simp[qn] at h;rw[<-h.1]
 |p::ps,s,s',xs,h=>by
  simp only[qn] at h;split at h
  ·cases h
  rename_i s1 x h1;split at h
  next s2 xs2 h2=>simp at h;rw[<-h.1,PW ps _ _ _ h2,Cr h1]
  cases h
theorem qaV{Q:Program}{s s':S}{p:P}{x:D}(h:DM Q s p=some (s',x)):s'.n=s.n:=by
 unfold DM at h;split at h
 ·split at h
  next h1=>simp at h;rw[<-h.1];exact PW _ _ _ _ h1
  cases h
 exact Cr h
theorem Ct{Q:Program}{s s':S}{t:TypeId}{p:P}{x:D}(h:nq Q s t p=some (s',x)):s'.n=s.n:=by obtain⟨y,h1,_⟩:=uh h;exact qaV h1
theorem PY{Q:Program}{s s':S}{t:TypeId}{p q:P}(h:kC Q s t p=some (s',q)):s'.n=s.n:=by
 unfold kC at h;split at h
 ·split at h
  ·split at h
   next hf=>simp at h;rw[<-h.1];exact Ct hf
   cases h
  simp at h;rw[<-h.1]
 ·split at h
  ·rw[D.force_eq] at h;simp at h;rw[<-h.1]
  simp at h;rw[<-h.1]
 simp at h;rw[<-h.1]
theorem AW{Q:Program}: ∀(ps:List P) (ts:List TypeId) (s s':S) (xs:List P),ep Q s ts ps=some (s',xs)->s'.n=s.n
 | [],ts,s,s',xs,h=>by simp[ep] at h;rw[<-h.1]
 |p::ps,ts,s,s',xs,h=>by
  simp only[ep] at h;split at h
  ·cases h
  rename_i s1 x h1;have e1:s1.n=s.n:=by
   unfold o8 at h1;split at h1
   ·split at h1
    next hf=>simp at h1;rw[<-h1.1];exact Cr hf
    cases h1
   ·split at h1
    next hf=>simp at h1;rw[<-h1.1];exact Cr hf
    cases h1
   exact PY h1
  split at h
  next s2 xs2 h2=>simp at h;rw[<-h.1,AW ps _ _ _ _ h2,e1]
  cases h
theorem PZ{Q:Program}{s s':S}{t:TypeId}{p q:P}(h:gw Q s t p q=some s'):s'.n=s.n:=by
 unfold gw at h;split at h
 ·cases h
 split at h
 ·split at h
  next h1=>
   split at h
   ·split at h
    ·simp at h;rw[<-h,gf,PV h1]
    cases h
   cases h
  cases h
 ·split at h
  next h1=>
   split at h
   ·split at h
    ·split at h
     ·simp only[zak] at h;rw[<-h,gf,Ct h1]
     cases h
    cases h
   cases h
  cases h
 cases h
theorem Ij{Q:Program}{f:FuncId}(ps:List P)(s s':S)(xs:List P)(h:cL Q s f ps=some (s',xs)):s'.n=s.n:=by
 unfold cL at h;split at h
 ·simp only[zak,zaL] at h;rw[h.1]
 exact AW ps _ s s' xs h
theorem xE(Q:Program)(s:S)(dst:Option Nat)(t:TypeId)(ps:List P):Loc (λs=>nk Q s dst t ps) s dst:=by
 unfold nk;cases h:ca s (site dst*1000) ps (pX Q 20 t) with
 |none=>exact⟨none,λm=>by simp only[lJ,h];rfl⟩
 |some r=>
  cases h2:r.1.new (site dst) (.box t r.2) with
  |none=>exact⟨none,λm=>by simp only[lJ,h,zaJ,jK,h2];rfl⟩
  |some r2=>exact⟨some (r2.1.rg,.ref (site dst) r2.2 0),λm=>by simp only[lJ,h,zaJ,jK,h2];exact gY m (by rw[qM h2,xD _ _ _ _ _ _ h])⟩
theorem EO(Q:Program)(s:S)(dst:Option Nat)(t t2:TypeId)(p q:P):Loc (λs=>iU Q s dst t t2 p q) s dst:=by
 unfold Loc iU;cases h1:cG Q t with
 |none=>exact⟨none,λm=>rfl⟩
 |some e=>
  simp only[];cases h2:Q.info? e with
  |none=>exact⟨none,λm=>rfl⟩
  |some i=>
   cases h3:sz Q e with
   |none=>exact⟨none,λm=>rfl⟩
   |some k=>
    cases k with
    |zero=>exact⟨none,λm=>rfl⟩
    |succ k=>
     simp only[Cq];cases h4:lW Q s t2 (k+1) q with
     |none=>exact⟨none,λm=>rfl⟩
     |some ys=>
      cases h5:dX Q e with
      |none=>exact⟨none,λm=>rfl⟩
      |some z=>
       simp only[];cases h6:Nat.beq z.cells.length (k+1) with
       |false=>exact⟨none,λm=>rfl⟩
       |true=>
        simp only[zbg];cases p with
        |sl n v len=>
         have e0: ∀m,(s.wt m).rg=s.rg:=λ_=>rfl;simp only[e0];cases h7:lk s.rg n with
         |none=>exact⟨none,λm=>rfl⟩
         |some en=>
          simp only[];cases h8:en.obj with
          |arr ty fz es=>
           cases fz with
           |true=>exact⟨none,λm=>rfl⟩
           |false=>
            simp only[];split
            ·exact⟨some (_,_),λm=>rfl⟩
            exact⟨none,λm=>rfl⟩
          |_=>exact⟨none,λm=>rfl⟩
        |d x=>
         cases x with
         |dS=>
          simp only[jK];split
          ·cases h7:s.new (site dst) (.arr e false ys) with
           |none=>exact⟨none,λm=>rfl⟩
           |some r2=>exact⟨some (r2.1.rg,_),λm=>gY m (qM h7)⟩
          exact⟨none,λm=>rfl⟩
         |_=>exact⟨none,λm=>rfl⟩
        |_=>exact⟨none,λm=>rfl⟩
theorem Mv(Q:Program)(s:S)(dst:Option Nat)(t:TypeId)(p q:P):Loc (λs=>sg Q s dst t p q) s dst:=by
 unfold Loc sg;split
 next e k1 l k2 c h1=>
  split
  next i k z h2 h3 h4=>
   split
   ·simp only[jK];cases h7:s.new (site dst) (.arr e false (List.replicate l.toNat z)) with
    |none=>exact⟨none,λm=>rfl⟩
    |some r2=>exact⟨some (r2.1.rg,_),λm=>gY m (qM h7)⟩
   exact⟨none,λm=>rfl⟩
  exact⟨none,λm=>rfl⟩
 exact⟨none,λm=>rfl⟩
theorem Cu(Q:Program)(s:S)(dst:Option Nat)(t:TypeId):Loc (λs=>kB Q s dst t) s dst:=by
 unfold Loc kB;split
 next kt e h1=>
  simp only[jK];cases h7:s.new (site dst) (.map kt (λ_=>none) 0 false) with
  |none=>exact⟨none,λm=>rfl⟩
  |some r2=>exact⟨some (r2.1.rg,_),λm=>gY m (qM h7)⟩
 exact⟨none,λm=>rfl⟩
theorem vu(Q:Program)(s:S)(dst:Option Nat)(t:TypeId)(p k x:P):Loc (λs=>iV Q s dst t p k x) s dst:=by
 unfold Loc iV;split
 next kt e n v kd h1=>
  simp only[wI];cases h2:nq Q s e x with
  |none=>exact⟨none,λm=>rfl⟩
  |some y=>
   simp only[zaJ,l6];split
   ·split
    ·simp only[eL];exact⟨some (_,.bad),λm=>gY m ((gf _ _ _).trans (Ct h2))⟩
    exact⟨none,λm=>rfl⟩
   exact⟨none,λm=>rfl⟩
 exact⟨none,λm=>rfl⟩
theorem EP(Q:Program)(s:S)(dst:Option Nat)(t:TypeId)(p k:P):Loc (λs=>iW Q s dst t p k) s dst:=by
 unfold Loc iW;split
 next kt e n v kd h1=>
  split
  ·simp only[l6];split
   ·rename_i zB get c h2;split
    ·simp only[jK];cases h7:s.new (site dst) .je with
     |none=>exact⟨none,λm=>rfl⟩
     |some r2=>simp only[zaJ,eL];exact⟨some (_,_),λm=>gY m ((gf _ _ _).trans (qM h7))⟩
    exact⟨none,λm=>rfl⟩
   exact⟨none,λm=>rfl⟩
  exact⟨none,λm=>rfl⟩
 exact⟨none,λm=>rfl⟩
theorem Ik(Q:Program)(s:S)(dst:Option Nat)(p st x:P):Loc (λs=>o7 Q s dst p st x) s dst:=by
 unfold Loc o7;split
 ·simp only[Ii];cases h2:DM Q s x with
  |none=>exact⟨none,λm=>rfl⟩
  |some y=>
   simp only[zaJ,l6];split
   ·split
    ·simp only[eL];exact⟨some (_,.bad),λm=>gY m ((gf _ _ _).trans (qaV h2))⟩
    exact⟨none,λm=>rfl⟩
   exact⟨none,λm=>rfl⟩
 exact⟨none,λm=>rfl⟩
theorem Il(Q:Program)(s:S)(dst:Option Nat)(t:TypeId)(p:P):Loc (λs=>rb Q s dst t p) s dst:=by
 unfold Loc rb;split
 next kt vt n v h1=>
  simp only[l6];split
  next zB get c fz h2=>
   split
   ·simp only[eL,jK];cases h7:(s.setObj n (.map kt get c true)).new (site dst) (.iter kt vt get none) with
    |none=>exact⟨none,λm=>rfl⟩
    |some r2=>exact⟨some (r2.1.rg,_),λm=>gY m ((qM h7).trans (gf _ _ _))⟩
   exact⟨none,λm=>rfl⟩
  exact⟨none,λm=>rfl⟩
 next kt vt h1=>
  simp only[jK];cases h7:s.new (site dst) (.iter kt vt (λ_=>none) none) with
  |none=>exact⟨none,λm=>rfl⟩
  |some r2=>exact⟨some (r2.1.rg,_),λm=>gY m (qM h7)⟩
 exact⟨none,λm=>rfl⟩
theorem vv(Q:Program)(t:TypeId)(k:Nat)(m:List (Nat×P)): ∀(ps:List (Nat×P)) (s:S) (es:List D),cK Q t k (s.wt m) es ps=(cK Q t k s es ps).map λx=>(x.1.wt m,x.2)
 | [],s,es=>rfl
 | (i,p)::r,s,es=>by
  simp only[cK,wI];cases h:nq Q s t p with
  |none=>rfl
  |some y=>
   simp only[zaJ];split
   ·exact vv Q t k m r y.1 _
   rfl
theorem xF{Q:Program}{t:TypeId}{k:Nat}: ∀(ps:List (Nat×P)) (s s':S) (es jI:List D),cK Q t k s es ps=some (s',jI)->s'.n=s.n
 | [],s,s',es,jI,h=>by simp[cK] at h;rw[h.1]
 | (i,p)::r,s,s',es,jI,h=>by
  simp only[cK] at h;split at h
  next s1 x h1=>
   split at h
   ·rw[xF r s1 s' _ jI h,Ct h1]
   cases h
  cases h
theorem Im(Q:Program)(s:S)(dst:Option Nat)(t:TypeId)(len:Nat)(parts:List (Nat×P)):Loc (λs=>ra Q s dst t len parts) s dst:=by
 unfold Loc ra;split
 next e h1=>
  split
  next i k z h2 h3 h4=>
   split
   ·simp only[vv];cases h5:cK Q e (k+1) s (List.replicate len z) parts with
    |none=>exact⟨none,λm=>rfl⟩
    |some r=>
     simp only[zaJ,jK];cases h7:r.1.new (site dst) (.arr e false r.2) with
     |none=>exact⟨none,λm=>rfl⟩
     |some r2=>exact⟨some (r2.1.rg,_),λm=>gY m (by rw[qM h7,xF _ _ _ _ _ h5])⟩
   exact⟨none,λm=>rfl⟩
  exact⟨none,λm=>rfl⟩
 exact⟨none,λm=>rfl⟩
theorem Io(Q:Program)(s:S)(dst:Option Nat)(t:TypeId)(p:P):Loc (λs=>nr Q s dst t p) s dst:=by
 unfold Loc nr;split
 ·simp only[l6,eL];split
  ·split
   ·exact⟨some (_,_),λm=>gY m (gf _ _ _)⟩
   exact⟨none,λm=>rfl⟩
  exact⟨none,λm=>rfl⟩
 exact⟨none,λm=>rfl⟩
theorem Mw(Q:Program)(s:S)(dst:Option Nat)(t t2:TypeId)(p q:P):Loc (λs=>sj Q s dst t t2 p q) s dst:=by
 unfold Loc sj;split
 ·split
  ·simp only[Cq,l6,eL];split
   ·split
    ·exact⟨some (_,_),λm=>gY m (gf _ _ _)⟩
    exact⟨none,λm=>rfl⟩
   exact⟨none,λm=>rfl⟩
  exact⟨none,λm=>rfl⟩
 exact⟨none,λm=>rfl⟩
structure Alike(s s2:S)(xs:List Operand):Prop where
 n:s2.n=s.n
 rg:s2.rg=s.rg
 ev: ∀x∈xs,s2.ev x=s.ev x
theorem Alike.wt{s s2:S}{xs:List Operand}(h:Alike s s2 xs):s2=s.wt s2.tm:=by
 cases s2 with
 |mk n tm rg=>have h1:=h.n;have h2:=h.rg;simp only at h1 h2;subst h1 h2;rfl
theorem Alike.eg{s s2:S}{xs:List Operand}(h:Alike s s2 xs){x:Operand}(hx:x∈xs)(g:Option (Nat×Bool)):s2.eg g x=s.eg g x:=by unfold S.eg;rw[h.ev x hx]
theorem Alike.egs{s s2:S}{xs:List Operand}(h:Alike s s2 xs){ys:List Operand}(hy: ∀y∈ys,y∈xs)(g:Option (Nat×Bool)):ys.map (s2.eg g)=ys.map (s.eg g):=
 zbP λy hyy=>h.eg (hy y hyy) g
theorem pz{f:S->Option S}{s s2:S}{xs:List Operand}{dst:Option Nat}(h:Alike s s2 xs)(hl:Loc f s dst): ∃c,f s=fin s dst c/\f s2=fin s2 dst c:=by
 obtain⟨c,hc⟩:=hl;refine⟨c,?_,?_⟩
 ·exact hc s.tm
 have e:=h.wt;rw[e];exact hc s2.tm
theorem xG{Q:Program}{s s2:S}{o:Oper}(h:Alike s s2 o.op.operands.toList)(g:Option (Nat×Bool)):pv Q s2 o g=pv Q s o g:=by
 have hs:=h.wt;have mem: ∀{x:Operand},x∈o.op.operands->x∈o.op.operands.toList:=λhx=>by simpa using hx
 unfold pv;split
 next x ho=>rw[h.eg (by simp[ho,Op.operands])]
 next x ho=>rw[h.eg (by simp[ho,Op.operands])]
 next c x y ho=>rw[h.eg (x:=c) (by simp[ho,Op.operands]),h.eg (x:=x) (by simp[ho,Op.operands]),h.eg (x:=y) (by simp[ho,Op.operands])]
 next x ho=>rw[h.eg (by simp[ho,Op.operands]),hs];rfl
 next op t x y yt ho=>rw[h.eg (x:=x) (by simp[ho,Op.operands]),h.eg (x:=y) (by simp[ho,Op.operands]),hs];rfl
 next op t x ho=>rw[h.eg (by simp[ho,Op.operands])]
 next t1 t2 x ho=>rw[h.eg (by simp[ho,Op.operands])]
 next t x ho=>rw[h.eg (by simp[ho,Op.operands]),hs];rfl
 next t x f ho=>rw[h.eg (by simp[ho,Op.operands]),hs];rfl
 next t x i ho=>rw[h.eg (x:=x) (by simp[ho,Op.operands]),h.eg (x:=i) (by simp[ho,Op.operands]),hs];rfl
 next t x i ho=>rw[h.eg (x:=x) (by simp[ho,Op.operands]),h.eg (x:=i) (by simp[ho,Op.operands])]
 next t x f ho=>rw[h.eg (by simp[ho,Op.operands])]
 next x i ho=>rw[h.eg (by simp[ho,Op.operands])]
 next t x i ok ho=>rw[h.eg (x:=x) (by simp[ho,Op.operands]),h.eg (x:=i) (by simp[ho,Op.operands]),hs];rfl
 next x ho=>
  have e5: ∀p,o5 s2 p=o5 s p:=λp=>by rw[hs];rfl
  rw[e5,h.eg (by simp[ho,Op.operands])]
 next t x lo hi ho=>
  have e5: ∀p l h',lU Q s2 t p l h'=lU Q s t p l h':=λp l h'=>by rw[hs];rfl
  rw[e5,h.eg (x:=x) (by simp[ho,Op.operands])];cases lo with
  |none=>cases hi with
   |none=>rfl
   |some u=>simp only[zaJ];rw[h.eg (x:=u) (by simp[ho,Op.operands])];rfl
  |some l=>cases hi with
   |none=>simp only[zaJ];rw[h.eg (x:=l) (by simp[ho,Op.operands])];rfl
   |some u=>simp only[zaJ];rw[h.eg (x:=l) (by simp[ho,Op.operands]),h.eg (x:=u) (by simp[ho,Op.operands])]
 next t parts ho=>
  have e:parts.toList.map (λx=>s2.eg g x.2)=parts.toList.map (λx=>s.eg g x.2):=zbP λx hx=>h.eg (by simp only[ho,Op.operands];exact zbt (f:=λx:Nat×Operand=>x.2) hx) g;have e2:parts.toList.map (λx=>(x.1,s2.eg g x.2))=parts.toList.map (λx=>(x.1,s.eg g x.2)):=zbP λx hx=>by rw[h.eg (x:=x.2) (by simp only[ho,Op.operands];exact zbt (f:=λx:Nat×Operand=>x.2) hx) g]
  rw[e,e2]
 next f first cF ho=>
  have e:cF.toList.map (s2.eg g)=cF.toList.map (s.eg g):=h.egs (λy hy=>by simp only[ho,Op.operands];simp at hy;simp[hy]) g;rw[e]
 next c ho=>
  have hm: ∀y∈c.args.toList,y∈o.op.operands.toList:=λy hy=>by simp only[ho,Op.operands,Call.operands];simp at hy;simp[hy]
  split
  ·split
   ·rename_i x cN;rw[h.eg (x:=x) (hm x (by rw[cN];simp))];have e5: ∀p,Eh s2 p=Eh s p:=λp=>by rw[hs];rfl
    have e6: ∀p,Ei s2 p=Ei s p:=λp=>by rw[hs];rfl
    rw[e5,e6]
   rfl
  ·rw[h.egs hm]
  ·rw[h.egs hm]
  rfl
 rfl
end Pi
