/- The text PiLoc. -/
import Derived.Test.YtngoddkencoalaaGreatDoorPiRegion
namespace Pi
open Go
def S.wt(s:S)(m:List (Nat×P)):S:=⟨s.n,m,s.rg⟩
theorem me(s:S)(m:List (Nat×P))(n v:Nat):(s.wt m).obj n v=s.obj n v:=rfl
theorem jO(s:S)(m:List (Nat×P))(n:Nat)(o:Obj):(s.wt m).new n o=(s.new n o).map λx=>(x.1.wt m,x.2):=by
 unfold S.new S.wt;simp only;split
 ·rfl
 split
 ·rfl
 split<;>rfl
theorem eQ(s:S)(m:List (Nat×P))(n:Nat)(o:Obj):(s.wt m).setObj n o=(s.setObj n o).wt m:=by unfold S.setObj S.wt;simp only;split<;>rfl
theorem Kr(s:S)(m:List (Nat×P))(n:Nat)(p:P)(t:Option TypeId):sj (s.wt m) n p t=(sj s n p t).map λx=>(x.1.wt m,x.2):=by
 unfold sj;split
 ·rw[jO];cases s.new n _<;>rfl
 rfl
theorem lT(m:List (Nat×P)): ∀(ps:List P) (ts:List (Option TypeId)) (n:Nat) (s:S),cm (s.wt m) n ps ts=(cm s n ps ts).map λx=>(x.1.wt m,x.2)
 | [],_,_,_=>rfl
 |p::ps,ts,n,s=>by
  simp only[cm];rw[Kr];cases h:sj s n p (ts.headD none) with
  |none=>rfl
  |some r=>simp only[zaK];rw[lT m ps ts.tail (n+1) r.1];cases cm r.1 (n+1) ps ts.tail<;>rfl
theorem wz(Q:Program)(s:S)(m:List (Nat×P))(p:P):oW Q (s.wt m) p=(oW Q s p).map λx=>(x.1.wt m,x.2):=by
 unfold oW;split
 ·rfl
 ·rw[me];split
  ·split
   ·rw[eQ];rfl
   rfl
  rfl
 ·rw[me];split
  ·split
   ·split
    ·rw[eQ];rfl
    rfl
   rfl
  rfl
 rfl
theorem Ks(Q:Program)(m:List (Nat×P)): ∀(ps:List P) (s:S),qq Q (s.wt m) ps=(qq Q s ps).map λx=>(x.1.wt m,x.2)
 | [],_=>rfl
 |p::ps,s=>by
  simp only[qq];rw[wz];cases h:oW Q s p with
  |none=>rfl
  |some r=>simp only[zaK];rw[Ks Q m ps r.1];cases qq Q r.1 ps<;>rfl
theorem H8(Q:Program)(s:S)(m:List (Nat×P))(p:P):DV Q (s.wt m) p=(DV Q s p).map λx=>(x.1.wt m,x.2):=by
 unfold DV;split
 ·rw[Ks];cases qq Q s _<;>rfl
 exact wz Q s m p
theorem wA(Q:Program)(s:S)(t:TypeId)(m:List (Nat×P))(p:P):nv Q (s.wt m) t p=(nv Q s t p).map λx=>(x.1.wt m,x.2):=by
 unfold nv;split
 ·exact H8 Q s m p
 rw[H8];cases DV Q s p with
 |none=>rfl
 |some r=>simp only[zaK,D.force_eq]
theorem Mq(Q:Program)(s:S)(t:TypeId)(m:List (Nat×P))(p:P):kH Q (s.wt m) t p=(kH Q s t p).map λx=>(x.1.wt m,x.2):=by
 unfold kH;split
 ·split
  ·rw[wA];cases nv Q s t _<;>rfl
  rfl
 ·split
  ·simp only[D.force_eq];rfl
  rfl
 rfl
theorem Mr(Q:Program)(s:S)(t:TypeId)(m:List (Nat×P))(p:P):oY Q (s.wt m) t p=(oY Q s t p).map λx=>(x.1.wt m,x.2):=by
 unfold oY;split
 ·rw[wz];cases oW Q s _<;>rfl
 ·rw[wz];cases oW Q s _<;>rfl
 exact Mq Q s t m _
theorem xC(Q:Program)(m:List (Nat×P)): ∀(ps:List P) (ts:List TypeId) (s:S),eC Q (s.wt m) ts ps=(eC Q s ts ps).map λx=>(x.1.wt m,x.2)
 | [],_,_=>rfl
 |p::ps,ts,s=>by
  simp only[eC];rw[Mr];cases h:oY Q s (ts.headD 0) p with
  |none=>rfl
  |some r=>simp only[zaK];rw[xC Q m ps ts.tail r.1];cases eC Q r.1 ts.tail ps<;>rfl
theorem uR(Q:Program)(m:List (Nat×P))(f:FuncId)(ps:List P)(s:S):cO Q (s.wt m) f ps=(cO Q s f ps).map λx=>(x.1.wt m,x.2):=by
 unfold cO;split
 ·rfl
 exact xC Q m ps _ s
theorem AY(Q:Program)(s:S)(m:List (Nat×P))(t:TypeId)(p q:P):gx Q (s.wt m) t p q=(gx Q s t p q).map λx=>x.wt m:=by
 unfold gx;split
 ·rfl
 split
 ·rw[Kr];cases sj s _ q _ with
  |none=>rfl
  |some r=>
   simp only[zaK,me];split
   ·split
    ·rw[eQ];rfl
    rfl
   rfl
 ·rw[wA];cases nv Q s t q with
  |none=>rfl
  |some r=>
   simp only[zaK,me];split
   ·split
    ·split
     ·rw[eQ];rfl
     rfl
    rfl
   rfl
 rfl
theorem Cx(Q:Program)(s:S)(m:List (Nat×P))(t2:TypeId)(k:Nat)(p:P):l8 Q (s.wt m) t2 k p=l8 Q s t2 k p:=rfl
def fin(s:S)(dst:Option Nat)(c:Option (List (Nat×En)×P)):Option S:=
 match c with
 |some (R,p)=>(⟨s.n,s.tm,R⟩:S).put dst p
 |none=>none
def Loc(f:S->Option S)(s:S)(dst:Option Nat):Prop:= ∃c,∀m,f (s.wt m)=fin (s.wt m) dst c
theorem gZ{s s1:S}{dst:Option Nat}{p:P}(m:List (Nat×P))(hn:s1.n=s.n):(s1.wt m).put dst p=fin (s.wt m) dst (some (s1.rg,p)):=by unfold fin S.wt;rw[hn]
theorem qW{s:S}{n v:Nat}{o:Obj}{s':S}(h:s.new n o=some (s',v)):s'.n=s.n:=by obtain⟨rfl,_⟩:=S.kV h;rfl
theorem fZ(s:S)(n:Nat)(o:Obj):(s.setObj n o).n=s.n:=by unfold S.setObj;split<;>rfl
theorem PS{s:S}{n:Nat}{p q:P}{t:Option TypeId}{s':S}(h:sj s n p t=some (s',q)):s'.n=s.n:=by
 unfold sj at h;split at h
 ·split at h
  next hn=>simp at h;rw[<-h.1];exact qW hn
  cases h
 simp at h;rw[<-h.1]
theorem xD: ∀(ps:List P) (ts:List (Option TypeId)) (n:Nat) (s s':S) (qs:List P),cm s n ps ts=some (s',qs)->s'.n=s.n
 | [],_,_,s,s',qs,h=>by simp[cm] at h;rw[<-h.1]
 |p::ps,ts,n,s,s',qs,h=>by
  simp only[cm] at h;split at h
  ·cases h
  rename_i s1 q h1;split at h
  next s2 qs2 h2=>simp at h;rw[<-h.1,xD ps _ _ _ _ _ h2,PS h1]
  cases h
theorem Cy{Q:Program}{s s':S}{p:P}{x:D}(h:oW Q s p=some (s',x)):s'.n=s.n:=by
 unfold oW at h;split at h
 ·simp at h;rw[<-h.1]
 ·split at h
  ·split at h
   ·simp at h;rw[<-h.1];exact fZ _ _ _
   cases h
  cases h
 ·split at h
  ·split at h
   ·split at h
    ·simp at h;rw[<-h.1];exact fZ _ _ _
    cases h
   cases h
  cases h
 cases h
theorem PT{Q:Program}: ∀(ps:List P) (s s':S) (xs:List D),qq Q s ps=some (s',xs)->s'.n=s.n
 | [],s,s',xs,h=>by simp[qq] at h;rw[<-h.1]
 |p::ps,s,s',xs,h=>by
  simp only[qq] at h;split at h
  ·cases h
  rename_i s1 x h1;split at h
  next s2 xs2 h2=>simp at h;rw[<-h.1,PT ps _ _ _ h2,Cy h1]
  cases h
theorem qaG{Q:Program}{s s':S}{p:P}{x:D}(h:DV Q s p=some (s',x)):s'.n=s.n:=by
 unfold DV at h;split at h
 ·split at h
  next h1=>simp at h;rw[<-h.1];exact PT _ _ _ _ h1
  cases h
 exact Cy h
theorem Cz{Q:Program}{s s':S}{t:TypeId}{p:P}{x:D}(h:nv Q s t p=some (s',x)):s'.n=s.n:=by obtain⟨y,h1,_⟩:=tS h;exact qaG h1
theorem PU{Q:Program}{s s':S}{t:TypeId}{p q:P}(h:kH Q s t p=some (s',q)):s'.n=s.n:=by
 unfold kH at h;split at h
 ·split at h
  ·split at h
   next hf=>simp at h;rw[<-h.1];exact Cz hf
   cases h
  simp at h;rw[<-h.1]
 ·split at h
  ·rw[D.force_eq] at h;simp at h;rw[<-h.1]
  simp at h;rw[<-h.1]
 simp at h;rw[<-h.1]
theorem AZ{Q:Program}: ∀(ps:List P) (ts:List TypeId) (s s':S) (xs:List P),eC Q s ts ps=some (s',xs)->s'.n=s.n
 | [],ts,s,s',xs,h=>by simp[eC] at h;rw[<-h.1]
 |p::ps,ts,s,s',xs,h=>by
  simp only[eC] at h;split at h
  ·cases h
  rename_i s1 x h1;have e1:s1.n=s.n:=by
   unfold oY at h1;split at h1
   ·split at h1
    next hf=>simp at h1;rw[<-h1.1];exact Cy hf
    cases h1
   ·split at h1
    next hf=>simp at h1;rw[<-h1.1];exact Cy hf
    cases h1
   exact PU h1
  split at h
  next s2 xs2 h2=>simp at h;rw[<-h.1,AZ ps _ _ _ _ h2,e1]
  cases h
theorem PV{Q:Program}{s s':S}{t:TypeId}{p q:P}(h:gx Q s t p q=some s'):s'.n=s.n:=by
 unfold gx at h;split at h
 ·cases h
 split at h
 ·split at h
  next h1=>
   split at h
   ·split at h
    ·simp at h;rw[<-h,fZ,PS h1]
    cases h
   cases h
  cases h
 ·split at h
  next h1=>
   split at h
   ·split at h
    ·split at h
     ·simp only[zal] at h;rw[<-h,fZ,Cz h1]
     cases h
    cases h
   cases h
  cases h
 cases h
theorem H9{Q:Program}{f:FuncId}(ps:List P)(s s':S)(xs:List P)(h:cO Q s f ps=some (s',xs)):s'.n=s.n:=by
 unfold cO at h;split at h
 ·simp only[zal,zbC] at h;rw[h.1]
 exact AZ ps _ s s' xs h
theorem xE(Q:Program)(s:S)(dst:Option Nat)(t:TypeId)(ps:List P):Loc (λs=>nu Q s dst t ps) s dst:=by
 unfold nu;cases h:cm s (site dst*1000) ps (pW Q 20 t) with
 |none=>exact⟨none,λm=>by simp only[lT,h];rfl⟩
 |some r=>
  cases h2:r.1.new (site dst) (.box t r.2) with
  |none=>exact⟨none,λm=>by simp only[lT,h,zaK,jO,h2];rfl⟩
  |some r2=>exact⟨some (r2.1.rg,.ref (site dst) r2.2 0),λm=>by simp only[lT,h,zaK,jO,h2];exact gZ m (by rw[qW h2,xD _ _ _ _ _ _ h])⟩
theorem EV(Q:Program)(s:S)(dst:Option Nat)(t t2:TypeId)(p q:P):Loc (λs=>iY Q s dst t t2 p q) s dst:=by
 unfold Loc iY;cases h1:cJ Q t with
 |none=>exact⟨none,λm=>rfl⟩
 |some e=>
  simp only[];cases h2:Q.info? e with
  |none=>exact⟨none,λm=>rfl⟩
  |some i=>
   cases h3:sz Q e with
   |none=>exact⟨none,λm=>rfl⟩
   |some k=>
    cases k with
    |zero=>exact⟨none,λm=>rfl⟩
    |succ k=>
     simp only[Cx];cases h4:l8 Q s t2 (k+1) q with
     |none=>exact⟨none,λm=>rfl⟩
     |some ys=>
      cases h5:ey Q e with
      |none=>exact⟨none,λm=>rfl⟩
      |some z=>
       simp only[];cases h6:Nat.beq z.cells.length (k+1) with
       |false=>exact⟨none,λm=>rfl⟩
       |true=>
        simp only[zbb];cases p with
        |sl n v len=>
         have e0: ∀m,(s.wt m).rg=s.rg:=λ_=>rfl;simp only[e0];cases h7:lk s.rg n with
         |none=>exact⟨none,λm=>rfl⟩
         |some en=>
          simp only[];cases h8:en.obj with
          |arr ty fz es=>
           cases fz with
           |true=>exact⟨none,λm=>rfl⟩
           |false=>
            simp only[];split
            ·exact⟨some (_,_),λm=>rfl⟩
            exact⟨none,λm=>rfl⟩
          |_=>exact⟨none,λm=>rfl⟩
        |d x=>
         cases x with
         |fP=>
          simp only[jO];split
          ·cases h7:s.new (site dst) (.arr e false ys) with
           |none=>exact⟨none,λm=>rfl⟩
           |some r2=>exact⟨some (r2.1.rg,_),λm=>gZ m (qW h7)⟩
          exact⟨none,λm=>rfl⟩
         |_=>exact⟨none,λm=>rfl⟩
        |_=>exact⟨none,λm=>rfl⟩
theorem Ms(Q:Program)(s:S)(dst:Option Nat)(t:TypeId)(p q:P):Loc (λs=>sk Q s dst t p q) s dst:=by
 unfold Loc sk;split
 next e k1 l k2 c h1=>
  split
  next i k z h2 h3 h4=>
   split
   ·simp only[jO];cases h7:s.new (site dst) (.arr e false (List.replicate l.toNat z)) with
    |none=>exact⟨none,λm=>rfl⟩
    |some r2=>exact⟨some (r2.1.rg,_),λm=>gZ m (qW h7)⟩
   exact⟨none,λm=>rfl⟩
  exact⟨none,λm=>rfl⟩
 exact⟨none,λm=>rfl⟩
theorem CA(Q:Program)(s:S)(dst:Option Nat)(t:TypeId):Loc (λs=>kG Q s dst t) s dst:=by
 unfold Loc kG;split
 next kt e h1=>
  simp only[jO];cases h7:s.new (site dst) (.map kt (λ_=>none) 0 false) with
  |none=>exact⟨none,λm=>rfl⟩
  |some r2=>exact⟨some (r2.1.rg,_),λm=>gZ m (qW h7)⟩
 exact⟨none,λm=>rfl⟩
theorem uS(Q:Program)(s:S)(dst:Option Nat)(t:TypeId)(p k x:P):Loc (λs=>iZ Q s dst t p k x) s dst:=by
 unfold Loc iZ;split
 next kt e n v kd h1=>
  simp only[wA];cases h2:nv Q s e x with
  |none=>exact⟨none,λm=>rfl⟩
  |some y=>
   simp only[zaK,me];split
   ·split
    ·simp only[eQ];exact⟨some (_,.bad),λm=>gZ m ((fZ _ _ _).trans (Cz h2))⟩
    exact⟨none,λm=>rfl⟩
   exact⟨none,λm=>rfl⟩
 exact⟨none,λm=>rfl⟩
theorem EW(Q:Program)(s:S)(dst:Option Nat)(t:TypeId)(p k:P):Loc (λs=>ja Q s dst t p k) s dst:=by
 unfold Loc ja;split
 next kt e n v kd h1=>
  split
  ·simp only[me];split
   ·rename_i zK get c h2;split
    ·simp only[jO];cases h7:s.new (site dst) .ew with
     |none=>exact⟨none,λm=>rfl⟩
     |some r2=>simp only[zaK,eQ];exact⟨some (_,_),λm=>gZ m ((fZ _ _ _).trans (qW h7))⟩
    exact⟨none,λm=>rfl⟩
   exact⟨none,λm=>rfl⟩
  exact⟨none,λm=>rfl⟩
 exact⟨none,λm=>rfl⟩
theorem Ia(Q:Program)(s:S)(dst:Option Nat)(p st x:P):Loc (λs=>oX Q s dst p st x) s dst:=by
 unfold Loc oX;split
 ·simp only[H8];cases h2:DV Q s x with
  |none=>exact⟨none,λm=>rfl⟩
  |some y=>
   simp only[zaK,me];split
   ·split
    ·simp only[eQ];exact⟨some (_,.bad),λm=>gZ m ((fZ _ _ _).trans (qaG h2))⟩
    exact⟨none,λm=>rfl⟩
   exact⟨none,λm=>rfl⟩
 exact⟨none,λm=>rfl⟩
theorem Ib(Q:Program)(s:S)(dst:Option Nat)(t:TypeId)(p:P):Loc (λs=>rk Q s dst t p) s dst:=by
 unfold Loc rk;split
 next kt vt n v h1=>
  simp only[me];split
  next zK get c fz h2=>
   split
   ·simp only[eQ,jO];cases h7:(s.setObj n (.map kt get c true)).new (site dst) (.iter kt vt get none) with
    |none=>exact⟨none,λm=>rfl⟩
    |some r2=>exact⟨some (r2.1.rg,_),λm=>gZ m ((qW h7).trans (fZ _ _ _))⟩
   exact⟨none,λm=>rfl⟩
  exact⟨none,λm=>rfl⟩
 next kt vt h1=>
  simp only[jO];cases h7:s.new (site dst) (.iter kt vt (λ_=>none) none) with
  |none=>exact⟨none,λm=>rfl⟩
  |some r2=>exact⟨some (r2.1.rg,_),λm=>gZ m (qW h7)⟩
 exact⟨none,λm=>rfl⟩
theorem uT(Q:Program)(t:TypeId)(k:Nat)(m:List (Nat×P)): ∀(ps:List (Nat×P)) (s:S) (es:List D),cN Q t k (s.wt m) es ps=(cN Q t k s es ps).map λx=>(x.1.wt m,x.2)
 | [],s,es=>rfl
 | (i,p)::r,s,es=>by
  simp only[cN,wA];cases h:nv Q s t p with
  |none=>rfl
  |some y=>
   simp only[zaK];split
   ·exact uT Q t k m r y.1 _
   rfl
theorem xF{Q:Program}{t:TypeId}{k:Nat}: ∀(ps:List (Nat×P)) (s s':S) (es fA:List D),cN Q t k s es ps=some (s',fA)->s'.n=s.n
 | [],s,s',es,fA,h=>by simp[cN] at h;rw[h.1]
 | (i,p)::r,s,s',es,fA,h=>by
  simp only[cN] at h;split at h
  next s1 x h1=>
   split at h
   ·rw[xF r s1 s' _ fA h,Cz h1]
   cases h
  cases h
theorem Ic(Q:Program)(s:S)(dst:Option Nat)(t:TypeId)(len:Nat)(parts:List (Nat×P)):Loc (λs=>rj Q s dst t len parts) s dst:=by
 unfold Loc rj;split
 next e h1=>
  split
  next i k z h2 h3 h4=>
   split
   ·simp only[uT];cases h5:cN Q e (k+1) s (List.replicate len z) parts with
    |none=>exact⟨none,λm=>rfl⟩
    |some r=>
     simp only[zaK,jO];cases h7:r.1.new (site dst) (.arr e false r.2) with
     |none=>exact⟨none,λm=>rfl⟩
     |some r2=>exact⟨some (r2.1.rg,_),λm=>gZ m (by rw[qW h7,xF _ _ _ _ _ h5])⟩
   exact⟨none,λm=>rfl⟩
  exact⟨none,λm=>rfl⟩
 exact⟨none,λm=>rfl⟩
theorem Ie(Q:Program)(s:S)(dst:Option Nat)(t:TypeId)(p:P):Loc (λs=>nw Q s dst t p) s dst:=by
 unfold Loc nw;split
 ·simp only[me,eQ];split
  ·split
   ·exact⟨some (_,_),λm=>gZ m (fZ _ _ _)⟩
   exact⟨none,λm=>rfl⟩
  exact⟨none,λm=>rfl⟩
 exact⟨none,λm=>rfl⟩
theorem Mt(Q:Program)(s:S)(dst:Option Nat)(t t2:TypeId)(p q:P):Loc (λs=>sq Q s dst t t2 p q) s dst:=by
 unfold Loc sq;split
 ·split
  ·simp only[Cx,me,eQ];split
   ·split
    ·exact⟨some (_,_),λm=>gZ m (fZ _ _ _)⟩
    exact⟨none,λm=>rfl⟩
   exact⟨none,λm=>rfl⟩
  exact⟨none,λm=>rfl⟩
 exact⟨none,λm=>rfl⟩
structure Alike(s s2:S)(xs:List Operand):Prop where
 n:s2.n=s.n
 rg:s2.rg=s.rg
 ev: ∀x∈xs,s2.ev x=s.ev x
theorem Alike.wt{s s2:S}{xs:List Operand}(h:Alike s s2 xs):s2=s.wt s2.tm:=by
 cases s2 with
 |mk n tm rg=>have h1:=h.n;have h2:=h.rg;simp only at h1 h2;subst h1 h2;rfl
theorem Alike.eg{s s2:S}{xs:List Operand}(h:Alike s s2 xs){x:Operand}(hx:x∈xs)(g:Option (Nat×Bool)):s2.eg g x=s.eg g x:=by unfold S.eg;rw[h.ev x hx]
theorem Alike.egs{s s2:S}{xs:List Operand}(h:Alike s s2 xs){ys:List Operand}(hy: ∀y∈ys,y∈xs)(g:Option (Nat×Bool)):ys.map (s2.eg g)=ys.map (s.eg g):=
 zbF λy hyy=>h.eg (hy y hyy) g
theorem pj{f:S->Option S}{s s2:S}{xs:List Operand}{dst:Option Nat}(h:Alike s s2 xs)(hl:Loc f s dst): ∃c,f s=fin s dst c/\f s2=fin s2 dst c:=by
 obtain⟨c,hc⟩:=hl;refine⟨c,?_,?_⟩
 ·exact hc s.tm
 have e:=h.wt;rw[e];exact hc s2.tm
theorem xG{Q:Program}{s s2:S}{o:Oper}(h:Alike s s2 o.op.operands.toList)(g:Option (Nat×Bool)):pv Q s2 o g=pv Q s o g:=by
 have hs:=h.wt;have mem: ∀{x:Operand},x∈o.op.operands->x∈o.op.operands.toList:=λhx=>by simpa using hx
 unfold pv;split
 next x ho=>rw[h.eg (by simp[ho,Op.operands])]
 next x ho=>rw[h.eg (by simp[ho,Op.operands])]
 next c x y ho=>rw[h.eg (x:=c) (by simp[ho,Op.operands]),h.eg (x:=x) (by simp[ho,Op.operands]),h.eg (x:=y) (by simp[ho,Op.operands])]
 next x ho=>rw[h.eg (by simp[ho,Op.operands]),hs];rfl
 next op t x y yt ho=>rw[h.eg (x:=x) (by simp[ho,Op.operands]),h.eg (x:=y) (by simp[ho,Op.operands]),hs];rfl
 next op t x ho=>rw[h.eg (by simp[ho,Op.operands])]
 next t1 t2 x ho=>rw[h.eg (by simp[ho,Op.operands])]
 next t x ho=>rw[h.eg (by simp[ho,Op.operands]),hs];rfl
 next t x f ho=>rw[h.eg (by simp[ho,Op.operands]),hs];rfl
 next t x i ho=>rw[h.eg (x:=x) (by simp[ho,Op.operands]),h.eg (x:=i) (by simp[ho,Op.operands]),hs];rfl
 next t x i ho=>rw[h.eg (x:=x) (by simp[ho,Op.operands]),h.eg (x:=i) (by simp[ho,Op.operands])]
 next t x f ho=>rw[h.eg (by simp[ho,Op.operands])]
 next x i ho=>rw[h.eg (by simp[ho,Op.operands])]
 next t x i ok ho=>rw[h.eg (x:=x) (by simp[ho,Op.operands]),h.eg (x:=i) (by simp[ho,Op.operands]),hs];rfl
 next x ho=>
  have e5: ∀p,oV s2 p=oV s p:=λp=>by rw[hs];rfl
  rw[e5,h.eg (by simp[ho,Op.operands])]
 next t x lo hi ho=>
  have e5: ∀p l h',l6 Q s2 t p l h'=l6 Q s t p l h':=λp l h'=>by rw[hs];rfl
  rw[e5,h.eg (x:=x) (by simp[ho,Op.operands])];cases lo with
  |none=>cases hi with
   |none=>rfl
   |some u=>simp only[zaK];rw[h.eg (x:=u) (by simp[ho,Op.operands])];rfl
  |some l=>cases hi with
   |none=>simp only[zaK];rw[h.eg (x:=l) (by simp[ho,Op.operands])];rfl
   |some u=>simp only[zaK];rw[h.eg (x:=l) (by simp[ho,Op.operands]),h.eg (x:=u) (by simp[ho,Op.operands])]
 next t parts ho=>
  have e:parts.toList.map (λx=>s2.eg g x.2)=parts.toList.map (λx=>s.eg g x.2):=zbF λx hx=>h.eg (by simp only[ho,Op.operands];exact za7 (f:=λx:Nat×Operand=>x.2) hx) g;have e2:parts.toList.map (λx=>(x.1,s2.eg g x.2))=parts.toList.map (λx=>(x.1,s.eg g x.2)):=zbF λx hx=>by rw[h.eg (x:=x.2) (by simp only[ho,Op.operands];exact za7 (f:=λx:Nat×Operand=>x.2) hx) g]
  rw[e,e2]
 next f first cI ho=>
  have e:cI.toList.map (s2.eg g)=cI.toList.map (s.eg g):=h.egs (λy hy=>by simp only[ho,Op.operands];simp at hy;simp[hy]) g;rw[e]
 next c ho=>
  have hm: ∀y∈c.args.toList,y∈o.op.operands.toList:=λy hy=>by simp only[ho,Op.operands,Call.operands];simp at hy;simp[hy]
  split
  ·split
   ·rename_i x cP;rw[h.eg (x:=x) (hm x (by rw[cP];simp))];have e5: ∀p,El s2 p=El s p:=λp=>by rw[hs];rfl
    have e6: ∀p,Em s2 p=Em s p:=λp=>by rw[hs];rfl
    rw[e5,e6]
   rfl
  ·rw[h.egs hm]
  ·rw[h.egs hm]
  rfl
 rfl
end Pi
