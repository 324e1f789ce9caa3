/- The text PiLoc. -/
import Derived.Test.YtdgkdigdflkjhaaGreatDoorPiRegion
namespace Pi
open Go
def S.wt(s:S)(m:List (Nat×P)):S:=⟨s.n,m,s.rg⟩
theorem lQ(s:S) m n v:(s.wt m).obj n v=s.obj n v:=rfl
theorem kq(s:S) m n o:(s.wt m).new n o=(s.new n o).map λx=>(x.1.wt m,x.2):=by
 unfold S.new S.wt;simp only;split
 ·rfl
 split
 ·rfl
 split<;>rfl
theorem eC(s:S) m n o:(s.wt m).setObj n o=(s.setObj n o).wt m:=by unfold S.setObj S.wt;simp only;split<;>rfl
theorem NW s m n p t:uj (s.wt m) n p t=(uj s n p t).map λx=>(x.1.wt m,x.2):=by
 unfold uj;split
 ·rw[kq];cases s.new n _<;>rfl
 rfl
theorem mV m: ∀ps ts n s,cw (s.wt m) n ps ts=(cw s n ps ts).map λx=>(x.1.wt m,x.2)
 | [],_,_,_=>rfl
 |p::ps,ts,n,s=>by
  simp only[cw];rw[NW];cases h:uj s n p (ts.headD none) with
  |none=>rfl
  |some r=>simp only[zaH];rw[mV m ps ts.tail (n+1) r.1];cases cw r.1 (n+1) ps ts.tail<;>rfl
theorem yI Q s m p:qu Q (s.wt m) p=(qu Q s p).map λx=>(x.1.wt m,x.2):=by
 unfold qu;split
 ·rfl
 ·rw[lQ];split
  ·split
   ·rw[eC];rfl
   rfl
  rfl
 ·rw[lQ];split
  ·split
   ·split
    ·rw[eC];rfl
    rfl
   rfl
  rfl
 rfl
theorem NX Q m: ∀ps s,rV Q (s.wt m) ps=(rV Q s ps).map λx=>(x.1.wt m,x.2)
 | [],_=>rfl
 |p::ps,s=>by
  simp only[rV];rw[yI];cases h:qu Q s p with
  |none=>rfl
  |some r=>simp only[zaH];rw[NX Q m ps r.1];cases rV Q r.1 ps<;>rfl
theorem LQ Q s m p:Hc Q (s.wt m) p=(Hc Q s p).map λx=>(x.1.wt m,x.2):=by
 unfold Hc;split
 ·rw[NX];cases rV Q s _<;>rfl
 exact yI Q s m p
theorem yJ Q s t m p:oW Q (s.wt m) t p=(oW Q s t p).map λx=>(x.1.wt m,x.2):=by
 unfold oW;split
 ·exact LQ Q s m p
 rw[LQ];cases Hc Q s p with
 |none=>rfl
 |some r=>simp only[zaH,D.force_eq]
theorem QD Q s t m p:lz Q (s.wt m) t p=(lz Q s t p).map λx=>(x.1.wt m,x.2):=by
 unfold lz;split
 ·split
  ·rw[yJ];cases oW Q s t _<;>rfl
  rfl
 ·split
  ·simp only[D.force_eq];rfl
  rfl
 rfl
theorem QE Q s t m p:qw Q (s.wt m) t p=(qw Q s t p).map λx=>(x.1.wt m,x.2):=by
 unfold qw;split
 ·rw[yI];cases qu Q s _<;>rfl
 ·rw[yI];cases qu Q s _<;>rfl
 exact QD Q s t m _
theorem z6 Q m: ∀ps ts s,eN Q (s.wt m) ts ps=(eN Q s ts ps).map λx=>(x.1.wt m,x.2)
 | [],_,_=>rfl
 |p::ps,ts,s=>by
  simp only[eN];rw[QE];cases h:qw Q s (ts.headD 0) p with
  |none=>rfl
  |some r=>simp only[zaH];rw[z6 Q m ps ts.tail r.1];cases eN Q r.1 ts.tail ps<;>rfl
theorem xc Q m f ps s:cZ Q (s.wt m) f ps=(cZ Q s f ps).map λx=>(x.1.wt m,x.2):=by
 unfold cZ;split
 ·rfl
 exact z6 Q m ps _ s
theorem DC Q s m t p q:gU Q (s.wt m) t p q=(gU Q s t p q).map λx=>x.wt m:=by
 unfold gU;split
 ·rfl
 split
 ·rw[NW];cases uj s _ q _ with
  |none=>rfl
  |some r=>
   simp only[zaH,lQ];split
   ·split
    ·rw[eC];rfl
    rfl
   rfl
 ·rw[yJ];cases oW Q s t q with
  |none=>rfl
  |some r=>
   simp only[zaH,lQ];split
   ·split
    ·split
     ·rw[eC];rfl
     rfl
    rfl
   rfl
 rfl
theorem Fm Q s m t2 k p:nv Q (s.wt m) t2 k p=nv Q s t2 k p:=rfl
def fin(s:S) dst (c:Option (List (Nat×En)×P)):=
 match c with
 |some (R,p)=>(⟨s.n,s.tm,R⟩:S).put dst p
 |none=>none
def Loc(f:S->Option S)(s:S) dst:= ∃c,∀m,f (s.wt m)=fin (s.wt m) dst c
theorem gZ{s s1:S}{dst p} m (hn:s1.n=s.n):(s1.wt m).put dst p=fin (s.wt m) dst (some (s1.rg,p)):=by unfold fin S.wt;rw[hn]
theorem sx{s:S}{n v o s'}(h:s.new n o=some (s',v)):s'.n=s.n:=by obtain⟨rfl,_⟩:=S.lP h;rfl
theorem fF(s:S) n o:(s.setObj n o).n=s.n:=by unfold S.setObj;split<;>rfl
theorem Uo{s n p q t}{s'}(h:uj s n p t=some (s',q)):s'.n=s.n:=by
 unfold uj at h;split at h
 ·split at h
  next hn=>simp at h;rw[<-h.1];exact sx hn
  cases h
 simp at h;rw[<-h.1]
theorem z7: ∀ps ts n s s' qs,cw s n ps ts=some (s',qs)->s'.n=s.n
 | [],_,_,s,s',qs,h=>by simp[cw] at h;rw[<-h.1]
 |p::ps,ts,n,s,s',qs,h=>by
  simp only[cw] at h;split at h
  ·cases h
  rename_i s1 q h1;split at h
  next s2 qs2 h2=>simp at h;rw[<-h.1,z7 ps _ _ _ _ _ h2,Uo h1]
  cases h
theorem Fo{Q s s' p x}(h:qu Q s p=some (s',x)):s'.n=s.n:=by
 unfold qu at h;split at h
 ·simp at h;rw[<-h.1]
 ·split at h
  ·split at h
   ·simp at h;rw[<-h.1];exact fF _ _ _
   cases h
  cases h
 ·split at h
  ·split at h
   ·split at h
    ·simp at h;rw[<-h.1];exact fF _ _ _
    cases h
   cases h
  cases h
 cases h
theorem Ur{Q}: ∀ps s s' xs,rV Q s ps=some (s',xs)->s'.n=s.n
 | [],s,s',xs,h=>by simp[rV] at h;rw[<-h.1]
 |p::ps,s,s',xs,h=>by
  simp only[rV] at h;split at h
  ·cases h
  rename_i s1 x h1;split at h
  next s2 xs2 h2=>simp at h;rw[<-h.1,Ur ps _ _ _ h2,Fo h1]
  cases h
theorem qdN{Q s s' p x}(h:Hc Q s p=some (s',x)):s'.n=s.n:=by
 unfold Hc at h;split at h
 ·split at h
  next h1=>simp at h;rw[<-h.1];exact Ur _ _ _ _ h1
  cases h
 exact Fo h
theorem Fp{Q s s' t p}{x}(h:oW Q s t p=some (s',x)):s'.n=s.n:=by obtain⟨y,h1,_⟩:=vY h;exact qdN h1
theorem Us{Q s s' t p q}(h:lz Q s t p=some (s',q)):s'.n=s.n:=by
 unfold lz at h;split at h
 ·split at h
  ·split at h
   next hf=>simp at h;rw[<-h.1];exact Fp hf
   cases h
  simp at h;rw[<-h.1]
 ·split at h
  ·rw[D.force_eq] at h;simp at h;rw[<-h.1]
  simp at h;rw[<-h.1]
 simp at h;rw[<-h.1]
theorem DE{Q}: ∀ps ts s s' xs,eN Q s ts ps=some (s',xs)->s'.n=s.n
 | [],ts,s,s',xs,h=>by simp[eN] at h;rw[<-h.1]
 |p::ps,ts,s,s',xs,h=>by
  simp only[eN] at h;split at h
  ·cases h
  rename_i s1 x h1;have e1:s1.n=s.n:=by
   unfold qw at h1;split at h1
   ·split at h1
    next hf=>simp at h1;rw[<-h1.1];exact Fo hf
    cases h1
   ·split at h1
    next hf=>simp at h1;rw[<-h1.1];exact Fo hf
    cases h1
   exact Us h1
  split at h
  next s2 xs2 h2=>simp at h;rw[<-h.1,DE ps _ _ _ _ h2,e1]
  cases h
theorem Ut{Q s s' t p q}(h:gU Q s t p q=some s'):s'.n=s.n:=by
 unfold gU at h;split at h
 ·cases h
 split at h
 ·split at h
  next h1=>
   split at h
   ·split at h
    ·simp at h;rw[<-h,fF,Uo h1]
    cases h
   cases h
  cases h
 ·split at h
  next h1=>
   split at h
   ·split at h
    ·split at h
     ·simp only[zam] at h;rw[<-h,fF,Fp h1]
     cases h
    cases h
   cases h
  cases h
 cases h
theorem LR{Q f} ps s s' xs (h:cZ Q s f ps=some (s',xs)):s'.n=s.n:=by
 unfold cZ at h;split at h
 ·simp only[zam,zbt] at h;rw[h.1]
 exact DE ps _ s s' xs h
theorem z8 Q s dst t ps:Loc (λs=>oV Q s dst t ps) s dst:=by
 unfold oV;cases h:cw s (site dst*1000) ps (rl Q 20 t) with
 |none=>exact⟨none,λm=>by simp only[mV,h];rfl⟩
 |some r=>
  cases h2:r.1.new (site dst) (.box t r.2) with
  |none=>exact⟨none,λm=>by simp only[mV,h,zaH,kq,h2];rfl⟩
  |some r2=>exact⟨some (r2.1.rg,.ref (site dst) r2.2 0),λm=>by simp only[mV,h,zaH,kq,h2];exact gZ m (by rw[sx h2,z7 _ _ _ _ _ _ h])⟩
theorem Ik Q s dst t t2 p q:Loc (λs=>jy Q s dst t t2 p q) s dst:=by
 unfold Loc jy;cases h1:cX Q t with
 |none=>exact⟨none,λm=>rfl⟩
 |some e=>
  simp only[];cases h2:Q.info? e with
  |none=>exact⟨none,λm=>rfl⟩
  |some i=>
   cases h3:sz Q e with
   |none=>exact⟨none,λm=>rfl⟩
   |some k=>
    cases k with
    |zero=>exact⟨none,λm=>rfl⟩
    |succ k=>
     simp only[Fm];cases h4:nv Q s t2 (k+1) q with
     |none=>exact⟨none,λm=>rfl⟩
     |some ys=>
      cases h5:eK Q e with
      |none=>exact⟨none,λm=>rfl⟩
      |some z=>
       simp only[];cases h6:Nat.beq z.cells.length (k+1) with
       |false=>exact⟨none,λm=>rfl⟩
       |true=>
        simp only[zbo];cases p with
        |sl n v len=>
         have e0: ∀m,(s.wt m).rg=s.rg:=λ_=>rfl;simp only[e0];cases h7:lk s.rg n with
         |none=>exact⟨none,λm=>rfl⟩
         |some en=>
          simp only[];cases h8:en.obj with
          |arr ty fz es=>
           cases fz with
           |true=>exact⟨none,λm=>rfl⟩
           |false=>
            simp only[];split
            ·exact⟨some (_,_),λm=>rfl⟩
            exact⟨none,λm=>rfl⟩
          |_=>exact⟨none,λm=>rfl⟩
        |d x=>
         cases x with
         |e9=>
          simp only[kq];split
          ·cases h7:s.new (site dst) (.arr e false ys) with
           |none=>exact⟨none,λm=>rfl⟩
           |some r2=>exact⟨some (r2.1.rg,_),λm=>gZ m (sx h7)⟩
          exact⟨none,λm=>rfl⟩
         |_=>exact⟨none,λm=>rfl⟩
        |_=>exact⟨none,λm=>rfl⟩
theorem QF Q s dst t p q:Loc (λs=>uk Q s dst t p q) s dst:=by
 unfold Loc uk;split
 next e k1 l k2 c h1=>
  split
  next i k z h2 h3 h4=>
   split
   ·simp only[kq];cases h7:s.new (site dst) (.arr e false (List.replicate l.toNat z)) with
    |none=>exact⟨none,λm=>rfl⟩
    |some r2=>exact⟨some (r2.1.rg,_),λm=>gZ m (sx h7)⟩
   exact⟨none,λm=>rfl⟩
  exact⟨none,λm=>rfl⟩
 exact⟨none,λm=>rfl⟩
theorem Fq Q s dst t:Loc (λs=>ly Q s dst t) s dst:=by
 unfold Loc ly;split
 next kt e h1=>
  simp only[kq];cases h7:s.new (site dst) (.map kt (λ_=>none) 0 false) with
  |none=>exact⟨none,λm=>rfl⟩
  |some r2=>exact⟨some (r2.1.rg,_),λm=>gZ m (sx h7)⟩
 exact⟨none,λm=>rfl⟩
theorem Uu Q s dst t p k:Loc (λs=>Ll Q s dst t p k) s dst:=by
 unfold Loc Ll;split
 next kt e n v kd h1=>
  simp only[lQ];split
  ·split
   ·simp only[eC];exact⟨some (_,.bad),λm=>gZ m (fF _ _ _)⟩
   exact⟨none,λm=>rfl⟩
  exact⟨none,λm=>rfl⟩
 exact⟨none,λm=>rfl⟩
theorem xd Q s dst t p k x:Loc (λs=>jz Q s dst t p k x) s dst:=by
 unfold Loc jz;split
 next kt e n v kd h1=>
  simp only[yJ];cases h2:oW Q s e x with
  |none=>exact⟨none,λm=>rfl⟩
  |some y=>
   simp only[zaH,lQ];split
   ·split
    ·simp only[eC];exact⟨some (_,.bad),λm=>gZ m ((fF _ _ _).trans (Fp h2))⟩
    exact⟨none,λm=>rfl⟩
   exact⟨none,λm=>rfl⟩
 exact⟨none,λm=>rfl⟩
theorem Il Q s dst t p k:Loc (λs=>jA Q s dst t p k) s dst:=by
 unfold Loc jA;split
 next kt e n v kd h1=>
  split
  ·simp only[lQ];split
   ·rename_i zq get c h2;split
    ·simp only[kq];cases h7:s.new (site dst) .eJ with
     |none=>exact⟨none,λm=>rfl⟩
     |some r2=>simp only[zaH,eC];exact⟨some (_,_),λm=>gZ m ((fF _ _ _).trans (sx h7))⟩
    exact⟨none,λm=>rfl⟩
   exact⟨none,λm=>rfl⟩
  exact⟨none,λm=>rfl⟩
 exact⟨none,λm=>rfl⟩
theorem LS Q s dst p st x:Loc (λs=>qv Q s dst p st x) s dst:=by
 unfold Loc qv;split
 ·simp only[LQ];cases h2:Hc Q s x with
  |none=>exact⟨none,λm=>rfl⟩
  |some y=>
   simp only[zaH,lQ];split
   ·split
    ·simp only[eC];exact⟨some (_,.bad),λm=>gZ m ((fF _ _ _).trans (qdN h2))⟩
    exact⟨none,λm=>rfl⟩
   exact⟨none,λm=>rfl⟩
 exact⟨none,λm=>rfl⟩
theorem LU Q s dst t p:Loc (λs=>sY Q s dst t p) s dst:=by
 unfold Loc sY;split
 next kt vt n v h1=>
  simp only[lQ];split
  next zq get c fz h2=>
   split
   ·simp only[eC,kq];cases h7:(s.setObj n (.map kt get c true)).new (site dst) (.iter kt vt get none) with
    |none=>exact⟨none,λm=>rfl⟩
    |some r2=>exact⟨some (r2.1.rg,_),λm=>gZ m ((sx h7).trans (fF _ _ _))⟩
   exact⟨none,λm=>rfl⟩
  exact⟨none,λm=>rfl⟩
 next kt vt h1=>
  simp only[kq];cases h7:s.new (site dst) (.iter kt vt (λ_=>none) none) with
  |none=>exact⟨none,λm=>rfl⟩
  |some r2=>exact⟨some (r2.1.rg,_),λm=>gZ m (sx h7)⟩
 exact⟨none,λm=>rfl⟩
theorem xe Q t k m: ∀ps s es,cY Q t k (s.wt m) es ps=(cY Q t k s es ps).map λx=>(x.1.wt m,x.2)
 | [],s,es=>rfl
 | (i,p)::r,s,es=>by
  simp only[cY,yJ];cases h:oW Q s t p with
  |none=>rfl
  |some y=>
   simp only[zaH];split
   ·exact xe Q t k m r y.1 _
   rfl
theorem Aa{Q t k}: ∀ps s s' es dh,cY Q t k s es ps=some (s',dh)->s'.n=s.n
 | [],s,s',es,dh,h=>by simp[cY] at h;rw[h.1]
 | (i,p)::r,s,s',es,dh,h=>by
  simp only[cY] at h;split at h
  next s1 x h1=>
   split at h
   ·rw[Aa r s1 s' _ dh h,Fp h1]
   cases h
  cases h
theorem LV Q s dst t len parts:Loc (λs=>sX Q s dst t len parts) s dst:=by
 unfold Loc sX;split
 next e h1=>
  split
  next i k z h2 h3 h4=>
   split
   ·simp only[xe];cases h5:cY Q e (k+1) s (List.replicate len z) parts with
    |none=>exact⟨none,λm=>rfl⟩
    |some r=>
     simp only[zaH,kq];cases h7:r.1.new (site dst) (.arr e false r.2) with
     |none=>exact⟨none,λm=>rfl⟩
     |some r2=>exact⟨some (r2.1.rg,_),λm=>gZ m (by rw[sx h7,Aa _ _ _ _ _ h5])⟩
   exact⟨none,λm=>rfl⟩
  exact⟨none,λm=>rfl⟩
 exact⟨none,λm=>rfl⟩
theorem LW Q s dst t p:Loc (λs=>oX Q s dst t p) s dst:=by
 unfold Loc oX;split
 ·simp only[lQ,eC];split
  ·split
   ·exact⟨some (_,_),λm=>gZ m (fF _ _ _)⟩
   exact⟨none,λm=>rfl⟩
  exact⟨none,λm=>rfl⟩
 exact⟨none,λm=>rfl⟩
theorem QG Q s dst t t2 p q:Loc (λs=>um Q s dst t t2 p q) s dst:=by
 unfold Loc um;split
 ·split
  ·simp only[Fm,lQ,eC];split
   ·split
    ·exact⟨some (_,_),λm=>gZ m (fF _ _ _)⟩
    exact⟨none,λm=>rfl⟩
   exact⟨none,λm=>rfl⟩
  exact⟨none,λm=>rfl⟩
 exact⟨none,λm=>rfl⟩
structure Alike(s s2:S)(xs:List Operand):Prop where
 n:s2.n=s.n
 rg:s2.rg=s.rg
 ev: ∀x∈xs,s2.ev x=s.ev x
theorem Alike.wt{s s2 xs}(h:Alike s s2 xs):s2=s.wt s2.tm:=by
 cases s2 with
 |mk n tm rg=>have h1:=h.n;have h2:=h.rg;simp only at h1 h2;subst h1 h2;rfl
theorem Alike.eg{s s2 xs}(h:Alike s s2 xs){x}(hx:x∈xs) g:s2.eg g x=s.eg g x:=by unfold S.eg;rw[h.ev x hx]
theorem Alike.egs{s s2 xs}(h:Alike s s2 xs){ys:List Operand}(hy: ∀y∈ys,y∈xs) g:ys.map (s2.eg g)=ys.map (s.eg g):=
 zbu λy hyy=>h.eg (hy y hyy) g
theorem p7{f s s2 xs dst}(h:Alike s s2 xs)(hl:Loc f s dst): ∃c,f s=fin s dst c/\f s2=fin s2 dst c:=by
 obtain⟨c,hc⟩:=hl;refine⟨c,?_,?_⟩
 ·exact hc s.tm
 have e:=h.wt;rw[e];exact hc s2.tm
theorem Ab{Q s s2 o}(h:Alike s s2 o.op.operands.toList) g:pv Q s2 o g=pv Q s o g:=by
 have hs:=h.wt;have mem: ∀{x:Operand},x∈o.op.operands->x∈o.op.operands.toList:=λhx=>by simpa using hx
 unfold pv;split
 next x ho=>rw[h.eg (by simp[ho,Op.operands])]
 next x ho=>rw[h.eg (by simp[ho,Op.operands])]
 next c x y ho=>rw[h.eg (x:=c) (by simp[ho,Op.operands]),h.eg (x:=x) (by simp[ho,Op.operands]),h.eg (x:=y) (by simp[ho,Op.operands])]
 next x ho=>rw[h.eg (by simp[ho,Op.operands]),hs];rfl
 next op t x y yt ho=>rw[h.eg (x:=x) (by simp[ho,Op.operands]),h.eg (x:=y) (by simp[ho,Op.operands]),hs];rfl
 next op t x ho=>rw[h.eg (by simp[ho,Op.operands])]
 next t1 t2 x ho=>rw[h.eg (by simp[ho,Op.operands])]
 next t x ho=>rw[h.eg (by simp[ho,Op.operands]),hs];rfl
 next t x f ho=>rw[h.eg (by simp[ho,Op.operands]),hs];rfl
 next t x i ho=>rw[h.eg (x:=x) (by simp[ho,Op.operands]),h.eg (x:=i) (by simp[ho,Op.operands]),hs];rfl
 next t x i ho=>rw[h.eg (x:=x) (by simp[ho,Op.operands]),h.eg (x:=i) (by simp[ho,Op.operands])]
 next t x f ho=>rw[h.eg (by simp[ho,Op.operands])]
 next x i ho=>rw[h.eg (by simp[ho,Op.operands])]
 next t x i ok ho=>rw[h.eg (x:=x) (by simp[ho,Op.operands]),h.eg (x:=i) (by simp[ho,Op.operands]),hs];rfl
 next x ho=>
  have e5: ∀p,qt s2 p=qt s p:=λp=>by rw[hs];rfl
  rw[e5,h.eg (by simp[ho,Op.operands])]
 next t x lo hi ho=>
  have e5: ∀p l h',nt Q s2 t p l h'=nt Q s t p l h':=λp l h'=>by rw[hs];rfl
  rw[e5,h.eg (x:=x) (by simp[ho,Op.operands])];cases lo with
  |none=>cases hi with
   |none=>rfl
   |some u=>simp only[zaH];rw[h.eg (x:=u) (by simp[ho,Op.operands])];rfl
  |some l=>cases hi with
   |none=>simp only[zaH];rw[h.eg (x:=l) (by simp[ho,Op.operands])];rfl
   |some u=>simp only[zaH];rw[h.eg (x:=l) (by simp[ho,Op.operands]),h.eg (x:=u) (by simp[ho,Op.operands])]
 next t parts ho=>
  have e:parts.toList.map (λx=>s2.eg g x.2)=parts.toList.map (λx=>s.eg g x.2):=zbu λx hx=>h.eg (by simp only[ho,Op.operands];exact zaU (f:=λx:Nat×Operand=>x.2) hx) g;have e2:parts.toList.map (λx=>(x.1,s2.eg g x.2))=parts.toList.map (λx=>(x.1,s.eg g x.2)):=zbu λx hx=>by rw[h.eg (x:=x.2) (by simp only[ho,Op.operands];exact zaU (f:=λx:Nat×Operand=>x.2) hx) g]
  rw[e,e2]
 next f first cW ho=>
  have e:cW.toList.map (s2.eg g)=cW.toList.map (s.eg g):=h.egs (λy hy=>by simp only[ho,Op.operands];simp at hy;simp[hy]) g;rw[e]
 next c ho=>
  have hm: ∀y∈c.args.toList,y∈o.op.operands.toList:=λy hy=>by simp only[ho,Op.operands,Call.operands];simp at hy;simp[hy]
  split
  ·split
   ·rename_i x cx;rw[h.eg (x:=x) (hm x (by rw[cx];simp))];have e5: ∀p,HP s2 p=HP s p:=λp=>by rw[hs];rfl
    have e6: ∀p,HQ s2 p=HQ s p:=λp=>by rw[hs];rfl
    rw[e5,e6]
   rfl
  ·rw[h.egs hm]
  ·rw[h.egs hm]
  rfl
 rfl
end Pi
