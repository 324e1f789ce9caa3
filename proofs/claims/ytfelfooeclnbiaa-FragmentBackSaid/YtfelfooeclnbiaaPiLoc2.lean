/- The text PiLoc2. -/
import Derived.Test.YtfelfooeclnbiaaPiLoc
namespace Pi
open Go
theorem A0(Q:Program){s s2:S}{o:Oper}(h:Alike s s2 o.op.operands.toList)(g:Option (Nat×Bool)): ∃c,ef Q s o g=fin s o.dst c/\ef Q s2 o g=fin s2 o.dst c:=by
 unfold ef;split
 next t ho=>
  split
  next z hz=>exact fI h (mL Q s o.dst t _)
  exact⟨none,rfl,rfl⟩
 next t x ho=>
  rw[h.eg (x:=x) (by simp[ho,Op.operands])];split
  ·exact fI h (mL Q s o.dst t _)
  exact⟨none,rfl,rfl⟩
 next t ad x ho=>
  rw[h.eg (x:=ad) (by simp[ho,Op.operands]),h.eg (x:=x) (by simp[ho,Op.operands])];refine fI (f:=λs'=>match cP Q s' t (s.eg g ad) (s.eg g x) with |some s1=>s1.put o.dst .bad |none=>none) h ?_;cases h1:cP Q s t (s.eg g ad) (s.eg g x) with
  |none=>exact⟨none,λm=>by simp only[oE,h1];rfl⟩
  |some s1=>exact⟨some (s1.rg,.bad),λm=>by grind [oE,cw,xj]⟩
 next t1 t2 x ho=>
  rw[h.eg (x:=x) (by simp[ho,Op.operands])];refine fI (f:=λs'=>match Q.underlying t1,Q.underlying t2 with
   |some (.slice e),some .string=>match Q.underlying e,fi Q s' t1 1 (s.eg g x) with
    |some (.int .u8),some ys=>match dQ ys with |some l=>s'.put o.dst (.d (.str l))|none=>none
    |_,_=>none
   |_,_=>none) h ?_
  split
  next e h1 h2=>
   simp only[Loc,pD];split
   ·split
    ·exact⟨some (s.rg,_),λm=>rfl⟩
    exact⟨none,λm=>rfl⟩
   exact⟨none,λm=>rfl⟩
  exact⟨none,λm=>rfl⟩
 next c ho=>
  have hm: ∀y∈c.args.toList,y∈o.op.operands.toList:=λy hy=>by simp only[ho,Op.operands,Call.operands];grind
  split
  ·split
   next x y t t2 bt mC=>rw[h.eg (x:=x) (hm x (by rw[bt];simp)),h.eg (x:=y) (hm y (by rw[bt];simp))];exact fI h (qO Q s o.dst t t2 _ _)
   exact⟨none,rfl,rfl⟩
  ·split
   next x y t t2 bt mC=>rw[h.eg (x:=x) (hm x (by rw[bt];simp)),h.eg (x:=y) (hm y (by rw[bt];simp))];exact fI h (uV Q s o.dst t t2 _ _)
   exact⟨none,rfl,rfl⟩
  ·split
   next x t bt mC=>rw[h.eg (x:=x) (hm x (by rw[bt];simp))];exact fI h (sH Q s o.dst t _)
   exact⟨none,rfl,rfl⟩
  ·split
   next x y t ts bt mC=>rw[h.eg (x:=x) (hm x (by rw[bt];simp)),h.eg (x:=y) (hm y (by rw[bt];simp))];exact fI h (xl Q s o.dst t _ _)
   exact⟨none,rfl,rfl⟩
  exact⟨none,rfl,rfl⟩
 next t x y ho=>rw[h.eg (x:=x) (by simp[ho,Op.operands]),h.eg (x:=y) (by simp[ho,Op.operands])];exact fI h (uU Q s o.dst t _ _)
 next t ho=>
  split
  ·exact fI h (pI Q s o.dst t)
  exact fI h (pH Q s o.dst t)
 next t m k x ho=>
  rw[h.eg (x:=m) (by simp[ho,Op.operands]),h.eg (x:=k) (by simp[ho,Op.operands]),h.eg (x:=x) (by simp[ho,Op.operands])];split
  ·exact fI h (qP Q s o.dst t _ _ _)
  exact fI h (lj Q s o.dst t _ _ _)
 next t m k x ho=>rw[h.eg (x:=m) (by simp[ho,Op.operands]),h.eg (x:=k) (by simp[ho,Op.operands]),h.eg (x:=x) (by simp[ho,Op.operands])];exact fI h (lj Q s o.dst t _ _ _)
 next t x ho=>rw[h.eg (x:=x) (by simp[ho,Op.operands])];exact fI h (sF Q s o.dst t _)
 next t m k ho=>rw[h.eg (x:=m) (by simp[ho,Op.operands]),h.eg (x:=k) (by simp[ho,Op.operands])];exact fI h (qQ Q s o.dst t _ _)
 next t m st x ho=>rw[h.eg (x:=m) (by simp[ho,Op.operands]),h.eg (x:=st) (by simp[ho,Op.operands]),h.eg (x:=x) (by simp[ho,Op.operands])];exact fI h (sE Q s o.dst _ _ _)
 next t len parts ho=>
  have e:parts.toList.map (λx=>(x.1,s2.eg g x.2))=parts.toList.map (λx=>(x.1,s.eg g x.2)):=za9 λx hx=>by have:=h.eg (x:=x.2) (by simp only[ho,Op.operands];grind) g;rw[this]
  rw[e];exact fI h (sG Q s o.dst t len _)
 exact⟨none,rfl,rfl⟩
theorem uW(Q:Program){s s2:S}{o:Oper}(h:Alike s s2 o.op.operands.toList)(g:Option (Nat×Bool)): ∃c,dL Q s o g=fin s o.dst c/\dL Q s2 o g=fin s2 o.dst c:=by
 unfold dL;split
 next e he=>
  refine fI (f:=λs'=>match s'.new (site o.dst) (.arr e false []) with |some (s1,v)=>s1.put o.dst (.sl (site o.dst) v 0)|none=>none) h ?_;cases h1:s.new (site o.dst) (.arr e false []) with
  |none=>exact⟨none,λm=>by simp only[dx,h1];rfl⟩
  |some r=>exact⟨some (r.1.rg,_),λm=>by simp only[dx,h1];exact cw m (hZ h1)⟩
 rw[mN h g];split
 next p hp=>exact⟨some (s.rg,p),rfl,by unfold fin;rw[<-h.rg]⟩
 exact A0 Q h g
theorem xn(Q:Program){s s2:S}{o:Oper}(h:Alike s s2 o.op.operands.toList)(g:Option (Nat×Bool)): ∃c,exec Q s o g=fin s o.dst c/\exec Q s2 o g=fin s2 o.dst c:=by
 unfold exec;cases hm:jl o with
 |none=>exact uW Q h g
 |some r=>
  obtain⟨t,len,parts⟩:=r;obtain⟨ps,ho,rfl,_⟩:=kH hm;have e:ps.toList.map (λx=>(x.1,s2.eg g x.2))=ps.toList.map (λx=>(x.1,s.eg g x.2)):=za9 λx hx=>by rw[h.eg (by simp[Op.operands];grind)]
  simp only[e];cases n5 Q t len (ps.toList.map λx=>(x.1,s.eg g x.2)) with
  |none=>exact⟨none,rfl,rfl⟩
  |some p=>exact⟨some (s.rg,p),rfl,by unfold fin;rw[<-h.rg]⟩
theorem sI(Q:Program)(cf:CF)(s:S)(dst:Option Nat)(f:P)(args:List P):Loc (λs=>fj Q cf s dst f args) s dst:=by
 unfold fj;cases f with
 |fn gS cn=>
  cases h1:br Q s gS (args++cn) with
  |none=>exact⟨none,λm=>by simp only[lh,h1];rfl⟩
  |some r=>
   obtain⟨s1,qs⟩:=r;have hn:=sC _ _ _ _ h1;have e0: ∀m,(s1.wt m).rg=s1.rg:=λ_=>rfl;unfold Loc;simp only[lh,h1,zap,e0];split
   ·split
    ·exact⟨none,λm=>rfl⟩
    split
    ·exact⟨none,λm=>rfl⟩
    split
    ·split
     ·exact⟨none,λm=>rfl⟩
     split
     ·exact⟨none,λm=>rfl⟩
     rename_i R3 h3;exact⟨some (R3,_),λm=>by unfold fin S.wt;rw[hn]⟩
    exact⟨none,λm=>rfl⟩
   exact⟨none,λm=>rfl⟩
 |_=>exact⟨none,λm=>rfl⟩
theorem oG(Q:Program)(cf:CF){s s2:S}{o:Oper}(h:Alike s s2 o.op.operands.toList)(g:Option (Nat×Bool)): ∃c,cG Q cf s o g=fin s o.dst c/\cG Q cf s2 o g=fin s2 o.dst c:=by
 unfold cG;split
 next f xs hc=>
  have hf:f∈o.op.operands.toList/\ ∀y∈xs,y∈o.op.operands.toList:=by
   unfold eJ at hc;split at hc
   ·rename_i c ho;split at hc
    next f' ft=>simp[ho,Op.operands,Call.operands,ft];grind
    cases hc
   cases hc
  rw[h.eg hf.1,h.DK hf.2];exact fI h (sI Q cf s o.dst _ _)
 exact xn Q h g
def l5(W:List Nat×Nat×Nat)(n:Nat):Prop:=n∈W.1\/(W.2.1<=n/\n<W.2.2)
theorem bS{s s':S}{n v:Nat}{o:Obj}(h:s.new n o=some (s',v)){m:Nat}(hm:m≠n):lk s'.rg m=lk s.rg m:=by obtain⟨rfl,_⟩:=S.eS h;grind [aS]
theorem aV(s:S)(n:Nat)(o:Obj){m:Nat}(hm:m≠n):lk (s.setObj n o).rg m=lk s.rg m:=by grind [S.setObj,aS]
theorem aB{s s':S}{dst:Option Nat}{p:P}(h:s.put dst p=some s'):s'.rg=s.rg:=by unfold S.put at h;grind
theorem mO{s:S}{n:Nat}{p q:P}{t:Option TypeId}{s':S}(h:jL s n p t=some (s',q)){m:Nat}(hm:m≠n):lk s'.rg m=lk s.rg m:=by unfold jL at h;grind [bS]
theorem h9: ∀(ps:List P) (ts:List (Option TypeId)) (n:Nat) (s s':S) (qs:List P),aT s n ps ts=some (s',qs)-> ∀m,(m<n\/n+ps.length<=m)->lk s'.rg m=lk s.rg m
 | [],_,_,s,s',qs,h,m,hm=>by simp[aT] at h;rw[<-h.1]
 |p::ps,ts,n,s,s',qs,h,m,hm=>by
  simp only[aT] at h;simp only[zbF] at hm;split at h
  ·cases h
  rename_i s1 q h1;split at h
  next s2 AO h2=>simp at h;rw[<-h.1,h9 ps _ _ _ _ _ h2 m (by omega),mO h1 (by omega)]
  cases h
theorem eU{Q:Program}{s s':S}{p:P}{x:D}(h:gP Q s p=some (s',x)){m:Nat}(hm:m∉aI [p]):lk s'.rg m=lk s.rg m:=by unfold gP at h;grind [aV,aI]
theorem gj(p:P)(ps:List P):aI (p::ps)=aI [p]++aI ps:=by cases p<;>simp[aI]
theorem mP{Q:Program}: ∀(ps:List P) (s s':S) (xs:List D),iK Q s ps=some (s',xs)-> ∀m,m∉aI ps->lk s'.rg m=lk s.rg m
 | [],s,s',xs,h,m,hm=>by simp[iK] at h;rw[<-h.1]
 |p::ps,s,s',xs,h,m,hm=>by
  rw[gj] at hm;simp only[za6,zbP] at hm;simp only[iK] at h;split at h
  ·cases h
  rename_i s1 x h1;split at h
  next s2 Az h2=>simp at h;rw[<-h.1,mP ps _ _ _ h2 m hm.2,eU h1 hm.1]
  cases h
theorem oH{Q:Program}{s s':S}{p:P}{x:D}(h:qc Q s p=some (s',x)){m:Nat}(hm:m∉aI p.cells):lk s'.rg m=lk s.rg m:=by
 unfold qc at h;split at h
 ·split at h
  next h1=>simp at h;rw[<-h.1];exact mP _ _ _ _ h1 m hm
  cases h
 cases p with
 |sl n v len=>exact eU h hm
 |eZ n v k off len=>exact eU h hm
 |d x=>simp[gP] at h;rw[<-h.1]
 |_=>simp[gP] at h
theorem ia: ∀(a b:List P),aI (a++b)=aI a++aI b
 | [],_=>rfl
 |p::a,b=>by rw[List.cons_append,gj,ia a b,gj p a,zbp]
theorem gk{Q:Program}{s s':S}{t:TypeId}{p:P}{x:D}(h:fU Q s t p=some (s',x)){m:Nat}(hm:m∉aI p.cells):lk s'.rg m=lk s.rg m:=by grind [kF,oH]
theorem pJ{Q:Program}{s s':S}{t:TypeId}{p q:P}(h:eH Q s t p=some (s',q)){m:Nat}(hm:m∉aI p.cells):lk s'.rg m=lk s.rg m:=by unfold eH at h;grind [gk,D.force_eq]
theorem jf{Q:Program}: ∀(ps:List P) (ts:List TypeId) (s s':S) (xs:List P),bY Q s ts ps=some (s',xs)-> ∀m,m∉aI (ps.flatMap P.cells)->lk s'.rg m=lk s.rg m
 | [],ts,s,s',xs,h,m,hm=>by simp[bY] at h;rw[<-h.1]
 |p::ps,ts,s,s',xs,h,m,hm=>by
  rw[List.flatMap_cons,ia] at hm;simp only[za6,zbP] at hm;simp only[bY] at h;split at h
  ·cases h
  rename_i s1 x h1;have e1:lk s1.rg m=lk s.rg m:=by
   unfold gR at h1;split at h1
   ·split at h1
    next hf=>simp at h1;rw[<-h1.1];exact eU hf hm.1
    cases h1
   ·split at h1
    next hf=>simp at h1;rw[<-h1.1];exact eU hf hm.1
    cases h1
   grind [pJ]
  split at h
  next s2 Az h2=>simp at h;rw[<-h.1,jf ps _ _ _ _ h2 m hm.2,e1]
  cases h
theorem mQ{Q:Program}{f:FuncId}(ps:List P)(s s':S)(xs:List P)(h:br Q s f ps=some (s',xs))(m:Nat)(hm:m∉aI (ps.flatMap P.cells)):lk s'.rg m=lk s.rg m:=by grind [br,jf]
def sJ(m:Nat)(q:P):P->Prop
 | .ref n _ off=>m≠n/\m≠2000000+n*1000+off
 | .bG n _ _ _ _=>m≠n/\m∉aI q.cells
 |_=>True
def ln(m:Nat)(dst:Option Nat):P->Prop
 | .sl n _ _=>m≠n
 |_=>m≠site dst
theorem pK{Q:Program}{s s':S}{t:TypeId}{p q:P}(h:cP Q s t p q=some s'){m:Nat}(hm:sJ m q p):lk s'.rg m=lk s.rg m:=by
 unfold cP at h;split at h
 ·cases h
 split at h
 ·split at h
  next h1=>
   split at h
   ·split at h
    ·simp at h;rw[<-h,aV _ _ _ hm.1,mO h1 hm.2]
    cases h
   cases h
  cases h
 ·split at h
  next h1=>
   split at h
   ·split at h
    ·split at h
     ·simp only[zae] at h;rw[<-h,aV _ _ _ hm.1,gk h1 hm.2]
     cases h
    cases h
   cases h
  cases h
 cases h
theorem ke{Q:Program}{s s':S}{dst:Option Nat}{t:TypeId}{ps:List P}(h:fT Q s dst t ps=some s'){m:Nat}(h1:m≠site dst)(h2:m<site dst*1000\/site dst*1000+ps.length<=m):lk s'.rg m=lk s.rg m:=by
 unfold fT at h;split at h
 ·cases h
 rename_i s1 qs g1;split at h
 next s2 v g2=>rw[aB h,bS g2 h1,h9 _ _ _ _ _ _ g1 m h2]
 cases h
theorem nT{Q:Program}{s s':S}{dst:Option Nat}{t t2:TypeId}{p q:P}(h:dB Q s dst t t2 p q=some s'){m:Nat}(hm:ln m dst p):lk s'.rg m=lk s.rg m:=by
 unfold dB at h;split at h
 ·cases h
 split at h
 ·split at h
  ·split at h
   ·split at h
    ·split at h
     ·split at h
      ·split at h
       ·rw[aB h];exact aS _ _ (za1 hm)
       cases h
      cases h
     cases h
    ·split at h
     ·split at h
      next g2=>rw[aB h,bS g2 hm]
      cases h
     cases h
    cases h
   cases h
  cases h
 cases h
theorem qR{Q:Program}{s s':S}{dst:Option Nat}{t:TypeId}{p q:P}(h:jM Q s dst t p q=some s'){m:Nat}(hm:m≠site dst):lk s'.rg m=lk s.rg m:=by
 unfold jM at h;split at h
 ·split at h
  ·split at h
   ·split at h
    next hn=>rw[aB h,bS hn hm]
    cases h
   cases h
  cases h
 cases h
theorem mR{Q:Program}{s s':S}{dst:Option Nat}{t:TypeId}(h:eF Q s dst t=some s'){m:Nat}(hm:m≠site dst):lk s'.rg m=lk s.rg m:=by
 unfold eF at h;split at h
 ·split at h
  next hn=>rw[aB h,bS hn hm]
  cases h
 cases h
def eV(m:Nat):P->Prop
 | .mp n _=>m≠n
 |_=>True
theorem jg{Q:Program}{s s':S}{dst:Option Nat}{t:TypeId}{p k x:P}(h:dD Q s dst t p k x=some s'){m:Nat}(hm:eV m p)(hx:m∉aI x.cells):lk s'.rg m=lk s.rg m:=by
 unfold dD at h;split at h
 ·split at h
  next hf=>
   split at h
   ·split at h
    ·rw[aB h,aV _ _ _ hm,gk hf hx]
    cases h
   cases h
  cases h
 cases h
theorem mS{Q:Program}{s s':S}{dst:Option Nat}{t:TypeId}(h:eG Q s dst t=some s'){m:Nat}(hm:m≠site dst):lk s'.rg m=lk s.rg m:=by
 unfold eG at h;split at h
 ·split at h
  next hn=>rw[aB h,bS hn hm]
  cases h
 cases h
theorem nU{Q:Program}{s s':S}{dst:Option Nat}{t:TypeId}{p k x:P}(h:dC Q s dst t p k x=some s'){m:Nat}(hm:eV m p):lk s'.rg m=lk s.rg m:=by
 unfold dC at h;split at h
 ·split at h
  ·split at h
   ·rw[aB h,aV _ _ _ hm]
   cases h
  cases h
 cases h
theorem sK{Q:Program}{s s':S}{dst:Option Nat}{t:TypeId}{p k:P}(h:oZ Q s dst t p k=some s'){m:Nat}(hm:eV m p):lk s'.rg m=lk s.rg m:=by
 unfold oZ at h;split at h
 ·split at h
  ·split at h
   ·rw[aB h,aV _ _ _ hm]
   cases h
  cases h
 cases h
theorem nV{Q:Program}{s s':S}{dst:Option Nat}{t:TypeId}{p k:P}(h:dE Q s dst t p k=some s'){m:Nat}(hd:m≠site dst)(hm:eV m p):lk s'.rg m=lk s.rg m:=by
 unfold dE at h;split at h
 ·split at h
  ·split at h
   ·split at h
    ·split at h
     next hn=>rw[aB h,aV _ _ _ hm,bS hn hd]
     cases h
    cases h
   cases h
  cases h
 cases h
theorem pL{Q:Program}{s s':S}{dst:Option Nat}{p st x:P}(h:gQ Q s dst p st x=some s'){m:Nat}(hm:eV m p)(hx:m∉aI x.cells):lk s'.rg m=lk s.rg m:=by
 unfold gQ at h;split at h
 ·split at h
  next hf=>
   split at h
   ·split at h
    ·rw[aB h,aV _ _ _ hm,oH hf hx]
    cases h
   cases h
  cases h
 cases h
theorem kg{Q:Program}{s s':S}{dst:Option Nat}{t:TypeId}{p:P}(h:jk Q s dst t p=some s'){m:Nat}(hd:m≠site dst)(hm:eV m p):lk s'.rg m=lk s.rg m:=by
 unfold jk at h;split at h
 ·split at h
  ·split at h
   ·split at h
    next hn=>rw[aB h,bS hn hd,aV _ _ _ hm]
    cases h
   cases h
  cases h
 ·split at h
  next hn=>rw[aB h,bS hn hd]
  cases h
 cases h
theorem ib{Q:Program}{t:TypeId}{k:Nat}: ∀(ps:List (Nat×P)) (s s':S) (es es':List D),bf Q t k s es ps=some (s',es')-> ∀m,(∀x∈ps,m∉aI x.2.cells)->lk s'.rg m=lk s.rg m
 | [],s,s',es,es',h,m,_=>by simp[bf] at h;rw[h.1]
 | (i,p)::r,s,s',es,es',h,m,hm=>by
  simp only[bf] at h;split at h
  next s1 x h1=>
   split at h
   ·rw[ib r s1 s' _ es' h m (λx hx=>hm x (by simp[hx])),gk h1 (hm (i,p) (by simp))]
   cases h
  cases h
theorem pM{Q:Program}{s s':S}{dst:Option Nat}{t:TypeId}{len:Nat}{ps:List (Nat×P)}(h:jj Q s dst t len ps=some s'){m:Nat}(hm:m≠site dst)(hp: ∀x∈ps,m∉aI x.2.cells):lk s'.rg m=lk s.rg m:=by
 unfold jj at h;split at h
 ·split at h
  ·split at h
   ·split at h
    ·rename_i hb;split at h
     next hn=>rw[aB h,bS hn hm,ib _ _ _ _ _ hb m hp]
     cases h
    cases h
   cases h
  cases h
 cases h
def oI(m:Nat):P->Prop
 | .sl n _ _=>m≠n
 |_=>True
theorem qS{Q:Program}{s s':S}{dst:Option Nat}{t t2:TypeId}{p q:P}(h:jN Q s dst t t2 p q=some s'){m:Nat}(hm:oI m p):lk s'.rg m=lk s.rg m:=by
 unfold jN at h;split at h
 ·split at h
  ·split at h
   ·split at h
    ·rw[aB h,aV _ _ _ hm]
    cases h
   cases h
  cases h
 cases h
def mT(m:Nat):P->Prop
 | .eZ n _ _ _ _=>m≠n
 |_=>True
theorem pN{Q:Program}{s s':S}{dst:Option Nat}{t:TypeId}{p:P}(h:fV Q s dst t p=some s'){m:Nat}(hm:mT m p):lk s'.rg m=lk s.rg m:=by
 unfold fV at h;split at h
 ·split at h
  ·split at h
   ·rw[aB h,aV _ _ _ hm]
   cases h
  cases h
 cases h
theorem jh(R1:List (Nat×En))(σ:Nat->Nat->Option (Nat×Nat)): ∀(ns:List Nat) (i0:Nat) (R R2:List (Nat×En)),dF R1 σ i0 ns R=some R2-> ∀m,m∉ns->lk R2 m=lk R m
 | [],i0,R,R2,h,m,hm=>by simp[dF] at h;rw[h]
 |n::ns,i0,R,R2,h,m,hm=>by
  simp only[zav,zbP] at hm;simp only[dF] at h;split at h
  ·cases h
  rw[jh R1 σ ns _ _ _ h m hm.2,aS _ _ (za1 hm.1)]
theorem pO{Q:Program}{cf:CF}{s s':S}{dst:Option Nat}{gS:FuncId}{cn args:List P}(h:fj Q cf s dst (.fn gS cn) args=some s'){s1:S}{qs:List P}(hf:br Q s gS (args++cn)=some (s1,qs)){m:Nat}
  (h1:m∉aI ((args++cn).flatMap P.cells)) (h2:m∉reach s1.rg 1000 qs []) (h3:m<site dst*1000\/site dst*1000+1000<=m):lk s'.rg m=lk s.rg m:=by
 unfold fj at h;simp only[hf] at h;split at h
 ·split at h
  ·cases h
  split at h
  ·cases h
  split at h
  next CG=>
   have hle:=(zac _ _▸CG:_/\_).2;simp only[zbl] at hle;split at h
   ·cases h
   rename_i R2 hb;split at h
   ·cases h
   rename_i R3 hn;rw[aB h];rw[(kI _ _ _ _ _ _ hn m).2 (by omega),jh _ _ _ _ _ _ hb m h2,mQ _ _ _ _ hf m h1]
  cases h
 cases h
theorem lp{Q:Program}{cf:CF}{s s':S}{o:Oper}{g:Option (Nat×Bool)}(h:cG Q cf s o g=some s'){m:Nat}(hm: ¬l5 (writes Q s o g) m):lk s'.rg m=lk s.rg m:=by
 unfold cG at h;unfold writes at hm;split at h
 next f xs hc=>
  unfold eJ at hc;split at hc
  next c ho=>
   split at hc
   ·rename_i f' ft;have yj:bm Q o=none:=by unfold bm;rw[ho]
    simp only[yj,ho,ft] at hm;grind [br,fj,l5,pO]
   cases hc
  cases hc
 unfold exec at h;split at h
 ·grind [aB]
 unfold dL at h;split at h
 next e he=>
  simp only[he] at hm;split at h
  next s1 v hn=>rw[aB h,bS hn (by simpa [l5] using hm)]
  cases h
 rename_i he;simp only[he] at hm;split at h
 ·rw[aB h]
 unfold ef at h;split at h
 ·grind [l5,ke,hI]
 ·grind [l5,ke]
 next t ad x ho=>
  simp only[ho] at hm;split at h
  next s1 h1=>
   rw[aB h];refine pK h1 ?_;generalize s.eg g ad=pa at hm;cases pa with
   |ref n v off=>simp only[l5,zav,zbP] at hm;exact⟨hm.1.1,by omega⟩
   |bG n v i k off=>simp only[l5,zav,zbP] at hm;exact⟨hm.1.1,hm.1.2⟩
   |_=>trivial
  cases h
 ·grind [aB]
 next c ho=>simp only[ho] at hm;grind [nT,ln,l5,qS,oI,pN,mT,sK,eV]
 ·grind [l5,qR]
 ·grind [l5,mR,mS]
 next t mo k x ho=>
  simp only[ho] at hm;cases hp:s.eg g mo with
  |mp n v=>
   rw[hp] at hm h;simp only[l5,zav,zbP] at hm;split at h
   ·exact nU h hm.1.1
   exact jg h hm.1.1 hm.1.2
  |_=>rw[hp] at h;simp[dD,dC] at h
 next t mo k x ho=>
  simp only[ho] at hm;cases hp:s.eg g mo with
  |mp n v=>rw[hp] at hm h;simp only[l5,zav,zbP] at hm;exact jg h hm.1.1 hm.1.2
  |_=>rw[hp] at h;simp[dD] at h
 next t x ho=>
  simp only[ho] at hm;cases hp:s.eg g x with
  |mp n v=>rw[hp] at hm h;simp only[l5,zav,zb6,or_false,zbP] at hm;exact kg h hm.1.1 hm.1.2
  |_=>rw[hp] at hm h;simp only[l5,zav,zb6,or_false,zbP] at hm;exact kg h hm.1 trivial
 next t mo k ho=>
  simp only[ho] at hm;cases hp:s.eg g mo with
  |mp n v=>rw[hp] at hm h;simp only[l5,zav,zb6,or_false,zbP] at hm;exact nV h hm.1.1 hm.1.2
  |_=>rw[hp] at h;simp[dE] at h
 next t mo st x ho=>
  simp only[ho] at hm;cases hp:s.eg g mo with
  |mp n v=>rw[hp] at hm h;simp only[l5,zav,zbP] at hm;exact pL h hm.1.1 hm.1.2
  |_=>rw[hp] at h;simp[gQ] at h
 ·grind [l5,pM]
 cases h
end Pi
