/- The text PiLoc2. -/
import Derived.Test.YtfelfooeclnbiaaPiLoc
namespace Pi
open Go
theorem yX(Q:Program){s s2:S}{o:Oper}(h:Alike s s2 o.op.operands.toList)(g:Option (Nat×Bool)): ∃c,ef Q s o g=fin s o.dst c/\ef Q s2 o g=fin s2 o.dst c:=by
 unfold ef;split
 next t ho=>
  split
  next z hz=>exact fu h (l4 Q s o.dst t _)
  exact⟨none,rfl,rfl⟩
 next t x ho=>
  rw[h.eg (x:=x) (by simp[ho,Op.operands])];split
  ·exact fu h (l4 Q s o.dst t _)
  exact⟨none,rfl,rfl⟩
 next t ad x ho=>
  rw[h.eg (x:=ad) (by simp[ho,Op.operands]),h.eg (x:=x) (by simp[ho,Op.operands])];refine fu (f:=λs'=>match cC Q s' t (s.eg g ad) (s.eg g x) with |some s1=>s1.put o.dst .bad |none=>none) h ?_;cases h1:cC Q s t (s.eg g ad) (s.eg g x) with
  |none=>exact⟨none,λm=>by simp only[nK,h1];rfl⟩
  |some s1=>exact⟨some (s1.rg,.bad),λm=>by grind [nK,b9,vR]⟩
 next t1 t2 x ho=>
  rw[h.eg (x:=x) (by simp[ho,Op.operands])];refine fu (f:=λs'=>match Q.underlying t1,Q.underlying t2 with
   |some (.slice e),some .string=>match Q.underlying e,eW Q s' t1 1 (s.eg g x) with
    |some (.int .u8),some ys=>match dI ys with |some l=>s'.put o.dst (.d (.str l))|none=>none
    |_,_=>none
   |_,_=>none) h ?_
  split
  next e h1 h2=>
   simp only[Loc,oJ];split
   ·split
    ·exact⟨some (s.rg,_),λm=>rfl⟩
    exact⟨none,λm=>rfl⟩
   exact⟨none,λm=>rfl⟩
  exact⟨none,λm=>rfl⟩
 next c ho=>
  have hm: ∀y∈c.args.toList,y∈o.op.operands.toList:=λy hy=>by simp only[ho,Op.operands,Call.operands];grind
  split
  ·split
   next x y t t2 bf lU=>rw[h.eg (x:=x) (hm x (by rw[bf];simp)),h.eg (x:=y) (hm y (by rw[bf];simp))];exact fu h (pY Q s o.dst t t2 _ _)
   exact⟨none,rfl,rfl⟩
  ·split
   next x y t t2 bf lU=>rw[h.eg (x:=x) (hm x (by rw[bf];simp)),h.eg (x:=y) (hm y (by rw[bf];simp))];exact fu h (tG Q s o.dst t t2 _ _)
   exact⟨none,rfl,rfl⟩
  ·split
   next x t bf lU=>rw[h.eg (x:=x) (hm x (by rw[bf];simp))];exact fu h (rB Q s o.dst t _)
   exact⟨none,rfl,rfl⟩
  ·split
   next x y t ts bf lU=>rw[h.eg (x:=x) (hm x (by rw[bf];simp)),h.eg (x:=y) (hm y (by rw[bf];simp))];exact fu h (vS Q s o.dst t _ _)
   exact⟨none,rfl,rfl⟩
  exact⟨none,rfl,rfl⟩
 next t x y ho=>rw[h.eg (x:=x) (by simp[ho,Op.operands]),h.eg (x:=y) (by simp[ho,Op.operands])];exact fu h (tF Q s o.dst t _ _)
 next t ho=>
  split
  ·exact fu h (oN Q s o.dst t)
  exact fu h (oM Q s o.dst t)
 next t m k x ho=>
  rw[h.eg (x:=m) (by simp[ho,Op.operands]),h.eg (x:=k) (by simp[ho,Op.operands]),h.eg (x:=x) (by simp[ho,Op.operands])];split
  ·exact fu h (pZ Q s o.dst t _ _ _)
  exact fu h (kB Q s o.dst t _ _ _)
 next t m k x ho=>rw[h.eg (x:=m) (by simp[ho,Op.operands]),h.eg (x:=k) (by simp[ho,Op.operands]),h.eg (x:=x) (by simp[ho,Op.operands])];exact fu h (kB Q s o.dst t _ _ _)
 next t x ho=>rw[h.eg (x:=x) (by simp[ho,Op.operands])];exact fu h (rz Q s o.dst t _)
 next t m k ho=>rw[h.eg (x:=m) (by simp[ho,Op.operands]),h.eg (x:=k) (by simp[ho,Op.operands])];exact fu h (p3 Q s o.dst t _ _)
 next t m st x ho=>rw[h.eg (x:=m) (by simp[ho,Op.operands]),h.eg (x:=st) (by simp[ho,Op.operands]),h.eg (x:=x) (by simp[ho,Op.operands])];exact fu h (ry Q s o.dst _ _ _)
 next t len parts ho=>
  have e:parts.toList.map (λx=>(x.1,s2.eg g x.2))=parts.toList.map (λx=>(x.1,s.eg g x.2)):=za1 λx hx=>by have:=h.eg (x:=x.2) (by simp only[ho,Op.operands];grind) g;rw[this]
  rw[e];exact fu h (rA Q s o.dst t len _)
 exact⟨none,rfl,rfl⟩
theorem tH(Q:Program){s s2:S}{o:Oper}(h:Alike s s2 o.op.operands.toList)(g:Option (Nat×Bool)): ∃c,dE Q s o g=fin s o.dst c/\dE Q s2 o g=fin s2 o.dst c:=by
 unfold dE;split
 next e he=>
  refine fu (f:=λs'=>match s'.new (site o.dst) (.arr e false []) with |some (s1,v)=>s1.put o.dst (.sl (site o.dst) v 0)|none=>none) h ?_;cases h1:s.new (site o.dst) (.arr e false []) with
  |none=>exact⟨none,λm=>by simp only[dm,h1];rfl⟩
  |some r=>exact⟨some (r.1.rg,_),λm=>by simp only[dm,h1];exact b9 m (gP h1)⟩
 rw[l6 h g];split
 next p hp=>exact⟨some (s.rg,p),rfl,by unfold fin;rw[<-h.rg]⟩
 exact yX Q h g
theorem vT(Q:Program){s s2:S}{o:Oper}(h:Alike s s2 o.op.operands.toList)(g:Option (Nat×Bool)): ∃c,exec Q s o g=fin s o.dst c/\exec Q s2 o g=fin s2 o.dst c:=by
 unfold exec;cases hm:iL o with
 |none=>exact tH Q h g
 |some r=>
  obtain⟨t,len,parts⟩:=r;obtain⟨ps,ho,rfl,_⟩:=jV hm;have e:ps.toList.map (λx=>(x.1,s2.eg g x.2))=ps.toList.map (λx=>(x.1,s.eg g x.2)):=za1 λx hx=>by rw[h.eg (by simp[Op.operands];grind)]
  simp only[e];cases nk Q t len (ps.toList.map λx=>(x.1,s.eg g x.2)) with
  |none=>exact⟨none,rfl,rfl⟩
  |some p=>exact⟨some (s.rg,p),rfl,by unfold fin;rw[<-h.rg]⟩
theorem rC(Q:Program)(cf:CF)(s:S)(dst:Option Nat)(f:P)(args:List P):Loc (λs=>eX Q cf s dst f args) s dst:=by
 unfold eX;cases f with
 |fn gA bV=>
  cases h1:bd Q s gA (args++bV) with
  |none=>exact⟨none,λm=>by simp only[kA,h1];rfl⟩
  |some r=>
   obtain⟨s1,qs⟩:=r;have hn:=rv _ _ _ _ h1;have e0: ∀m,(s1.wt m).rg=s1.rg:=λ_=>rfl;unfold Loc;simp only[kA,h1,zan,e0];split
   ·split
    ·exact⟨none,λm=>rfl⟩
    split
    ·exact⟨none,λm=>rfl⟩
    split
    ·split
     ·exact⟨none,λm=>rfl⟩
     split
     ·exact⟨none,λm=>rfl⟩
     rename_i R3 h3;exact⟨some (R3,_),λm=>by unfold fin S.wt;rw[hn]⟩
    exact⟨none,λm=>rfl⟩
   exact⟨none,λm=>rfl⟩
 |_=>exact⟨none,λm=>rfl⟩
theorem nM(Q:Program)(cf:CF){s s2:S}{o:Oper}(h:Alike s s2 o.op.operands.toList)(g:Option (Nat×Bool)): ∃c,ct Q cf s o g=fin s o.dst c/\ct Q cf s2 o g=fin s2 o.dst c:=by
 unfold ct;split
 next f xs hc=>
  have hf:f∈o.op.operands.toList/\ ∀y∈xs,y∈o.op.operands.toList:=by
   unfold ep at hc;split at hc
   ·rename_i c ho;split at hc
    next f' fb=>simp[ho,Op.operands,Call.operands,fb];grind
    cases hc
   cases hc
  rw[h.eg hf.1,h.Bu hf.2];exact fu h (rC Q cf s o.dst _ _)
 exact vT Q h g
def lx(W:List Nat×Nat×Nat)(n:Nat):Prop:=n∈W.1\/(W.2.1<=n/\n<W.2.2)
theorem bI{s s':S}{n v:Nat}{o:Obj}(h:s.new n o=some (s',v)){m:Nat}(hm:m≠n):lk s'.rg m=lk s.rg m:=by obtain⟨rfl,_⟩:=S.eD h;grind [aQ]
theorem aT(s:S)(n:Nat)(o:Obj){m:Nat}(hm:m≠n):lk (s.setObj n o).rg m=lk s.rg m:=by grind [S.setObj,aQ]
theorem aA{s s':S}{dst:Option Nat}{p:P}(h:s.put dst p=some s'):s'.rg=s.rg:=by unfold S.put at h;grind
theorem l7{s:S}{n:Nat}{p q:P}{t:Option TypeId}{s':S}(h:ji s n p t=some (s',q)){m:Nat}(hm:m≠n):lk s'.rg m=lk s.rg m:=by unfold ji at h;grind [bI]
theorem gQ: ∀(ps:List P) (ts:List (Option TypeId)) (n:Nat) (s s':S) (qs:List P),aR s n ps ts=some (s',qs)-> ∀m,(m<n\/n+ps.length<=m)->lk s'.rg m=lk s.rg m
 | [],_,_,s,s',qs,h,m,hm=>by simp[aR] at h;rw[<-h.1]
 |p::ps,ts,n,s,s',qs,h,m,hm=>by
  simp only[aR] at h;simp only[zbv] at hm;split at h
  ·cases h
  rename_i s1 q h1;split at h
  next s2 yJ h2=>simp at h;rw[<-h.1,gQ ps _ _ _ _ _ h2 m (by omega),l7 h1 (by omega)]
  cases h
theorem eF{Q:Program}{s s':S}{p:P}{x:D}(h:gw Q s p=some (s',x)){m:Nat}(hm:m∉aI [p]):lk s'.rg m=lk s.rg m:=by unfold gw at h;grind [aT,aI]
theorem fR(p:P)(ps:List P):aI (p::ps)=aI [p]++aI ps:=by cases p<;>simp[aI]
theorem l8{Q:Program}: ∀(ps:List P) (s s':S) (xs:List D),ib Q s ps=some (s',xs)-> ∀m,m∉aI ps->lk s'.rg m=lk s.rg m
 | [],s,s',xs,h,m,hm=>by simp[ib] at h;rw[<-h.1]
 |p::ps,s,s',xs,h,m,hm=>by
  rw[fR] at hm;simp only[zaY,zbG] at hm;simp only[ib] at h;split at h
  ·cases h
  rename_i s1 x h1;split at h
  next s2 yy h2=>simp at h;rw[<-h.1,l8 ps _ _ _ h2 m hm.2,eF h1 hm.1]
  cases h
theorem nN{Q:Program}{s s':S}{p:P}{x:D}(h:pe Q s p=some (s',x)){m:Nat}(hm:m∉aI p.cells):lk s'.rg m=lk s.rg m:=by
 unfold pe at h;split at h
 ·split at h
  next h1=>simp at h;rw[<-h.1];exact l8 _ _ _ _ h1 m hm
  cases h
 cases p with
 |sl n v len=>exact eF h hm
 |eL n v k off len=>exact eF h hm
 |d x=>simp[gw] at h;rw[<-h.1]
 |_=>simp[gw] at h
theorem gR: ∀(a b:List P),aI (a++b)=aI a++aI b
 | [],_=>rfl
 |p::a,b=>by rw[List.cons_append,fR,gR a b,fR p a,zbh]
theorem fS{Q:Program}{s s':S}{t:TypeId}{p:P}{x:D}(h:fE Q s t p=some (s',x)){m:Nat}(hm:m∉aI p.cells):lk s'.rg m=lk s.rg m:=by grind [jT,nN]
theorem oO{Q:Program}{s s':S}{t:TypeId}{p q:P}(h:ek Q s t p=some (s',q)){m:Nat}(hm:m∉aI p.cells):lk s'.rg m=lk s.rg m:=by unfold ek at h;grind [fS,D.force_eq]
theorem iB{Q:Program}: ∀(ps:List P) (ts:List TypeId) (s s':S) (xs:List P),bN Q s ts ps=some (s',xs)-> ∀m,m∉aI (ps.flatMap P.cells)->lk s'.rg m=lk s.rg m
 | [],ts,s,s',xs,h,m,hm=>by simp[bN] at h;rw[<-h.1]
 |p::ps,ts,s,s',xs,h,m,hm=>by
  rw[List.flatMap_cons,gR] at hm;simp only[zaY,zbG] at hm;simp only[bN] at h;split at h
  ·cases h
  rename_i s1 x h1;have e1:lk s1.rg m=lk s.rg m:=by
   unfold gy at h1;split at h1
   ·split at h1
    next hf=>simp at h1;rw[<-h1.1];exact eF hf hm.1
    cases h1
   ·split at h1
    next hf=>simp at h1;rw[<-h1.1];exact eF hf hm.1
    cases h1
   grind [oO]
  split at h
  next s2 yy h2=>simp at h;rw[<-h.1,iB ps _ _ _ _ h2 m hm.2,e1]
  cases h
theorem l9{Q:Program}{f:FuncId}(ps:List P)(s s':S)(xs:List P)(h:bd Q s f ps=some (s',xs))(m:Nat)(hm:m∉aI (ps.flatMap P.cells)):lk s'.rg m=lk s.rg m:=by grind [bd,iB]
def rD(m:Nat)(q:P):P->Prop
 | .ref n _ off=>m≠n/\m≠2000000+n*1000+off
 | .bs n _ _ _ _=>m≠n/\m∉aI q.cells
 |_=>True
def kD(m:Nat)(dst:Option Nat):P->Prop
 | .sl n _ _=>m≠n
 |_=>m≠site dst
theorem oP{Q:Program}{s s':S}{t:TypeId}{p q:P}(h:cC Q s t p q=some s'){m:Nat}(hm:rD m q p):lk s'.rg m=lk s.rg m:=by
 unfold cC at h;split at h
 ·cases h
 split at h
 ·split at h
  next h1=>
   split at h
   ·split at h
    ·simp at h;rw[<-h,aT _ _ _ hm.1,l7 h1 hm.2]
    cases h
   cases h
  cases h
 ·split at h
  next h1=>
   split at h
   ·split at h
    ·split at h
     ·simp only[zae] at h;rw[<-h,aT _ _ _ hm.1,fS h1 hm.2]
     cases h
    cases h
   cases h
  cases h
 cases h
theorem jD{Q:Program}{s s':S}{dst:Option Nat}{t:TypeId}{ps:List P}(h:fD Q s dst t ps=some s'){m:Nat}(h1:m≠site dst)(h2:m<site dst*1000\/site dst*1000+ps.length<=m):lk s'.rg m=lk s.rg m:=by
 unfold fD at h;split at h
 ·cases h
 rename_i s1 qs g1;split at h
 next s2 v g2=>rw[aA h,bI g2 h1,gQ _ _ _ _ _ _ g1 m h2]
 cases h
theorem mZ{Q:Program}{s s':S}{dst:Option Nat}{t t2:TypeId}{p q:P}(h:dt Q s dst t t2 p q=some s'){m:Nat}(hm:kD m dst p):lk s'.rg m=lk s.rg m:=by
 unfold dt at h;split at h
 ·cases h
 split at h
 ·split at h
  ·split at h
   ·split at h
    ·split at h
     ·split at h
      ·split at h
       ·rw[aA h];exact aQ _ _ (zaP hm)
       cases h
      cases h
     cases h
    ·split at h
     ·split at h
      next g2=>rw[aA h,bI g2 hm]
      cases h
     cases h
    cases h
   cases h
  cases h
 cases h
theorem p4{Q:Program}{s s':S}{dst:Option Nat}{t:TypeId}{p q:P}(h:jj Q s dst t p q=some s'){m:Nat}(hm:m≠site dst):lk s'.rg m=lk s.rg m:=by
 unfold jj at h;split at h
 ·split at h
  ·split at h
   ·split at h
    next hn=>rw[aA h,bI hn hm]
    cases h
   cases h
  cases h
 cases h
theorem ma{Q:Program}{s s':S}{dst:Option Nat}{t:TypeId}(h:ec Q s dst t=some s'){m:Nat}(hm:m≠site dst):lk s'.rg m=lk s.rg m:=by
 unfold ec at h;split at h
 ·split at h
  next hn=>rw[aA h,bI hn hm]
  cases h
 cases h
def eG(m:Nat):P->Prop
 | .mp n _=>m≠n
 |_=>True
theorem iC{Q:Program}{s s':S}{dst:Option Nat}{t:TypeId}{p k x:P}(h:dv Q s dst t p k x=some s'){m:Nat}(hm:eG m p)(hx:m∉aI x.cells):lk s'.rg m=lk s.rg m:=by
 unfold dv at h;split at h
 ·split at h
  next hf=>
   split at h
   ·split at h
    ·rw[aA h,aT _ _ _ hm,fS hf hx]
    cases h
   cases h
  cases h
 cases h
theorem mb{Q:Program}{s s':S}{dst:Option Nat}{t:TypeId}(h:ei Q s dst t=some s'){m:Nat}(hm:m≠site dst):lk s'.rg m=lk s.rg m:=by
 unfold ei at h;split at h
 ·split at h
  next hn=>rw[aA h,bI hn hm]
  cases h
 cases h
theorem na{Q:Program}{s s':S}{dst:Option Nat}{t:TypeId}{p k x:P}(h:du Q s dst t p k x=some s'){m:Nat}(hm:eG m p):lk s'.rg m=lk s.rg m:=by
 unfold du at h;split at h
 ·split at h
  ·split at h
   ·rw[aA h,aT _ _ _ hm]
   cases h
  cases h
 cases h
theorem rE{Q:Program}{s s':S}{dst:Option Nat}{t:TypeId}{p k:P}(h:n5 Q s dst t p k=some s'){m:Nat}(hm:eG m p):lk s'.rg m=lk s.rg m:=by
 unfold n5 at h;split at h
 ·split at h
  ·split at h
   ·rw[aA h,aT _ _ _ hm]
   cases h
  cases h
 cases h
theorem nb{Q:Program}{s s':S}{dst:Option Nat}{t:TypeId}{p k:P}(h:dw Q s dst t p k=some s'){m:Nat}(hd:m≠site dst)(hm:eG m p):lk s'.rg m=lk s.rg m:=by
 unfold dw at h;split at h
 ·split at h
  ·split at h
   ·split at h
    ·split at h
     next hn=>rw[aA h,aT _ _ _ hm,bI hn hd]
     cases h
    cases h
   cases h
  cases h
 cases h
theorem oQ{Q:Program}{s s':S}{dst:Option Nat}{p st x:P}(h:gx Q s dst p st x=some s'){m:Nat}(hm:eG m p)(hx:m∉aI x.cells):lk s'.rg m=lk s.rg m:=by
 unfold gx at h;split at h
 ·split at h
  next hf=>
   split at h
   ·split at h
    ·rw[aA h,aT _ _ _ hm,nN hf hx]
    cases h
   cases h
  cases h
 cases h
theorem jE{Q:Program}{s s':S}{dst:Option Nat}{t:TypeId}{p:P}(h:iK Q s dst t p=some s'){m:Nat}(hd:m≠site dst)(hm:eG m p):lk s'.rg m=lk s.rg m:=by
 unfold iK at h;split at h
 ·split at h
  ·split at h
   ·split at h
    next hn=>rw[aA h,bI hn hd,aT _ _ _ hm]
    cases h
   cases h
  cases h
 ·split at h
  next hn=>rw[aA h,bI hn hd]
  cases h
 cases h
theorem gS{Q:Program}{t:TypeId}{k:Nat}: ∀(ps:List (Nat×P)) (s s':S) (es es':List D),aY Q t k s es ps=some (s',es')-> ∀m,(∀x∈ps,m∉aI x.2.cells)->lk s'.rg m=lk s.rg m
 | [],s,s',es,es',h,m,_=>by simp[aY] at h;rw[h.1]
 | (i,p)::r,s,s',es,es',h,m,hm=>by
  simp only[aY] at h;split at h
  next s1 x h1=>
   split at h
   ·rw[gS r s1 s' _ es' h m (λx hx=>hm x (by simp[hx])),fS h1 (hm (i,p) (by simp))]
   cases h
  cases h
theorem oR{Q:Program}{s s':S}{dst:Option Nat}{t:TypeId}{len:Nat}{ps:List (Nat×P)}(h:iJ Q s dst t len ps=some s'){m:Nat}(hm:m≠site dst)(hp: ∀x∈ps,m∉aI x.2.cells):lk s'.rg m=lk s.rg m:=by
 unfold iJ at h;split at h
 ·split at h
  ·split at h
   ·split at h
    ·rename_i hb;split at h
     next hn=>rw[aA h,bI hn hm,gS _ _ _ _ _ hb m hp]
     cases h
    cases h
   cases h
  cases h
 cases h
def nO(m:Nat):P->Prop
 | .sl n _ _=>m≠n
 |_=>True
theorem p5{Q:Program}{s s':S}{dst:Option Nat}{t t2:TypeId}{p q:P}(h:jk Q s dst t t2 p q=some s'){m:Nat}(hm:nO m p):lk s'.rg m=lk s.rg m:=by
 unfold jk at h;split at h
 ·split at h
  ·split at h
   ·split at h
    ·rw[aA h,aT _ _ _ hm]
    cases h
   cases h
  cases h
 cases h
def mc(m:Nat):P->Prop
 | .eL n _ _ _ _=>m≠n
 |_=>True
theorem oS{Q:Program}{s s':S}{dst:Option Nat}{t:TypeId}{p:P}(h:fF Q s dst t p=some s'){m:Nat}(hm:mc m p):lk s'.rg m=lk s.rg m:=by
 unfold fF at h;split at h
 ·split at h
  ·split at h
   ·rw[aA h,aT _ _ _ hm]
   cases h
  cases h
 cases h
theorem iE(R1:List (Nat×En))(σ:Nat->Nat->Option (Nat×Nat)): ∀(ns:List Nat) (i0:Nat) (R R2:List (Nat×En)),dx R1 σ i0 ns R=some R2-> ∀m,m∉ns->lk R2 m=lk R m
 | [],i0,R,R2,h,m,hm=>by simp[dx] at h;rw[h]
 |n::ns,i0,R,R2,h,m,hm=>by
  simp only[zaz,zbG] at hm;simp only[dx] at h;split at h
  ·cases h
  rw[iE R1 σ ns _ _ _ h m hm.2,aQ _ _ (zaP hm.1)]
theorem oT{Q:Program}{cf:CF}{s s':S}{dst:Option Nat}{gA:FuncId}{bV args:List P}(h:eX Q cf s dst (.fn gA bV) args=some s'){s1:S}{qs:List P}(hf:bd Q s gA (args++bV)=some (s1,qs)){m:Nat}
  (h1:m∉aI ((args++bV).flatMap P.cells)) (h2:m∉reach s1.rg 1000 qs []) (h3:m<site dst*1000\/site dst*1000+1000<=m):lk s'.rg m=lk s.rg m:=by
 unfold eX at h;simp only[hf] at h;split at h
 ·split at h
  ·cases h
  split at h
  ·cases h
  split at h
  next AE=>
   have hle:=(zad _ _▸AE:_/\_).2;simp only[za7] at hle;split at h
   ·cases h
   rename_i R2 hb;split at h
   ·cases h
   rename_i R3 hn;rw[aA h];rw[(jW _ _ _ _ _ _ hn m).2 (by omega),iE _ _ _ _ _ _ hb m h2,l9 _ _ _ _ hf m h1]
  cases h
 cases h
theorem kF{Q:Program}{cf:CF}{s s':S}{o:Oper}{g:Option (Nat×Bool)}(h:ct Q cf s o g=some s'){m:Nat}(hm: ¬lx (writes Q s o g) m):lk s'.rg m=lk s.rg m:=by
 unfold ct at h;unfold writes at hm;split at h
 next f xs hc=>
  unfold ep at hc;split at hc
  next c ho=>
   split at hc
   ·rename_i f' fb;have wM:bb Q o=none:=by unfold bb;rw[ho]
    simp only[wM,ho,fb] at hm;grind [bd,eX,lx,oT]
   cases hc
  cases hc
 unfold exec at h;split at h
 ·grind [aA]
 unfold dE at h;split at h
 next e he=>
  simp only[he] at hm;split at h
  next s1 v hn=>rw[aA h,bI hn (by simpa [lx] using hm)]
  cases h
 rename_i he;simp only[he] at hm;split at h
 ·rw[aA h]
 unfold ef at h;split at h
 ·grind [lx,jD,gJ]
 ·grind [lx,jD]
 next t ad x ho=>
  simp only[ho] at hm;split at h
  next s1 h1=>
   rw[aA h];refine oP h1 ?_;generalize s.eg g ad=pa at hm;cases pa with
   |ref n v off=>simp only[lx,zaz,zbG] at hm;exact⟨hm.1.1,by omega⟩
   |bs n v i k off=>simp only[lx,zaz,zbG] at hm;exact⟨hm.1.1,hm.1.2⟩
   |_=>trivial
  cases h
 ·grind [aA]
 next c ho=>simp only[ho] at hm;grind [mZ,kD,lx,p5,nO,oS,mc,rE,eG]
 ·grind [lx,p4]
 ·grind [lx,ma,mb]
 next t mo k x ho=>
  simp only[ho] at hm;cases hp:s.eg g mo with
  |mp n v=>
   rw[hp] at hm h;simp only[lx,zaz,zbG] at hm;split at h
   ·exact na h hm.1.1
   exact iC h hm.1.1 hm.1.2
  |_=>rw[hp] at h;simp[dv,du] at h
 next t mo k x ho=>
  simp only[ho] at hm;cases hp:s.eg g mo with
  |mp n v=>rw[hp] at hm h;simp only[lx,zaz,zbG] at hm;exact iC h hm.1.1 hm.1.2
  |_=>rw[hp] at h;simp[dv] at h
 next t x ho=>
  simp only[ho] at hm;cases hp:s.eg g x with
  |mp n v=>rw[hp] at hm h;simp only[lx,zaz,zbV,or_false,zbG] at hm;exact jE h hm.1.1 hm.1.2
  |_=>rw[hp] at hm h;simp only[lx,zaz,zbV,or_false,zbG] at hm;exact jE h hm.1 trivial
 next t mo k ho=>
  simp only[ho] at hm;cases hp:s.eg g mo with
  |mp n v=>rw[hp] at hm h;simp only[lx,zaz,zbV,or_false,zbG] at hm;exact nb h hm.1.1 hm.1.2
  |_=>rw[hp] at h;simp[dw] at h
 next t mo st x ho=>
  simp only[ho] at hm;cases hp:s.eg g mo with
  |mp n v=>rw[hp] at hm h;simp only[lx,zaz,zbG] at hm;exact oQ h hm.1.1 hm.1.2
  |_=>rw[hp] at h;simp[gx] at h
 ·grind [lx,oR]
 cases h
end Pi
