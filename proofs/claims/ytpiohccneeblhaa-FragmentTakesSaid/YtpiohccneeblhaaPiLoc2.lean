/- The text PiLoc2. -/
import Derived.Test.YtpiohccneeblhaaPiLoc
namespace Pi
open Go
theorem G8(Q:Program){s s2:S}{o:Oper}(h:Alike s s2 o.op.operands.toList)(g:Option (Nat×Bool)): ∃c,ef Q s o g=fin s o.dst c/\ef Q s2 o g=fin s2 o.dst c:=by
 unfold ef;split
 next t ho=>
  split
  next z hz=>exact iV h (p9 Q s o.dst t _)
  exact⟨none,rfl,rfl⟩
 next t x ho=>
  rw[h.eg (x:=x) (by simp[ho,Op.operands])];split
  ·exact iV h (p9 Q s o.dst t _)
  exact⟨none,rfl,rfl⟩
 next t ad x ho=>
  rw[h.eg (x:=ad) (by simp[ho,Op.operands]),h.eg (x:=x) (by simp[ho,Op.operands])];refine iV (f:=λs'=>match dG Q s' t (s.eg g ad) (s.eg g x) with |some s1=>s1.put o.dst .bad |none=>none) h ?_;cases h1:dG Q s t (s.eg g ad) (s.eg g x) with
  |none=>exact⟨none,λm=>by simp only[sr,h1];rfl⟩
  |some s1=>exact⟨some (s1.rg,.bad),λm=>by grind [sr,dv,CB]⟩
 next t1 t2 x ho=>
  rw[h.eg (x:=x) (by simp[ho,Op.operands])];refine iV (f:=λs'=>match Q.underlying t1,Q.underlying t2 with
   |some (.slice e),some .string=>match Q.underlying e,iy Q s' t1 1 (s.eg g x) with
    |some (.int .u8),some ys=>match fM ys with |some l=>s'.put o.dst (.d (.str l))|none=>none
    |_,_=>none
   |_,_=>none) h ?_
  split
  next e h1 h2=>
   simp only[Loc,tR];split
   ·split
    ·exact⟨some (s.rg,_),λm=>rfl⟩
    exact⟨none,λm=>rfl⟩
   exact⟨none,λm=>rfl⟩
  exact⟨none,λm=>rfl⟩
 next c ho=>
  have hm: ∀y∈c.args.toList,y∈o.op.operands.toList:=λy hy=>by simp only[ho,Op.operands,Call.operands];grind
  split
  ·split
   next x y t t2 bp pT=>rw[h.eg (x:=x) (hm x (by rw[bp];simp)),h.eg (x:=y) (hm y (by rw[bp];simp))];exact iV h (vN Q s o.dst t t2 _ _)
   exact⟨none,rfl,rfl⟩
  ·split
   next x y t t2 bp pT=>rw[h.eg (x:=x) (hm x (by rw[bp];simp)),h.eg (x:=y) (hm y (by rw[bp];simp))];exact iV h (Ao Q s o.dst t t2 _ _)
   exact⟨none,rfl,rfl⟩
  ·split
   next x t bp pT=>rw[h.eg (x:=x) (hm x (by rw[bp];simp))];exact iV h (xX Q s o.dst t _)
   exact⟨none,rfl,rfl⟩
  ·split
   next x y t ts bp pT=>rw[h.eg (x:=x) (hm x (by rw[bp];simp)),h.eg (x:=y) (hm y (by rw[bp];simp))];exact iV h (CC Q s o.dst t _ _)
   exact⟨none,rfl,rfl⟩
  exact⟨none,rfl,rfl⟩
 next t x y ho=>rw[h.eg (x:=x) (by simp[ho,Op.operands]),h.eg (x:=y) (by simp[ho,Op.operands])];exact iV h (An Q s o.dst t _ _)
 next t ho=>
  split
  ·exact iV h (tV Q s o.dst t)
  exact iV h (tU Q s o.dst t)
 next t m k x ho=>
  rw[h.eg (x:=m) (by simp[ho,Op.operands]),h.eg (x:=k) (by simp[ho,Op.operands]),h.eg (x:=x) (by simp[ho,Op.operands])];split
  ·exact iV h (vO Q s o.dst t _ _ _)
  exact iV h (nN Q s o.dst t _ _ _)
 next t m k x ho=>rw[h.eg (x:=m) (by simp[ho,Op.operands]),h.eg (x:=k) (by simp[ho,Op.operands]),h.eg (x:=x) (by simp[ho,Op.operands])];exact iV h (nN Q s o.dst t _ _ _)
 next t x ho=>rw[h.eg (x:=x) (by simp[ho,Op.operands])];exact iV h (xV Q s o.dst t _)
 next t m k ho=>rw[h.eg (x:=m) (by simp[ho,Op.operands]),h.eg (x:=k) (by simp[ho,Op.operands])];exact iV h (vP Q s o.dst t _ _)
 next t m st x ho=>rw[h.eg (x:=m) (by simp[ho,Op.operands]),h.eg (x:=st) (by simp[ho,Op.operands]),h.eg (x:=x) (by simp[ho,Op.operands])];exact iV h (xU Q s o.dst _ _ _)
 next t len parts ho=>
  have e:parts.toList.map (λx=>(x.1,s2.eg g x.2))=parts.toList.map (λx=>(x.1,s.eg g x.2)):=zbg λx hx=>by have:=h.eg (x:=x.2) (by simp only[ho,Op.operands];grind) g;rw[this]
  rw[e];exact iV h (xW Q s o.dst t len _)
 exact⟨none,rfl,rfl⟩
theorem Ap(Q:Program){s s2:S}{o:Oper}(h:Alike s s2 o.op.operands.toList)(g:Option (Nat×Bool)): ∃c,fA Q s o g=fin s o.dst c/\fA Q s2 o g=fin s2 o.dst c:=by
 unfold fA;split
 next e he=>
  refine iV (f:=λs'=>match s'.new (site o.dst) (.arr e false []) with |some (s1,v)=>s1.put o.dst (.sl (site o.dst) v 0)|none=>none) h ?_;cases h1:s.new (site o.dst) (.arr e false []) with
  |none=>exact⟨none,λm=>by simp only[fi,h1];rfl⟩
  |some r=>exact⟨some (r.1.rg,_),λm=>by simp only[fi,h1];exact dv m (kG h1)⟩
 rw[qb h g];split
 next p hp=>exact⟨some (s.rg,p),rfl,by unfold fin;rw[<-h.rg]⟩
 exact G8 Q h g
theorem CD(Q:Program){s s2:S}{o:Oper}(h:Alike s s2 o.op.operands.toList)(g:Option (Nat×Bool)): ∃c,exec Q s o g=fin s o.dst c/\exec Q s2 o g=fin s2 o.dst c:=by
 unfold exec;cases hm:lL o with
 |none=>exact Ap Q h g
 |some r=>
  obtain⟨t,len,parts⟩:=r;obtain⟨ps,ho,rfl,_⟩:=nt hm;have e:ps.toList.map (λx=>(x.1,s2.eg g x.2))=ps.toList.map (λx=>(x.1,s.eg g x.2)):=zbg λx hx=>by rw[h.eg (by simp[Op.operands];grind)]
  simp only[e];cases rU Q t len (ps.toList.map λx=>(x.1,s.eg g x.2)) with
  |none=>exact⟨none,rfl,rfl⟩
  |some p=>exact⟨some (s.rg,p),rfl,by unfold fin;rw[<-h.rg]⟩
theorem xY(Q:Program)(cf:CF)(s:S)(dst:Option Nat)(f:P)(args:List P):Loc (λs=>iz Q cf s dst f args) s dst:=by
 unfold iz;cases f with
 |fn fN bF=>
  cases h1:bJ Q s fN (args++bF) with
  |none=>exact⟨none,λm=>by simp only[nM,h1];rfl⟩
  |some r=>
   obtain⟨s1,qs⟩:=r;have hn:=xT _ _ _ _ h1;have e0: ∀m,(s1.wt m).rg=s1.rg:=λ_=>rfl;unfold Loc;simp only[nM,h1,zaA,e0];split
   ·split
    ·exact⟨none,λm=>rfl⟩
    split
    ·exact⟨none,λm=>rfl⟩
    split
    ·split
     ·exact⟨none,λm=>rfl⟩
     split
     ·exact⟨none,λm=>rfl⟩
     rename_i R3 h3;exact⟨some (R3,_),λm=>by unfold fin S.wt;rw[hn]⟩
    exact⟨none,λm=>rfl⟩
   exact⟨none,λm=>rfl⟩
 |_=>exact⟨none,λm=>rfl⟩
theorem sv(Q:Program)(cf:CF){s s2:S}{o:Oper}(h:Alike s s2 o.op.operands.toList)(g:Option (Nat×Bool)): ∃c,dK Q cf s o g=fin s o.dst c/\dK Q cf s2 o g=fin s2 o.dst c:=by
 unfold dK;split
 next f xs hc=>
  have hf:f∈o.op.operands.toList/\ ∀y∈xs,y∈o.op.operands.toList:=by
   unfold dT at hc;split at hc
   ·rename_i c ho;split at hc
    next f' fR=>simp[ho,Op.operands,Call.operands,fR];grind
    cases hc
   cases hc
  rw[h.eg hf.1,h.K0 hf.2];exact iV h (xY Q cf s o.dst _ _)
 exact CD Q h g
def oZ(W:List Nat×Nat×Nat)(n:Nat):Prop:=n∈W.1\/(W.2.1<=n/\n<W.2.2)
theorem cM{s s':S}{n v:Nat}{o:Obj}(h:s.new n o=some (s',v)){m:Nat}(hm:m≠n):lk s'.rg m=lk s.rg m:=by obtain⟨rfl,_⟩:=S.gO h;grind [aV]
theorem a7(s:S)(n:Nat)(o:Obj){m:Nat}(hm:m≠n):lk (s.setObj n o).rg m=lk s.rg m:=by grind [S.setObj,aV]
theorem aE{s s':S}{dst:Option Nat}{p:P}(h:s.put dst p=some s'):s'.rg=s.rg:=by unfold S.put at h;grind
theorem qc{s:S}{n:Nat}{p q:P}{t:Option TypeId}{s':S}(h:mf s n p t=some (s',q)){m:Nat}(hm:m≠n):lk s'.rg m=lk s.rg m:=by unfold mf at h;grind [cM]
theorem kH: ∀(ps:List P) (ts:List (Option TypeId)) (n:Nat) (s s':S) (qs:List P),bh s n ps ts=some (s',qs)-> ∀m,(m<n\/n+ps.length<=m)->lk s'.rg m=lk s.rg m
 | [],_,_,s,s',qs,h,m,hm=>by simp[bh] at h;rw[<-h.1]
 |p::ps,ts,n,s,s',qs,h,m,hm=>by
  simp only[bh] at h;simp only[zaI] at hm;split at h
  ·cases h
  rename_i s1 q h1;split at h
  next s2 GP h2=>simp at h;rw[<-h.1,kH ps _ _ _ _ _ h2 m (by omega),qc h1 (by omega)]
  cases h
theorem gT{Q:Program}{s s':S}{p:P}{x:D}(h:kb Q s p=some (s',x)){m:Nat}(hm:m∉aO [p]):lk s'.rg m=lk s.rg m:=by unfold kb at h;grind [a7,aO]
theorem jt(p:P)(ps:List P):aO (p::ps)=aO [p]++aO ps:=by cases p<;>simp[aO]
theorem qd{Q:Program}: ∀(ps:List P) (s s':S) (xs:List D),lh Q s ps=some (s',xs)-> ∀m,m∉aO ps->lk s'.rg m=lk s.rg m
 | [],s,s',xs,h,m,hm=>by simp[lh] at h;rw[<-h.1]
 |p::ps,s,s',xs,h,m,hm=>by
  rw[jt] at hm;simp only[zaH,zbY] at hm;simp only[lh] at h;split at h
  ·cases h
  rename_i s1 x h1;split at h
  next s2 GD h2=>simp at h;rw[<-h.1,qd ps _ _ _ h2 m hm.2,gT h1 hm.1]
  cases h
theorem sw{Q:Program}{s s':S}{p:P}{x:D}(h:uJ Q s p=some (s',x)){m:Nat}(hm:m∉aO p.cells):lk s'.rg m=lk s.rg m:=by
 unfold uJ at h;split at h
 ·split at h
  next h1=>simp at h;rw[<-h.1];exact qd _ _ _ _ h1 m hm
  cases h
 cases p with
 |sl n v len=>exact gT h hm
 |hZ n v k off len=>exact gT h hm
 |d x=>simp[kb] at h;rw[<-h.1]
 |_=>simp[kb] at h
theorem kI: ∀(a b:List P),aO (a++b)=aO a++aO b
 | [],_=>rfl
 |p::a,b=>by rw[List.cons_append,jt,kI a b,jt p a,zbW]
theorem ju{Q:Program}{s s':S}{t:TypeId}{p:P}{x:D}(h:jh Q s t p=some (s',x)){m:Nat}(hm:m∉aO p.cells):lk s'.rg m=lk s.rg m:=by grind [nr,sw]
theorem tW{Q:Program}{s s':S}{t:TypeId}{p q:P}(h:gA Q s t p=some (s',q)){m:Nat}(hm:m∉aO p.cells):lk s'.rg m=lk s.rg m:=by unfold gA at h;grind [ju,D.force_eq]
theorem lF{Q:Program}: ∀(ps:List P) (ts:List TypeId) (s s':S) (xs:List P),cU Q s ts ps=some (s',xs)-> ∀m,m∉aO (ps.flatMap P.cells)->lk s'.rg m=lk s.rg m
 | [],ts,s,s',xs,h,m,hm=>by simp[cU] at h;rw[<-h.1]
 |p::ps,ts,s,s',xs,h,m,hm=>by
  rw[zaY,kI] at hm;simp only[zaH,zbY] at hm;simp only[cU] at h;split at h
  ·cases h
  rename_i s1 x h1;have e1:lk s1.rg m=lk s.rg m:=by
   unfold ke at h1;split at h1
   ·split at h1
    next hf=>simp at h1;rw[<-h1.1];exact gT hf hm.1
    cases h1
   ·split at h1
    next hf=>simp at h1;rw[<-h1.1];exact gT hf hm.1
    cases h1
   grind [tW]
  split at h
  next s2 GD h2=>simp at h;rw[<-h.1,lF ps _ _ _ _ h2 m hm.2,e1]
  cases h
theorem qe{Q:Program}{f:FuncId}(ps:List P)(s s':S)(xs:List P)(h:bJ Q s f ps=some (s',xs))(m:Nat)(hm:m∉aO (ps.flatMap P.cells)):lk s'.rg m=lk s.rg m:=by grind [bJ,lF]
def xZ(m:Nat)(q:P):P->Prop
 | .ref n _ off=>m≠n/\m≠2000000+n*1000+off
 | .bP n _ _ _ _=>m≠n/\m∉aO q.cells
 |_=>True
def nP(m:Nat)(dst:Option Nat):P->Prop
 | .sl n _ _=>m≠n
 |_=>m≠site dst
theorem tX{Q:Program}{s s':S}{t:TypeId}{p q:P}(h:dG Q s t p q=some s'){m:Nat}(hm:xZ m q p):lk s'.rg m=lk s.rg m:=by
 unfold dG at h;split at h
 ·cases h
 split at h
 ·split at h
  next h1=>
   split at h
   ·split at h
    ·simp at h;rw[<-h,a7 _ _ _ hm.1,qc h1 hm.2]
    cases h
   cases h
  cases h
 ·split at h
  ·split at h
   ·split at h
    ·simp only[zaf] at h;rw[<-h,a7 _ _ _ hm.1]
    cases h
   cases h
  split at h
  next h1=>
   split at h
   ·split at h
    ·split at h
     ·simp only[zaf] at h;rw[<-h,a7 _ _ _ hm.1,ju h1 hm.2]
     cases h
    cases h
   cases h
  cases h
 cases h
theorem mH{Q:Program}{s s':S}{dst:Option Nat}{t:TypeId}{ps:List P}(h:jg Q s dst t ps=some s'){m:Nat}(h1:m≠site dst)(h2:m<site dst*1000\/site dst*1000+ps.length<=m):lk s'.rg m=lk s.rg m:=by
 unfold jg at h;split at h
 ·cases h
 rename_i s1 qs g1;split at h
 next s2 v g2=>rw[aE h,cM g2 h1,kH _ _ _ _ _ _ g1 m h2]
 cases h
theorem rC{Q:Program}{s s':S}{dst:Option Nat}{t t2:TypeId}{p q:P}(h:eH Q s dst t t2 p q=some s'){m:Nat}(hm:nP m dst p):lk s'.rg m=lk s.rg m:=by
 unfold eH at h;split at h
 ·cases h
 split at h
 ·split at h
  ·split at h
   ·split at h
    ·split at h
     ·split at h
      ·split at h
       ·rw[aE h];exact aV _ _ (za4 hm)
       cases h
      ·split at h
       ·split at h
        ·rw[aE h];exact aV _ _ (za4 hm)
        cases h
       cases h
      cases h
     cases h
    ·split at h
     ·split at h
      next g2=>rw[aE h,cM g2 hm]
      cases h
     cases h
    cases h
   cases h
  cases h
 cases h
theorem vQ{Q:Program}{s s':S}{dst:Option Nat}{t:TypeId}{p q:P}(h:mj Q s dst t p q=some s'){m:Nat}(hm:m≠site dst):lk s'.rg m=lk s.rg m:=by
 unfold mj at h;split at h
 ·split at h
  ·split at h
   ·split at h
    next hn=>rw[aE h,cM hn hm]
    cases h
   cases h
  cases h
 cases h
theorem qf{Q:Program}{s s':S}{dst:Option Nat}{t:TypeId}(h:gx Q s dst t=some s'){m:Nat}(hm:m≠site dst):lk s'.rg m=lk s.rg m:=by
 unfold gx at h;split at h
 ·split at h
  next hn=>rw[aE h,cM hn hm]
  cases h
 cases h
def gU(m:Nat):P->Prop
 | .mp n _=>m≠n
 |_=>True
theorem lG{Q:Program}{s s':S}{dst:Option Nat}{t:TypeId}{p k x:P}(h:fq Q s dst t p k x=some s'){m:Nat}(hm:gU m p)(hx:m∉aO x.cells):lk s'.rg m=lk s.rg m:=by
 unfold fq at h;split at h
 ·split at h
  next hf=>
   split at h
   ·split at h
    ·rw[aE h,a7 _ _ _ hm,ju hf hx]
    cases h
   cases h
  cases h
 cases h
theorem qg{Q:Program}{s s':S}{dst:Option Nat}{t:TypeId}(h:gy Q s dst t=some s'){m:Nat}(hm:m≠site dst):lk s'.rg m=lk s.rg m:=by
 unfold gy at h;split at h
 ·split at h
  next hn=>rw[aE h,cM hn hm]
  cases h
 cases h
theorem rD{Q:Program}{s s':S}{dst:Option Nat}{t:TypeId}{p k x:P}(h:fp Q s dst t p k x=some s'){m:Nat}(hm:gU m p):lk s'.rg m=lk s.rg m:=by
 unfold fp at h;split at h
 ·split at h
  ·split at h
   ·rw[aE h,a7 _ _ _ hm]
   cases h
  cases h
 cases h
theorem x0{Q:Program}{s s':S}{dst:Option Nat}{t:TypeId}{p k:P}(h:s8 Q s dst t p k=some s'){m:Nat}(hm:gU m p):lk s'.rg m=lk s.rg m:=by
 unfold s8 at h;split at h
 ·split at h
  ·split at h
   ·rw[aE h,a7 _ _ _ hm]
   cases h
  cases h
 cases h
theorem rE{Q:Program}{s s':S}{dst:Option Nat}{t:TypeId}{p k:P}(h:fr Q s dst t p k=some s'){m:Nat}(hd:m≠site dst)(hm:gU m p):lk s'.rg m=lk s.rg m:=by
 unfold fr at h;split at h
 ·split at h
  ·split at h
   ·split at h
    ·split at h
     next hn=>rw[aE h,a7 _ _ _ hm,cM hn hd]
     cases h
    cases h
   cases h
  cases h
 cases h
theorem tY{Q:Program}{s s':S}{dst:Option Nat}{p st x:P}(h:kc Q s dst p st x=some s'){m:Nat}(hm:gU m p)(hx:m∉aO x.cells):lk s'.rg m=lk s.rg m:=by
 unfold kc at h;split at h
 ·split at h
  next hf=>
   split at h
   ·split at h
    ·rw[aE h,a7 _ _ _ hm,sw hf hx]
    cases h
   cases h
  cases h
 cases h
theorem mI{Q:Program}{s s':S}{dst:Option Nat}{t:TypeId}{p:P}(h:lK Q s dst t p=some s'){m:Nat}(hd:m≠site dst)(hm:gU m p):lk s'.rg m=lk s.rg m:=by
 unfold lK at h;split at h
 ·split at h
  ·split at h
   ·split at h
    next hn=>rw[aE h,cM hn hd,a7 _ _ _ hm]
    cases h
   cases h
  cases h
 ·split at h
  next hn=>rw[aE h,cM hn hd]
  cases h
 cases h
theorem kJ{Q:Program}{t:TypeId}{k:Nat}: ∀(ps:List (Nat×P)) (s s':S) (es es':List D),bI Q t k s es ps=some (s',es')-> ∀m,(∀x∈ps,m∉aO x.2.cells)->lk s'.rg m=lk s.rg m
 | [],s,s',es,es',h,m,_=>by simp[bI] at h;rw[h.1]
 | (i,p)::r,s,s',es,es',h,m,hm=>by
  simp only[bI] at h;split at h
  next s1 x h1=>
   split at h
   ·rw[kJ r s1 s' _ es' h m (λx hx=>hm x (by simp[hx])),ju h1 (hm (i,p) (by simp))]
   cases h
  cases h
theorem tZ{Q:Program}{s s':S}{dst:Option Nat}{t:TypeId}{len:Nat}{ps:List (Nat×P)}(h:lJ Q s dst t len ps=some s'){m:Nat}(hm:m≠site dst)(hp: ∀x∈ps,m∉aO x.2.cells):lk s'.rg m=lk s.rg m:=by
 unfold lJ at h;split at h
 ·split at h
  ·split at h
   ·split at h
    ·rename_i hb;split at h
     next hn=>rw[aE h,cM hn hm,kJ _ _ _ _ _ hb m hp]
     cases h
    cases h
   cases h
  cases h
 cases h
def sx(m:Nat):P->Prop
 | .sl n _ _=>m≠n
 |_=>True
theorem vR{Q:Program}{s s':S}{dst:Option Nat}{t t2:TypeId}{p q:P}(h:ml Q s dst t t2 p q=some s'){m:Nat}(hm:sx m p):lk s'.rg m=lk s.rg m:=by
 unfold ml at h;split at h
 ·split at h
  ·split at h
   ·split at h
    ·rw[aE h,a7 _ _ _ hm]
    cases h
   cases h
  cases h
 cases h
def qh(m:Nat):P->Prop
 | .hZ n _ _ _ _=>m≠n
 |_=>True
theorem ua{Q:Program}{s s':S}{dst:Option Nat}{t:TypeId}{p:P}(h:ji Q s dst t p=some s'){m:Nat}(hm:qh m p):lk s'.rg m=lk s.rg m:=by
 unfold ji at h;split at h
 ·split at h
  ·split at h
   ·rw[aE h,a7 _ _ _ hm]
   cases h
  cases h
 cases h
theorem lH(R1:List (Nat×En))(σ:Nat->Nat->Option (Nat×Nat)): ∀(ns:List Nat) (i0:Nat) (R R2:List (Nat×En)),dN R1 σ i0 ns R=some R2-> ∀m,m∉ns->lk R2 m=lk R m
 | [],i0,R,R2,h,m,hm=>by simp[dN] at h;rw[h]
 |n::ns,i0,R,R2,h,m,hm=>by
  simp only[zan,zbY] at hm;simp only[dN] at h;split at h
  ·cases h
  rw[lH R1 σ ns _ _ _ h m hm.2,aV _ _ (za4 hm.1)]
theorem ub{Q:Program}{cf:CF}{s s':S}{dst:Option Nat}{fN:FuncId}{bF args:List P}(h:iz Q cf s dst (.fn fN bF) args=some s'){s1:S}{qs:List P}(hf:bJ Q s fN (args++bF)=some (s1,qs)){m:Nat}
  (h1:m∉aO ((args++bF).flatMap P.cells)) (h2:m∉reach s1.rg 1000 qs []) (h3:m<site dst*1000\/site dst*1000+1000<=m):lk s'.rg m=lk s.rg m:=by
 unfold iz at h;simp only[hf] at h;split at h
 ·split at h
  ·cases h
  split at h
  ·cases h
  split at h
  next EN=>
   have hle:=(zad _ _▸EN:_/\_).2;simp only[zbd] at hle;split at h
   ·cases h
   rename_i R2 hb;split at h
   ·cases h
   rename_i R3 hn;rw[aE h];rw[(nu _ _ _ _ _ _ hn m).2 (by omega),lH _ _ _ _ _ _ hb m h2,qe _ _ _ _ hf m h1]
  cases h
 cases h
theorem nQ{Q:Program}{cf:CF}{s s':S}{o:Oper}{g:Option (Nat×Bool)}(h:dK Q cf s o g=some s'){m:Nat}(hm: ¬oZ (writes Q s o g) m):lk s'.rg m=lk s.rg m:=by
 unfold dK at h;unfold writes at hm;split at h
 next f xs hc=>
  unfold dT at hc;split at hc
  next c ho=>
   split at hc
   ·rename_i f' fR;have DV:bR Q o=none:=by unfold bR;rw[ho]
    simp only[DV,ho,fR] at hm;grind [bJ,iz,oZ,ub]
   cases hc
  cases hc
 unfold exec at h;split at h
 ·grind [aE]
 unfold fA at h;split at h
 next e he=>
  simp only[he] at hm;split at h
  next s1 v hn=>rw[aE h,cM hn (by simpa [oZ] using hm)]
  cases h
 rename_i he;simp only[he] at hm;split at h
 ·rw[aE h]
 unfold ef at h;split at h
 ·grind [oZ,mH,kr]
 ·grind [oZ,mH]
 next t ad x ho=>
  simp only[ho] at hm;split at h
  next s1 h1=>
   rw[aE h];refine tX h1 ?_;generalize s.eg g ad=pa at hm;cases pa with
   |ref n v off=>simp only[oZ,zan,zbY] at hm;exact⟨hm.1.1,by omega⟩
   |bP n v i k off=>simp only[oZ,zan,zbY] at hm;exact⟨hm.1.1,hm.1.2⟩
   |_=>trivial
  cases h
 ·grind [aE]
 next c ho=>simp only[ho] at hm;grind [rC,nP,oZ,vR,sx,ua,qh,x0,gU]
 ·grind [oZ,vQ]
 ·grind [oZ,qf,qg]
 next t mo k x ho=>
  simp only[ho] at hm;cases hp:s.eg g mo with
  |mp n v=>
   rw[hp] at hm h;simp only[oZ,zan,zbY] at hm;split at h
   ·exact rD h hm.1.1
   exact lG h hm.1.1 hm.1.2
  |_=>rw[hp] at h;simp[fq,fp] at h
 next t mo k x ho=>
  simp only[ho] at hm;cases hp:s.eg g mo with
  |mp n v=>rw[hp] at hm h;simp only[oZ,zan,zbY] at hm;exact lG h hm.1.1 hm.1.2
  |_=>rw[hp] at h;simp[fq] at h
 next t x ho=>
  simp only[ho] at hm;cases hp:s.eg g x with
  |mp n v=>rw[hp] at hm h;simp only[oZ,zan,zbq,zcl,zbY] at hm;exact mI h hm.1.1 hm.1.2
  |_=>rw[hp] at hm h;simp only[oZ,zan,zbq,zcl,zbY] at hm;exact mI h hm.1 trivial
 next t mo k ho=>
  simp only[ho] at hm;cases hp:s.eg g mo with
  |mp n v=>rw[hp] at hm h;simp only[oZ,zan,zbq,zcl,zbY] at hm;exact rE h hm.1.1 hm.1.2
  |_=>rw[hp] at h;simp[fr] at h
 next t mo st x ho=>
  simp only[ho] at hm;cases hp:s.eg g mo with
  |mp n v=>rw[hp] at hm h;simp only[oZ,zan,zbY] at hm;exact tY h hm.1.1 hm.1.2
  |_=>rw[hp] at h;simp[kc] at h
 ·grind [oZ,tZ]
 cases h
end Pi
