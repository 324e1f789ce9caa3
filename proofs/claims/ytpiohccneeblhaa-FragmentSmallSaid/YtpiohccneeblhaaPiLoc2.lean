/- The text PiLoc2. -/
import Derived.Test.YtpiohccneeblhaaPiLoc
namespace Pi
open Go
theorem Hn(Q:Program){s s2:S}{o:Oper}(h:Alike s s2 o.op.operands.toList)(g:Option (Nat×Bool)): ∃c,ef Q s o g=fin s o.dst c/\ef Q s2 o g=fin s2 o.dst c:=by
 unfold ef;split
 next t ho=>
  split
  next z hz=>exact iV h (qe Q s o.dst t _)
  exact⟨none,rfl,rfl⟩
 next t x ho=>
  rw[h.eg (x:=x) (by simp[ho,Op.operands])];split
  ·exact iV h (qe Q s o.dst t _)
  exact⟨none,rfl,rfl⟩
 next t ad x ho=>
  rw[h.eg (x:=ad) (by simp[ho,Op.operands]),h.eg (x:=x) (by simp[ho,Op.operands])];refine iV (f:=λs'=>match dH Q s' t (s.eg g ad) (s.eg g x) with |some s1=>s1.put o.dst .bad |none=>none) h ?_;cases h1:dH Q s t (s.eg g ad) (s.eg g x) with
  |none=>exact⟨none,λm=>by simp only[sA,h1];rfl⟩
  |some s1=>exact⟨some (s1.rg,.bad),λm=>by grind [sA,dv,CT]⟩
 next t1 t2 x ho=>
  rw[h.eg (x:=x) (by simp[ho,Op.operands])];refine iV (f:=λs'=>match Q.underlying t1,Q.underlying t2 with
   |some (.slice e),some .string=>match Q.underlying e,iz Q s' t1 1 (s.eg g x) with
    |some (.int .u8),some ys=>match fM ys with |some l=>s'.put o.dst (.d (.str l))|none=>none
    |_,_=>none
   |_,_=>none) h ?_
  split
  next e h1 h2=>
   simp only[Loc,tY];split
   ·split
    ·exact⟨some (s.rg,_),λm=>rfl⟩
    exact⟨none,λm=>rfl⟩
   exact⟨none,λm=>rfl⟩
  exact⟨none,λm=>rfl⟩
 next c ho=>
  have hm: ∀y∈c.args.toList,y∈o.op.operands.toList:=λy hy=>by simp only[ho,Op.operands,Call.operands];grind
  split
  ·split
   next x y t t2 bq pY=>rw[h.eg (x:=x) (hm x (by rw[bq];simp)),h.eg (x:=y) (hm y (by rw[bq];simp))];exact iV h (vX Q s o.dst t t2 _ _)
   exact⟨none,rfl,rfl⟩
  ·split
   next x y t t2 bq pY=>rw[h.eg (x:=x) (hm x (by rw[bq];simp)),h.eg (x:=y) (hm y (by rw[bq];simp))];exact iV h (AE Q s o.dst t t2 _ _)
   exact⟨none,rfl,rfl⟩
  ·split
   next x t bq pY=>rw[h.eg (x:=x) (hm x (by rw[bq];simp))];exact iV h (yf Q s o.dst t _)
   exact⟨none,rfl,rfl⟩
  ·split
   next x y t ts bq pY=>rw[h.eg (x:=x) (hm x (by rw[bq];simp)),h.eg (x:=y) (hm y (by rw[bq];simp))];exact iV h (CU Q s o.dst t _ _)
   exact⟨none,rfl,rfl⟩
  exact⟨none,rfl,rfl⟩
 next t x y ho=>rw[h.eg (x:=x) (by simp[ho,Op.operands]),h.eg (x:=y) (by simp[ho,Op.operands])];exact iV h (AB Q s o.dst t _ _)
 next t ho=>
  split
  ·exact iV h (uc Q s o.dst t)
  exact iV h (ub Q s o.dst t)
 next t m k x ho=>
  rw[h.eg (x:=m) (by simp[ho,Op.operands]),h.eg (x:=k) (by simp[ho,Op.operands]),h.eg (x:=x) (by simp[ho,Op.operands])];split
  ·exact iV h (vY Q s o.dst t _ _ _)
  exact iV h (nP Q s o.dst t _ _ _)
 next t m k x ho=>rw[h.eg (x:=m) (by simp[ho,Op.operands]),h.eg (x:=k) (by simp[ho,Op.operands]),h.eg (x:=x) (by simp[ho,Op.operands])];exact iV h (nP Q s o.dst t _ _ _)
 next t x ho=>rw[h.eg (x:=x) (by simp[ho,Op.operands])];exact iV h (yd Q s o.dst t _)
 next t m k ho=>rw[h.eg (x:=m) (by simp[ho,Op.operands]),h.eg (x:=k) (by simp[ho,Op.operands])];exact iV h (vZ Q s o.dst t _ _)
 next t m st x ho=>rw[h.eg (x:=m) (by simp[ho,Op.operands]),h.eg (x:=st) (by simp[ho,Op.operands]),h.eg (x:=x) (by simp[ho,Op.operands])];exact iV h (yc Q s o.dst _ _ _)
 next t len parts ho=>
  have e:parts.toList.map (λx=>(x.1,s2.eg g x.2))=parts.toList.map (λx=>(x.1,s.eg g x.2)):=zbh λx hx=>by have:=h.eg (x:=x.2) (by simp only[ho,Op.operands];grind) g;rw[this]
  rw[e];exact iV h (ye Q s o.dst t len _)
 exact⟨none,rfl,rfl⟩
theorem AF(Q:Program){s s2:S}{o:Oper}(h:Alike s s2 o.op.operands.toList)(g:Option (Nat×Bool)): ∃c,fA Q s o g=fin s o.dst c/\fA Q s2 o g=fin s2 o.dst c:=by
 unfold fA;split
 next e he=>
  refine iV (f:=λs'=>match s'.new (site o.dst) (.arr e false []) with |some (s1,v)=>s1.put o.dst (.sl (site o.dst) v 0)|none=>none) h ?_;cases h1:s.new (site o.dst) (.arr e false []) with
  |none=>exact⟨none,λm=>by simp only[fi,h1];rfl⟩
  |some r=>exact⟨some (r.1.rg,_),λm=>by simp only[fi,h1];exact dv m (kG h1)⟩
 rw[qg h g];split
 next p hp=>exact⟨some (s.rg,p),rfl,by unfold fin;rw[<-h.rg]⟩
 exact Hn Q h g
theorem CV(Q:Program){s s2:S}{o:Oper}(h:Alike s s2 o.op.operands.toList)(g:Option (Nat×Bool)): ∃c,exec Q s o g=fin s o.dst c/\exec Q s2 o g=fin s2 o.dst c:=by
 unfold exec;cases hm:lN o with
 |none=>exact AF Q h g
 |some r=>
  obtain⟨t,len,parts⟩:=r;obtain⟨ps,ho,rfl,_⟩:=nv hm;have e:ps.toList.map (λx=>(x.1,s2.eg g x.2))=ps.toList.map (λx=>(x.1,s.eg g x.2)):=zbh λx hx=>by rw[h.eg (by simp[Op.operands];grind)]
  simp only[e];cases rY Q t len (ps.toList.map λx=>(x.1,s.eg g x.2)) with
  |none=>exact⟨none,rfl,rfl⟩
  |some p=>exact⟨some (s.rg,p),rfl,by unfold fin;rw[<-h.rg]⟩
theorem yg(Q:Program)(cf:CF)(s:S)(dst:Option Nat)(f:P)(args:List P):Loc (λs=>iA Q cf s dst f args) s dst:=by
 unfold iA;cases f with
 |fn fN bH=>
  cases h1:bL Q s fN (args++bH) with
  |none=>exact⟨none,λm=>by simp only[nO,h1];rfl⟩
  |some r=>
   obtain⟨s1,qs⟩:=r;have hn:=yb _ _ _ _ h1;have e0: ∀m,(s1.wt m).rg=s1.rg:=λ_=>rfl;unfold Loc;simp only[nO,h1,zaA,e0];split
   ·split
    ·exact⟨none,λm=>rfl⟩
    split
    ·exact⟨none,λm=>rfl⟩
    split
    ·split
     ·exact⟨none,λm=>rfl⟩
     split
     ·exact⟨none,λm=>rfl⟩
     rename_i R3 h3;exact⟨some (R3,_),λm=>by unfold fin S.wt;rw[hn]⟩
    exact⟨none,λm=>rfl⟩
   exact⟨none,λm=>rfl⟩
 |_=>exact⟨none,λm=>rfl⟩
theorem sC(Q:Program)(cf:CF){s s2:S}{o:Oper}(h:Alike s s2 o.op.operands.toList)(g:Option (Nat×Bool)): ∃c,dL Q cf s o g=fin s o.dst c/\dL Q cf s2 o g=fin s2 o.dst c:=by
 unfold dL;split
 next f xs hc=>
  have hf:f∈o.op.operands.toList/\ ∀y∈xs,y∈o.op.operands.toList:=by
   unfold dU at hc;split at hc
   ·rename_i c ho;split at hc
    next f' fR=>simp[ho,Op.operands,Call.operands,fR];grind
    cases hc
   cases hc
  rw[h.eg hf.1,h.Lu hf.2];exact iV h (yg Q cf s o.dst _ _)
 exact CV Q h g
def o6(W:List Nat×Nat×Nat)(n:Nat):Prop:=n∈W.1\/(W.2.1<=n/\n<W.2.2)
theorem cM{s s':S}{n v:Nat}{o:Obj}(h:s.new n o=some (s',v)){m:Nat}(hm:m≠n):lk s'.rg m=lk s.rg m:=by obtain⟨rfl,_⟩:=S.gO h;grind [aV]
theorem aZ(s:S)(n:Nat)(o:Obj){m:Nat}(hm:m≠n):lk (s.setObj n o).rg m=lk s.rg m:=by grind [S.setObj,aV]
theorem aE{s s':S}{dst:Option Nat}{p:P}(h:s.put dst p=some s'):s'.rg=s.rg:=by unfold S.put at h;grind
theorem qh{s:S}{n:Nat}{p q:P}{t:Option TypeId}{s':S}(h:ml s n p t=some (s',q)){m:Nat}(hm:m≠n):lk s'.rg m=lk s.rg m:=by unfold ml at h;grind [cM]
theorem kH: ∀(ps:List P) (ts:List (Option TypeId)) (n:Nat) (s s':S) (qs:List P),bh s n ps ts=some (s',qs)-> ∀m,(m<n\/n+ps.length<=m)->lk s'.rg m=lk s.rg m
 | [],_,_,s,s',qs,h,m,hm=>by simp[bh] at h;rw[<-h.1]
 |p::ps,ts,n,s,s',qs,h,m,hm=>by
  simp only[bh] at h;simp only[zaF] at hm;split at h
  ·cases h
  rename_i s1 q h1;split at h
  next s2 Hb h2=>simp at h;rw[<-h.1,kH ps _ _ _ _ _ h2 m (by omega),qh h1 (by omega)]
  cases h
theorem gT{Q:Program}{s s':S}{p:P}{x:D}(h:kb Q s p=some (s',x)){m:Nat}(hm:m∉aO [p]):lk s'.rg m=lk s.rg m:=by unfold kb at h;grind [aZ,aO]
theorem jt(p:P)(ps:List P):aO (p::ps)=aO [p]++aO ps:=by cases p<;>simp[aO]
theorem qi{Q:Program}: ∀(ps:List P) (s s':S) (xs:List D),lj Q s ps=some (s',xs)-> ∀m,m∉aO ps->lk s'.rg m=lk s.rg m
 | [],s,s',xs,h,m,hm=>by simp[lj] at h;rw[<-h.1]
 |p::ps,s,s',xs,h,m,hm=>by
  rw[jt] at hm;simp only[zaH,zb0] at hm;simp only[lj] at h;split at h
  ·cases h
  rename_i s1 x h1;split at h
  next s2 GV h2=>simp at h;rw[<-h.1,qi ps _ _ _ h2 m hm.2,gT h1 hm.1]
  cases h
theorem sE{Q:Program}{s s':S}{p:P}{x:D}(h:uR Q s p=some (s',x)){m:Nat}(hm:m∉aO p.cells):lk s'.rg m=lk s.rg m:=by
 unfold uR at h;split at h
 ·split at h
  next h1=>simp at h;rw[<-h.1];exact qi _ _ _ _ h1 m hm
  cases h
 cases p with
 |sl n v len=>exact gT h hm
 |hZ n v k off len=>exact gT h hm
 |d x=>simp[kb] at h;rw[<-h.1]
 |_=>simp[kb] at h
theorem kI: ∀(a b:List P),aO (a++b)=aO a++aO b
 | [],_=>rfl
 |p::a,b=>by rw[List.cons_append,jt,kI a b,jt p a,zbY]
theorem ju{Q:Program}{s s':S}{t:TypeId}{p:P}{x:D}(h:jh Q s t p=some (s',x)){m:Nat}(hm:m∉aO p.cells):lk s'.rg m=lk s.rg m:=by grind [nu,sE]
theorem ud{Q:Program}{s s':S}{t:TypeId}{p q:P}(h:gA Q s t p=some (s',q)){m:Nat}(hm:m∉aO p.cells):lk s'.rg m=lk s.rg m:=by unfold gA at h;grind [ju,D.force_eq]
theorem lH{Q:Program}: ∀(ps:List P) (ts:List TypeId) (s s':S) (xs:List P),cU Q s ts ps=some (s',xs)-> ∀m,m∉aO (ps.flatMap P.cells)->lk s'.rg m=lk s.rg m
 | [],ts,s,s',xs,h,m,hm=>by simp[cU] at h;rw[<-h.1]
 |p::ps,ts,s,s',xs,h,m,hm=>by
  rw[zaZ,kI] at hm;simp only[zaH,zb0] at hm;simp only[cU] at h;split at h
  ·cases h
  rename_i s1 x h1;have e1:lk s1.rg m=lk s.rg m:=by
   unfold ke at h1;split at h1
   ·split at h1
    next hf=>simp at h1;rw[<-h1.1];exact gT hf hm.1
    cases h1
   ·split at h1
    next hf=>simp at h1;rw[<-h1.1];exact gT hf hm.1
    cases h1
   grind [ud]
  split at h
  next s2 GV h2=>simp at h;rw[<-h.1,lH ps _ _ _ _ h2 m hm.2,e1]
  cases h
theorem qj{Q:Program}{f:FuncId}(ps:List P)(s s':S)(xs:List P)(h:bL Q s f ps=some (s',xs))(m:Nat)(hm:m∉aO (ps.flatMap P.cells)):lk s'.rg m=lk s.rg m:=by grind [bL,lH]
def yh(m:Nat)(q:P):P->Prop
 | .ref n _ off=>m≠n/\m≠2000000+n*1000+off
 | .bR n _ _ _ _=>m≠n/\m∉aO q.cells
 |_=>True
def nR(m:Nat)(dst:Option Nat):P->Prop
 | .sl n _ _=>m≠n
 |_=>m≠site dst
theorem uf{Q:Program}{s s':S}{t:TypeId}{p q:P}(h:dH Q s t p q=some s'){m:Nat}(hm:yh m q p):lk s'.rg m=lk s.rg m:=by
 unfold dH at h;split at h
 ·cases h
 split at h
 ·split at h
  next h1=>
   split at h
   ·split at h
    ·simp at h;rw[<-h,aZ _ _ _ hm.1,qh h1 hm.2]
    cases h
   cases h
  cases h
 ·split at h
  ·split at h
   ·split at h
    ·simp only[zaf] at h;rw[<-h,aZ _ _ _ hm.1]
    cases h
   cases h
  split at h
  next h1=>
   split at h
   ·split at h
    ·split at h
     ·simp only[zaf] at h;rw[<-h,aZ _ _ _ hm.1,ju h1 hm.2]
     cases h
    cases h
   cases h
  cases h
 cases h
theorem mL{Q:Program}{s s':S}{dst:Option Nat}{t:TypeId}{ps:List P}(h:jg Q s dst t ps=some s'){m:Nat}(h1:m≠site dst)(h2:m<site dst*1000\/site dst*1000+ps.length<=m):lk s'.rg m=lk s.rg m:=by
 unfold jg at h;split at h
 ·cases h
 rename_i s1 qs g1;split at h
 next s2 v g2=>rw[aE h,cM g2 h1,kH _ _ _ _ _ _ g1 m h2]
 cases h
theorem rG{Q:Program}{s s':S}{dst:Option Nat}{t t2:TypeId}{p q:P}(h:eH Q s dst t t2 p q=some s'){m:Nat}(hm:nR m dst p):lk s'.rg m=lk s.rg m:=by
 unfold eH at h;split at h
 ·cases h
 split at h
 ·split at h
  ·split at h
   ·split at h
    ·split at h
     ·split at h
      ·split at h
       ·rw[aE h];exact aV _ _ (za5 hm)
       cases h
      ·split at h
       ·split at h
        ·rw[aE h];exact aV _ _ (za5 hm)
        cases h
       cases h
      cases h
     cases h
    ·split at h
     ·split at h
      next g2=>rw[aE h,cM g2 hm]
      cases h
     cases h
    cases h
   cases h
  cases h
 cases h
theorem v7{Q:Program}{s s':S}{dst:Option Nat}{t:TypeId}{p q:P}(h:mr Q s dst t p q=some s'){m:Nat}(hm:m≠site dst):lk s'.rg m=lk s.rg m:=by
 unfold mr at h;split at h
 ·split at h
  ·split at h
   ·split at h
    next hn=>rw[aE h,cM hn hm]
    cases h
   cases h
  cases h
 cases h
theorem qk{Q:Program}{s s':S}{dst:Option Nat}{t:TypeId}(h:gx Q s dst t=some s'){m:Nat}(hm:m≠site dst):lk s'.rg m=lk s.rg m:=by
 unfold gx at h;split at h
 ·split at h
  next hn=>rw[aE h,cM hn hm]
  cases h
 cases h
def gU(m:Nat):P->Prop
 | .mp n _=>m≠n
 |_=>True
theorem lI{Q:Program}{s s':S}{dst:Option Nat}{t:TypeId}{p k x:P}(h:fq Q s dst t p k x=some s'){m:Nat}(hm:gU m p)(hx:m∉aO x.cells):lk s'.rg m=lk s.rg m:=by
 unfold fq at h;split at h
 ·split at h
  next hf=>
   split at h
   ·split at h
    ·rw[aE h,aZ _ _ _ hm,ju hf hx]
    cases h
   cases h
  cases h
 cases h
theorem ql{Q:Program}{s s':S}{dst:Option Nat}{t:TypeId}(h:gy Q s dst t=some s'){m:Nat}(hm:m≠site dst):lk s'.rg m=lk s.rg m:=by
 unfold gy at h;split at h
 ·split at h
  next hn=>rw[aE h,cM hn hm]
  cases h
 cases h
theorem rH{Q:Program}{s s':S}{dst:Option Nat}{t:TypeId}{p k x:P}(h:fp Q s dst t p k x=some s'){m:Nat}(hm:gU m p):lk s'.rg m=lk s.rg m:=by
 unfold fp at h;split at h
 ·split at h
  ·split at h
   ·rw[aE h,aZ _ _ _ hm]
   cases h
  cases h
 cases h
theorem yi{Q:Program}{s s':S}{dst:Option Nat}{t:TypeId}{p k:P}(h:tk Q s dst t p k=some s'){m:Nat}(hm:gU m p):lk s'.rg m=lk s.rg m:=by
 unfold tk at h;split at h
 ·split at h
  ·split at h
   ·rw[aE h,aZ _ _ _ hm]
   cases h
  cases h
 cases h
theorem rI{Q:Program}{s s':S}{dst:Option Nat}{t:TypeId}{p k:P}(h:fr Q s dst t p k=some s'){m:Nat}(hd:m≠site dst)(hm:gU m p):lk s'.rg m=lk s.rg m:=by
 unfold fr at h;split at h
 ·split at h
  ·split at h
   ·split at h
    ·split at h
     next hn=>rw[aE h,aZ _ _ _ hm,cM hn hd]
     cases h
    cases h
   cases h
  cases h
 cases h
theorem ug{Q:Program}{s s':S}{dst:Option Nat}{p st x:P}(h:kc Q s dst p st x=some s'){m:Nat}(hm:gU m p)(hx:m∉aO x.cells):lk s'.rg m=lk s.rg m:=by
 unfold kc at h;split at h
 ·split at h
  next hf=>
   split at h
   ·split at h
    ·rw[aE h,aZ _ _ _ hm,sE hf hx]
    cases h
   cases h
  cases h
 cases h
theorem mM{Q:Program}{s s':S}{dst:Option Nat}{t:TypeId}{p:P}(h:lM Q s dst t p=some s'){m:Nat}(hd:m≠site dst)(hm:gU m p):lk s'.rg m=lk s.rg m:=by
 unfold lM at h;split at h
 ·split at h
  ·split at h
   ·split at h
    next hn=>rw[aE h,cM hn hd,aZ _ _ _ hm]
    cases h
   cases h
  cases h
 ·split at h
  next hn=>rw[aE h,cM hn hd]
  cases h
 cases h
theorem kJ{Q:Program}{t:TypeId}{k:Nat}: ∀(ps:List (Nat×P)) (s s':S) (es es':List D),bK Q t k s es ps=some (s',es')-> ∀m,(∀x∈ps,m∉aO x.2.cells)->lk s'.rg m=lk s.rg m
 | [],s,s',es,es',h,m,_=>by simp[bK] at h;rw[h.1]
 | (i,p)::r,s,s',es,es',h,m,hm=>by
  simp only[bK] at h;split at h
  next s1 x h1=>
   split at h
   ·rw[kJ r s1 s' _ es' h m (λx hx=>hm x (by simp[hx])),ju h1 (hm (i,p) (by simp))]
   cases h
  cases h
theorem uh{Q:Program}{s s':S}{dst:Option Nat}{t:TypeId}{len:Nat}{ps:List (Nat×P)}(h:lL Q s dst t len ps=some s'){m:Nat}(hm:m≠site dst)(hp: ∀x∈ps,m∉aO x.2.cells):lk s'.rg m=lk s.rg m:=by
 unfold lL at h;split at h
 ·split at h
  ·split at h
   ·split at h
    ·rename_i hb;split at h
     next hn=>rw[aE h,cM hn hm,kJ _ _ _ _ _ hb m hp]
     cases h
    cases h
   cases h
  cases h
 cases h
def sF(m:Nat):P->Prop
 | .sl n _ _=>m≠n
 |_=>True
theorem v8{Q:Program}{s s':S}{dst:Option Nat}{t t2:TypeId}{p q:P}(h:mv Q s dst t t2 p q=some s'){m:Nat}(hm:sF m p):lk s'.rg m=lk s.rg m:=by
 unfold mv at h;split at h
 ·split at h
  ·split at h
   ·split at h
    ·rw[aE h,aZ _ _ _ hm]
    cases h
   cases h
  cases h
 cases h
def qm(m:Nat):P->Prop
 | .hZ n _ _ _ _=>m≠n
 |_=>True
theorem ui{Q:Program}{s s':S}{dst:Option Nat}{t:TypeId}{p:P}(h:ji Q s dst t p=some s'){m:Nat}(hm:qm m p):lk s'.rg m=lk s.rg m:=by
 unfold ji at h;split at h
 ·split at h
  ·split at h
   ·rw[aE h,aZ _ _ _ hm]
   cases h
  cases h
 cases h
theorem lJ(R1:List (Nat×En))(σ:Nat->Nat->Option (Nat×Nat)): ∀(ns:List Nat) (i0:Nat) (R R2:List (Nat×En)),dO R1 σ i0 ns R=some R2-> ∀m,m∉ns->lk R2 m=lk R m
 | [],i0,R,R2,h,m,hm=>by simp[dO] at h;rw[h]
 |n::ns,i0,R,R2,h,m,hm=>by
  simp only[zan,zb0] at hm;simp only[dO] at h;split at h
  ·cases h
  rw[lJ R1 σ ns _ _ _ h m hm.2,aV _ _ (za5 hm.1)]
theorem uj{Q:Program}{cf:CF}{s s':S}{dst:Option Nat}{fN:FuncId}{bH args:List P}(h:iA Q cf s dst (.fn fN bH) args=some s'){s1:S}{qs:List P}(hf:bL Q s fN (args++bH)=some (s1,qs)){m:Nat}
  (h1:m∉aO ((args++bH).flatMap P.cells)) (h2:m∉reach s1.rg 1000 qs []) (h3:m<site dst*1000\/site dst*1000+1000<=m):lk s'.rg m=lk s.rg m:=by
 unfold iA at h;simp only[hf] at h;split at h
 ·split at h
  ·cases h
  split at h
  ·cases h
  split at h
  next E4=>
   have hle:=(zad _ _▸E4:_/\_).2;simp only[zbd] at hle;split at h
   ·cases h
   rename_i R2 hb;split at h
   ·cases h
   rename_i R3 hn;rw[aE h];rw[(nw _ _ _ _ _ _ hn m).2 (by omega),lJ _ _ _ _ _ _ hb m h2,qj _ _ _ _ hf m h1]
  cases h
 cases h
theorem nS{Q:Program}{cf:CF}{s s':S}{o:Oper}{g:Option (Nat×Bool)}(h:dL Q cf s o g=some s'){m:Nat}(hm: ¬o6 (writes Q s o g) m):lk s'.rg m=lk s.rg m:=by
 unfold dL at h;unfold writes at hm;split at h
 next f xs hc=>
  unfold dU at hc;split at hc
  next c ho=>
   split at hc
   ·rename_i f' fR;have Ec:bT Q o=none:=by unfold bT;rw[ho]
    simp only[Ec,ho,fR] at hm;grind [bL,iA,o6,uj]
   cases hc
  cases hc
 unfold exec at h;split at h
 ·grind [aE]
 unfold fA at h;split at h
 next e he=>
  simp only[he] at hm;split at h
  next s1 v hn=>rw[aE h,cM hn (by simpa [o6] using hm)]
  cases h
 rename_i he;simp only[he] at hm;split at h
 ·rw[aE h]
 unfold ef at h;split at h
 ·grind [o6,mL,kr]
 ·grind [o6,mL]
 next t ad x ho=>
  simp only[ho] at hm;split at h
  next s1 h1=>
   rw[aE h];refine uf h1 ?_;generalize s.eg g ad=pa at hm;cases pa with
   |ref n v off=>simp only[o6,zan,zb0] at hm;exact⟨hm.1.1,by omega⟩
   |bR n v i k off=>simp only[o6,zan,zb0] at hm;exact⟨hm.1.1,hm.1.2⟩
   |_=>trivial
  cases h
 ·grind [aE]
 next c ho=>simp only[ho] at hm;grind [rG,nR,o6,v8,sF,ui,qm,yi,gU]
 ·grind [o6,v7]
 ·grind [o6,qk,ql]
 next t mo k x ho=>
  simp only[ho] at hm;cases hp:s.eg g mo with
  |mp n v=>
   rw[hp] at hm h;simp only[o6,zan,zb0] at hm;split at h
   ·exact rH h hm.1.1
   exact lI h hm.1.1 hm.1.2
  |_=>rw[hp] at h;simp[fq,fp] at h
 next t mo k x ho=>
  simp only[ho] at hm;cases hp:s.eg g mo with
  |mp n v=>rw[hp] at hm h;simp only[o6,zan,zb0] at hm;exact lI h hm.1.1 hm.1.2
  |_=>rw[hp] at h;simp[fq] at h
 next t x ho=>
  simp only[ho] at hm;cases hp:s.eg g x with
  |mp n v=>rw[hp] at hm h;simp only[o6,zan,zbs,zcm,zb0] at hm;exact mM h hm.1.1 hm.1.2
  |_=>rw[hp] at hm h;simp only[o6,zan,zbs,zcm,zb0] at hm;exact mM h hm.1 trivial
 next t mo k ho=>
  simp only[ho] at hm;cases hp:s.eg g mo with
  |mp n v=>rw[hp] at hm h;simp only[o6,zan,zbs,zcm,zb0] at hm;exact rI h hm.1.1 hm.1.2
  |_=>rw[hp] at h;simp[fr] at h
 next t mo st x ho=>
  simp only[ho] at hm;cases hp:s.eg g mo with
  |mp n v=>rw[hp] at hm h;simp only[o6,zan,zb0] at hm;exact ug h hm.1.1 hm.1.2
  |_=>rw[hp] at h;simp[kc] at h
 ·grind [o6,uh]
 cases h
end Pi
