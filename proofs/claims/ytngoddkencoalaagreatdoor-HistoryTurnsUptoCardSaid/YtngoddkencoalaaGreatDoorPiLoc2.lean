/- The text PiLoc2. -/
import Derived.Test.YtngoddkencoalaaGreatDoorPiLoc
namespace Pi
open Go
theorem qer(Q:Program){s s2:S}{o:Oper}(h:Alike s s2 o.op.operands.toList)(g:Option (Nat×Bool)): ∃c,ef Q s o g=fin s o.dst c/\ef Q s2 o g=fin s2 o.dst c:=by
 unfold ef;split
 next t ho=>
  split
  next z hz=>exact qt h (y9 Q s o.dst t _)
  exact⟨none,rfl,rfl⟩
 next t x ho=>
  rw[h.eg (x:=x) (by simp[ho,Op.operands])];split
  ·exact qt h (y9 Q s o.dst t _)
  exact⟨none,rfl,rfl⟩
 next t ad x ho=>
  rw[h.eg (x:=ad) (by simp[ho,Op.operands]),h.eg (x:=x) (by simp[ho,Op.operands])];refine qt (f:=λs'=>match gB Q s' t (s.eg g ad) (s.eg g x) with |some s1=>s1.put o.dst .bad |none=>none) h ?_;cases h1:gB Q s t (s.eg g ad) (s.eg g x) with
  |none=>exact⟨none,λm=>by simp only[CA,h1];rfl⟩
  |some s1=>exact⟨some (s1.rg,.bad),λm=>by grind [CA,ia,SC]⟩
 next t1 t2 x ho=>
  rw[h.eg (x:=x) (by simp[ho,Op.operands])];refine qt (f:=λs'=>match Q.underlying t1,Q.underlying t2 with
   |some (.slice e),some .string=>match Q.underlying e,mR Q s' t1 1 (s.eg g x) with
    |some (.int .u8),some ys=>match jX ys with |some l=>s'.put o.dst (.d (.str l))|none=>none
    |_,_=>none
   |_,_=>none) h ?_
  split
  next e h1 h2=>
   simp only[Loc,Ec];split
   ·split
    ·exact⟨some (s.rg,_),λm=>rfl⟩
    exact⟨none,λm=>rfl⟩
   exact⟨none,λm=>rfl⟩
  exact⟨none,λm=>rfl⟩
 next c ho=>
  have hm: ∀y∈c.args.toList,y∈o.op.operands.toList:=λy hy=>by simp only[ho,Op.operands,Call.operands];grind
  split
  ·split
   next x y t t2 cW GU=>rw[h.eg (x:=x) (hm x (by rw[cW];simp)),h.eg (x:=y) (hm y (by rw[cW];simp))];exact qt h (G6 Q s o.dst t t2 _ _)
   exact⟨none,rfl,rfl⟩
  ·split
   next x y t t2 cW GU=>rw[h.eg (x:=x) (hm x (by rw[cW];simp)),h.eg (x:=y) (hm y (by rw[cW];simp))];exact qt h (OX Q s o.dst t t2 _ _)
   exact⟨none,rfl,rfl⟩
  ·split
   next x t cW GU=>rw[h.eg (x:=x) (hm x (by rw[cW];simp))];exact qt h (Kq Q s o.dst t _)
   exact⟨none,rfl,rfl⟩
  exact⟨none,rfl,rfl⟩
 next t x y ho=>rw[h.eg (x:=x) (by simp[ho,Op.operands]),h.eg (x:=y) (by simp[ho,Op.operands])];exact qt h (OW Q s o.dst t _ _)
 next t ho=>exact qt h (Ef Q s o.dst t)
 next t m k x ho=>rw[h.eg (x:=m) (by simp[ho,Op.operands]),h.eg (x:=k) (by simp[ho,Op.operands]),h.eg (x:=x) (by simp[ho,Op.operands])];exact qt h (wA Q s o.dst t _ _ _)
 next t m k x ho=>rw[h.eg (x:=m) (by simp[ho,Op.operands]),h.eg (x:=k) (by simp[ho,Op.operands]),h.eg (x:=x) (by simp[ho,Op.operands])];exact qt h (wA Q s o.dst t _ _ _)
 next t x ho=>rw[h.eg (x:=x) (by simp[ho,Op.operands])];exact qt h (Ko Q s o.dst t _)
 next t m k ho=>rw[h.eg (x:=m) (by simp[ho,Op.operands]),h.eg (x:=k) (by simp[ho,Op.operands])];exact qt h (G7 Q s o.dst t _ _)
 next t m st x ho=>rw[h.eg (x:=m) (by simp[ho,Op.operands]),h.eg (x:=st) (by simp[ho,Op.operands]),h.eg (x:=x) (by simp[ho,Op.operands])];exact qt h (Kn Q s o.dst _ _ _)
 next t len parts ho=>
  have e:parts.toList.map (λx=>(x.1,s2.eg g x.2))=parts.toList.map (λx=>(x.1,s.eg g x.2)):=zbK λx hx=>by have:=h.eg (x:=x.2) (by simp only[ho,Op.operands];grind) g;rw[this]
  rw[e];exact qt h (Kp Q s o.dst t len _)
 exact⟨none,rfl,rfl⟩
theorem OY(Q:Program){s s2:S}{o:Oper}(h:Alike s s2 o.op.operands.toList)(g:Option (Nat×Bool)): ∃c,jC Q s o g=fin s o.dst c/\jC Q s2 o g=fin s2 o.dst c:=by
 unfold jC;split
 next e he=>
  refine qt (f:=λs'=>match s'.new (site o.dst) (.arr e false []) with |some (s1,v)=>s1.put o.dst (.sl (site o.dst) v 0)|none=>none) h ?_;cases h1:s.new (site o.dst) (.arr e false []) with
  |none=>exact⟨none,λm=>by simp only[j9,h1];rfl⟩
  |some r=>exact⟨some (r.1.rg,_),λm=>by simp only[j9,h1];exact ia m (rW h1)⟩
 rw[zb h g];split
 next p hp=>exact⟨some (s.rg,p),rfl,by unfold fin;rw[<-h.rg]⟩
 exact qer Q h g
theorem SD(Q:Program){s s2:S}{o:Oper}(h:Alike s s2 o.op.operands.toList)(g:Option (Nat×Bool)): ∃c,exec Q s o g=fin s o.dst c/\exec Q s2 o g=fin s2 o.dst c:=by
 unfold exec;cases hm:se o with
 |none=>exact OY Q h g
 |some r=>
  obtain⟨t,len,parts⟩:=r;obtain⟨ps,ho,rfl,_⟩:=vu hm;have e:ps.toList.map (λx=>(x.1,s2.eg g x.2))=ps.toList.map (λx=>(x.1,s.eg g x.2)):=zbK λx hx=>by rw[h.eg (by simp[Op.operands];grind)]
  simp only[e];cases Cf Q t len (ps.toList.map λx=>(x.1,s.eg g x.2)) with
  |none=>exact⟨none,rfl,rfl⟩
  |some p=>exact⟨some (s.rg,p),rfl,by unfold fin;rw[<-h.rg]⟩
theorem Kr(Q:Program)(cf:CF)(s:S)(dst:Option Nat)(f:P)(args:List P):Loc (λs=>mS Q cf s dst f args) s dst:=by
 unfold mS;cases f with
 |fn kW cQ=>
  cases h1:cV Q s kW (args++cQ) with
  |none=>exact⟨none,λm=>by simp only[wz,h1];rfl⟩
  |some r=>
   obtain⟨s1,qs⟩:=r;have hn:=Km _ _ _ _ h1;have e0: ∀m,(s1.wt m).rg=s1.rg:=λ_=>rfl;unfold Loc;simp only[wz,h1,zaJ,e0];split
   ·split
    ·exact⟨none,λm=>rfl⟩
    split
    ·exact⟨none,λm=>rfl⟩
    split
    ·split
     ·exact⟨none,λm=>rfl⟩
     split
     ·exact⟨none,λm=>rfl⟩
     rename_i R3 h3;exact⟨some (R3,_),λm=>by unfold fin S.wt;rw[hn]⟩
    exact⟨none,λm=>rfl⟩
   exact⟨none,λm=>rfl⟩
 |_=>exact⟨none,λm=>rfl⟩
theorem CC(Q:Program)(cf:CF){s s2:S}{o:Oper}(h:Alike s s2 o.op.operands.toList)(g:Option (Nat×Bool)): ∃c,gk Q cf s o g=fin s o.dst c/\gk Q cf s2 o g=fin s2 o.dst c:=by
 unfold gk;split
 next f xs hc=>
  have hf:f∈o.op.operands.toList/\ ∀y∈xs,y∈o.op.operands.toList:=by
   unfold gC at hc;split at hc
   ·rename_i c ho;split at hc
    next f' lB=>simp[ho,Op.operands,Call.operands,lB];grind
    cases hc
   cases hc
  rw[h.eg hf.1,h.egs hf.2];exact qt h (Kr Q cf s o.dst _ _)
 exact SD Q h g
def xS(W:List Nat×Nat×Nat)(n:Nat):Prop:=n∈W.1\/(W.2.1<=n/\n<W.2.2)
theorem eV{s s':S}{n v:Nat}{o:Obj}(h:s.new n o=some (s',v)){m:Nat}(hm:m≠n):lk s'.rg m=lk s.rg m:=by obtain⟨rfl,_⟩:=S.lE h;grind [b8]
theorem cY(s:S)(n:Nat)(o:Obj){m:Nat}(hm:m≠n):lk (s.setObj n o).rg m=lk s.rg m:=by grind [S.setObj,b8]
theorem bu{s s':S}{dst:Option Nat}{p:P}(h:s.put dst p=some s'):s'.rg=s.rg:=by unfold S.put at h;grind
theorem zd{s:S}{n:Nat}{p q:P}{t:Option TypeId}{s':S}(h:tC s n p t=some (s',q)){m:Nat}(hm:m≠n):lk s'.rg m=lk s.rg m:=by unfold tC at h;grind [eV]
theorem qu: ∀(ps:List P) (ts:List (Option TypeId)) (n:Nat) (s s':S) (qs:List P),cq s n ps ts=some (s',qs)-> ∀m,(m<n\/n+ps.length<=m)->lk s'.rg m=lk s.rg m
 | [],_,_,s,s',qs,h,m,hm=>by simp[cq] at h;rw[<-h.1]
 |p::ps,ts,n,s,s',qs,h,m,hm=>by
  simp only[cq] at h;simp only[zao] at hm;split at h
  ·cases h
  rename_i s1 q h1;split at h
  next s2 qs2 h2=>simp at h;rw[<-h.1,qu ps _ _ _ _ _ h2 m (by omega),zd h1 (by omega)]
  cases h
theorem lF{Q:Program}{s s':S}{p:P}{x:D}(h:qc Q s p=some (s',x)){m:Nat}(hm:m∉bE [p]):lk s'.rg m=lk s.rg m:=by unfold qc at h;grind [cY,bE]
theorem oK(p:P)(ps:List P):bE (p::ps)=bE [p]++bE ps:=by cases p<;>simp[bE]
theorem ze{Q:Program}: ∀(ps:List P) (s s':S) (xs:List D),rq Q s ps=some (s',xs)-> ∀m,m∉bE ps->lk s'.rg m=lk s.rg m
 | [],s,s',xs,h,m,hm=>by simp[rq] at h;rw[<-h.1]
 |p::ps,s,s',xs,h,m,hm=>by
  rw[oK] at hm;simp only[zay,zcY] at hm;simp only[rq] at h;split at h
  ·cases h
  rename_i s1 x h1;split at h
  next s2 xs2 h2=>simp at h;rw[<-h.1,ze ps _ _ _ h2 m hm.2,lF h1 hm.1]
  cases h
theorem CD{Q:Program}{s s':S}{p:P}{x:D}(h:FK Q s p=some (s',x)){m:Nat}(hm:m∉bE p.cells):lk s'.rg m=lk s.rg m:=by
 unfold FK at h;split at h
 ·split at h
  next h1=>simp at h;rw[<-h.1];exact ze _ _ _ _ h1 m hm
  cases h
 cases p with
 |sl n v len=>exact lF h hm
 |mb n v k off len=>exact lF h hm
 |d x=>simp[qc] at h;rw[<-h.1]
 |_=>simp[qc] at h
theorem qv: ∀(a b:List P),bE (a++b)=bE a++bE b
 | [],_=>rfl
 |p::a,b=>by rw[zcI,oK,qv a b,oK p a,zaM]
theorem oL{Q:Program}{s s':S}{t:TypeId}{p:P}{x:D}(h:ov Q s t p=some (s',x)){m:Nat}(hm:m∉bE p.cells):lk s'.rg m=lk s.rg m:=by grind [vr,CD]
theorem Eg{Q:Program}{s s':S}{t:TypeId}{p q:P}(h:ll Q s t p=some (s',q)){m:Nat}(hm:m∉bE p.cells):lk s'.rg m=lk s.rg m:=by unfold ll at h;grind [oL,D.force_eq]
theorem rX{Q:Program}: ∀(ps:List P) (ts:List TypeId) (s s':S) (xs:List P),eF Q s ts ps=some (s',xs)-> ∀m,m∉bE (ps.flatMap P.cells)->lk s'.rg m=lk s.rg m
 | [],ts,s,s',xs,h,m,hm=>by simp[eF] at h;rw[<-h.1]
 |p::ps,ts,s,s',xs,h,m,hm=>by
  rw[zbA,qv] at hm;simp only[zay,zcY] at hm;simp only[eF] at h;split at h
  ·cases h
  rename_i s1 x h1;have e1:lk s1.rg m=lk s.rg m:=by
   unfold qe at h1;split at h1
   ·split at h1
    next hf=>simp at h1;rw[<-h1.1];exact lF hf hm.1
    cases h1
   ·split at h1
    next hf=>simp at h1;rw[<-h1.1];exact lF hf hm.1
    cases h1
   grind [Eg]
  split at h
  next s2 xs2 h2=>simp at h;rw[<-h.1,rX ps _ _ _ _ h2 m hm.2,e1]
  cases h
theorem zf{Q:Program}{f:FuncId}(ps:List P)(s s':S)(xs:List P)(h:cV Q s f ps=some (s',xs))(m:Nat)(hm:m∉bE (ps.flatMap P.cells)):lk s'.rg m=lk s.rg m:=by grind [cV,rX]
def Ks(m:Nat)(q:P):P->Prop
 | .ref n _ off=>m≠n/\m≠2000000+n*1000+off
 | .dD n _ _ _ _=>m≠n/\m∉bE q.cells
 |_=>True
def wC(m:Nat)(dst:Option Nat):P->Prop
 | .sl n _ _=>m≠n
 |_=>m≠site dst
theorem Eh{Q:Program}{s s':S}{t:TypeId}{p q:P}(h:gB Q s t p q=some s'){m:Nat}(hm:Ks m q p):lk s'.rg m=lk s.rg m:=by
 unfold gB at h;split at h
 ·cases h
 split at h
 ·split at h
  next h1=>
   split at h
   ·split at h
    ·simp at h;rw[<-h,cY _ _ _ hm.1,zd h1 hm.2]
    cases h
   cases h
  cases h
 ·split at h
  next h1=>
   split at h
   ·split at h
    ·split at h
     ·simp only[zam] at h;rw[<-h,cY _ _ _ hm.1,oL h1 hm.2]
     cases h
    cases h
   cases h
  cases h
 cases h
theorem tQ{Q:Program}{s s':S}{dst:Option Nat}{t:TypeId}{ps:List P}(h:ou Q s dst t ps=some s'){m:Nat}(h1:m≠site dst)(h2:m<site dst*1000\/site dst*1000+ps.length<=m):lk s'.rg m=lk s.rg m:=by
 unfold ou at h;split at h
 ·cases h
 rename_i s1 qs g1;split at h
 next s2 v g2=>rw[bu h,eV g2 h1,qu _ _ _ _ _ _ g1 m h2]
 cases h
theorem BI{Q:Program}{s s':S}{dst:Option Nat}{t t2:TypeId}{p q:P}(h:jn Q s dst t t2 p q=some s'){m:Nat}(hm:wC m dst p):lk s'.rg m=lk s.rg m:=by
 unfold jn at h;split at h
 ·cases h
 split at h
 ·split at h
  ·split at h
   ·split at h
    ·split at h
     ·split at h
      ·split at h
       ·rw[bu h];exact b8 _ _ (zbI hm)
       cases h
      cases h
     cases h
    ·split at h
     ·split at h
      next g2=>rw[bu h,eV g2 hm]
      cases h
     cases h
    cases h
   cases h
  cases h
 cases h
theorem G8{Q:Program}{s s':S}{dst:Option Nat}{t:TypeId}{p q:P}(h:tD Q s dst t p q=some s'){m:Nat}(hm:m≠site dst):lk s'.rg m=lk s.rg m:=by
 unfold tD at h;split at h
 ·split at h
  ·split at h
   ·split at h
    next hn=>rw[bu h,eV hn hm]
    cases h
   cases h
  cases h
 cases h
theorem zg{Q:Program}{s s':S}{dst:Option Nat}{t:TypeId}(h:lj Q s dst t=some s'){m:Nat}(hm:m≠site dst):lk s'.rg m=lk s.rg m:=by
 unfold lj at h;split at h
 ·split at h
  next hn=>rw[bu h,eV hn hm]
  cases h
 cases h
def tR(m:Nat):P->Prop
 | .mp n _=>m≠n
 |_=>True
theorem rY{Q:Program}{s s':S}{dst:Option Nat}{t:TypeId}{p k x:P}(h:jo Q s dst t p k x=some s'){m:Nat}(hm:tR m p)(hx:m∉bE x.cells):lk s'.rg m=lk s.rg m:=by
 unfold jo at h;split at h
 ·split at h
  next hf=>
   split at h
   ·split at h
    ·rw[bu h,cY _ _ _ hm,oL hf hx]
    cases h
   cases h
  cases h
 cases h
theorem BJ{Q:Program}{s s':S}{dst:Option Nat}{t:TypeId}{p k:P}(h:jq Q s dst t p k=some s'){m:Nat}(hd:m≠site dst)(hm:tR m p):lk s'.rg m=lk s.rg m:=by
 unfold jq at h;split at h
 ·split at h
  ·split at h
   ·split at h
    ·split at h
     next hn=>rw[bu h,cY _ _ _ hm,eV hn hd]
     cases h
    cases h
   cases h
  cases h
 cases h
theorem Ei{Q:Program}{s s':S}{dst:Option Nat}{p st x:P}(h:qd Q s dst p st x=some s'){m:Nat}(hm:tR m p)(hx:m∉bE x.cells):lk s'.rg m=lk s.rg m:=by
 unfold qd at h;split at h
 ·split at h
  next hf=>
   split at h
   ·split at h
    ·rw[bu h,cY _ _ _ hm,CD hf hx]
    cases h
   cases h
  cases h
 cases h
theorem tS{Q:Program}{s s':S}{dst:Option Nat}{t:TypeId}{p:P}(h:sd Q s dst t p=some s'){m:Nat}(hd:m≠site dst)(hm:tR m p):lk s'.rg m=lk s.rg m:=by
 unfold sd at h;split at h
 ·split at h
  ·split at h
   ·split at h
    next hn=>rw[bu h,eV hn hd,cY _ _ _ hm]
    cases h
   cases h
  cases h
 ·split at h
  next hn=>rw[bu h,eV hn hd]
  cases h
 cases h
theorem qw{Q:Program}{t:TypeId}{k:Nat}: ∀(ps:List (Nat×P)) (s s':S) (es fG:List D),cU Q t k s es ps=some (s',fG)-> ∀m,(∀x∈ps,m∉bE x.2.cells)->lk s'.rg m=lk s.rg m
 | [],s,s',es,fG,h,m,_=>by simp[cU] at h;rw[h.1]
 | (i,p)::r,s,s',es,fG,h,m,hm=>by
  simp only[cU] at h;split at h
  next s1 x h1=>
   split at h
   ·rw[qw r s1 s' _ fG h m (λx hx=>hm x (by simp[hx])),oL h1 (hm (i,p) (by simp))]
   cases h
  cases h
theorem Ej{Q:Program}{s s':S}{dst:Option Nat}{t:TypeId}{len:Nat}{ps:List (Nat×P)}(h:sc Q s dst t len ps=some s'){m:Nat}(hm:m≠site dst)(hp: ∀x∈ps,m∉bE x.2.cells):lk s'.rg m=lk s.rg m:=by
 unfold sc at h;split at h
 ·split at h
  ·split at h
   ·split at h
    ·rename_i hb;split at h
     next hn=>rw[bu h,eV hn hm,qw _ _ _ _ _ hb m hp]
     cases h
    cases h
   cases h
  cases h
 cases h
def CG(m:Nat):P->Prop
 | .sl n _ _=>m≠n
 |_=>True
theorem G9{Q:Program}{s s':S}{dst:Option Nat}{t t2:TypeId}{p q:P}(h:tE Q s dst t t2 p q=some s'){m:Nat}(hm:CG m p):lk s'.rg m=lk s.rg m:=by
 unfold tE at h;split at h
 ·split at h
  ·split at h
   ·split at h
    ·rw[bu h,cY _ _ _ hm]
    cases h
   cases h
  cases h
 cases h
def zh(m:Nat):P->Prop
 | .mb n _ _ _ _=>m≠n
 |_=>True
theorem Ek{Q:Program}{s s':S}{dst:Option Nat}{t:TypeId}{p:P}(h:oz Q s dst t p=some s'){m:Nat}(hm:zh m p):lk s'.rg m=lk s.rg m:=by
 unfold oz at h;split at h
 ·split at h
  ·split at h
   ·rw[bu h,cY _ _ _ hm]
   cases h
  cases h
 cases h
theorem rZ(R1:List (Nat×En))(σ:Nat->Nat->Option (Nat×Nat)): ∀(ns:List Nat) (i0:Nat) (R R2:List (Nat×En)),gw R1 σ i0 ns R=some R2-> ∀m,m∉ns->lk R2 m=lk R m
 | [],i0,R,R2,h,m,hm=>by simp[gw] at h;rw[h]
 |n::ns,i0,R,R2,h,m,hm=>by
  simp only[zav,zcY] at hm;simp only[gw] at h;split at h
  ·cases h
  rw[rZ R1 σ ns _ _ _ h m hm.2,b8 _ _ (zbI hm.1)]
theorem El{Q:Program}{cf:CF}{s s':S}{dst:Option Nat}{kW:FuncId}{cQ args:List P}(h:mS Q cf s dst (.fn kW cQ) args=some s'){s1:S}{qs:List P}(hf:cV Q s kW (args++cQ)=some (s1,qs)){m:Nat}
  (h1:m∉bE ((args++cQ).flatMap P.cells)) (h2:m∉reach s1.rg 1000 qs []) (h3:m<site dst*1000\/site dst*1000+1000<=m):lk s'.rg m=lk s.rg m:=by
 unfold mS at h;simp only[hf] at h;split at h
 ·split at h
  ·cases h
  split at h
  ·cases h
  split at h
  next hmd=>
   have hle:=(zab _ _▸hmd:_/\_).2;simp only[zcc] at hle;split at h
   ·cases h
   rename_i R2 hb;split at h
   ·cases h
   rename_i R3 hn;rw[bu h];rw[(vv _ _ _ _ _ _ hn m).2 (by omega),rZ _ _ _ _ _ _ hb m h2,zf _ _ _ _ hf m h1]
  cases h
 cases h
theorem wE{Q:Program}{cf:CF}{s s':S}{o:Oper}{g:Option (Nat×Bool)}(h:gk Q cf s o g=some s'){m:Nat}(hm: ¬xS (writes Q s o g) m):lk s'.rg m=lk s.rg m:=by
 unfold gk at h;unfold writes at hm;split at h
 next f xs hc=>
  unfold gC at hc;split at hc
  next c ho=>
   split at hc
   ·rename_i f' lB;have Yb:db Q o=none:=by unfold db;rw[ho]
    simp only[Yb,ho,lB] at hm;grind [cV,mS,xS,El]
   cases hc
  cases hc
 unfold exec at h;split at h
 ·grind [bu]
 unfold jC at h;split at h
 next e he=>
  simp only[he] at hm;split at h
  next s1 v hn=>rw[bu h,eV hn (by simpa [xS] using hm)]
  cases h
 rename_i he;simp only[he] at hm;split at h
 ·rw[bu h]
 unfold ef at h;split at h
 ·grind [xS,tQ,ql]
 ·grind [xS,tQ]
 next t ad x ho=>
  simp only[ho] at hm;split at h
  next s1 h1=>
   rw[bu h];refine Eh h1 ?_;generalize s.eg g ad=pa at hm;cases pa with
   |ref n v off=>simp only[xS,zav,zcY] at hm;exact⟨hm.1.1,by omega⟩
   |dD n v i k off=>simp only[xS,zav,zcY] at hm;exact⟨hm.1.1,hm.1.2⟩
   |_=>trivial
  cases h
 ·grind [bu]
 next c ho=>simp only[ho] at hm;grind [BI,wC,xS,G9,CG,Ek,zh]
 ·grind [xS,G8]
 ·grind [xS,zg]
 next t mo k x ho=>
  simp only[ho] at hm;cases hp:s.eg g mo with
  |mp n v=>rw[hp] at hm h;simp only[xS,zav,zcY] at hm;exact rY h hm.1.1 hm.1.2
  |_=>rw[hp] at h;simp[jo] at h
 next t mo k x ho=>
  simp only[ho] at hm;cases hp:s.eg g mo with
  |mp n v=>rw[hp] at hm h;simp only[xS,zav,zcY] at hm;exact rY h hm.1.1 hm.1.2
  |_=>rw[hp] at h;simp[jo] at h
 next t x ho=>
  simp only[ho] at hm;cases hp:s.eg g x with
  |mp n v=>rw[hp] at hm h;simp only[xS,zav,zdf,or_false,zcY] at hm;exact tS h hm.1.1 hm.1.2
  |_=>rw[hp] at hm h;simp only[xS,zav,zdf,or_false,zcY] at hm;exact tS h hm.1 trivial
 next t mo k ho=>
  simp only[ho] at hm;cases hp:s.eg g mo with
  |mp n v=>rw[hp] at hm h;simp only[xS,zav,zdf,or_false,zcY] at hm;exact BJ h hm.1.1 hm.1.2
  |_=>rw[hp] at h;simp[jq] at h
 next t mo st x ho=>
  simp only[ho] at hm;cases hp:s.eg g mo with
  |mp n v=>rw[hp] at hm h;simp only[xS,zav,zcY] at hm;exact Ei h hm.1.1 hm.1.2
  |_=>rw[hp] at h;simp[qd] at h
 ·grind [xS,Ej]
 cases h
end Pi
