/- The text PiLoc2. -/
import Derived.Test.YtngoddkencoalaaGreatDoorPiLoc
namespace Pi
open Go
theorem qbK(Q:Program){s s2:S}{o:Oper}(h:Alike s s2 o.op.operands.toList)(g:Option (Nat×Bool)): ∃c,ef Q s o g=fin s o.dst c/\ef Q s2 o g=fin s2 o.dst c:=by
 unfold ef;split
 next t ho=>
  split
  next z hz=>exact pj h (xE Q s o.dst t _)
  exact⟨none,rfl,rfl⟩
 next t x ho=>
  rw[h.eg (x:=x) (by simp[ho,Op.operands])];split
  ·exact pj h (xE Q s o.dst t _)
  exact⟨none,rfl,rfl⟩
 next t ad x ho=>
  rw[h.eg (x:=ad) (by simp[ho,Op.operands]),h.eg (x:=x) (by simp[ho,Op.operands])];refine pj (f:=λs'=>match gx Q s' t (s.eg g ad) (s.eg g x) with |some s1=>s1.put o.dst .bad |none=>none) h ?_;cases h1:gx Q s t (s.eg g ad) (s.eg g x) with
  |none=>exact⟨none,λm=>by simp only[AY,h1];rfl⟩
  |some s1=>exact⟨some (s1.rg,.bad),λm=>by grind [AY,gZ,PV]⟩
 next t1 t2 x ho=>
  rw[h.eg (x:=x) (by simp[ho,Op.operands])];refine pj (f:=λs'=>match Q.underlying t1,Q.underlying t2 with
   |some (.slice e),some .string=>match Q.underlying e,l8 Q s' t1 1 (s.eg g x) with
    |some (.int .u8),some ys=>match jG ys with |some l=>s'.put o.dst (.d (.str l))|none=>none
    |_,_=>none
   |_,_=>none) h ?_
  split
  next e h1 h2=>
   simp only[Loc,Cx];split
   ·split
    ·exact⟨some (s.rg,_),λm=>rfl⟩
    exact⟨none,λm=>rfl⟩
   exact⟨none,λm=>rfl⟩
  exact⟨none,λm=>rfl⟩
 next c ho=>
  have hm: ∀y∈c.args.toList,y∈o.op.operands.toList:=λy hy=>by simp only[ho,Op.operands,Call.operands];grind
  split
  ·split
   next x y t t2 cP EO=>rw[h.eg (x:=x) (hm x (by rw[cP];simp)),h.eg (x:=y) (hm y (by rw[cP];simp))];exact pj h (EV Q s o.dst t t2 _ _)
   exact⟨none,rfl,rfl⟩
  ·split
   next x y t t2 cP EO=>rw[h.eg (x:=x) (hm x (by rw[cP];simp)),h.eg (x:=y) (hm y (by rw[cP];simp))];exact pj h (Mt Q s o.dst t t2 _ _)
   exact⟨none,rfl,rfl⟩
  ·split
   next x t cP EO=>rw[h.eg (x:=x) (hm x (by rw[cP];simp))];exact pj h (Ie Q s o.dst t _)
   exact⟨none,rfl,rfl⟩
  exact⟨none,rfl,rfl⟩
 next t x y ho=>rw[h.eg (x:=x) (by simp[ho,Op.operands]),h.eg (x:=y) (by simp[ho,Op.operands])];exact pj h (Ms Q s o.dst t _ _)
 next t ho=>exact pj h (CA Q s o.dst t)
 next t m k x ho=>rw[h.eg (x:=m) (by simp[ho,Op.operands]),h.eg (x:=k) (by simp[ho,Op.operands]),h.eg (x:=x) (by simp[ho,Op.operands])];exact pj h (uS Q s o.dst t _ _ _)
 next t m k x ho=>rw[h.eg (x:=m) (by simp[ho,Op.operands]),h.eg (x:=k) (by simp[ho,Op.operands]),h.eg (x:=x) (by simp[ho,Op.operands])];exact pj h (uS Q s o.dst t _ _ _)
 next t x ho=>rw[h.eg (x:=x) (by simp[ho,Op.operands])];exact pj h (Ib Q s o.dst t _)
 next t m k ho=>rw[h.eg (x:=m) (by simp[ho,Op.operands]),h.eg (x:=k) (by simp[ho,Op.operands])];exact pj h (EW Q s o.dst t _ _)
 next t m st x ho=>rw[h.eg (x:=m) (by simp[ho,Op.operands]),h.eg (x:=st) (by simp[ho,Op.operands]),h.eg (x:=x) (by simp[ho,Op.operands])];exact pj h (Ia Q s o.dst _ _ _)
 next t len parts ho=>
  have e:parts.toList.map (λx=>(x.1,s2.eg g x.2))=parts.toList.map (λx=>(x.1,s.eg g x.2)):=zbF λx hx=>by have:=h.eg (x:=x.2) (by simp only[ho,Op.operands];grind) g;rw[this]
  rw[e];exact pj h (Ic Q s o.dst t len _)
 exact⟨none,rfl,rfl⟩
theorem Mu(Q:Program){s s2:S}{o:Oper}(h:Alike s s2 o.op.operands.toList)(g:Option (Nat×Bool)): ∃c,jg Q s o g=fin s o.dst c/\jg Q s2 o g=fin s2 o.dst c:=by
 unfold jg;split
 next e he=>
  refine pj (f:=λs'=>match s'.new (site o.dst) (.arr e false []) with |some (s1,v)=>s1.put o.dst (.sl (site o.dst) v 0)|none=>none) h ?_;cases h1:s.new (site o.dst) (.arr e false []) with
  |none=>exact⟨none,λm=>by simp only[jO,h1];rfl⟩
  |some r=>exact⟨some (r.1.rg,_),λm=>by simp only[jO,h1];exact gZ m (qW h1)⟩
 rw[xG h g];split
 next p hp=>exact⟨some (s.rg,p),rfl,by unfold fin;rw[<-h.rg]⟩
 exact qbK Q h g
theorem PW(Q:Program){s s2:S}{o:Oper}(h:Alike s s2 o.op.operands.toList)(g:Option (Nat×Bool)): ∃c,exec Q s o g=fin s o.dst c/\exec Q s2 o g=fin s2 o.dst c:=by
 unfold exec;cases hm:rl o with
 |none=>exact Mu Q h g
 |some r=>
  obtain⟨t,len,parts⟩:=r;obtain⟨ps,ho,rfl,_⟩:=tT hm;have e:ps.toList.map (λx=>(x.1,s2.eg g x.2))=ps.toList.map (λx=>(x.1,s.eg g x.2)):=zbF λx hx=>by rw[h.eg (by simp[Op.operands];grind)]
  simp only[e];cases AA Q t len (ps.toList.map λx=>(x.1,s.eg g x.2)) with
  |none=>exact⟨none,rfl,rfl⟩
  |some p=>exact⟨some (s.rg,p),rfl,by unfold fin;rw[<-h.rg]⟩
theorem Ig(Q:Program)(cf:CF)(s:S)(dst:Option Nat)(f:P)(args:List P):Loc (λs=>l9 Q cf s dst f args) s dst:=by
 unfold l9;cases f with
 |fn ku cI=>
  cases h1:cO Q s ku (args++cI) with
  |none=>exact⟨none,λm=>by simp only[uR,h1];rfl⟩
  |some r=>
   obtain⟨s1,qs⟩:=r;have hn:=H9 _ _ _ _ h1;have e0: ∀m,(s1.wt m).rg=s1.rg:=λ_=>rfl;unfold Loc;simp only[uR,h1,zaK,e0];split
   ·split
    ·exact⟨none,λm=>rfl⟩
    split
    ·exact⟨none,λm=>rfl⟩
    split
    ·split
     ·exact⟨none,λm=>rfl⟩
     split
     ·exact⟨none,λm=>rfl⟩
     rename_i R3 h3;exact⟨some (R3,_),λm=>by unfold fin S.wt;rw[hn]⟩
    exact⟨none,λm=>rfl⟩
   exact⟨none,λm=>rfl⟩
 |_=>exact⟨none,λm=>rfl⟩
theorem A0(Q:Program)(cf:CF){s s2:S}{o:Oper}(h:Alike s s2 o.op.operands.toList)(g:Option (Nat×Bool)): ∃c,fX Q cf s o g=fin s o.dst c/\fX Q cf s2 o g=fin s2 o.dst c:=by
 unfold fX;split
 next f xs hc=>
  have hf:f∈o.op.operands.toList/\ ∀y∈xs,y∈o.op.operands.toList:=by
   unfold gy at hc;split at hc
   ·rename_i c ho;split at hc
    next f' kS=>simp[ho,Op.operands,Call.operands,kS];grind
    cases hc
   cases hc
  rw[h.eg hf.1,h.egs hf.2];exact pj h (Ig Q cf s o.dst _ _)
 exact PW Q h g
def wB(W:List Nat×Nat×Nat)(n:Nat):Prop:=n∈W.1\/(W.2.1<=n/\n<W.2.2)
theorem eR{s s':S}{n v:Nat}{o:Obj}(h:s.new n o=some (s',v)){m:Nat}(hm:m≠n):lk s'.rg m=lk s.rg m:=by obtain⟨rfl,_⟩:=S.kV h;grind [bU]
theorem cU(s:S)(n:Nat)(o:Obj){m:Nat}(hm:m≠n):lk (s.setObj n o).rg m=lk s.rg m:=by grind [S.setObj,bU]
theorem bz{s s':S}{dst:Option Nat}{p:P}(h:s.put dst p=some s'):s'.rg=s.rg:=by unfold S.put at h;grind
theorem xH{s:S}{n:Nat}{p q:P}{t:Option TypeId}{s':S}(h:sj s n p t=some (s',q)){m:Nat}(hm:m≠n):lk s'.rg m=lk s.rg m:=by unfold sj at h;grind [eR]
theorem pk: ∀(ps:List P) (ts:List (Option TypeId)) (n:Nat) (s s':S) (qs:List P),cm s n ps ts=some (s',qs)-> ∀m,(m<n\/n+ps.length<=m)->lk s'.rg m=lk s.rg m
 | [],_,_,s,s',qs,h,m,hm=>by simp[cm] at h;rw[<-h.1]
 |p::ps,ts,n,s,s',qs,h,m,hm=>by
  simp only[cm] at h;simp only[zap] at hm;split at h
  ·cases h
  rename_i s1 q h1;split at h
  next s2 qs2 h2=>simp at h;rw[<-h.1,pk ps _ _ _ _ _ h2 m (by omega),xH h1 (by omega)]
  cases h
theorem kW{Q:Program}{s s':S}{p:P}{x:D}(h:oW Q s p=some (s',x)){m:Nat}(hm:m∉bG [p]):lk s'.rg m=lk s.rg m:=by unfold oW at h;grind [cU,bG]
theorem nG(p:P)(ps:List P):bG (p::ps)=bG [p]++bG ps:=by cases p<;>simp[bG]
theorem xI{Q:Program}: ∀(ps:List P) (s s':S) (xs:List D),qq Q s ps=some (s',xs)-> ∀m,m∉bG ps->lk s'.rg m=lk s.rg m
 | [],s,s',xs,h,m,hm=>by simp[qq] at h;rw[<-h.1]
 |p::ps,s,s',xs,h,m,hm=>by
  rw[nG] at hm;simp only[zaE,zcK] at hm;simp only[qq] at h;split at h
  ·cases h
  rename_i s1 x h1;split at h
  next s2 xs2 h2=>simp at h;rw[<-h.1,xI ps _ _ _ h2 m hm.2,kW h1 hm.1]
  cases h
theorem A1{Q:Program}{s s':S}{p:P}{x:D}(h:DV Q s p=some (s',x)){m:Nat}(hm:m∉bG p.cells):lk s'.rg m=lk s.rg m:=by
 unfold DV at h;split at h
 ·split at h
  next h1=>simp at h;rw[<-h.1];exact xI _ _ _ _ h1 m hm
  cases h
 cases p with
 |sl n v len=>exact kW h hm
 |lG n v k off len=>exact kW h hm
 |d x=>simp[oW] at h;rw[<-h.1]
 |_=>simp[oW] at h
theorem pn: ∀(a b:List P),bG (a++b)=bG a++bG b
 | [],_=>rfl
 |p::a,b=>by rw[List.cons_append,nG,pn a b,nG p a,zaZ]
theorem nH{Q:Program}{s s':S}{t:TypeId}{p:P}{x:D}(h:nv Q s t p=some (s',x)){m:Nat}(hm:m∉bG p.cells):lk s'.rg m=lk s.rg m:=by grind [tS,A1]
theorem CB{Q:Program}{s s':S}{t:TypeId}{p q:P}(h:kH Q s t p=some (s',q)){m:Nat}(hm:m∉bG p.cells):lk s'.rg m=lk s.rg m:=by unfold kH at h;grind [nH,D.force_eq]
theorem qX{Q:Program}: ∀(ps:List P) (ts:List TypeId) (s s':S) (xs:List P),eC Q s ts ps=some (s',xs)-> ∀m,m∉bG (ps.flatMap P.cells)->lk s'.rg m=lk s.rg m
 | [],ts,s,s',xs,h,m,hm=>by simp[eC] at h;rw[<-h.1]
 |p::ps,ts,s,s',xs,h,m,hm=>by
  rw[zcr,pn] at hm;simp only[zaE,zcK] at hm;simp only[eC] at h;split at h
  ·cases h
  rename_i s1 x h1;have e1:lk s1.rg m=lk s.rg m:=by
   unfold oY at h1;split at h1
   ·split at h1
    next hf=>simp at h1;rw[<-h1.1];exact kW hf hm.1
    cases h1
   ·split at h1
    next hf=>simp at h1;rw[<-h1.1];exact kW hf hm.1
    cases h1
   grind [CB]
  split at h
  next s2 xs2 h2=>simp at h;rw[<-h.1,qX ps _ _ _ _ h2 m hm.2,e1]
  cases h
theorem xJ{Q:Program}{f:FuncId}(ps:List P)(s s':S)(xs:List P)(h:cO Q s f ps=some (s',xs))(m:Nat)(hm:m∉bG (ps.flatMap P.cells)):lk s'.rg m=lk s.rg m:=by grind [cO,qX]
def Ih(m:Nat)(q:P):P->Prop
 | .ref n _ off=>m≠n/\m≠2000000+n*1000+off
 | .dz n _ _ _ _=>m≠n/\m∉bG q.cells
 |_=>True
def uU(m:Nat)(dst:Option Nat):P->Prop
 | .sl n _ _=>m≠n
 |_=>m≠site dst
theorem CC{Q:Program}{s s':S}{t:TypeId}{p q:P}(h:gx Q s t p q=some s'){m:Nat}(hm:Ih m q p):lk s'.rg m=lk s.rg m:=by
 unfold gx at h;split at h
 ·cases h
 split at h
 ·split at h
  next h1=>
   split at h
   ·split at h
    ·simp at h;rw[<-h,cU _ _ _ hm.1,xH h1 hm.2]
    cases h
   cases h
  cases h
 ·split at h
  next h1=>
   split at h
   ·split at h
    ·split at h
     ·simp only[zal] at h;rw[<-h,cU _ _ _ hm.1,nH h1 hm.2]
     cases h
    cases h
   cases h
  cases h
 cases h
theorem sJ{Q:Program}{s s':S}{dst:Option Nat}{t:TypeId}{ps:List P}(h:nu Q s dst t ps=some s'){m:Nat}(h1:m≠site dst)(h2:m<site dst*1000\/site dst*1000+ps.length<=m):lk s'.rg m=lk s.rg m:=by
 unfold nu at h;split at h
 ·cases h
 rename_i s1 qs g1;split at h
 next s2 v g2=>rw[bz h,eR g2 h1,pk _ _ _ _ _ _ g1 m h2]
 cases h
theorem zX{Q:Program}{s s':S}{dst:Option Nat}{t t2:TypeId}{p q:P}(h:iY Q s dst t t2 p q=some s'){m:Nat}(hm:uU m dst p):lk s'.rg m=lk s.rg m:=by
 unfold iY at h;split at h
 ·cases h
 split at h
 ·split at h
  ·split at h
   ·split at h
    ·split at h
     ·split at h
      ·split at h
       ·rw[bz h];exact bU _ _ (zbD hm)
       cases h
      cases h
     cases h
    ·split at h
     ·split at h
      next g2=>rw[bz h,eR g2 hm]
      cases h
     cases h
    cases h
   cases h
  cases h
 cases h
theorem EX{Q:Program}{s s':S}{dst:Option Nat}{t:TypeId}{p q:P}(h:sk Q s dst t p q=some s'){m:Nat}(hm:m≠site dst):lk s'.rg m=lk s.rg m:=by
 unfold sk at h;split at h
 ·split at h
  ·split at h
   ·split at h
    next hn=>rw[bz h,eR hn hm]
    cases h
   cases h
  cases h
 cases h
theorem xK{Q:Program}{s s':S}{dst:Option Nat}{t:TypeId}(h:kG Q s dst t=some s'){m:Nat}(hm:m≠site dst):lk s'.rg m=lk s.rg m:=by
 unfold kG at h;split at h
 ·split at h
  next hn=>rw[bz h,eR hn hm]
  cases h
 cases h
def sK(m:Nat):P->Prop
 | .mp n _=>m≠n
 |_=>True
theorem qY{Q:Program}{s s':S}{dst:Option Nat}{t:TypeId}{p k x:P}(h:iZ Q s dst t p k x=some s'){m:Nat}(hm:sK m p)(hx:m∉bG x.cells):lk s'.rg m=lk s.rg m:=by
 unfold iZ at h;split at h
 ·split at h
  next hf=>
   split at h
   ·split at h
    ·rw[bz h,cU _ _ _ hm,nH hf hx]
    cases h
   cases h
  cases h
 cases h
theorem zY{Q:Program}{s s':S}{dst:Option Nat}{t:TypeId}{p k:P}(h:ja Q s dst t p k=some s'){m:Nat}(hd:m≠site dst)(hm:sK m p):lk s'.rg m=lk s.rg m:=by
 unfold ja at h;split at h
 ·split at h
  ·split at h
   ·split at h
    ·split at h
     next hn=>rw[bz h,cU _ _ _ hm,eR hn hd]
     cases h
    cases h
   cases h
  cases h
 cases h
theorem CD{Q:Program}{s s':S}{dst:Option Nat}{p st x:P}(h:oX Q s dst p st x=some s'){m:Nat}(hm:sK m p)(hx:m∉bG x.cells):lk s'.rg m=lk s.rg m:=by
 unfold oX at h;split at h
 ·split at h
  next hf=>
   split at h
   ·split at h
    ·rw[bz h,cU _ _ _ hm,A1 hf hx]
    cases h
   cases h
  cases h
 cases h
theorem sL{Q:Program}{s s':S}{dst:Option Nat}{t:TypeId}{p:P}(h:rk Q s dst t p=some s'){m:Nat}(hd:m≠site dst)(hm:sK m p):lk s'.rg m=lk s.rg m:=by
 unfold rk at h;split at h
 ·split at h
  ·split at h
   ·split at h
    next hn=>rw[bz h,eR hn hd,cU _ _ _ hm]
    cases h
   cases h
  cases h
 ·split at h
  next hn=>rw[bz h,eR hn hd]
  cases h
 cases h
theorem po{Q:Program}{t:TypeId}{k:Nat}: ∀(ps:List (Nat×P)) (s s':S) (es fA:List D),cN Q t k s es ps=some (s',fA)-> ∀m,(∀x∈ps,m∉bG x.2.cells)->lk s'.rg m=lk s.rg m
 | [],s,s',es,fA,h,m,_=>by simp[cN] at h;rw[h.1]
 | (i,p)::r,s,s',es,fA,h,m,hm=>by
  simp only[cN] at h;split at h
  next s1 x h1=>
   split at h
   ·rw[po r s1 s' _ fA h m (λx hx=>hm x (by simp[hx])),nH h1 (hm (i,p) (by simp))]
   cases h
  cases h
theorem CG{Q:Program}{s s':S}{dst:Option Nat}{t:TypeId}{len:Nat}{ps:List (Nat×P)}(h:rj Q s dst t len ps=some s'){m:Nat}(hm:m≠site dst)(hp: ∀x∈ps,m∉bG x.2.cells):lk s'.rg m=lk s.rg m:=by
 unfold rj at h;split at h
 ·split at h
  ·split at h
   ·split at h
    ·rename_i hb;split at h
     next hn=>rw[bz h,eR hn hm,po _ _ _ _ _ hb m hp]
     cases h
    cases h
   cases h
  cases h
 cases h
def A2(m:Nat):P->Prop
 | .sl n _ _=>m≠n
 |_=>True
theorem EY{Q:Program}{s s':S}{dst:Option Nat}{t t2:TypeId}{p q:P}(h:sq Q s dst t t2 p q=some s'){m:Nat}(hm:A2 m p):lk s'.rg m=lk s.rg m:=by
 unfold sq at h;split at h
 ·split at h
  ·split at h
   ·split at h
    ·rw[bz h,cU _ _ _ hm]
    cases h
   cases h
  cases h
 cases h
def xM(m:Nat):P->Prop
 | .lG n _ _ _ _=>m≠n
 |_=>True
theorem CH{Q:Program}{s s':S}{dst:Option Nat}{t:TypeId}{p:P}(h:nw Q s dst t p=some s'){m:Nat}(hm:xM m p):lk s'.rg m=lk s.rg m:=by
 unfold nw at h;split at h
 ·split at h
  ·split at h
   ·rw[bz h,cU _ _ _ hm]
   cases h
  cases h
 cases h
theorem qZ(R1:List (Nat×En))(σ:Nat->Nat->Option (Nat×Nat)): ∀(ns:List Nat) (i0:Nat) (R R2:List (Nat×En)),gl R1 σ i0 ns R=some R2-> ∀m,m∉ns->lk R2 m=lk R m
 | [],i0,R,R2,h,m,hm=>by simp[gl] at h;rw[h]
 |n::ns,i0,R,R2,h,m,hm=>by
  simp only[zav,zcK] at hm;simp only[gl] at h;split at h
  ·cases h
  rw[qZ R1 σ ns _ _ _ h m hm.2,bU _ _ (zbD hm.1)]
theorem CI{Q:Program}{cf:CF}{s s':S}{dst:Option Nat}{ku:FuncId}{cI args:List P}(h:l9 Q cf s dst (.fn ku cI) args=some s'){s1:S}{qs:List P}(hf:cO Q s ku (args++cI)=some (s1,qs)){m:Nat}
  (h1:m∉bG ((args++cI).flatMap P.cells)) (h2:m∉reach s1.rg 1000 qs []) (h3:m<site dst*1000\/site dst*1000+1000<=m):lk s'.rg m=lk s.rg m:=by
 unfold l9 at h;simp only[hf] at h;split at h
 ·split at h
  ·cases h
  split at h
  ·cases h
  split at h
  next Wl=>
   have hle:=(zab _ _▸Wl:_/\_).2;simp only[zb0] at hle;split at h
   ·cases h
   rename_i R2 hb;split at h
   ·cases h
   rename_i R3 hn;rw[bz h];rw[(tU _ _ _ _ _ _ hn m).2 (by omega),qZ _ _ _ _ _ _ hb m h2,xJ _ _ _ _ hf m h1]
  cases h
 cases h
theorem uV{Q:Program}{cf:CF}{s s':S}{o:Oper}{g:Option (Nat×Bool)}(h:fX Q cf s o g=some s'){m:Nat}(hm: ¬wB (writes Q s o g) m):lk s'.rg m=lk s.rg m:=by
 unfold fX at h;unfold writes at hm;split at h
 next f xs hc=>
  unfold gy at hc;split at hc
  next c ho=>
   split at hc
   ·rename_i f' kS;have Vd:c7 Q o=none:=by unfold c7;rw[ho]
    simp only[Vd,ho,kS] at hm;grind [cO,l9,wB,CI]
   cases hc
  cases hc
 unfold exec at h;split at h
 ·grind [bz]
 unfold jg at h;split at h
 next e he=>
  simp only[he] at hm;split at h
  next s1 v hn=>rw[bz h,eR hn (by simpa [wB] using hm)]
  cases h
 rename_i he;simp only[he] at hm;split at h
 ·rw[bz h]
 unfold ef at h;split at h
 ·grind [wB,sJ,o9]
 ·grind [wB,sJ]
 next t ad x ho=>
  simp only[ho] at hm;split at h
  next s1 h1=>
   rw[bz h];refine CC h1 ?_;generalize s.eg g ad=pa at hm;cases pa with
   |ref n v off=>simp only[wB,zav,zcK] at hm;exact⟨hm.1.1,by omega⟩
   |dz n v i k off=>simp only[wB,zav,zcK] at hm;exact⟨hm.1.1,hm.1.2⟩
   |_=>trivial
  cases h
 ·grind [bz]
 next c ho=>simp only[ho] at hm;grind [zX,uU,wB,EY,A2,CH,xM]
 ·grind [wB,EX]
 ·grind [wB,xK]
 next t mo k x ho=>
  simp only[ho] at hm;cases hp:s.eg g mo with
  |mp n v=>rw[hp] at hm h;simp only[wB,zav,zcK] at hm;exact qY h hm.1.1 hm.1.2
  |_=>rw[hp] at h;simp[iZ] at h
 next t mo k x ho=>
  simp only[ho] at hm;cases hp:s.eg g mo with
  |mp n v=>rw[hp] at hm h;simp only[wB,zav,zcK] at hm;exact qY h hm.1.1 hm.1.2
  |_=>rw[hp] at h;simp[iZ] at h
 next t x ho=>
  simp only[ho] at hm;cases hp:s.eg g x with
  |mp n v=>rw[hp] at hm h;simp only[wB,zav,zc0,or_false,zcK] at hm;exact sL h hm.1.1 hm.1.2
  |_=>rw[hp] at hm h;simp only[wB,zav,zc0,or_false,zcK] at hm;exact sL h hm.1 trivial
 next t mo k ho=>
  simp only[ho] at hm;cases hp:s.eg g mo with
  |mp n v=>rw[hp] at hm h;simp only[wB,zav,zc0,or_false,zcK] at hm;exact zY h hm.1.1 hm.1.2
  |_=>rw[hp] at h;simp[ja] at h
 next t mo st x ho=>
  simp only[ho] at hm;cases hp:s.eg g mo with
  |mp n v=>rw[hp] at hm h;simp only[wB,zav,zcK] at hm;exact CD h hm.1.1 hm.1.2
  |_=>rw[hp] at h;simp[oX] at h
 ·grind [wB,CG]
 cases h
end Pi
