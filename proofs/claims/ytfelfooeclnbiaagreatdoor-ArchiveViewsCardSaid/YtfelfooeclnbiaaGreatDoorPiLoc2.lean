/- The text PiLoc2. -/
import Derived.Test.YtfelfooeclnbiaaGreatDoorPiLoc
namespace Pi
open Go
theorem qbW(Q:Program){s s2:S}{o:Oper}(h:Alike s s2 o.op.operands.toList)(g:Option (Nat×Bool)): ∃c,ef Q s o g=fin s o.dst c/\ef Q s2 o g=fin s2 o.dst c:=by
 unfold ef;split
 next t ho=>
  split
  next z hz=>exact pz h (xE Q s o.dst t _)
  exact⟨none,rfl,rfl⟩
 next t x ho=>
  rw[h.eg (x:=x) (by simp[ho,Op.operands])];split
  ·exact pz h (xE Q s o.dst t _)
  exact⟨none,rfl,rfl⟩
 next t ad x ho=>
  rw[h.eg (x:=ad) (by simp[ho,Op.operands]),h.eg (x:=x) (by simp[ho,Op.operands])];refine pz (f:=λs'=>match gw Q s' t (s.eg g ad) (s.eg g x) with |some s1=>s1.put o.dst .bad |none=>none) h ?_;cases h1:gw Q s t (s.eg g ad) (s.eg g x) with
  |none=>exact⟨none,λm=>by simp only[AV,h1];rfl⟩
  |some s1=>exact⟨some (s1.rg,.bad),λm=>by grind [AV,gY,PZ]⟩
 next t1 t2 x ho=>
  rw[h.eg (x:=x) (by simp[ho,Op.operands])];refine pz (f:=λs'=>match Q.underlying t1,Q.underlying t2 with
   |some (.slice e),some .string=>match Q.underlying e,lW Q s' t1 1 (s.eg g x) with
    |some (.int .u8),some ys=>match jD ys with |some l=>s'.put o.dst (.d (.str l))|none=>none
    |_,_=>none
   |_,_=>none) h ?_
  split
  next e h1 h2=>
   simp only[Loc,Cq];split
   ·split
    ·exact⟨some (s.rg,_),λm=>rfl⟩
    exact⟨none,λm=>rfl⟩
   exact⟨none,λm=>rfl⟩
  exact⟨none,λm=>rfl⟩
 next c ho=>
  have hm: ∀y∈c.args.toList,y∈o.op.operands.toList:=λy hy=>by simp only[ho,Op.operands,Call.operands];grind
  split
  ·split
   next x y t t2 cN EI=>rw[h.eg (x:=x) (hm x (by rw[cN];simp)),h.eg (x:=y) (hm y (by rw[cN];simp))];exact pz h (EO Q s o.dst t t2 _ _)
   exact⟨none,rfl,rfl⟩
  ·split
   next x y t t2 cN EI=>rw[h.eg (x:=x) (hm x (by rw[cN];simp)),h.eg (x:=y) (hm y (by rw[cN];simp))];exact pz h (Mw Q s o.dst t t2 _ _)
   exact⟨none,rfl,rfl⟩
  ·split
   next x t cN EI=>rw[h.eg (x:=x) (hm x (by rw[cN];simp))];exact pz h (Io Q s o.dst t _)
   exact⟨none,rfl,rfl⟩
  exact⟨none,rfl,rfl⟩
 next t x y ho=>rw[h.eg (x:=x) (by simp[ho,Op.operands]),h.eg (x:=y) (by simp[ho,Op.operands])];exact pz h (Mv Q s o.dst t _ _)
 next t ho=>exact pz h (Cu Q s o.dst t)
 next t m k x ho=>rw[h.eg (x:=m) (by simp[ho,Op.operands]),h.eg (x:=k) (by simp[ho,Op.operands]),h.eg (x:=x) (by simp[ho,Op.operands])];exact pz h (vu Q s o.dst t _ _ _)
 next t m k x ho=>rw[h.eg (x:=m) (by simp[ho,Op.operands]),h.eg (x:=k) (by simp[ho,Op.operands]),h.eg (x:=x) (by simp[ho,Op.operands])];exact pz h (vu Q s o.dst t _ _ _)
 next t x ho=>rw[h.eg (x:=x) (by simp[ho,Op.operands])];exact pz h (Il Q s o.dst t _)
 next t m k ho=>rw[h.eg (x:=m) (by simp[ho,Op.operands]),h.eg (x:=k) (by simp[ho,Op.operands])];exact pz h (EP Q s o.dst t _ _)
 next t m st x ho=>rw[h.eg (x:=m) (by simp[ho,Op.operands]),h.eg (x:=st) (by simp[ho,Op.operands]),h.eg (x:=x) (by simp[ho,Op.operands])];exact pz h (Ik Q s o.dst _ _ _)
 next t len parts ho=>
  have e:parts.toList.map (λx=>(x.1,s2.eg g x.2))=parts.toList.map (λx=>(x.1,s.eg g x.2)):=zbP λx hx=>by have:=h.eg (x:=x.2) (by simp only[ho,Op.operands];grind) g;rw[this]
  rw[e];exact pz h (Im Q s o.dst t len _)
 exact⟨none,rfl,rfl⟩
theorem Mx(Q:Program){s s2:S}{o:Oper}(h:Alike s s2 o.op.operands.toList)(g:Option (Nat×Bool)): ∃c,jg Q s o g=fin s o.dst c/\jg Q s2 o g=fin s2 o.dst c:=by
 unfold jg;split
 next e he=>
  refine pz (f:=λs'=>match s'.new (site o.dst) (.arr e false []) with |some (s1,v)=>s1.put o.dst (.sl (site o.dst) v 0)|none=>none) h ?_;cases h1:s.new (site o.dst) (.arr e false []) with
  |none=>exact⟨none,λm=>by simp only[jK,h1];rfl⟩
  |some r=>exact⟨some (r.1.rg,_),λm=>by simp only[jK,h1];exact gY m (qM h1)⟩
 rw[xG h g];split
 next p hp=>exact⟨some (s.rg,p),rfl,by unfold fin;rw[<-h.rg]⟩
 exact qbW Q h g
theorem P0(Q:Program){s s2:S}{o:Oper}(h:Alike s s2 o.op.operands.toList)(g:Option (Nat×Bool)): ∃c,exec Q s o g=fin s o.dst c/\exec Q s2 o g=fin s2 o.dst c:=by
 unfold exec;cases hm:re o with
 |none=>exact Mx Q h g
 |some r=>
  obtain⟨t,len,parts⟩:=r;obtain⟨ps,ho,rfl,_⟩:=uj hm;have e:ps.toList.map (λx=>(x.1,s2.eg g x.2))=ps.toList.map (λx=>(x.1,s.eg g x.2)):=zbP λx hx=>by rw[h.eg (by simp[Op.operands];grind)]
  simp only[e];cases Aq Q t len (ps.toList.map λx=>(x.1,s.eg g x.2)) with
  |none=>exact⟨none,rfl,rfl⟩
  |some p=>exact⟨some (s.rg,p),rfl,by unfold fin;rw[<-h.rg]⟩
theorem Ip(Q:Program)(cf:CF)(s:S)(dst:Option Nat)(f:P)(args:List P):Loc (λs=>lX Q cf s dst f args) s dst:=by
 unfold lX;cases f with
 |fn kF cF=>
  cases h1:cL Q s kF (args++cF) with
  |none=>exact⟨none,λm=>by simp only[vr,h1];rfl⟩
  |some r=>
   obtain⟨s1,qs⟩:=r;have hn:=Ij _ _ _ _ h1;have e0: ∀m,(s1.wt m).rg=s1.rg:=λ_=>rfl;unfold Loc;simp only[vr,h1,zaJ,e0];split
   ·split
    ·exact⟨none,λm=>rfl⟩
    split
    ·exact⟨none,λm=>rfl⟩
    split
    ·split
     ·exact⟨none,λm=>rfl⟩
     split
     ·exact⟨none,λm=>rfl⟩
     rename_i R3 h3;exact⟨some (R3,_),λm=>by unfold fin S.wt;rw[hn]⟩
    exact⟨none,λm=>rfl⟩
   exact⟨none,λm=>rfl⟩
 |_=>exact⟨none,λm=>rfl⟩
theorem AX(Q:Program)(cf:CF){s s2:S}{o:Oper}(h:Alike s s2 o.op.operands.toList)(g:Option (Nat×Bool)): ∃c,ga Q cf s o g=fin s o.dst c/\ga Q cf s2 o g=fin s2 o.dst c:=by
 unfold ga;split
 next f xs hc=>
  have hf:f∈o.op.operands.toList/\ ∀y∈xs,y∈o.op.operands.toList:=by
   unfold gx at hc;split at hc
   ·rename_i c ho;split at hc
    next f' kO=>simp[ho,Op.operands,Call.operands,kO];grind
    cases hc
   cases hc
  rw[h.eg hf.1,h.egs hf.2];exact pz h (Ip Q cf s o.dst _ _)
 exact P0 Q h g
def wJ(W:List Nat×Nat×Nat)(n:Nat):Prop:=n∈W.1\/(W.2.1<=n/\n<W.2.2)
theorem eM{s s':S}{n v:Nat}{o:Obj}(h:s.new n o=some (s',v)){m:Nat}(hm:m≠n):lk s'.rg m=lk s.rg m:=by obtain⟨rfl,_⟩:=S.kR h;grind [bT]
theorem cQ(s:S)(n:Nat)(o:Obj){m:Nat}(hm:m≠n):lk (s.setObj n o).rg m=lk s.rg m:=by grind [S.setObj,bT]
theorem bq{s s':S}{dst:Option Nat}{p:P}(h:s.put dst p=some s'):s'.rg=s.rg:=by unfold S.put at h;grind
theorem xH{s:S}{n:Nat}{p q:P}{t:Option TypeId}{s':S}(h:sf s n p t=some (s',q)){m:Nat}(hm:m≠n):lk s'.rg m=lk s.rg m:=by unfold sf at h;grind [eM]
theorem pA: ∀(ps:List P) (ts:List (Option TypeId)) (n:Nat) (s s':S) (qs:List P),ca s n ps ts=some (s',qs)-> ∀m,(m<n\/n+ps.length<=m)->lk s'.rg m=lk s.rg m
 | [],_,_,s,s',qs,h,m,hm=>by simp[ca] at h;rw[<-h.1]
 |p::ps,ts,n,s,s',qs,h,m,hm=>by
  simp only[ca] at h;simp only[zam] at hm;split at h
  ·cases h
  rename_i s1 q h1;split at h
  next s2 qs2 h2=>simp at h;rw[<-h.1,pA ps _ _ _ _ _ h2 m (by omega),xH h1 (by omega)]
  cases h
theorem kT{Q:Program}{s s':S}{p:P}{x:D}(h:o6 Q s p=some (s',x)){m:Nat}(hm:m∉bu [p]):lk s'.rg m=lk s.rg m:=by unfold o6 at h;grind [cQ,bu]
theorem nE(p:P)(ps:List P):bu (p::ps)=bu [p]++bu ps:=by cases p<;>simp[bu]
theorem xI{Q:Program}: ∀(ps:List P) (s s':S) (xs:List D),qn Q s ps=some (s',xs)-> ∀m,m∉bu ps->lk s'.rg m=lk s.rg m
 | [],s,s',xs,h,m,hm=>by simp[qn] at h;rw[<-h.1]
 |p::ps,s,s',xs,h,m,hm=>by
  rw[nE] at hm;simp only[zaB,zcF] at hm;simp only[qn] at h;split at h
  ·cases h
  rename_i s1 x h1;split at h
  next s2 xs2 h2=>simp at h;rw[<-h.1,xI ps _ _ _ h2 m hm.2,kT h1 hm.1]
  cases h
theorem AY{Q:Program}{s s':S}{p:P}{x:D}(h:DM Q s p=some (s',x)){m:Nat}(hm:m∉bu p.cells):lk s'.rg m=lk s.rg m:=by
 unfold DM at h;split at h
 ·split at h
  next h1=>simp at h;rw[<-h.1];exact xI _ _ _ _ h1 m hm
  cases h
 cases p with
 |sl n v len=>exact kT h hm
 |lu n v k off len=>exact kT h hm
 |d x=>simp[o6] at h;rw[<-h.1]
 |_=>simp[o6] at h
theorem pB: ∀(a b:List P),bu (a++b)=bu a++bu b
 | [],_=>rfl
 |p::a,b=>by rw[zbF,nE,pB a b,nE p a,zaF]
theorem nF{Q:Program}{s s':S}{t:TypeId}{p:P}{x:D}(h:nq Q s t p=some (s',x)){m:Nat}(hm:m∉bu p.cells):lk s'.rg m=lk s.rg m:=by grind [uh,AY]
theorem Cv{Q:Program}{s s':S}{t:TypeId}{p q:P}(h:kC Q s t p=some (s',q)){m:Nat}(hm:m∉bu p.cells):lk s'.rg m=lk s.rg m:=by unfold kC at h;grind [nF,D.force_eq]
theorem qN{Q:Program}: ∀(ps:List P) (ts:List TypeId) (s s':S) (xs:List P),ep Q s ts ps=some (s',xs)-> ∀m,m∉bu (ps.flatMap P.cells)->lk s'.rg m=lk s.rg m
 | [],ts,s,s',xs,h,m,hm=>by simp[ep] at h;rw[<-h.1]
 |p::ps,ts,s,s',xs,h,m,hm=>by
  rw[zbB,pB] at hm;simp only[zaB,zcF] at hm;simp only[ep] at h;split at h
  ·cases h
  rename_i s1 x h1;have e1:lk s1.rg m=lk s.rg m:=by
   unfold o8 at h1;split at h1
   ·split at h1
    next hf=>simp at h1;rw[<-h1.1];exact kT hf hm.1
    cases h1
   ·split at h1
    next hf=>simp at h1;rw[<-h1.1];exact kT hf hm.1
    cases h1
   grind [Cv]
  split at h
  next s2 xs2 h2=>simp at h;rw[<-h.1,qN ps _ _ _ _ h2 m hm.2,e1]
  cases h
theorem xJ{Q:Program}{f:FuncId}(ps:List P)(s s':S)(xs:List P)(h:cL Q s f ps=some (s',xs))(m:Nat)(hm:m∉bu (ps.flatMap P.cells)):lk s'.rg m=lk s.rg m:=by grind [cL,qN]
def Iq(m:Nat)(q:P):P->Prop
 | .ref n _ off=>m≠n/\m≠2000000+n*1000+off
 | .dj n _ _ _ _=>m≠n/\m∉bu q.cells
 |_=>True
def vw(m:Nat)(dst:Option Nat):P->Prop
 | .sl n _ _=>m≠n
 |_=>m≠site dst
theorem Cw{Q:Program}{s s':S}{t:TypeId}{p q:P}(h:gw Q s t p q=some s'){m:Nat}(hm:Iq m q p):lk s'.rg m=lk s.rg m:=by
 unfold gw at h;split at h
 ·cases h
 split at h
 ·split at h
  next h1=>
   split at h
   ·split at h
    ·simp at h;rw[<-h,cQ _ _ _ hm.1,xH h1 hm.2]
    cases h
   cases h
  cases h
 ·split at h
  next h1=>
   split at h
   ·split at h
    ·split at h
     ·simp only[zak] at h;rw[<-h,cQ _ _ _ hm.1,nF h1 hm.2]
     cases h
    cases h
   cases h
  cases h
 cases h
theorem sJ{Q:Program}{s s':S}{dst:Option Nat}{t:TypeId}{ps:List P}(h:nk Q s dst t ps=some s'){m:Nat}(h1:m≠site dst)(h2:m<site dst*1000\/site dst*1000+ps.length<=m):lk s'.rg m=lk s.rg m:=by
 unfold nk at h;split at h
 ·cases h
 rename_i s1 qs g1;split at h
 next s2 v g2=>rw[bq h,eM g2 h1,pA _ _ _ _ _ _ g1 m h2]
 cases h
theorem zQ{Q:Program}{s s':S}{dst:Option Nat}{t t2:TypeId}{p q:P}(h:iU Q s dst t t2 p q=some s'){m:Nat}(hm:vw m dst p):lk s'.rg m=lk s.rg m:=by
 unfold iU at h;split at h
 ·cases h
 split at h
 ·split at h
  ·split at h
   ·split at h
    ·split at h
     ·split at h
      ·split at h
       ·rw[bq h];exact bT _ _ (zbs hm)
       cases h
      cases h
     cases h
    ·split at h
     ·split at h
      next g2=>rw[bq h,eM g2 hm]
      cases h
     cases h
    cases h
   cases h
  cases h
 cases h
theorem ER{Q:Program}{s s':S}{dst:Option Nat}{t:TypeId}{p q:P}(h:sg Q s dst t p q=some s'){m:Nat}(hm:m≠site dst):lk s'.rg m=lk s.rg m:=by
 unfold sg at h;split at h
 ·split at h
  ·split at h
   ·split at h
    next hn=>rw[bq h,eM hn hm]
    cases h
   cases h
  cases h
 cases h
theorem xK{Q:Program}{s s':S}{dst:Option Nat}{t:TypeId}(h:kB Q s dst t=some s'){m:Nat}(hm:m≠site dst):lk s'.rg m=lk s.rg m:=by
 unfold kB at h;split at h
 ·split at h
  next hn=>rw[bq h,eM hn hm]
  cases h
 cases h
def sK(m:Nat):P->Prop
 | .mp n _=>m≠n
 |_=>True
theorem qO{Q:Program}{s s':S}{dst:Option Nat}{t:TypeId}{p k x:P}(h:iV Q s dst t p k x=some s'){m:Nat}(hm:sK m p)(hx:m∉bu x.cells):lk s'.rg m=lk s.rg m:=by
 unfold iV at h;split at h
 ·split at h
  next hf=>
   split at h
   ·split at h
    ·rw[bq h,cQ _ _ _ hm,nF hf hx]
    cases h
   cases h
  cases h
 cases h
theorem zR{Q:Program}{s s':S}{dst:Option Nat}{t:TypeId}{p k:P}(h:iW Q s dst t p k=some s'){m:Nat}(hd:m≠site dst)(hm:sK m p):lk s'.rg m=lk s.rg m:=by
 unfold iW at h;split at h
 ·split at h
  ·split at h
   ·split at h
    ·split at h
     next hn=>rw[bq h,cQ _ _ _ hm,eM hn hd]
     cases h
    cases h
   cases h
  cases h
 cases h
theorem Cx{Q:Program}{s s':S}{dst:Option Nat}{p st x:P}(h:o7 Q s dst p st x=some s'){m:Nat}(hm:sK m p)(hx:m∉bu x.cells):lk s'.rg m=lk s.rg m:=by
 unfold o7 at h;split at h
 ·split at h
  next hf=>
   split at h
   ·split at h
    ·rw[bq h,cQ _ _ _ hm,AY hf hx]
    cases h
   cases h
  cases h
 cases h
theorem sL{Q:Program}{s s':S}{dst:Option Nat}{t:TypeId}{p:P}(h:rb Q s dst t p=some s'){m:Nat}(hd:m≠site dst)(hm:sK m p):lk s'.rg m=lk s.rg m:=by
 unfold rb at h;split at h
 ·split at h
  ·split at h
   ·split at h
    next hn=>rw[bq h,eM hn hd,cQ _ _ _ hm]
    cases h
   cases h
  cases h
 ·split at h
  next hn=>rw[bq h,eM hn hd]
  cases h
 cases h
theorem pC{Q:Program}{t:TypeId}{k:Nat}: ∀(ps:List (Nat×P)) (s s':S) (es jI:List D),cK Q t k s es ps=some (s',jI)-> ∀m,(∀x∈ps,m∉bu x.2.cells)->lk s'.rg m=lk s.rg m
 | [],s,s',es,jI,h,m,_=>by simp[cK] at h;rw[h.1]
 | (i,p)::r,s,s',es,jI,h,m,hm=>by
  simp only[cK] at h;split at h
  next s1 x h1=>
   split at h
   ·rw[pC r s1 s' _ jI h m (λx hx=>hm x (by simp[hx])),nF h1 (hm (i,p) (by simp))]
   cases h
  cases h
theorem Cy{Q:Program}{s s':S}{dst:Option Nat}{t:TypeId}{len:Nat}{ps:List (Nat×P)}(h:ra Q s dst t len ps=some s'){m:Nat}(hm:m≠site dst)(hp: ∀x∈ps,m∉bu x.2.cells):lk s'.rg m=lk s.rg m:=by
 unfold ra at h;split at h
 ·split at h
  ·split at h
   ·split at h
    ·rename_i hb;split at h
     next hn=>rw[bq h,eM hn hm,pC _ _ _ _ _ hb m hp]
     cases h
    cases h
   cases h
  cases h
 cases h
def AZ(m:Nat):P->Prop
 | .sl n _ _=>m≠n
 |_=>True
theorem ES{Q:Program}{s s':S}{dst:Option Nat}{t t2:TypeId}{p q:P}(h:sj Q s dst t t2 p q=some s'){m:Nat}(hm:AZ m p):lk s'.rg m=lk s.rg m:=by
 unfold sj at h;split at h
 ·split at h
  ·split at h
   ·split at h
    ·rw[bq h,cQ _ _ _ hm]
    cases h
   cases h
  cases h
 cases h
def xM(m:Nat):P->Prop
 | .lu n _ _ _ _=>m≠n
 |_=>True
theorem Cz{Q:Program}{s s':S}{dst:Option Nat}{t:TypeId}{p:P}(h:nr Q s dst t p=some s'){m:Nat}(hm:xM m p):lk s'.rg m=lk s.rg m:=by
 unfold nr at h;split at h
 ·split at h
  ·split at h
   ·rw[bq h,cQ _ _ _ hm]
   cases h
  cases h
 cases h
theorem qP(R1:List (Nat×En))(σ:Nat->Nat->Option (Nat×Nat)): ∀(ns:List Nat) (i0:Nat) (R R2:List (Nat×En)),gm R1 σ i0 ns R=some R2-> ∀m,m∉ns->lk R2 m=lk R m
 | [],i0,R,R2,h,m,hm=>by simp[gm] at h;rw[h]
 |n::ns,i0,R,R2,h,m,hm=>by
  simp only[zas,zcF] at hm;simp only[gm] at h;split at h
  ·cases h
  rw[qP R1 σ ns _ _ _ h m hm.2,bT _ _ (zbs hm.1)]
theorem CA{Q:Program}{cf:CF}{s s':S}{dst:Option Nat}{kF:FuncId}{cF args:List P}(h:lX Q cf s dst (.fn kF cF) args=some s'){s1:S}{qs:List P}(hf:cL Q s kF (args++cF)=some (s1,qs)){m:Nat}
  (h1:m∉bu ((args++cF).flatMap P.cells)) (h2:m∉reach s1.rg 1000 qs []) (h3:m<site dst*1000\/site dst*1000+1000<=m):lk s'.rg m=lk s.rg m:=by
 unfold lX at h;simp only[hf] at h;split at h
 ·split at h
  ·cases h
  split at h
  ·cases h
  split at h
  next Wn=>
   have hle:=(zad _ _▸Wn:_/\_).2;simp only[zb7] at hle;split at h
   ·cases h
   rename_i R2 hb;split at h
   ·cases h
   rename_i R3 hn;rw[bq h];rw[(uk _ _ _ _ _ _ hn m).2 (by omega),qP _ _ _ _ _ _ hb m h2,xJ _ _ _ _ hf m h1]
  cases h
 cases h
theorem vz{Q:Program}{cf:CF}{s s':S}{o:Oper}{g:Option (Nat×Bool)}(h:ga Q cf s o g=some s'){m:Nat}(hm: ¬wJ (writes Q s o g) m):lk s'.rg m=lk s.rg m:=by
 unfold ga at h;unfold writes at hm;split at h
 next f xs hc=>
  unfold gx at hc;split at hc
  next c ho=>
   split at hc
   ·rename_i f' kO;have Vp:cS Q o=none:=by unfold cS;rw[ho]
    simp only[Vp,ho,kO] at hm;grind [cL,lX,wJ,CA]
   cases hc
  cases hc
 unfold exec at h;split at h
 ·grind [bq]
 unfold jg at h;split at h
 next e he=>
  simp only[he] at hm;split at h
  next s1 v hn=>rw[bq h,eM hn (by simpa [wJ] using hm)]
  cases h
 rename_i he;simp only[he] at hm;split at h
 ·rw[bq h]
 unfold ef at h;split at h
 ·grind [wJ,sJ,pj]
 ·grind [wJ,sJ]
 next t ad x ho=>
  simp only[ho] at hm;split at h
  next s1 h1=>
   rw[bq h];refine Cw h1 ?_;generalize s.eg g ad=pa at hm;cases pa with
   |ref n v off=>simp only[wJ,zas,zcF] at hm;exact⟨hm.1.1,by omega⟩
   |dj n v i k off=>simp only[wJ,zas,zcF] at hm;exact⟨hm.1.1,hm.1.2⟩
   |_=>trivial
  cases h
 ·grind [bq]
 next c ho=>simp only[ho] at hm;grind [zQ,vw,wJ,ES,AZ,Cz,xM]
 ·grind [wJ,ER]
 ·grind [wJ,xK]
 next t mo k x ho=>
  simp only[ho] at hm;cases hp:s.eg g mo with
  |mp n v=>rw[hp] at hm h;simp only[wJ,zas,zcF] at hm;exact qO h hm.1.1 hm.1.2
  |_=>rw[hp] at h;simp[iV] at h
 next t mo k x ho=>
  simp only[ho] at hm;cases hp:s.eg g mo with
  |mp n v=>rw[hp] at hm h;simp only[wJ,zas,zcF] at hm;exact qO h hm.1.1 hm.1.2
  |_=>rw[hp] at h;simp[iV] at h
 next t x ho=>
  simp only[ho] at hm;cases hp:s.eg g x with
  |mp n v=>rw[hp] at hm h;simp only[wJ,zas,zcl,zdk,zcF] at hm;exact sL h hm.1.1 hm.1.2
  |_=>rw[hp] at hm h;simp only[wJ,zas,zcl,zdk,zcF] at hm;exact sL h hm.1 trivial
 next t mo k ho=>
  simp only[ho] at hm;cases hp:s.eg g mo with
  |mp n v=>rw[hp] at hm h;simp only[wJ,zas,zcl,zdk,zcF] at hm;exact zR h hm.1.1 hm.1.2
  |_=>rw[hp] at h;simp[iW] at h
 next t mo st x ho=>
  simp only[ho] at hm;cases hp:s.eg g mo with
  |mp n v=>rw[hp] at hm h;simp only[wJ,zas,zcF] at hm;exact Cx h hm.1.1 hm.1.2
  |_=>rw[hp] at h;simp[o7] at h
 ·grind [wJ,Cy]
 cases h
end Pi
