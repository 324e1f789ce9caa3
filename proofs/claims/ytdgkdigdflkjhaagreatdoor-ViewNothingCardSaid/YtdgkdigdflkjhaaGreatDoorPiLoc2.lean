/- The text PiLoc2. -/
import Derived.Test.YtdgkdigdflkjhaaGreatDoorPiLoc
namespace Pi
open Go
theorem qfB Q {s s2 o}(h:Alike s s2 o.op.operands.toList) g: ∃c,ef Q s o g=fin s o.dst c/\ef Q s2 o g=fin s2 o.dst c:=by
 unfold ef;split
 next t ho=>
  split
  next z hz=>exact p7 h (z8 Q s o.dst t _)
  exact⟨none,rfl,rfl⟩
 next t x ho=>
  rw[h.eg (x:=x) (by simp[ho,Op.operands])];split
  ·exact p7 h (z8 Q s o.dst t _)
  exact⟨none,rfl,rfl⟩
 next t ad x ho=>
  rw[h.eg (x:=ad) (by simp[ho,Op.operands]),h.eg (x:=x) (by simp[ho,Op.operands])];refine p7 (f:=λs'=>match gU Q s' t (s.eg g ad) (s.eg g x) with |some s1=>s1.put o.dst .bad |none=>none) h ?_;cases h1:gU Q s t (s.eg g ad) (s.eg g x) with
  |none=>exact⟨none,λm=>by simp only[DC,h1];rfl⟩
  |some s1=>exact⟨some (s1.rg,.bad),λm=>by grind [DC,gZ,Ut]⟩
 next t1 t2 x ho=>
  rw[h.eg (x:=x) (by simp[ho,Op.operands])];refine p7 (f:=λs'=>match Q.underlying t1,Q.underlying t2 with
   |some (.slice e),some .string=>match Q.underlying e,nv Q s' t1 1 (s.eg g x) with
    |some (.int .u8),some ys=>match kh ys with |some l=>s'.put o.dst (.d (.str l))|none=>none
    |_,_=>none
   |_,_=>none) h ?_
  split
  next e h1 h2=>
   simp only[Loc,Fm];split
   ·split
    ·exact⟨some (s.rg,_),λm=>rfl⟩
    exact⟨none,λm=>rfl⟩
   exact⟨none,λm=>rfl⟩
  exact⟨none,λm=>rfl⟩
 next c ho=>
  have hm: ∀y∈c.args.toList,y∈o.op.operands.toList:=λy hy=>by simp only[ho,Op.operands,Call.operands];grind
  split
  ·split
   next x y t t2 cx zT=>rw[h.eg (x:=x) (hm x (by rw[cx];simp)),h.eg (x:=y) (hm y (by rw[cx];simp))];exact p7 h (Ik Q s o.dst t t2 _ _)
   exact⟨none,rfl,rfl⟩
  ·split
   next x y t t2 cx zT=>rw[h.eg (x:=x) (hm x (by rw[cx];simp)),h.eg (x:=y) (hm y (by rw[cx];simp))];exact p7 h (QG Q s o.dst t t2 _ _)
   exact⟨none,rfl,rfl⟩
  ·split
   next x t cx zT=>rw[h.eg (x:=x) (hm x (by rw[cx];simp))];exact p7 h (LW Q s o.dst t _)
   exact⟨none,rfl,rfl⟩
  ·split
   next x y t ts cx zT=>rw[h.eg (x:=x) (hm x (by rw[cx];simp)),h.eg (x:=y) (hm y (by rw[cx];simp))];exact p7 h (Uu Q s o.dst t _ _)
   exact⟨none,rfl,rfl⟩
  exact⟨none,rfl,rfl⟩
 next t x y ho=>rw[h.eg (x:=x) (by simp[ho,Op.operands]),h.eg (x:=y) (by simp[ho,Op.operands])];exact p7 h (QF Q s o.dst t _ _)
 next t ho=>exact p7 h (Fq Q s o.dst t)
 next t m k x ho=>rw[h.eg (x:=m) (by simp[ho,Op.operands]),h.eg (x:=k) (by simp[ho,Op.operands]),h.eg (x:=x) (by simp[ho,Op.operands])];exact p7 h (xd Q s o.dst t _ _ _)
 next t m k x ho=>rw[h.eg (x:=m) (by simp[ho,Op.operands]),h.eg (x:=k) (by simp[ho,Op.operands]),h.eg (x:=x) (by simp[ho,Op.operands])];exact p7 h (xd Q s o.dst t _ _ _)
 next t x ho=>rw[h.eg (x:=x) (by simp[ho,Op.operands])];exact p7 h (LU Q s o.dst t _)
 next t m k ho=>rw[h.eg (x:=m) (by simp[ho,Op.operands]),h.eg (x:=k) (by simp[ho,Op.operands])];exact p7 h (Il Q s o.dst t _ _)
 next t m st x ho=>rw[h.eg (x:=m) (by simp[ho,Op.operands]),h.eg (x:=st) (by simp[ho,Op.operands]),h.eg (x:=x) (by simp[ho,Op.operands])];exact p7 h (LS Q s o.dst _ _ _)
 next t len parts ho=>
  have e:parts.toList.map (λx=>(x.1,s2.eg g x.2))=parts.toList.map (λx=>(x.1,s.eg g x.2)):=zbu λx hx=>by have:=h.eg (x:=x.2) (by simp only[ho,Op.operands];grind) g;rw[this]
  rw[e];exact p7 h (LV Q s o.dst t len _)
 exact⟨none,rfl,rfl⟩
theorem QH Q {s s2 o}(h:Alike s s2 o.op.operands.toList) g: ∃c,jK Q s o g=fin s o.dst c/\jK Q s2 o g=fin s2 o.dst c:=by
 unfold jK;split
 next e he=>
  refine p7 (f:=λs'=>match s'.new (site o.dst) (.arr e false []) with |some (s1,v)=>s1.put o.dst (.sl (site o.dst) v 0)|none=>none) h ?_;cases h1:s.new (site o.dst) (.arr e false []) with
  |none=>exact⟨none,λm=>by simp only[kq,h1];rfl⟩
  |some r=>exact⟨some (r.1.rg,_),λm=>by simp only[kq,h1];exact gZ m (sx h1)⟩
 rw[Ab h g];split
 next p hp=>exact⟨some (s.rg,p),rfl,by unfold fin;rw[<-h.rg]⟩
 exact qfB Q h g
theorem Uv Q {s s2 o}(h:Alike s s2 o.op.operands.toList) g: ∃c,exec Q s o g=fin s o.dst c/\exec Q s2 o g=fin s2 o.dst c:=by
 unfold exec;cases hm:sZ o with
 |none=>exact QH Q h g
 |some r=>
  obtain⟨t,len,parts⟩:=r;obtain⟨ps,ho,rfl,_⟩:=v7 hm;have e:ps.toList.map (λx=>(x.1,s2.eg g x.2))=ps.toList.map (λx=>(x.1,s.eg g x.2)):=zbu λx hx=>by rw[h.eg (by simp[Op.operands];grind)]
  simp only[e];cases De Q t len (ps.toList.map λx=>(x.1,s.eg g x.2)) with
  |none=>exact⟨none,rfl,rfl⟩
  |some p=>exact⟨some (s.rg,p),rfl,by unfold fin;rw[<-h.rg]⟩
theorem LX Q cf s dst f args:Loc (λs=>nw Q cf s dst f args) s dst:=by
 unfold nw;cases f with
 |fn jZ cW=>
  cases h1:cZ Q s jZ (args++cW) with
  |none=>exact⟨none,λm=>by simp only[xc,h1];rfl⟩
  |some r=>
   obtain⟨s1,qs⟩:=r;have hn:=LR _ _ _ _ h1;have e0: ∀m,(s1.wt m).rg=s1.rg:=λ_=>rfl;unfold Loc;simp only[xc,h1,zaH,e0];split
   ·split
    ·exact⟨none,λm=>rfl⟩
    split
    ·exact⟨none,λm=>rfl⟩
    split
    ·split
     ·exact⟨none,λm=>rfl⟩
     split
     ·exact⟨none,λm=>rfl⟩
     rename_i R3 h3;exact⟨some (R3,_),λm=>by unfold fin S.wt;rw[hn]⟩
    exact⟨none,λm=>rfl⟩
   exact⟨none,λm=>rfl⟩
 |_=>exact⟨none,λm=>rfl⟩
theorem DF Q cf {s s2 o}(h:Alike s s2 o.op.operands.toList) g: ∃c,gI Q cf s o g=fin s o.dst c/\gI Q cf s2 o g=fin s2 o.dst c:=by
 unfold gI;split
 next f xs hc=>
  have hf:f∈o.op.operands.toList/\ ∀y∈xs,y∈o.op.operands.toList:=by
   unfold gV at hc;split at hc
   ·rename_i c ho;split at hc
    next f' ko=>simp[ho,Op.operands,Call.operands,ko];grind
    cases hc
   cases hc
  rw[h.eg hf.1,h.egs hf.2];exact p7 h (LX Q cf s o.dst _ _)
 exact Uv Q h g
def yK(W:List Nat×Nat×Nat) n:=n∈W.1\/(W.2.1<=n/\n<W.2.2)
theorem eY{s s':S}{n v o}(h:s.new n o=some (s',v)){m}(hm:m≠n):lk s'.rg m=lk s.rg m:=by obtain⟨rfl,_⟩:=S.lP h;grind [cc]
theorem cK(s:S) n o {m}(hm:m≠n):lk (s.setObj n o).rg m=lk s.rg m:=by grind [S.setObj,cc]
theorem bz{s s':S}{dst p}(h:s.put dst p=some s'):s'.rg=s.rg:=by unfold S.put at h;grind
theorem Ac{s n p q t}{s'}(h:uj s n p t=some (s',q)){m}(hm:m≠n):lk s'.rg m=lk s.rg m:=by unfold uj at h;grind [eY]
theorem qM: ∀ps ts n s s' qs,cw s n ps ts=some (s',qs)-> ∀m,(m<n\/n+ps.length<=m)->lk s'.rg m=lk s.rg m
 | [],_,_,s,s',qs,h,m,hm=>by simp[cw] at h;rw[<-h.1]
 |p::ps,ts,n,s,s',qs,h,m,hm=>by
  simp only[cw] at h;simp only[zao] at hm;split at h
  ·cases h
  rename_i s1 q h1;split at h
  next s2 qs2 h2=>simp at h;rw[<-h.1,qM ps _ _ _ _ _ h2 m (by omega),Ac h1 (by omega)]
  cases h
theorem lR{Q s s' p x}(h:qu Q s p=some (s',x)){m}(hm:m∉bH [p]):lk s'.rg m=lk s.rg m:=by unfold qu at h;grind [cK,bH]
theorem pc p ps:bH (p::ps)=bH [p]++bH ps:=by cases p<;>simp[bH]
theorem Ad{Q}: ∀ps s s' xs,rV Q s ps=some (s',xs)-> ∀m,m∉bH ps->lk s'.rg m=lk s.rg m
 | [],s,s',xs,h,m,hm=>by simp[rV] at h;rw[<-h.1]
 |p::ps,s,s',xs,h,m,hm=>by
  rw[pc] at hm;simp only[zaz,zcX] at hm;simp only[rV] at h;split at h
  ·cases h
  rename_i s1 x h1;split at h
  next s2 xs2 h2=>simp at h;rw[<-h.1,Ad ps _ _ _ h2 m hm.2,lR h1 hm.1]
  cases h
theorem DG{Q s s' p x}(h:Hc Q s p=some (s',x)){m}(hm:m∉bH p.cells):lk s'.rg m=lk s.rg m:=by
 unfold Hc at h;split at h
 ·split at h
  next h1=>simp at h;rw[<-h.1];exact Ad _ _ _ _ h1 m hm
  cases h
 cases p with
 |sl n v len=>exact lR h hm
 |mG n v k off len=>exact lR h hm
 |d x=>simp[qu] at h;rw[<-h.1]
 |_=>simp[qu] at h
theorem qN: ∀a b,bH (a++b)=bH a++bH b
 | [],_=>rfl
 |p::a,b=>by rw[zdr,pc,qN a b,pc p a,zaK]
theorem pd{Q s s' t p}{x}(h:oW Q s t p=some (s',x)){m}(hm:m∉bH p.cells):lk s'.rg m=lk s.rg m:=by grind [vY,DG]
theorem Fs{Q s s' t p q}(h:lz Q s t p=some (s',q)){m}(hm:m∉bH p.cells):lk s'.rg m=lk s.rg m:=by unfold lz at h;grind [pd,D.force_eq]
theorem sA{Q}: ∀ps ts s s' xs,eN Q s ts ps=some (s',xs)-> ∀m,m∉bH (ps.flatMap P.cells)->lk s'.rg m=lk s.rg m
 | [],ts,s,s',xs,h,m,hm=>by simp[eN] at h;rw[<-h.1]
 |p::ps,ts,s,s',xs,h,m,hm=>by
  rw[zcI,qN] at hm;simp only[zaz,zcX] at hm;simp only[eN] at h;split at h
  ·cases h
  rename_i s1 x h1;have e1:lk s1.rg m=lk s.rg m:=by
   unfold qw at h1;split at h1
   ·split at h1
    next hf=>simp at h1;rw[<-h1.1];exact lR hf hm.1
    cases h1
   ·split at h1
    next hf=>simp at h1;rw[<-h1.1];exact lR hf hm.1
    cases h1
   grind [Fs]
  split at h
  next s2 xs2 h2=>simp at h;rw[<-h.1,sA ps _ _ _ _ h2 m hm.2,e1]
  cases h
theorem Ae{Q f} ps s s' xs (h:cZ Q s f ps=some (s',xs)) m (hm:m∉bH (ps.flatMap P.cells)):lk s'.rg m=lk s.rg m:=by grind [cZ,sA]
def LZ(m:Nat)(q:P):P->Prop
 | .ref n _ off=>m≠n/\m≠2000000+n*1000+off
 | .dJ n _ _ _ _=>m≠n/\m∉bH q.cells
 |_=>True
def xf(m:Nat)(dst:Option Nat):P->Prop
 | .sl n _ _=>m≠n
 |_=>m≠site dst
theorem Ft{Q s s' t p q}(h:gU Q s t p q=some s'){m}(hm:LZ m q p):lk s'.rg m=lk s.rg m:=by
 unfold gU at h;split at h
 ·cases h
 split at h
 ·split at h
  next h1=>
   split at h
   ·split at h
    ·simp at h;rw[<-h,cK _ _ _ hm.1,Ac h1 hm.2]
    cases h
   cases h
  cases h
 ·split at h
  next h1=>
   split at h
   ·split at h
    ·split at h
     ·simp only[zam] at h;rw[<-h,cK _ _ _ hm.1,pd h1 hm.2]
     cases h
    cases h
   cases h
  cases h
 cases h
theorem uI{Q s s' dst t}{ps}(h:oV Q s dst t ps=some s'){m}(h1:m≠site dst)(h2:m<site dst*1000\/site dst*1000+ps.length<=m):lk s'.rg m=lk s.rg m:=by
 unfold oV at h;split at h
 ·cases h
 rename_i s1 qs g1;split at h
 next s2 v g2=>rw[bz h,eY g2 h1,qM _ _ _ _ _ _ g1 m h2]
 cases h
theorem Cy{Q s s' dst t t2}{p q}(h:jy Q s dst t t2 p q=some s'){m}(hm:xf m dst p):lk s'.rg m=lk s.rg m:=by
 unfold jy at h;split at h
 ·cases h
 split at h
 ·split at h
  ·split at h
   ·split at h
    ·split at h
     ·split at h
      ·split at h
       ·rw[bz h];exact cc _ _ (zbx hm)
       cases h
      cases h
     cases h
    ·split at h
     ·split at h
      next g2=>rw[bz h,eY g2 hm]
      cases h
     cases h
    cases h
   cases h
  cases h
 cases h
theorem Im{Q s s' dst t}{p q}(h:uk Q s dst t p q=some s'){m}(hm:m≠site dst):lk s'.rg m=lk s.rg m:=by
 unfold uk at h;split at h
 ·split at h
  ·split at h
   ·split at h
    next hn=>rw[bz h,eY hn hm]
    cases h
   cases h
  cases h
 cases h
theorem Af{Q s s' dst t}(h:ly Q s dst t=some s'){m}(hm:m≠site dst):lk s'.rg m=lk s.rg m:=by
 unfold ly at h;split at h
 ·split at h
  next hn=>rw[bz h,eY hn hm]
  cases h
 cases h
def og(m:Nat):P->Prop
 | .mp n _=>m≠n
 |_=>True
theorem L1{Q s s' dst t}{p k}(h:Ll Q s dst t p k=some s'){m}(hm:og m p):lk s'.rg m=lk s.rg m:=by
 unfold Ll at h;split at h
 ·split at h
  ·split at h
   ·rw[bz h,cK _ _ _ hm]
   cases h
  cases h
 cases h
theorem sB{Q s s' dst t}{p k x}(h:jz Q s dst t p k x=some s'){m}(hm:og m p)(hx:m∉bH x.cells):lk s'.rg m=lk s.rg m:=by
 unfold jz at h;split at h
 ·split at h
  next hf=>
   split at h
   ·split at h
    ·rw[bz h,cK _ _ _ hm,pd hf hx]
    cases h
   cases h
  cases h
 cases h
theorem Cz{Q s s' dst t}{p k}(h:jA Q s dst t p k=some s'){m}(hd:m≠site dst)(hm:og m p):lk s'.rg m=lk s.rg m:=by
 unfold jA at h;split at h
 ·split at h
  ·split at h
   ·split at h
    ·split at h
     next hn=>rw[bz h,cK _ _ _ hm,eY hn hd]
     cases h
    cases h
   cases h
  cases h
 cases h
theorem Fu{Q s s' dst p st x}(h:qv Q s dst p st x=some s'){m}(hm:og m p)(hx:m∉bH x.cells):lk s'.rg m=lk s.rg m:=by
 unfold qv at h;split at h
 ·split at h
  next hf=>
   split at h
   ·split at h
    ·rw[bz h,cK _ _ _ hm,DG hf hx]
    cases h
   cases h
  cases h
 cases h
theorem uJ{Q s s' dst t}{p}(h:sY Q s dst t p=some s'){m}(hd:m≠site dst)(hm:og m p):lk s'.rg m=lk s.rg m:=by
 unfold sY at h;split at h
 ·split at h
  ·split at h
   ·split at h
    next hn=>rw[bz h,eY hn hd,cK _ _ _ hm]
    cases h
   cases h
  cases h
 ·split at h
  next hn=>rw[bz h,eY hn hd]
  cases h
 cases h
theorem qO{Q t k}: ∀ps s s' es dh,cY Q t k s es ps=some (s',dh)-> ∀m,(∀x∈ps,m∉bH x.2.cells)->lk s'.rg m=lk s.rg m
 | [],s,s',es,dh,h,m,_=>by simp[cY] at h;rw[h.1]
 | (i,p)::r,s,s',es,dh,h,m,hm=>by
  simp only[cY] at h;split at h
  next s1 x h1=>
   split at h
   ·rw[qO r s1 s' _ dh h m (λx hx=>hm x (by simp[hx])),pd h1 (hm (i,p) (by simp))]
   cases h
  cases h
theorem Fv{Q s s' dst t}{len ps}(h:sX Q s dst t len ps=some s'){m}(hm:m≠site dst)(hp: ∀x∈ps,m∉bH x.2.cells):lk s'.rg m=lk s.rg m:=by
 unfold sX at h;split at h
 ·split at h
  ·split at h
   ·split at h
    ·rename_i hb;split at h
     next hn=>rw[bz h,eY hn hm,qO _ _ _ _ _ hb m hp]
     cases h
    cases h
   cases h
  cases h
 cases h
def DH(m:Nat):P->Prop
 | .sl n _ _=>m≠n
 |_=>True
theorem Io{Q s s' dst t t2}{p q}(h:um Q s dst t t2 p q=some s'){m}(hm:DH m p):lk s'.rg m=lk s.rg m:=by
 unfold um at h;split at h
 ·split at h
  ·split at h
   ·split at h
    ·rw[bz h,cK _ _ _ hm]
    cases h
   cases h
  cases h
 cases h
def Ag(m:Nat):P->Prop
 | .mG n _ _ _ _=>m≠n
 |_=>True
theorem Fw{Q s s' dst t}{p}(h:oX Q s dst t p=some s'){m}(hm:Ag m p):lk s'.rg m=lk s.rg m:=by
 unfold oX at h;split at h
 ·split at h
  ·split at h
   ·rw[bz h,cK _ _ _ hm]
   cases h
  cases h
 cases h
theorem sC R1 σ: ∀ns i0 R R2,gM R1 σ i0 ns R=some R2-> ∀m,m∉ns->lk R2 m=lk R m
 | [],i0,R,R2,h,m,hm=>by simp[gM] at h;rw[h]
 |n::ns,i0,R,R2,h,m,hm=>by
  simp only[zat,zcX] at hm;simp only[gM] at h;split at h
  ·cases h
  rw[sC R1 σ ns _ _ _ h m hm.2,cc _ _ (zbx hm.1)]
theorem Fx{Q cf s s' dst}{jZ cW args}(h:nw Q cf s dst (.fn jZ cW) args=some s'){s1 qs}(hf:cZ Q s jZ (args++cW)=some (s1,qs)){m}
  (h1:m∉bH ((args++cW).flatMap P.cells)) (h2:m∉reach s1.rg 1000 qs []) (h3:m<site dst*1000\/site dst*1000+1000<=m):lk s'.rg m=lk s.rg m:=by
 unfold nw at h;simp only[hf] at h;split at h
 ·split at h
  ·cases h
  split at h
  ·cases h
  split at h
  next hmd=>
   have hle:=(zac _ _▸hmd:_/\_).2;simp only[zcf] at hle;split at h
   ·cases h
   rename_i R2 hb;split at h
   ·cases h
   rename_i R3 hn;rw[bz h];rw[(v8 _ _ _ _ _ _ hn m).2 (by omega),sC _ _ _ _ _ _ hb m h2,Ae _ _ _ _ hf m h1]
  cases h
 cases h
theorem xg{Q cf s s' o}{g}(h:gI Q cf s o g=some s'){m}(hm: ¬yK (writes Q s o g) m):lk s'.rg m=lk s.rg m:=by
 unfold gI at h;unfold writes at hm;split at h
 next f xs hc=>
  unfold gV at hc;split at hc
  next c ho=>
   split at hc
   ·rename_i f' ko;have hna:dn Q o=none:=by unfold dn;rw[ho]
    simp only[hna,ho,ko] at hm;grind [cZ,nw,yK,Fx]
   cases hc
  cases hc
 unfold exec at h;split at h
 ·grind [bz]
 unfold jK at h;split at h
 next e he=>
  simp only[he] at hm;split at h
  next s1 v hn=>rw[bz h,eY hn (by simpa [yK] using hm)]
  cases h
 rename_i he;simp only[he] at hm;split at h
 ·rw[bz h]
 unfold ef at h;split at h
 ·grind [yK,uI,qD]
 ·grind [yK,uI]
 next t ad x ho=>
  simp only[ho] at hm;split at h
  next s1 h1=>
   rw[bz h];refine Ft h1 ?_;generalize s.eg g ad=pa at hm;cases pa with
   |ref n v off=>simp only[yK,zat,zcX] at hm;exact⟨hm.1.1,by omega⟩
   |dJ n v i k off=>simp only[yK,zat,zcX] at hm;exact⟨hm.1.1,hm.1.2⟩
   |_=>trivial
  cases h
 ·grind [bz]
 next c ho=>simp only[ho] at hm;grind [Cy,xf,yK,Io,DH,Fw,Ag,L1,og]
 ·grind [yK,Im]
 ·grind [yK,Af]
 next t mo k x ho=>
  simp only[ho] at hm;cases hp:s.eg g mo with
  |mp n v=>rw[hp] at hm h;simp only[yK,zat,zcX] at hm;exact sB h hm.1.1 hm.1.2
  |_=>rw[hp] at h;simp[jz] at h
 next t mo k x ho=>
  simp only[ho] at hm;cases hp:s.eg g mo with
  |mp n v=>rw[hp] at hm h;simp only[yK,zat,zcX] at hm;exact sB h hm.1.1 hm.1.2
  |_=>rw[hp] at h;simp[jz] at h
 next t x ho=>
  simp only[ho] at hm;cases hp:s.eg g x with
  |mp n v=>rw[hp] at hm h;simp only[yK,zat,zds,or_false,zcX] at hm;exact uJ h hm.1.1 hm.1.2
  |_=>rw[hp] at hm h;simp only[yK,zat,zds,or_false,zcX] at hm;exact uJ h hm.1 trivial
 next t mo k ho=>
  simp only[ho] at hm;cases hp:s.eg g mo with
  |mp n v=>rw[hp] at hm h;simp only[yK,zat,zds,or_false,zcX] at hm;exact Cz h hm.1.1 hm.1.2
  |_=>rw[hp] at h;simp[jA] at h
 next t mo st x ho=>
  simp only[ho] at hm;cases hp:s.eg g mo with
  |mp n v=>rw[hp] at hm h;simp only[yK,zat,zcX] at hm;exact Fu h hm.1.1 hm.1.2
  |_=>rw[hp] at h;simp[qv] at h
 ·grind [yK,Fv]
 cases h
end Pi
