/- The text PiLoc2. -/
import Derived.Test.YtfelfooeclnbiaaPiLoc
namespace Pi
open Go
theorem Bh(Q:Program){s s2:S}{o:Oper}(h:Alike s s2 o.op.operands.toList)(g:Option (Nat×Bool)): ∃c,ef Q s o g=fin s o.dst c/\ef Q s2 o g=fin s2 o.dst c:=by
 unfold ef;split
 next t ho=>
  split
  next z hz=>exact fK h (mU Q s o.dst t _)
  exact⟨none,rfl,rfl⟩
 next t x ho=>
  rw[h.eg (x:=x) (by simp[ho,Op.operands])];split
  ·exact fK h (mU Q s o.dst t _)
  exact⟨none,rfl,rfl⟩
 next t ad x ho=>
  rw[h.eg (x:=ad) (by simp[ho,Op.operands]),h.eg (x:=x) (by simp[ho,Op.operands])];refine fK (f:=λs'=>match cL Q s' t (s.eg g ad) (s.eg g x) with |some s1=>s1.put o.dst .bad |none=>none) h ?_;cases h1:cL Q s t (s.eg g ad) (s.eg g x) with
  |none=>exact⟨none,λm=>by simp only[oI,h1];rfl⟩
  |some s1=>exact⟨some (s1.rg,.bad),λm=>by grind [oI,ct,xj]⟩
 next t1 t2 x ho=>
  rw[h.eg (x:=x) (by simp[ho,Op.operands])];refine fK (f:=λs'=>match Q.underlying t1,Q.underlying t2 with
   |some (.slice e),some .string=>match Q.underlying e,fm Q s' t1 1 (s.eg g x) with
    |some (.int .u8),some ys=>match dP ys with |some l=>s'.put o.dst (.d (.str l))|none=>none
    |_,_=>none
   |_,_=>none) h ?_
  split
  next e h1 h2=>
   simp only[Loc,pJ];split
   ·split
    ·exact⟨some (s.rg,_),λm=>rfl⟩
    exact⟨none,λm=>rfl⟩
   exact⟨none,λm=>rfl⟩
  exact⟨none,λm=>rfl⟩
 next c ho=>
  have hm: ∀y∈c.args.toList,y∈o.op.operands.toList:=λy hy=>by simp only[ho,Op.operands,Call.operands];grind
  split
  ·split
   next x y t t2 bq mL=>rw[h.eg (x:=x) (hm x (by rw[bq];simp)),h.eg (x:=y) (hm y (by rw[bq];simp))];exact fK h (q8 Q s o.dst t t2 _ _)
   exact⟨none,rfl,rfl⟩
  ·split
   next x y t t2 bq mL=>rw[h.eg (x:=x) (hm x (by rw[bq];simp)),h.eg (x:=y) (hm y (by rw[bq];simp))];exact fK h (uX Q s o.dst t t2 _ _)
   exact⟨none,rfl,rfl⟩
  ·split
   next x t bq mL=>rw[h.eg (x:=x) (hm x (by rw[bq];simp))];exact fK h (sT Q s o.dst t _)
   exact⟨none,rfl,rfl⟩
  ·split
   next x y t ts bq mL=>rw[h.eg (x:=x) (hm x (by rw[bq];simp)),h.eg (x:=y) (hm y (by rw[bq];simp))];exact fK h (xl Q s o.dst t _ _)
   exact⟨none,rfl,rfl⟩
  exact⟨none,rfl,rfl⟩
 next t x y ho=>rw[h.eg (x:=x) (by simp[ho,Op.operands]),h.eg (x:=y) (by simp[ho,Op.operands])];exact fK h (uW Q s o.dst t _ _)
 next t ho=>
  split
  ·exact fK h (pN Q s o.dst t)
  exact fK h (pM Q s o.dst t)
 next t m k x ho=>
  rw[h.eg (x:=m) (by simp[ho,Op.operands]),h.eg (x:=k) (by simp[ho,Op.operands]),h.eg (x:=x) (by simp[ho,Op.operands])];split
  ·exact fK h (q9 Q s o.dst t _ _ _)
  exact fK h (lx Q s o.dst t _ _ _)
 next t m k x ho=>rw[h.eg (x:=m) (by simp[ho,Op.operands]),h.eg (x:=k) (by simp[ho,Op.operands]),h.eg (x:=x) (by simp[ho,Op.operands])];exact fK h (lx Q s o.dst t _ _ _)
 next t x ho=>rw[h.eg (x:=x) (by simp[ho,Op.operands])];exact fK h (sR Q s o.dst t _)
 next t m k ho=>rw[h.eg (x:=m) (by simp[ho,Op.operands]),h.eg (x:=k) (by simp[ho,Op.operands])];exact fK h (ra Q s o.dst t _ _)
 next t m st x ho=>rw[h.eg (x:=m) (by simp[ho,Op.operands]),h.eg (x:=st) (by simp[ho,Op.operands]),h.eg (x:=x) (by simp[ho,Op.operands])];exact fK h (sQ Q s o.dst _ _ _)
 next t len parts ho=>
  have e:parts.toList.map (λx=>(x.1,s2.eg g x.2))=parts.toList.map (λx=>(x.1,s.eg g x.2)):=za0 λx hx=>by have:=h.eg (x:=x.2) (by simp only[ho,Op.operands];grind) g;rw[this]
  rw[e];exact fK h (sS Q s o.dst t len _)
 exact⟨none,rfl,rfl⟩
theorem uY(Q:Program){s s2:S}{o:Oper}(h:Alike s s2 o.op.operands.toList)(g:Option (Nat×Bool)): ∃c,dI Q s o g=fin s o.dst c/\dI Q s2 o g=fin s2 o.dst c:=by
 unfold dI;split
 next e he=>
  refine fK (f:=λs'=>match s'.new (site o.dst) (.arr e false []) with |some (s1,v)=>s1.put o.dst (.sl (site o.dst) v 0)|none=>none) h ?_;cases h1:s.new (site o.dst) (.arr e false []) with
  |none=>exact⟨none,λm=>by simp only[du,h1];rfl⟩
  |some r=>exact⟨some (r.1.rg,_),λm=>by simp only[du,h1];exact ct m (im h1)⟩
 rw[mW h g];split
 next p hp=>exact⟨some (s.rg,p),rfl,by unfold fin;rw[<-h.rg]⟩
 exact Bh Q h g
theorem xn(Q:Program){s s2:S}{o:Oper}(h:Alike s s2 o.op.operands.toList)(g:Option (Nat×Bool)): ∃c,exec Q s o g=fin s o.dst c/\exec Q s2 o g=fin s2 o.dst c:=by
 unfold exec;cases hm:jy o with
 |none=>exact uY Q h g
 |some r=>
  obtain⟨t,len,parts⟩:=r;obtain⟨ps,ho,rfl,_⟩:=kQ hm;have e:ps.toList.map (λx=>(x.1,s2.eg g x.2))=ps.toList.map (λx=>(x.1,s.eg g x.2)):=za0 λx hx=>by rw[h.eg (by simp[Op.operands];grind)]
  simp only[e];cases oc Q t len (ps.toList.map λx=>(x.1,s.eg g x.2)) with
  |none=>exact⟨none,rfl,rfl⟩
  |some p=>exact⟨some (s.rg,p),rfl,by unfold fin;rw[<-h.rg]⟩
theorem sU(Q:Program)(cf:CF)(s:S)(dst:Option Nat)(f:P)(args:List P):Loc (λs=>fo Q cf s dst f args) s dst:=by
 unfold fo;cases f with
 |fn gZ cl=>
  cases h1:bn Q s gZ (args++cl) with
  |none=>exact⟨none,λm=>by simp only[lv,h1];rfl⟩
  |some r=>
   obtain⟨s1,qs⟩:=r;have hn:=sP _ _ _ _ h1;have e0: ∀m,(s1.wt m).rg=s1.rg:=λ_=>rfl;unfold Loc;simp only[lv,h1,zam,e0];split
   ·split
    ·exact⟨none,λm=>rfl⟩
    split
    ·exact⟨none,λm=>rfl⟩
    split
    ·split
     ·exact⟨none,λm=>rfl⟩
     split
     ·exact⟨none,λm=>rfl⟩
     rename_i R3 h3;exact⟨some (R3,_),λm=>by unfold fin S.wt;rw[hn]⟩
    exact⟨none,λm=>rfl⟩
   exact⟨none,λm=>rfl⟩
 |_=>exact⟨none,λm=>rfl⟩
theorem oK(Q:Program)(cf:CF){s s2:S}{o:Oper}(h:Alike s s2 o.op.operands.toList)(g:Option (Nat×Bool)): ∃c,cC Q cf s o g=fin s o.dst c/\cC Q cf s2 o g=fin s2 o.dst c:=by
 unfold cC;split
 next f xs hc=>
  have hf:f∈o.op.operands.toList/\ ∀y∈xs,y∈o.op.operands.toList:=by
   unfold eI at hc;split at hc
   ·rename_i c ho;split at hc
    next f' fx=>simp[ho,Op.operands,Call.operands,fx];grind
    cases hc
   cases hc
  rw[h.eg hf.1,h.Eo hf.2];exact fK h (sU Q cf s o.dst _ _)
 exact xn Q h g
def mb(W:List Nat×Nat×Nat)(n:Nat):Prop:=n∈W.1\/(W.2.1<=n/\n<W.2.2)
theorem bP{s s':S}{n v:Nat}{o:Obj}(h:s.new n o=some (s',v)){m:Nat}(hm:m≠n):lk s'.rg m=lk s.rg m:=by obtain⟨rfl,_⟩:=S.eR h;grind [aR]
theorem aU(s:S)(n:Nat)(o:Obj){m:Nat}(hm:m≠n):lk (s.setObj n o).rg m=lk s.rg m:=by grind [S.setObj,aR]
theorem az{s s':S}{dst:Option Nat}{p:P}(h:s.put dst p=some s'):s'.rg=s.rg:=by unfold S.put at h;grind
theorem mX{s:S}{n:Nat}{p q:P}{t:Option TypeId}{s':S}(h:jU s n p t=some (s',q)){m:Nat}(hm:m≠n):lk s'.rg m=lk s.rg m:=by unfold jU at h;grind [bP]
theorem iq: ∀(ps:List P) (ts:List (Option TypeId)) (n:Nat) (s s':S) (qs:List P),aS s n ps ts=some (s',qs)-> ∀m,(m<n\/n+ps.length<=m)->lk s'.rg m=lk s.rg m
 | [],_,_,s,s',qs,h,m,hm=>by simp[aS] at h;rw[<-h.1]
 |p::ps,ts,n,s,s',qs,h,m,hm=>by
  simp only[aS] at h;simp only[zbx] at hm;split at h
  ·cases h
  rename_i s1 q h1;split at h
  next s2 A6 h2=>simp at h;rw[<-h.1,iq ps _ _ _ _ _ h2 m (by omega),mX h1 (by omega)]
  cases h
theorem eT{Q:Program}{s s':S}{p:P}{x:D}(h:gW Q s p=some (s',x)){m:Nat}(hm:m∉aH [p]):lk s'.rg m=lk s.rg m:=by unfold gW at h;grind [aU,aH]
theorem gm(p:P)(ps:List P):aH (p::ps)=aH [p]++aH ps:=by cases p<;>simp[aH]
theorem mY{Q:Program}: ∀(ps:List P) (s s':S) (xs:List D),iV Q s ps=some (s',xs)-> ∀m,m∉aH ps->lk s'.rg m=lk s.rg m
 | [],s,s',xs,h,m,hm=>by simp[iV] at h;rw[<-h.1]
 |p::ps,s,s',xs,h,m,hm=>by
  rw[gm] at hm;simp only[zaX,zbF] at hm;simp only[iV] at h;split at h
  ·cases h
  rename_i s1 x h1;split at h
  next s2 AU h2=>simp at h;rw[<-h.1,mY ps _ _ _ h2 m hm.2,eT h1 hm.1]
  cases h
theorem oL{Q:Program}{s s':S}{p:P}{x:D}(h:qj Q s p=some (s',x)){m:Nat}(hm:m∉aH p.cells):lk s'.rg m=lk s.rg m:=by
 unfold qj at h;split at h
 ·split at h
  next h1=>simp at h;rw[<-h.1];exact mY _ _ _ _ h1 m hm
  cases h
 cases p with
 |sl n v len=>exact eT h hm
 |e9 n v k off len=>exact eT h hm
 |d x=>simp[gW] at h;rw[<-h.1]
 |_=>simp[gW] at h
theorem iu: ∀(a b:List P),aH (a++b)=aH a++aH b
 | [],_=>rfl
 |p::a,b=>by rw[List.cons_append,gm,iu a b,gm p a,za7]
theorem gn{Q:Program}{s s':S}{t:TypeId}{p:P}{x:D}(h:fW Q s t p=some (s',x)){m:Nat}(hm:m∉aH p.cells):lk s'.rg m=lk s.rg m:=by grind [kO,oL]
theorem pO{Q:Program}{s s':S}{t:TypeId}{p q:P}(h:eG Q s t p=some (s',q)){m:Nat}(hm:m∉aH p.cells):lk s'.rg m=lk s.rg m:=by unfold eG at h;grind [gn,D.force_eq]
theorem jq{Q:Program}: ∀(ps:List P) (ts:List TypeId) (s s':S) (xs:List P),bW Q s ts ps=some (s',xs)-> ∀m,m∉aH (ps.flatMap P.cells)->lk s'.rg m=lk s.rg m
 | [],ts,s,s',xs,h,m,hm=>by simp[bW] at h;rw[<-h.1]
 |p::ps,ts,s,s',xs,h,m,hm=>by
  rw[List.flatMap_cons,iu] at hm;simp only[zaX,zbF] at hm;simp only[bW] at h;split at h
  ·cases h
  rename_i s1 x h1;have e1:lk s1.rg m=lk s.rg m:=by
   unfold gY at h1;split at h1
   ·split at h1
    next hf=>simp at h1;rw[<-h1.1];exact eT hf hm.1
    cases h1
   ·split at h1
    next hf=>simp at h1;rw[<-h1.1];exact eT hf hm.1
    cases h1
   grind [pO]
  split at h
  next s2 AU h2=>simp at h;rw[<-h.1,jq ps _ _ _ _ h2 m hm.2,e1]
  cases h
theorem mZ{Q:Program}{f:FuncId}(ps:List P)(s s':S)(xs:List P)(h:bn Q s f ps=some (s',xs))(m:Nat)(hm:m∉aH (ps.flatMap P.cells)):lk s'.rg m=lk s.rg m:=by grind [bn,jq]
def sV(m:Nat)(q:P):P->Prop
 | .ref n _ off=>m≠n/\m≠2000000+n*1000+off
 | .bE n _ _ _ _=>m≠n/\m∉aH q.cells
 |_=>True
def lz(m:Nat)(dst:Option Nat):P->Prop
 | .sl n _ _=>m≠n
 |_=>m≠site dst
theorem pP{Q:Program}{s s':S}{t:TypeId}{p q:P}(h:cL Q s t p q=some s'){m:Nat}(hm:sV m q p):lk s'.rg m=lk s.rg m:=by
 unfold cL at h;split at h
 ·cases h
 split at h
 ·split at h
  next h1=>
   split at h
   ·split at h
    ·simp at h;rw[<-h,aU _ _ _ hm.1,mX h1 hm.2]
    cases h
   cases h
  cases h
 ·split at h
  next h1=>
   split at h
   ·split at h
    ·split at h
     ·simp only[zae] at h;rw[<-h,aU _ _ _ hm.1,gn h1 hm.2]
     cases h
    cases h
   cases h
  cases h
 cases h
theorem kq{Q:Program}{s s':S}{dst:Option Nat}{t:TypeId}{ps:List P}(h:fV Q s dst t ps=some s'){m:Nat}(h1:m≠site dst)(h2:m<site dst*1000\/site dst*1000+ps.length<=m):lk s'.rg m=lk s.rg m:=by
 unfold fV at h;split at h
 ·cases h
 rename_i s1 qs g1;split at h
 next s2 v g2=>rw[az h,bP g2 h1,iq _ _ _ _ _ _ g1 m h2]
 cases h
theorem n4{Q:Program}{s s':S}{dst:Option Nat}{t t2:TypeId}{p q:P}(h:dy Q s dst t t2 p q=some s'){m:Nat}(hm:lz m dst p):lk s'.rg m=lk s.rg m:=by
 unfold dy at h;split at h
 ·cases h
 split at h
 ·split at h
  ·split at h
   ·split at h
    ·split at h
     ·split at h
      ·split at h
       ·rw[az h];exact aR _ _ (zaS hm)
       cases h
      cases h
     cases h
    ·split at h
     ·split at h
      next g2=>rw[az h,bP g2 hm]
      cases h
     cases h
    cases h
   cases h
  cases h
 cases h
theorem rb{Q:Program}{s s':S}{dst:Option Nat}{t:TypeId}{p q:P}(h:jV Q s dst t p q=some s'){m:Nat}(hm:m≠site dst):lk s'.rg m=lk s.rg m:=by
 unfold jV at h;split at h
 ·split at h
  ·split at h
   ·split at h
    next hn=>rw[az h,bP hn hm]
    cases h
   cases h
  cases h
 cases h
theorem na{Q:Program}{s s':S}{dst:Option Nat}{t:TypeId}(h:eE Q s dst t=some s'){m:Nat}(hm:m≠site dst):lk s'.rg m=lk s.rg m:=by
 unfold eE at h;split at h
 ·split at h
  next hn=>rw[az h,bP hn hm]
  cases h
 cases h
def eU(m:Nat):P->Prop
 | .mp n _=>m≠n
 |_=>True
theorem jr{Q:Program}{s s':S}{dst:Option Nat}{t:TypeId}{p k x:P}(h:dA Q s dst t p k x=some s'){m:Nat}(hm:eU m p)(hx:m∉aH x.cells):lk s'.rg m=lk s.rg m:=by
 unfold dA at h;split at h
 ·split at h
  next hf=>
   split at h
   ·split at h
    ·rw[az h,aU _ _ _ hm,gn hf hx]
    cases h
   cases h
  cases h
 cases h
theorem nb{Q:Program}{s s':S}{dst:Option Nat}{t:TypeId}(h:eF Q s dst t=some s'){m:Nat}(hm:m≠site dst):lk s'.rg m=lk s.rg m:=by
 unfold eF at h;split at h
 ·split at h
  next hn=>rw[az h,bP hn hm]
  cases h
 cases h
theorem n5{Q:Program}{s s':S}{dst:Option Nat}{t:TypeId}{p k x:P}(h:dz Q s dst t p k x=some s'){m:Nat}(hm:eU m p):lk s'.rg m=lk s.rg m:=by
 unfold dz at h;split at h
 ·split at h
  ·split at h
   ·rw[az h,aU _ _ _ hm]
   cases h
  cases h
 cases h
theorem sW{Q:Program}{s s':S}{dst:Option Nat}{t:TypeId}{p k:P}(h:o9 Q s dst t p k=some s'){m:Nat}(hm:eU m p):lk s'.rg m=lk s.rg m:=by
 unfold o9 at h;split at h
 ·split at h
  ·split at h
   ·rw[az h,aU _ _ _ hm]
   cases h
  cases h
 cases h
theorem n6{Q:Program}{s s':S}{dst:Option Nat}{t:TypeId}{p k:P}(h:dB Q s dst t p k=some s'){m:Nat}(hd:m≠site dst)(hm:eU m p):lk s'.rg m=lk s.rg m:=by
 unfold dB at h;split at h
 ·split at h
  ·split at h
   ·split at h
    ·split at h
     next hn=>rw[az h,aU _ _ _ hm,bP hn hd]
     cases h
    cases h
   cases h
  cases h
 cases h
theorem pQ{Q:Program}{s s':S}{dst:Option Nat}{p st x:P}(h:gX Q s dst p st x=some s'){m:Nat}(hm:eU m p)(hx:m∉aH x.cells):lk s'.rg m=lk s.rg m:=by
 unfold gX at h;split at h
 ·split at h
  next hf=>
   split at h
   ·split at h
    ·rw[az h,aU _ _ _ hm,oL hf hx]
    cases h
   cases h
  cases h
 cases h
theorem kr{Q:Program}{s s':S}{dst:Option Nat}{t:TypeId}{p:P}(h:jx Q s dst t p=some s'){m:Nat}(hd:m≠site dst)(hm:eU m p):lk s'.rg m=lk s.rg m:=by
 unfold jx at h;split at h
 ·split at h
  ·split at h
   ·split at h
    next hn=>rw[az h,bP hn hd,aU _ _ _ hm]
    cases h
   cases h
  cases h
 ·split at h
  next hn=>rw[az h,bP hn hd]
  cases h
 cases h
theorem iv{Q:Program}{t:TypeId}{k:Nat}: ∀(ps:List (Nat×P)) (s s':S) (es es':List D),bd Q t k s es ps=some (s',es')-> ∀m,(∀x∈ps,m∉aH x.2.cells)->lk s'.rg m=lk s.rg m
 | [],s,s',es,es',h,m,_=>by simp[bd] at h;rw[h.1]
 | (i,p)::r,s,s',es,es',h,m,hm=>by
  simp only[bd] at h;split at h
  next s1 x h1=>
   split at h
   ·rw[iv r s1 s' _ es' h m (λx hx=>hm x (by simp[hx])),gn h1 (hm (i,p) (by simp))]
   cases h
  cases h
theorem pR{Q:Program}{s s':S}{dst:Option Nat}{t:TypeId}{len:Nat}{ps:List (Nat×P)}(h:jv Q s dst t len ps=some s'){m:Nat}(hm:m≠site dst)(hp: ∀x∈ps,m∉aH x.2.cells):lk s'.rg m=lk s.rg m:=by
 unfold jv at h;split at h
 ·split at h
  ·split at h
   ·split at h
    ·rename_i hb;split at h
     next hn=>rw[az h,bP hn hm,iv _ _ _ _ _ hb m hp]
     cases h
    cases h
   cases h
  cases h
 cases h
def oM(m:Nat):P->Prop
 | .sl n _ _=>m≠n
 |_=>True
theorem re{Q:Program}{s s':S}{dst:Option Nat}{t t2:TypeId}{p q:P}(h:jW Q s dst t t2 p q=some s'){m:Nat}(hm:oM m p):lk s'.rg m=lk s.rg m:=by
 unfold jW at h;split at h
 ·split at h
  ·split at h
   ·split at h
    ·rw[az h,aU _ _ _ hm]
    cases h
   cases h
  cases h
 cases h
def nc(m:Nat):P->Prop
 | .e9 n _ _ _ _=>m≠n
 |_=>True
theorem pS{Q:Program}{s s':S}{dst:Option Nat}{t:TypeId}{p:P}(h:fX Q s dst t p=some s'){m:Nat}(hm:nc m p):lk s'.rg m=lk s.rg m:=by
 unfold fX at h;split at h
 ·split at h
  ·split at h
   ·rw[az h,aU _ _ _ hm]
   cases h
  cases h
 cases h
theorem js(R1:List (Nat×En))(σ:Nat->Nat->Option (Nat×Nat)): ∀(ns:List Nat) (i0:Nat) (R R2:List (Nat×En)),dC R1 σ i0 ns R=some R2-> ∀m,m∉ns->lk R2 m=lk R m
 | [],i0,R,R2,h,m,hm=>by simp[dC] at h;rw[h]
 |n::ns,i0,R,R2,h,m,hm=>by
  simp only[zaw,zbF] at hm;simp only[dC] at h;split at h
  ·cases h
  rw[js R1 σ ns _ _ _ h m hm.2,aR _ _ (zaS hm.1)]
theorem pT{Q:Program}{cf:CF}{s s':S}{dst:Option Nat}{gZ:FuncId}{cl args:List P}(h:fo Q cf s dst (.fn gZ cl) args=some s'){s1:S}{qs:List P}(hf:bn Q s gZ (args++cl)=some (s1,qs)){m:Nat}
  (h1:m∉aH ((args++cl).flatMap P.cells)) (h2:m∉reach s1.rg 1000 qs []) (h3:m<site dst*1000\/site dst*1000+1000<=m):lk s'.rg m=lk s.rg m:=by
 unfold fo at h;simp only[hf] at h;split at h
 ·split at h
  ·cases h
  split at h
  ·cases h
  split at h
  next C8=>
   have hle:=(zac _ _▸C8:_/\_).2;simp only[zbd] at hle;split at h
   ·cases h
   rename_i R2 hb;split at h
   ·cases h
   rename_i R3 hn;rw[az h];rw[(kR _ _ _ _ _ _ hn m).2 (by omega),js _ _ _ _ _ _ hb m h2,mZ _ _ _ _ hf m h1]
  cases h
 cases h
theorem lA{Q:Program}{cf:CF}{s s':S}{o:Oper}{g:Option (Nat×Bool)}(h:cC Q cf s o g=some s'){m:Nat}(hm: ¬mb (writes Q s o g) m):lk s'.rg m=lk s.rg m:=by
 unfold cC at h;unfold writes at hm;split at h
 next f xs hc=>
  unfold eI at hc;split at hc
  next c ho=>
   split at hc
   ·rename_i f' fx;have yj:bj Q o=none:=by unfold bj;rw[ho]
    simp only[yj,ho,fx] at hm;grind [bn,fo,mb,pT]
   cases hc
  cases hc
 unfold exec at h;split at h
 ·grind [az]
 unfold dI at h;split at h
 next e he=>
  simp only[he] at hm;split at h
  next s1 v hn=>rw[az h,bP hn (by simpa [mb] using hm)]
  cases h
 rename_i he;simp only[he] at hm;split at h
 ·rw[az h]
 unfold ef at h;split at h
 ·grind [mb,kq,ic]
 ·grind [mb,kq]
 next t ad x ho=>
  simp only[ho] at hm;split at h
  next s1 h1=>
   rw[az h];refine pP h1 ?_;generalize s.eg g ad=pa at hm;cases pa with
   |ref n v off=>simp only[mb,zaw,zbF] at hm;exact⟨hm.1.1,by omega⟩
   |bE n v i k off=>simp only[mb,zaw,zbF] at hm;exact⟨hm.1.1,hm.1.2⟩
   |_=>trivial
  cases h
 ·grind [az]
 next c ho=>simp only[ho] at hm;grind [n4,lz,mb,re,oM,pS,nc,sW,eU]
 ·grind [mb,rb]
 ·grind [mb,na,nb]
 next t mo k x ho=>
  simp only[ho] at hm;cases hp:s.eg g mo with
  |mp n v=>
   rw[hp] at hm h;simp only[mb,zaw,zbF] at hm;split at h
   ·exact n5 h hm.1.1
   exact jr h hm.1.1 hm.1.2
  |_=>rw[hp] at h;simp[dA,dz] at h
 next t mo k x ho=>
  simp only[ho] at hm;cases hp:s.eg g mo with
  |mp n v=>rw[hp] at hm h;simp only[mb,zaw,zbF] at hm;exact jr h hm.1.1 hm.1.2
  |_=>rw[hp] at h;simp[dA] at h
 next t x ho=>
  simp only[ho] at hm;cases hp:s.eg g x with
  |mp n v=>rw[hp] at hm h;simp only[mb,zaw,zbU,or_false,zbF] at hm;exact kr h hm.1.1 hm.1.2
  |_=>rw[hp] at hm h;simp only[mb,zaw,zbU,or_false,zbF] at hm;exact kr h hm.1 trivial
 next t mo k ho=>
  simp only[ho] at hm;cases hp:s.eg g mo with
  |mp n v=>rw[hp] at hm h;simp only[mb,zaw,zbU,or_false,zbF] at hm;exact n6 h hm.1.1 hm.1.2
  |_=>rw[hp] at h;simp[dB] at h
 next t mo st x ho=>
  simp only[ho] at hm;cases hp:s.eg g mo with
  |mp n v=>rw[hp] at hm h;simp only[mb,zaw,zbF] at hm;exact pQ h hm.1.1 hm.1.2
  |_=>rw[hp] at h;simp[gX] at h
 ·grind [mb,pR]
 cases h
end Pi
