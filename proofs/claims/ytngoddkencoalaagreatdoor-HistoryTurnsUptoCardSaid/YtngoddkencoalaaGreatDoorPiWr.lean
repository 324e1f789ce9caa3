/- The text PiWr. -/
import Derived.Test.YtngoddkencoalaaGreatDoorPiLoc2
namespace Pi
open Go
def S.wr(s:S)(R:List (Nat×En)):S:=⟨s.n,s.tm,R⟩
def fU(R R':List (Nat×En))(p:P):Prop:= ∀n v,p.name=some (n,v)->lk R n=lk R' n
theorem jb{s:S}{R:List (Nat×En)}{n:Nat}(h:lk R n=lk s.rg n)(v:Nat):(s.wr R).obj n v=s.obj n v:=by unfold S.obj S.wr;simp only[h]
theorem gA{s:S}{R:List (Nat×En)}{n:Nat}(h:lk R n=lk s.rg n)(v:Nat):(s.wr R).live n v=s.live n v:=by unfold S.live;rw[jb h]
theorem Em{s:S}{R:List (Nat×En)}{p:P}(h:fU R s.rg p):kU (s.wr R) p=kU s p:=by
 cases p<;>simp only[kU]
 ·rw[gA (h _ _ rfl)]
 rw[gA (h _ _ rfl)]
theorem SE(Q:Program){s:S}{R:List (Nat×En)}{t:TypeId}{p:P}(h:fU R s.rg p):rL Q (s.wr R) t p=rL Q s t p:=by
 cases p<;>simp only[rL]
 ·rw[jb (h _ _ rfl)]
 rw[jb (h _ _ rfl)]
theorem BK(Q:Program){s:S}{R:List (Nat×En)}{t:TypeId}{f:Nat}{p:P}(h:fU R s.rg p):iV Q (s.wr R) t f p=iV Q s t f p:=by
 unfold iV;split
 ·rfl
 cases p with
 |ref n v off=>simp only[gA (h n v rfl)]
 |dD n v i k off=>simp only[gA (h n v rfl)]
 |_=>rfl
theorem BL(Q:Program){s:S}{R:List (Nat×En)}{t:TypeId}{p i:P}(h:fU R s.rg p):fm Q (s.wr R) t p i=fm Q s t p i:=by
 unfold fm;split
 ·unfold qa;cases p with
  |ref n v off=>simp only[gA (h n v rfl)]
  |dD n v i k off=>simp only[gA (h n v rfl)]
  |_=>rfl
 split
 ·split
  ·cases p with
   |sl n v len=>simp only[jb (h n v rfl)]
   |mb n v k off len=>simp only[jb (h n v rfl)]
   |d x=>cases x<;>rfl
   |_=>rfl
  rfl
 rfl
theorem SF(Q:Program){s:S}{R:List (Nat×En)}{t:TypeId}{p:P}{lo:Option P}(h:fU R s.rg p):ph Q (s.wr R) t p lo=ph Q s t p lo:=by
 unfold ph;split
 ·rw[jb (h _ _ rfl)]
 rfl
theorem Ha(Q:Program){s:S}{R:List (Nat×En)}{t:TypeId}{p:P}{lo:Option P}(h:fU R s.rg p):fU R s.rg (ph Q s t p lo):=by
 unfold ph;split
 ·split
  ·split
   ·split
    ·intro n v hn;cases hn
    exact h
   exact h
  exact h
 exact h
theorem OZ(Q:Program){s:S}{R:List (Nat×En)}{t:TypeId}{p:P}{lo hi:Option P}(h:fU R s.rg p):mP Q (s.wr R) t p lo hi=mP Q s t p lo hi:=by
 unfold mP;rw[SF Q h]
 replace h:=Ha Q (t:=t) (lo:=lo) h
 generalize ph Q s t p lo=p at h;unfold xJ;split
 ·rfl
 split
 ·cases p with
  |sl n v len=>simp only[jb (h n v rfl)]
  |mb n v k off len=>simp only[jb (h n v rfl)]
  |d x=>cases x<;>rfl
  |_=>rfl
 rfl
theorem qad{s:S}{R:List (Nat×En)}{p:P}(h:fU R s.rg p):Gr (s.wr R) p=Gr s p:=by
 unfold Gr;cases p with
 |sl n v len=>simp only[gA (h n v rfl)]
 |mb n v k off len=>simp only[gA (h n v rfl)]
 |d x=>cases x<;>rfl
 |_=>rfl
theorem O0{s:S}{R:List (Nat×En)}{p q:P}(h:fU R s.rg p)(h2:fU R s.rg q):vj (s.wr R) p q=vj s p q:=by
 unfold vj;cases p with
 |ref n v off=>cases q with
  |d x=>cases x<;>simp only[gA (h n v rfl)]
  |_=>rfl
 |dD n v i k off=>cases q with
  |d x=>cases x<;>simp only[gA (h n v rfl)]
  |_=>rfl
 |d x=>cases q with
  |ref n v off=>cases x<;>simp only[gA (h2 n v rfl)]
  |dD n v i k off=>cases x<;>simp only[gA (h2 n v rfl)]
  |d y=>cases x<;>cases y<;>rfl
  |_=>cases x<;>rfl
 |fe x off=>cases q with
  |d y=>cases y<;>rfl
  |_=>rfl
 |_=>cases q<;>rfl
theorem qae(Q:Program){s:S}{R:List (Nat×En)}{t2:TypeId}{k:Nat}{p:P}(h:fU R s.rg p):mR Q (s.wr R) t2 k p=mR Q s t2 k p:=by
 unfold mR;cases p with
 |sl n v len=>simp only[jb (h n v rfl)]
 |mb n v k' off len=>simp only[jb (h n v rfl)]
 |d x=>cases x<;>rfl
 |_=>rfl
theorem Kt(Q:Program){s:S}{R:List (Nat×En)}{t:TypeId}{p i:P}{ok:Bool}{z:D}(h:fU R s.rg p):eE Q (s.wr R) t p i ok z=eE Q s t p i ok z:=by
 unfold eE;split
 next n v k _=>rw[jb (h _ _ rfl)]
 ·rfl
 rfl
theorem O1{s:S}{R:List (Nat×En)}{p:P}(h:fU R s.rg p):qb (s.wr R) p=qb s p:=by
 unfold qb;split
 ·rw[jb (h _ _ rfl)]
 rfl
theorem qaf{s:S}{R:List (Nat×En)}{p:P}(h:fU R s.rg p):Gs (s.wr R) p=Gs s p:=by cases p<;>simp only[Gs];rw[jb (h _ _ rfl)]
theorem qde{Q:Program}{s:S}{R:List (Nat×En)}{o:Oper}{g:Option (Nat×Bool)}(h:aF o=0\/ ∀x∈o.op.operands.toList,fU R s.rg (s.eg g x)):pv Q (s.wr R) o g=pv Q s o g:=by
 have eg: ∀x,(s.wr R).eg g x=s.eg g x:=λ_=>rfl;have ev: ∀x,(s.wr R).ev x=s.ev x:=λ_=>rfl;have mem: ∀{P':Prop},aF o≠0->(aF o=0\/P')->P':=λh1 h2=>h2.resolve_left h1;have egf:(s.wr R).eg g=s.eg g:=rfl;unfold pv;simp only[eg,egf];split
 ·rfl
 ·rfl
 ·rfl
 next x ho=>exact Em (mem (by simp[aF,ho]) h x (by simp[ho,Op.operands]))
 next op t x y yt ho=>have hm:=mem (by simp[aF,ho]) h;unfold pD;rw[O0 (hm x (by simp[ho,Op.operands])) (hm y (by simp[ho,Op.operands]))]
 ·rfl
 ·rfl
 next t x ho=>exact SE Q (mem (by simp[aF,ho]) h x (by simp[ho,Op.operands]))
 next t x f ho=>exact BK Q (mem (by simp[aF,ho]) h x (by simp[ho,Op.operands]))
 next t x i ho=>exact BL Q (mem (by simp[aF,ho]) h x (by simp[ho,Op.operands]))
 ·rfl
 ·rfl
 ·rfl
 next t x i ok ho=>have e: ∀z,eE Q (s.wr R) t (s.eg g x) (s.eg g i) ok z=eE Q s t (s.eg g x) (s.eg g i) ok z:=λz=>Kt Q (mem (by simp[aF,ho]) h x (by simp[ho,Op.operands]));simp only[e]
 next x ho=>exact O1 (mem (by simp[aF,ho]) h x (by simp[ho,Op.operands]))
 next t x lo hi ho=>rw[OZ Q (mem (by simp[aF,ho]) h x (by simp[ho,Op.operands]))]
 ·rfl
 ·rfl
 next c ho=>
  split
  next hc=>
   split
   ·rename_i x cW;have hx:x∈o.op.operands.toList:=by
     have:x∈c.args.toList:=by rw[cW];simp
     simp only[ho,Op.operands,Call.operands];simp at this;simp[this]
    rw[qad (mem (by simp[aF,ho,hc]) h x hx),qaf (mem (by simp[aF,ho,hc]) h x hx)]
   rfl
  ·rfl
  ·rfl
  rfl
 rfl
theorem qes{Q:Program}{s s2:S}{o:Oper}{g:Option (Nat×Bool)}(ha: ∀x∈o.op.operands.toList,s2.ev x=s.ev x)(hn:s2.n=s.n)
  (h:aF o=0\/ ∀x∈o.op.operands.toList,fU s2.rg s.rg (s.eg g x)):pv Q s2 o g=pv Q s o g:=by
 have h1:Alike s (s.wt s2.tm) o.op.operands.toList:=⟨rfl,rfl,ha⟩
 have e:s2=(s.wt s2.tm).wr s2.rg:=by
  cases s2 with
  |mk n tm rg=>simp only at hn;subst hn;rfl
 rw[e];rw[qde (s:=s.wt s2.tm)]
 ·exact zb h1 g
 rcases h with h |h
 ·exact .inl h
 refine .inr λx hx=> ?_;rw[h1.eg hx];exact h x hx
theorem wF{o:Oper}(hk:aF o<=1):gC o=none:=by
 unfold gC;split
 next c ho=>
  split
  next f hf=>simp[aF,ho,hf] at hk
  rfl
 rfl
theorem qx{Q:Program}{o:Oper}(hk:aF o<=1):db Q o=none:=by
 unfold db;split
 next ho=>simp[aF,ho] at hk
 rfl
theorem O2{Q:Program}{s s2:S}{o:Oper}{g:Option (Nat×Bool)}(hk:aF o<=1)(ha: ∀x∈o.op.operands.toList,s2.ev x=s.ev x)(hn:s2.n=s.n)
  (h:aF o=0\/ ∀x∈o.op.operands.toList,fU s2.rg s.rg (s.eg g x)): ∃c:Option P,exec Q s o g=(c.bind λp=>s.put o.dst p)/\exec Q s2 o g=(c.bind λp=>s2.put o.dst p):=by
 unfold exec;cases hm:se o with
 |some r=>
  obtain⟨t,len,parts⟩:=r;obtain⟨ps,ho,rfl,_⟩:=vu hm;have e:ps.toList.map (λx=>(x.1,s2.eg g x.2))=ps.toList.map (λx=>(x.1,s.eg g x.2)):=zbK λx hx=>by have:s2.ev x.2=s.ev x.2:=ha _ (by rw[ho];simp[Op.operands];exact⟨_,by simpa using hx⟩);unfold S.eg;rw[this]
  simp only[e];cases Cf Q t len (ps.toList.map λx=>(x.1,s.eg g x.2)) with
  |none=>exact⟨none,rfl,rfl⟩
  |some p=>exact⟨some p,rfl,rfl⟩
 |none=>
 have SG: ∀t l ps,o.op≠ .buildSlice t l ps:=λt l ps ho=>by
  have h0:Nat.beq o.type 4000000=false:=by
   cases hb:Nat.beq o.type 4000000 with
   |false=>rfl
   |true=>simp[se,ho,hb] at hm
  simp[aF,ho,h0] at hk
 simp only[];unfold jC;rw[qx hk];simp only[];rw[qes ha hn h];cases pv Q s o g with
 |some p=>exact⟨some p,rfl,rfl⟩
 |none=>
  simp only[];unfold ef;split
  next ho=>first |exact absurd ho (SG _ _ _)| (simp[aF,ho] at hk)
  next ho=>first |exact absurd ho (SG _ _ _)| (simp[aF,ho] at hk)
  next ho=>first |exact absurd ho (SG _ _ _)| (simp[aF,ho] at hk)
  next t1 t2 x ho=>
   have hx:x∈o.op.operands.toList:=by simp[ho,Op.operands]
   have e0:s2.eg g x=s.eg g x:=by unfold S.eg;rw[ha x hx]
   have e1:mR Q s2 t1 1 (s.eg g x)=mR Q s t1 1 (s.eg g x):=by
    have FL:fU s2.rg s.rg (s.eg g x):=by
     rcases h with h |h
     ·simp[aF,ho] at h
     exact h x hx
    have:mR Q (s.wr s2.rg) t1 1 (s.eg g x)=mR Q s t1 1 (s.eg g x):=qae Q FL;rw[<-this];rfl
   rw[e0,e1];split
   ·split
    ·split
     ·exact⟨some _,rfl,rfl⟩
     exact⟨none,rfl,rfl⟩
    exact⟨none,rfl,rfl⟩
   exact⟨none,rfl,rfl⟩
  next c ho=>
   split
   next hc=>simp[aF,ho,hc] at hk
   next hc=>simp[aF,ho,hc] at hk
   next hc=>simp[aF,ho,hc] at hk
   exact⟨none,rfl,rfl⟩
  next ho=>first |exact absurd ho (SG _ _ _)| (simp[aF,ho] at hk)
  next ho=>first |exact absurd ho (SG _ _ _)| (simp[aF,ho] at hk)
  next ho=>first |exact absurd ho (SG _ _ _)| (simp[aF,ho] at hk)
  next ho=>first |exact absurd ho (SG _ _ _)| (simp[aF,ho] at hk)
  next ho=>first |exact absurd ho (SG _ _ _)| (simp[aF,ho] at hk)
  next ho=>first |exact absurd ho (SG _ _ _)| (simp[aF,ho] at hk)
  next ho=>first |exact absurd ho (SG _ _ _)| (simp[aF,ho] at hk)
  next ho=>first |exact absurd ho (SG _ _ _)| (simp[aF,ho] at hk)
  exact⟨none,rfl,rfl⟩
theorem SH{ops:List Oper}{o:Oper}{t:Nat}(h:Operand.tmp t∈o.op.operands.toList):t∈looks ops o:=
 zbn _ (zcJ.2 ⟨_,h,by simp[Rv]⟩)
theorem qy{ops:List Oper}{o:Oper}{t:Nat}{w:Bool}(h:bj ops o=some (some (t,w))):t∈looks ops o:=by
 unfold bj at h;unfold looks;refine zbc _ ?_;split at h
 ·cases h
 rename_i j want hg;split at h
 next oj hj=>
  split at h
  next t' ht=>simp at h;obtain⟨rfl,rfl⟩:=h;simp[hg,hj,ht]
  cases h
 cases h
theorem Ku{ops:List Oper}{s s2:S}{o:Oper}(h: ∀t∈looks ops o,lk s2.tm t=lk s.tm t): ∀x∈o.op.operands.toList,s2.ev x=s.ev x:=by
 intro x hx;cases x with
 |tmp t=>show(lk s2.tm t).getD .bad=(lk s.tm t).getD .bad;rw[h t (SH hx)]
 |_=>rfl
theorem qz{Q:Program}{cf:CF}{ops:List Oper}{s s2:S}{o:Oper}(hk:aF o<=1)(dT: ∀t∈looks ops o,lk s2.tm t=lk s.tm t)(hn:s2.n=s.n)
  (h:aF o=0\/ ∀g,bj ops o=some g-> ∀x∈o.op.operands.toList,fU s2.rg s.rg (s.eg g x)):
  ∃c:Option P,br Q cf ops s o=(c.bind λq=>s.put o.dst q)/\br Q cf ops s2 o=(c.bind λq=>s2.put o.dst q):=by
 have ha:=Ku dT;unfold br;have act: ∀g,bj ops o=some g-> ∃c:Option P,gk Q cf s o g=(c.bind λq=>s.put o.dst q)/\gk Q cf s2 o g=(c.bind λq=>s2.put o.dst q):=by intro g hg;unfold gk;rw[wF hk];exact O2 (Q:=Q) (s:=s) (s2:=s2) (g:=g) hk ha hn (h.imp id λh=>h g hg)
 cases hg:bj ops o with
 |none=>exact⟨none,rfl,rfl⟩
 |some g=>
  cases g with
  |none=>exact act none hg
  |some tw=>
   obtain⟨t,want⟩:=tw;simp only[];rw[dT t (qy hg)];split
   ·split
    ·exact act _ hg
    exact⟨some .skip,rfl,rfl⟩
   ·exact⟨some .skip,rfl,rfl⟩
   exact⟨none,rfl,rfl⟩
theorem Hb{Q:Program}{cf:CF}{ops:List Oper}{s s2:S}{o:Oper}(pS: ∃t m k,o.op= .lookup t m k false)(dT: ∀t∈looks ops o,lk s2.tm t=lk s.tm t)(hn:s2.n=s.n)
  (h: ∀g,bj ops o=some g->pv Q (s.wr s2.rg) o g=pv Q s o g):
  ∃c:Option P,br Q cf ops s o=(c.bind λq=>s.put o.dst q)/\br Q cf ops s2 o=(c.bind λq=>s2.put o.dst q):=by
 obtain⟨lt,lm,lkk,ho⟩:=pS;have hk:aF o<=1:=by simp[aF,ho]
 have ha:=Ku dT;have act: ∀g,bj ops o=some g-> ∃c:Option P,gk Q cf s o g=(c.bind λq=>s.put o.dst q)/\gk Q cf s2 o g=(c.bind λq=>s2.put o.dst q):=by
  intro g hg;unfold gk;rw[wF hk];have hm:se o=none:=by simp[se,ho]
  unfold exec;rw[hm];simp only[];unfold jC;rw[qx hk];have h1:Alike (s.wr s2.rg) s2 o.op.operands.toList:=⟨hn,rfl,ha⟩
  have e:=zb (Q:=Q) h1 g;simp only[];rw[e,h g hg];cases pv Q s o g with
  |some p=>exact⟨some p,rfl,rfl⟩
  |none=>exact⟨none,by simp[ef,ho],by simp[ef,ho]⟩
 unfold br;cases hg:bj ops o with
 |none=>exact⟨none,rfl,rfl⟩
 |some g=>
  cases g with
  |none=>exact act none hg
  |some tw=>
   obtain⟨t,want⟩:=tw;simp only[];rw[dT t (qy hg)];split
   ·split
    ·exact act _ hg
    exact⟨some .skip,rfl,rfl⟩
   ·exact⟨some .skip,rfl,rfl⟩
   exact⟨none,rfl,rfl⟩
theorem sv{Q:Program}{cf:CF}{ops:List Oper}{s s2:S}{o:Oper}(dT: ∀t∈looks ops o,lk s2.tm t=lk s.tm t)(hn:s2.n=s.n)(hr:s2.rg=s.rg):
  ∃c,br Q cf ops s o=fin s o.dst c/\br Q cf ops s2 o=fin s2 o.dst c:=by
 have ha:Alike s s2 o.op.operands.toList:=⟨hn,hr,Ku dT⟩
 unfold br;cases hg:bj ops o with
 |none=>exact⟨none,rfl,rfl⟩
 |some g=>
  cases g with
  |none=>exact CC Q cf ha none
  |some tw=>
   obtain⟨t,want⟩:=tw;simp only[];rw[dT t (qy hg)];split
   ·split
    ·exact CC Q cf ha _
    exact⟨some (s.rg,.skip),rfl,by unfold fin;rw[<-hr]⟩
   ·exact⟨some (s.rg,.skip),rfl,by unfold fin;rw[<-hr]⟩
   exact⟨none,rfl,rfl⟩
theorem kI{Q:Program}{cf:CF}{ops:List Oper}{s s1:S}{o:Oper}(hk:1<aF o)(h:br Q cf ops s o=some s1){m:Nat}(hm: ¬xS (bL Q ops s o).ws m):lk s1.rg m=lk s.rg m:=by
 unfold br at h;unfold bL at hm;have hb:Nat.ble (aF o) 1=false:=by
  cases hx:Nat.ble (aF o) 1 with
  |false=>rfl
  |true=>rw[zcc] at hx;omega
 cases hg:bj ops o with
 |none=>simp[hg] at h
 |some g=>
  simp only[hg,hb,zaK,zbt] at hm;cases g with
  |none=>simp only[hg] at h;exact wE h hm
  |some tw=>
   obtain⟨t,want⟩:=tw;simp only[hg] at h;split at h
   ·split at h
    ·exact wE h hm
    rw[bu h]
   ·rw[bu h]
   cases h
end Pi
