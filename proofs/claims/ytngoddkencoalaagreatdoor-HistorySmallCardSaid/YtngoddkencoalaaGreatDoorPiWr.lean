/- The text PiWr. -/
import Derived.Test.YtngoddkencoalaaGreatDoorPiLoc2
namespace Pi
open Go
def S.wr(s:S)(R:List (Nat×En)):S:=⟨s.n,s.tm,R⟩
def fS(R R':List (Nat×En))(p:P):Prop:= ∀n v,p.name=some (n,v)->lk R n=lk R' n
theorem iZ{s:S}{R:List (Nat×En)}{n:Nat}(h:lk R n=lk s.rg n)(v:Nat):(s.wr R).obj n v=s.obj n v:=by unfold S.obj S.wr;simp only[h]
theorem gC{s:S}{R:List (Nat×En)}{n:Nat}(h:lk R n=lk s.rg n)(v:Nat):(s.wr R).live n v=s.live n v:=by unfold S.live;rw[iZ h]
theorem Dh{s:S}{R:List (Nat×En)}{p:P}(h:fS R s.rg p):kO (s.wr R) p=kO s p:=by
 cases p<;>simp only[kO]
 ·rw[gC (h _ _ rfl)]
 rw[gC (h _ _ rfl)]
theorem QP(Q:Program){s:S}{R:List (Nat×En)}{t:TypeId}{p:P}(h:fS R s.rg p):rz Q (s.wr R) t p=rz Q s t p:=by
 cases p<;>simp only[rz]
 ·rw[iZ (h _ _ rfl)]
 rw[iZ (h _ _ rfl)]
theorem AK(Q:Program){s:S}{R:List (Nat×En)}{t:TypeId}{f:Nat}{p:P}(h:fS R s.rg p):iT Q (s.wr R) t f p=iT Q s t f p:=by
 unfold iT;split
 ·rfl
 cases p with
 |ref n v off=>simp only[gC (h n v rfl)]
 |dG n v i k off=>simp only[gC (h n v rfl)]
 |_=>rfl
theorem AL(Q:Program){s:S}{R:List (Nat×En)}{t:TypeId}{p i:P}(h:fS R s.rg p):fj Q (s.wr R) t p i=fj Q s t p i:=by
 unfold fj;split
 ·unfold pw;cases p with
  |ref n v off=>simp only[gC (h n v rfl)]
  |dG n v i k off=>simp only[gC (h n v rfl)]
  |_=>rfl
 split
 ·split
  ·cases p with
   |sl n v len=>simp only[iZ (h n v rfl)]
   |l0 n v k off len=>simp only[iZ (h n v rfl)]
   |d x=>cases x<;>rfl
   |_=>rfl
  rfl
 rfl
theorem QQ(Q:Program){s:S}{R:List (Nat×En)}{t:TypeId}{p:P}{lo:Option P}(h:fS R s.rg p):oP Q (s.wr R) t p lo=oP Q s t p lo:=by
 unfold oP;split
 ·rw[iZ (h _ _ rfl)]
 rfl
theorem FG(Q:Program){s:S}{R:List (Nat×En)}{t:TypeId}{p:P}{lo:Option P}(h:fS R s.rg p):fS R s.rg (oP Q s t p lo):=by
 unfold oP;split
 ·split
  ·split
   ·split
    ·intro n v hn;cases hn
    exact h
   exact h
  exact h
 exact h
theorem M5(Q:Program){s:S}{R:List (Nat×En)}{t:TypeId}{p:P}{lo hi:Option P}(h:fS R s.rg p):mD Q (s.wr R) t p lo hi=mD Q s t p lo hi:=by
 unfold mD;rw[QQ Q h]
 replace h:=FG Q (t:=t) (lo:=lo) h
 generalize oP Q s t p lo=p at h;unfold xd;split
 ·rfl
 split
 ·cases p with
  |sl n v len=>simp only[iZ (h n v rfl)]
  |l0 n v k off len=>simp only[iZ (h n v rfl)]
  |d x=>cases x<;>rfl
  |_=>rfl
 rfl
theorem W7{s:S}{R:List (Nat×En)}{p:P}(h:fS R s.rg p):E0 (s.wr R) p=E0 s p:=by
 unfold E0;cases p with
 |sl n v len=>simp only[gC (h n v rfl)]
 |l0 n v k off len=>simp only[gC (h n v rfl)]
 |d x=>cases x<;>rfl
 |_=>rfl
theorem M6{s:S}{R:List (Nat×En)}{p q:P}(h:fS R s.rg p)(h2:fS R s.rg q):uL (s.wr R) p q=uL s p q:=by
 unfold uL;cases p with
 |ref n v off=>cases q with
  |d x=>cases x<;>simp only[gC (h n v rfl)]
  |_=>rfl
 |dG n v i k off=>cases q with
  |d x=>cases x<;>simp only[gC (h n v rfl)]
  |_=>rfl
 |d x=>cases q with
  |ref n v off=>cases x<;>simp only[gC (h2 n v rfl)]
  |dG n v i k off=>cases x<;>simp only[gC (h2 n v rfl)]
  |d y=>cases x<;>cases y<;>rfl
  |_=>cases x<;>rfl
 |fe x off=>cases q with
  |d y=>cases y<;>rfl
  |_=>rfl
 |_=>cases q<;>rfl
theorem W8(Q:Program){s:S}{R:List (Nat×En)}{t2:TypeId}{k:Nat}{p:P}(h:fS R s.rg p):mF Q (s.wr R) t2 k p=mF Q s t2 k p:=by
 unfold mF;cases p with
 |sl n v len=>simp only[iZ (h n v rfl)]
 |l0 n v k' off len=>simp only[iZ (h n v rfl)]
 |d x=>cases x<;>rfl
 |_=>rfl
theorem I2(Q:Program){s:S}{R:List (Nat×En)}{t:TypeId}{p i:P}{ok:Bool}{z:D}(h:fS R s.rg p):eH Q (s.wr R) t p i ok z=eH Q s t p i ok z:=by
 unfold eH;split
 next n v k _=>rw[iZ (h _ _ rfl)]
 ·rfl
 rfl
theorem M7{s:S}{R:List (Nat×En)}{p:P}(h:fS R s.rg p):py (s.wr R) p=py s p:=by
 unfold py;split
 ·rw[iZ (h _ _ rfl)]
 rfl
theorem W9{s:S}{R:List (Nat×En)}{p:P}(h:fS R s.rg p):E1 (s.wr R) p=E1 s p:=by cases p<;>simp only[E1];rw[iZ (h _ _ rfl)]
theorem qbm{Q:Program}{s:S}{R:List (Nat×En)}{o:Oper}{g:Option (Nat×Bool)}(h:aF o=0\/ ∀x∈o.op.operands.toList,fS R s.rg (s.eg g x)):pv Q (s.wr R) o g=pv Q s o g:=by
 have eg: ∀x,(s.wr R).eg g x=s.eg g x:=λ_=>rfl;have ev: ∀x,(s.wr R).ev x=s.ev x:=λ_=>rfl;have mem: ∀{P':Prop},aF o≠0->(aF o=0\/P')->P':=λh1 h2=>h2.resolve_left h1;have egf:(s.wr R).eg g=s.eg g:=rfl;unfold pv;simp only[eg,egf];split
 ·rfl
 ·rfl
 ·rfl
 next x ho=>exact Dh (mem (by simp[aF,ho]) h x (by simp[ho,Op.operands]))
 next op t x y yt ho=>have hm:=mem (by simp[aF,ho]) h;unfold o4;rw[M6 (hm x (by simp[ho,Op.operands])) (hm y (by simp[ho,Op.operands]))]
 ·rfl
 ·rfl
 next t x ho=>exact QP Q (mem (by simp[aF,ho]) h x (by simp[ho,Op.operands]))
 next t x f ho=>exact AK Q (mem (by simp[aF,ho]) h x (by simp[ho,Op.operands]))
 next t x i ho=>exact AL Q (mem (by simp[aF,ho]) h x (by simp[ho,Op.operands]))
 ·rfl
 ·rfl
 ·rfl
 next t x i ok ho=>have e: ∀z,eH Q (s.wr R) t (s.eg g x) (s.eg g i) ok z=eH Q s t (s.eg g x) (s.eg g i) ok z:=λz=>I2 Q (mem (by simp[aF,ho]) h x (by simp[ho,Op.operands]));simp only[e]
 next x ho=>exact M7 (mem (by simp[aF,ho]) h x (by simp[ho,Op.operands]))
 next t x lo hi ho=>rw[M5 Q (mem (by simp[aF,ho]) h x (by simp[ho,Op.operands]))]
 ·rfl
 ·rfl
 next c ho=>
  split
  next hc=>
   split
   ·rename_i x cW;have hx:x∈o.op.operands.toList:=by
     have:x∈c.args.toList:=by rw[cW];simp
     simp only[ho,Op.operands,Call.operands];simp at this;simp[this]
    rw[W7 (mem (by simp[aF,ho,hc]) h x hx),W9 (mem (by simp[aF,ho,hc]) h x hx)]
   rfl
  ·rfl
  ·rfl
  rfl
 rfl
theorem qcw{Q:Program}{s s2:S}{o:Oper}{g:Option (Nat×Bool)}(ha: ∀x∈o.op.operands.toList,s2.ev x=s.ev x)(hn:s2.n=s.n)
  (h:aF o=0\/ ∀x∈o.op.operands.toList,fS s2.rg s.rg (s.eg g x)):pv Q s2 o g=pv Q s o g:=by
 have h1:Alike s (s.wt s2.tm) o.op.operands.toList:=⟨rfl,rfl,ha⟩
 have e:s2=(s.wt s2.tm).wr s2.rg:=by
  cases s2 with
  |mk n tm rg=>simp only at hn;subst hn;rfl
 rw[e];rw[qbm (s:=s.wt s2.tm)]
 ·exact yq h1 g
 rcases h with h |h
 ·exact .inl h
 refine .inr λx hx=> ?_;rw[h1.eg hx];exact h x hx
theorem v7{o:Oper}(hk:aF o<=1):gG o=none:=by
 unfold gG;split
 next c ho=>
  split
  next f hf=>simp[aF,ho,hf] at hk
  rfl
 rfl
theorem pU{Q:Program}{o:Oper}(hk:aF o<=1):dh Q o=none:=by
 unfold dh;split
 next ho=>simp[aF,ho] at hk
 rfl
theorem M8{Q:Program}{s s2:S}{o:Oper}{g:Option (Nat×Bool)}(hk:aF o<=1)(ha: ∀x∈o.op.operands.toList,s2.ev x=s.ev x)(hn:s2.n=s.n)
  (h:aF o=0\/ ∀x∈o.op.operands.toList,fS s2.rg s.rg (s.eg g x)): ∃c:Option P,exec Q s o g=(c.bind λp=>s.put o.dst p)/\exec Q s2 o g=(c.bind λp=>s2.put o.dst p):=by
 unfold exec;cases hm:r7 o with
 |some r=>
  obtain⟨t,len,parts⟩:=r;obtain⟨ps,ho,rfl,_⟩:=uR hm;have e:ps.toList.map (λx=>(x.1,s2.eg g x.2))=ps.toList.map (λx=>(x.1,s.eg g x.2)):=zbF λx hx=>by have:s2.ev x.2=s.ev x.2:=ha _ (by rw[ho];simp[Op.operands];exact⟨_,by simpa using hx⟩);unfold S.eg;rw[this]
  simp only[e];cases Bi Q t len (ps.toList.map λx=>(x.1,s.eg g x.2)) with
  |none=>exact⟨none,rfl,rfl⟩
  |some p=>exact⟨some p,rfl,rfl⟩
 |none=>
 have QR: ∀t l ps,o.op≠ .buildSlice t l ps:=λt l ps ho=>by
  have h0:Nat.beq o.type 4000000=false:=by
   cases hb:Nat.beq o.type 4000000 with
   |false=>rfl
   |true=>simp[r7,ho,hb] at hm
  simp[aF,ho,h0] at hk
 simp only[];unfold jx;rw[pU hk];simp only[];rw[qcw ha hn h];cases pv Q s o g with
 |some p=>exact⟨some p,rfl,rfl⟩
 |none=>
  simp only[];unfold ef;split
  next ho=>first |exact absurd ho (QR _ _ _)| (simp[aF,ho] at hk)
  next ho=>first |exact absurd ho (QR _ _ _)| (simp[aF,ho] at hk)
  next ho=>first |exact absurd ho (QR _ _ _)| (simp[aF,ho] at hk)
  next t1 t2 x ho=>
   have hx:x∈o.op.operands.toList:=by simp[ho,Op.operands]
   have e0:s2.eg g x=s.eg g x:=by unfold S.eg;rw[ha x hx]
   have e1:mF Q s2 t1 1 (s.eg g x)=mF Q s t1 1 (s.eg g x):=by
    have xe:fS s2.rg s.rg (s.eg g x):=by
     rcases h with h |h
     ·simp[aF,ho] at h
     exact h x hx
    have:mF Q (s.wr s2.rg) t1 1 (s.eg g x)=mF Q s t1 1 (s.eg g x):=W8 Q xe;rw[<-this];rfl
   rw[e0,e1];split
   ·split
    ·split
     ·exact⟨some _,rfl,rfl⟩
     exact⟨none,rfl,rfl⟩
    exact⟨none,rfl,rfl⟩
   exact⟨none,rfl,rfl⟩
  next c ho=>
   split
   next hc=>simp[aF,ho,hc] at hk
   next hc=>simp[aF,ho,hc] at hk
   next hc=>simp[aF,ho,hc] at hk
   exact⟨none,rfl,rfl⟩
  next ho=>first |exact absurd ho (QR _ _ _)| (simp[aF,ho] at hk)
  next ho=>first |exact absurd ho (QR _ _ _)| (simp[aF,ho] at hk)
  next ho=>first |exact absurd ho (QR _ _ _)| (simp[aF,ho] at hk)
  next ho=>first |exact absurd ho (QR _ _ _)| (simp[aF,ho] at hk)
  next ho=>first |exact absurd ho (QR _ _ _)| (simp[aF,ho] at hk)
  next ho=>first |exact absurd ho (QR _ _ _)| (simp[aF,ho] at hk)
  next ho=>first |exact absurd ho (QR _ _ _)| (simp[aF,ho] at hk)
  next ho=>first |exact absurd ho (QR _ _ _)| (simp[aF,ho] at hk)
  exact⟨none,rfl,rfl⟩
theorem QS{ops:List Oper}{o:Oper}{t:Nat}(h:Operand.tmp t∈o.op.operands.toList):t∈looks ops o:=
 zbA _ (zcz.2 ⟨_,h,by simp[PD]⟩)
theorem pV{ops:List Oper}{o:Oper}{t:Nat}{w:Bool}(h:br ops o=some (some (t,w))):t∈looks ops o:=by
 unfold br at h;unfold looks;refine zbd _ ?_;split at h
 ·cases h
 rename_i j want hg;split at h
 next oj hj=>
  split at h
  next t' ht=>simp at h;obtain⟨rfl,rfl⟩:=h;simp[hg,hj,ht]
  cases h
 cases h
theorem I3{ops:List Oper}{s s2:S}{o:Oper}(h: ∀t∈looks ops o,lk s2.tm t=lk s.tm t): ∀x∈o.op.operands.toList,s2.ev x=s.ev x:=by
 intro x hx;cases x with
 |tmp t=>show(lk s2.tm t).getD .bad=(lk s.tm t).getD .bad;rw[h t (QS hx)]
 |_=>rfl
theorem pW{Q:Program}{cf:CF}{ops:List Oper}{s s2:S}{o:Oper}(hk:aF o<=1)(dY: ∀t∈looks ops o,lk s2.tm t=lk s.tm t)(hn:s2.n=s.n)
  (h:aF o=0\/ ∀g,br ops o=some g-> ∀x∈o.op.operands.toList,fS s2.rg s.rg (s.eg g x)):
  ∃c:Option P,bx Q cf ops s o=(c.bind λq=>s.put o.dst q)/\bx Q cf ops s2 o=(c.bind λq=>s2.put o.dst q):=by
 have ha:=I3 dY;unfold bx;have act: ∀g,br ops o=some g-> ∃c:Option P,gk Q cf s o g=(c.bind λq=>s.put o.dst q)/\gk Q cf s2 o g=(c.bind λq=>s2.put o.dst q):=by intro g hg;unfold gk;rw[v7 hk];exact M8 (Q:=Q) (s:=s) (s2:=s2) (g:=g) hk ha hn (h.imp id λh=>h g hg)
 cases hg:br ops o with
 |none=>exact⟨none,rfl,rfl⟩
 |some g=>
  cases g with
  |none=>exact act none hg
  |some tw=>
   obtain⟨t,want⟩:=tw;simp only[];rw[dY t (pV hg)];split
   ·split
    ·exact act _ hg
    exact⟨some .skip,rfl,rfl⟩
   ·exact⟨some .skip,rfl,rfl⟩
   exact⟨none,rfl,rfl⟩
theorem FH{Q:Program}{cf:CF}{ops:List Oper}{s s2:S}{o:Oper}(pj: ∃t m k,o.op= .lookup t m k false)(dY: ∀t∈looks ops o,lk s2.tm t=lk s.tm t)(hn:s2.n=s.n)
  (h: ∀g,br ops o=some g->pv Q (s.wr s2.rg) o g=pv Q s o g):
  ∃c:Option P,bx Q cf ops s o=(c.bind λq=>s.put o.dst q)/\bx Q cf ops s2 o=(c.bind λq=>s2.put o.dst q):=by
 obtain⟨lt,lm,lkk,ho⟩:=pj;have hk:aF o<=1:=by simp[aF,ho]
 have ha:=I3 dY;have act: ∀g,br ops o=some g-> ∃c:Option P,gk Q cf s o g=(c.bind λq=>s.put o.dst q)/\gk Q cf s2 o g=(c.bind λq=>s2.put o.dst q):=by
  intro g hg;unfold gk;rw[v7 hk];have hm:r7 o=none:=by simp[r7,ho]
  unfold exec;rw[hm];simp only[];unfold jx;rw[pU hk];have h1:Alike (s.wr s2.rg) s2 o.op.operands.toList:=⟨hn,rfl,ha⟩
  have e:=yq (Q:=Q) h1 g;simp only[];rw[e,h g hg];cases pv Q s o g with
  |some p=>exact⟨some p,rfl,rfl⟩
  |none=>exact⟨none,by simp[ef,ho],by simp[ef,ho]⟩
 unfold bx;cases hg:br ops o with
 |none=>exact⟨none,rfl,rfl⟩
 |some g=>
  cases g with
  |none=>exact act none hg
  |some tw=>
   obtain⟨t,want⟩:=tw;simp only[];rw[dY t (pV hg)];split
   ·split
    ·exact act _ hg
    exact⟨some .skip,rfl,rfl⟩
   ·exact⟨some .skip,rfl,rfl⟩
   exact⟨none,rfl,rfl⟩
theorem se{Q:Program}{cf:CF}{ops:List Oper}{s s2:S}{o:Oper}(dY: ∀t∈looks ops o,lk s2.tm t=lk s.tm t)(hn:s2.n=s.n)(hr:s2.rg=s.rg):
  ∃c,bx Q cf ops s o=fin s o.dst c/\bx Q cf ops s2 o=fin s2 o.dst c:=by
 have ha:Alike s s2 o.op.operands.toList:=⟨hn,hr,I3 dY⟩
 unfold bx;cases hg:br ops o with
 |none=>exact⟨none,rfl,rfl⟩
 |some g=>
  cases g with
  |none=>exact BG Q cf ha none
  |some tw=>
   obtain⟨t,want⟩:=tw;simp only[];rw[dY t (pV hg)];split
   ·split
    ·exact BG Q cf ha _
    exact⟨some (s.rg,.skip),rfl,by unfold fin;rw[<-hr]⟩
   ·exact⟨some (s.rg,.skip),rfl,by unfold fin;rw[<-hr]⟩
   exact⟨none,rfl,rfl⟩
theorem kF{Q:Program}{cf:CF}{ops:List Oper}{s s1:S}{o:Oper}(hk:1<aF o)(h:bx Q cf ops s o=some s1){m:Nat}(hm: ¬xn (bQ Q ops s o).ws m):lk s1.rg m=lk s.rg m:=by
 unfold bx at h;unfold bQ at hm;have hb:Nat.ble (aF o) 1=false:=by
  cases hx:Nat.ble (aF o) 1 with
  |false=>rfl
  |true=>rw[zb0] at hx;omega
 cases hg:br ops o with
 |none=>simp[hg] at h
 |some g=>
  simp only[hg,hb,zaz,zbk] at hm;cases g with
  |none=>simp only[hg] at h;exact vZ h hm
  |some tw=>
   obtain⟨t,want⟩:=tw;simp only[hg] at h;split at h
   ·split at h
    ·exact vZ h hm
    rw[bA h]
   ·rw[bA h]
   cases h
end Pi
