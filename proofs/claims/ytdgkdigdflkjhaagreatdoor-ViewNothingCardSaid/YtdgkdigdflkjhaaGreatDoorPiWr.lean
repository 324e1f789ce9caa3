/- The text PiWr. -/
import Derived.Test.YtdgkdigdflkjhaaGreatDoorPiLoc2
namespace Pi
open Go
def S.wr(s:S)(R:List (Nat×En)):S:=⟨s.n,s.tm,R⟩
def gg(R R':List (Nat×En))(p:P):= ∀n v,p.name=some (n,v)->lk R n=lk R' n
theorem jq{s:S}{R n}(h:lk R n=lk s.rg n) v:(s.wr R).obj n v=s.obj n v:=by unfold S.obj S.wr;simp only[h]
theorem gO{s:S}{R n}(h:lk R n=lk s.rg n) v:(s.wr R).live n v=s.live n v:=by unfold S.live;rw[jq h]
theorem Fy{s R p}(h:gg R s.rg p):k8 (s.wr R) p=k8 s p:=by
 cases p<;>simp only[k8]
 ·rw[gO (h _ _ rfl)]
 rw[gO (h _ _ rfl)]
theorem Uw Q {s R t p}(h:gg R s.rg p):sf Q (s.wr R) t p=sf Q s t p:=by
 cases p<;>simp only[sf]
 ·rw[jq (h _ _ rfl)]
 rw[jq (h _ _ rfl)]
theorem CA Q {s R t f}{p}(h:gg R s.rg p):ji Q (s.wr R) t f p=ji Q s t f p:=by
 unfold ji;split
 ·rfl
 cases p with
 |ref n v off=>simp only[gO (h n v rfl)]
 |dJ n v i k off=>simp only[gO (h n v rfl)]
 |_=>rfl
theorem CB Q {s R t p i}(h:gg R s.rg p):fq Q (s.wr R) t p i=fq Q s t p i:=by
 unfold fq;split
 ·unfold qq;cases p with
  |ref n v off=>simp only[gO (h n v rfl)]
  |dJ n v i k off=>simp only[gO (h n v rfl)]
  |_=>rfl
 split
 ·split
  ·cases p with
   |sl n v len=>simp only[jq (h n v rfl)]
   |mG n v k off len=>simp only[jq (h n v rfl)]
   |d x=>cases x<;>rfl
   |_=>rfl
  rfl
 rfl
theorem Ux Q {s R t p}{lo}(h:gg R s.rg p):pP Q (s.wr R) t p lo=pP Q s t p lo:=by
 unfold pP;split
 ·rw[jq (h _ _ rfl)]
 rfl
theorem Ip Q {s R t p}{lo}(h:gg R s.rg p):gg R s.rg (pP Q s t p lo):=by
 unfold pP;split
 ·split
  ·split
   ·split
    ·intro n v hn;cases hn
    exact h
   exact h
  exact h
 exact h
theorem QI Q {s R t p}{lo hi}(h:gg R s.rg p):nt Q (s.wr R) t p lo hi=nt Q s t p lo hi:=by
 unfold nt;rw[Ux Q h]
 replace h:=Ip Q (t:=t) (lo:=lo) h
 generalize pP Q s t p lo=p at h;unfold yB;split
 ·rfl
 split
 ·cases p with
  |sl n v len=>simp only[jq (h n v rfl)]
  |mG n v k off len=>simp only[jq (h n v rfl)]
  |d x=>cases x<;>rfl
  |_=>rfl
 rfl
theorem qav{s R p}(h:gg R s.rg p):HP (s.wr R) p=HP s p:=by
 unfold HP;cases p with
 |sl n v len=>simp only[gO (h n v rfl)]
 |mG n v k off len=>simp only[gO (h n v rfl)]
 |d x=>cases x<;>rfl
 |_=>rfl
theorem QJ{s R p q}(h:gg R s.rg p)(h2:gg R s.rg q):vR (s.wr R) p q=vR s p q:=by
 unfold vR;cases p with
 |ref n v off=>cases q with
  |d x=>cases x<;>simp only[gO (h n v rfl)]
  |_=>rfl
 |dJ n v i k off=>cases q with
  |d x=>cases x<;>simp only[gO (h n v rfl)]
  |_=>rfl
 |d x=>cases q with
  |ref n v off=>cases x<;>simp only[gO (h2 n v rfl)]
  |dJ n v i k off=>cases x<;>simp only[gO (h2 n v rfl)]
  |d y=>cases x<;>cases y<;>rfl
  |_=>cases x<;>rfl
 |fh x off=>cases q with
  |d y=>cases y<;>rfl
  |_=>rfl
 |_=>cases q<;>rfl
theorem qaw Q {s R t2 k}{p}(h:gg R s.rg p):nv Q (s.wr R) t2 k p=nv Q s t2 k p:=by
 unfold nv;cases p with
 |sl n v len=>simp only[jq (h n v rfl)]
 |mG n v k' off len=>simp only[jq (h n v rfl)]
 |d x=>cases x<;>rfl
 |_=>rfl
theorem L2 Q {s R t p i}{ok z}(h:gg R s.rg p):eM Q (s.wr R) t p i ok z=eM Q s t p i ok z:=by
 unfold eM;split
 next n v k _=>rw[jq (h _ _ rfl)]
 ·rfl
 rfl
theorem QK{s R p}(h:gg R s.rg p):qt (s.wr R) p=qt s p:=by
 unfold qt;split
 ·rw[jq (h _ _ rfl)]
 rfl
theorem qax{s R p}(h:gg R s.rg p):HQ (s.wr R) p=HQ s p:=by cases p<;>simp only[HQ];rw[jq (h _ _ rfl)]
theorem qdO{Q s R o}{g}(h:aB o=0\/ ∀x∈o.op.operands.toList,gg R s.rg (s.eg g x)):pv Q (s.wr R) o g=pv Q s o g:=by
 have eg: ∀x,(s.wr R).eg g x=s.eg g x:=λ_=>rfl;have ev: ∀x,(s.wr R).ev x=s.ev x:=λ_=>rfl;have mem: ∀{P':Prop},aB o≠0->(aB o=0\/P')->P':=λh1 h2=>h2.resolve_left h1;have egf:(s.wr R).eg g=s.eg g:=rfl;unfold pv;simp only[eg,egf];split
 ·rfl
 ·rfl
 ·rfl
 next x ho=>exact Fy (mem (by simp[aB,ho]) h x (by simp[ho,Op.operands]))
 next op t x y yt ho=>have hm:=mem (by simp[aB,ho]) h;unfold pY;rw[QJ (hm x (by simp[ho,Op.operands])) (hm y (by simp[ho,Op.operands]))]
 ·rfl
 ·rfl
 next t x ho=>exact Uw Q (mem (by simp[aB,ho]) h x (by simp[ho,Op.operands]))
 next t x f ho=>exact CA Q (mem (by simp[aB,ho]) h x (by simp[ho,Op.operands]))
 next t x i ho=>exact CB Q (mem (by simp[aB,ho]) h x (by simp[ho,Op.operands]))
 ·rfl
 ·rfl
 ·rfl
 next t x i ok ho=>have e: ∀z,eM Q (s.wr R) t (s.eg g x) (s.eg g i) ok z=eM Q s t (s.eg g x) (s.eg g i) ok z:=λz=>L2 Q (mem (by simp[aB,ho]) h x (by simp[ho,Op.operands]));simp only[e]
 next x ho=>exact QK (mem (by simp[aB,ho]) h x (by simp[ho,Op.operands]))
 next t x lo hi ho=>rw[QI Q (mem (by simp[aB,ho]) h x (by simp[ho,Op.operands]))]
 ·rfl
 ·rfl
 next c ho=>
  split
  next hc=>
   split
   ·rename_i x cx;have hx:x∈o.op.operands.toList:=by
     have:x∈c.args.toList:=by rw[cx];simp
     simp only[ho,Op.operands,Call.operands];simp at this;simp[this]
    rw[qav (mem (by simp[aB,ho,hc]) h x hx),qax (mem (by simp[aB,ho,hc]) h x hx)]
   rfl
  ·rfl
  ·rfl
  rfl
 rfl
theorem qfC{Q s s2 o g}(ha: ∀x∈o.op.operands.toList,s2.ev x=s.ev x)(hn:s2.n=s.n)
  (h:aB o=0\/ ∀x∈o.op.operands.toList,gg s2.rg s.rg (s.eg g x)):pv Q s2 o g=pv Q s o g:=by
 have h1:Alike s (s.wt s2.tm) o.op.operands.toList:=⟨rfl,rfl,ha⟩
 have e:s2=(s.wt s2.tm).wr s2.rg:=by
  cases s2 with
  |mk n tm rg=>simp only at hn;subst hn;rfl
 rw[e];rw[qdO (s:=s.wt s2.tm)]
 ·exact Ab h1 g
 rcases h with h |h
 ·exact .inl h
 refine .inr λx hx=> ?_;rw[h1.eg hx];exact h x hx
theorem xh{o}(hk:aB o<=1):gV o=none:=by
 unfold gV;split
 next c ho=>
  split
  next f hf=>simp[aB,ho,hf] at hk
  rfl
 rfl
theorem qP{Q o}(hk:aB o<=1):dn Q o=none:=by
 unfold dn;split
 next ho=>simp[aB,ho] at hk
 rfl
theorem QL{Q s s2 o g}(hk:aB o<=1)(ha: ∀x∈o.op.operands.toList,s2.ev x=s.ev x)(hn:s2.n=s.n)
  (h:aB o=0\/ ∀x∈o.op.operands.toList,gg s2.rg s.rg (s.eg g x)): ∃c:Option P,exec Q s o g=(c.bind λp=>s.put o.dst p)/\exec Q s2 o g=(c.bind λp=>s2.put o.dst p):=by
 unfold exec;cases hm:sZ o with
 |some r=>
  obtain⟨t,len,parts⟩:=r;obtain⟨ps,ho,rfl,_⟩:=v7 hm;have e:ps.toList.map (λx=>(x.1,s2.eg g x.2))=ps.toList.map (λx=>(x.1,s.eg g x.2)):=zbu λx hx=>by have:s2.ev x.2=s.ev x.2:=ha _ (by rw[ho];simp[Op.operands];exact⟨_,by simpa using hx⟩);unfold S.eg;rw[this]
  simp only[e];cases De Q t len (ps.toList.map λx=>(x.1,s.eg g x.2)) with
  |none=>exact⟨none,rfl,rfl⟩
  |some p=>exact⟨some p,rfl,rfl⟩
 |none=>
 have Uy: ∀t l ps,o.op≠ .buildSlice t l ps:=λt l ps ho=>by
  have h0:Nat.beq o.type 4000000=false:=by
   cases hb:Nat.beq o.type 4000000 with
   |false=>rfl
   |true=>simp[sZ,ho,hb] at hm
  simp[aB,ho,h0] at hk
 simp only[];unfold jK;rw[qP hk];simp only[];rw[qfC ha hn h];cases pv Q s o g with
 |some p=>exact⟨some p,rfl,rfl⟩
 |none=>
  simp only[];unfold ef;split
  next ho=>first |exact absurd ho (Uy _ _ _)| (simp[aB,ho] at hk)
  next ho=>first |exact absurd ho (Uy _ _ _)| (simp[aB,ho] at hk)
  next ho=>first |exact absurd ho (Uy _ _ _)| (simp[aB,ho] at hk)
  next t1 t2 x ho=>
   have hx:x∈o.op.operands.toList:=by simp[ho,Op.operands]
   have e0:s2.eg g x=s.eg g x:=by unfold S.eg;rw[ha x hx]
   have e1:nv Q s2 t1 1 (s.eg g x)=nv Q s t1 1 (s.eg g x):=by
    have KP:gg s2.rg s.rg (s.eg g x):=by
     rcases h with h |h
     ·simp[aB,ho] at h
     exact h x hx
    have:nv Q (s.wr s2.rg) t1 1 (s.eg g x)=nv Q s t1 1 (s.eg g x):=qaw Q KP;rw[<-this];rfl
   rw[e0,e1];split
   ·split
    ·split
     ·exact⟨some _,rfl,rfl⟩
     exact⟨none,rfl,rfl⟩
    exact⟨none,rfl,rfl⟩
   exact⟨none,rfl,rfl⟩
  next c ho=>
   split
   next hc=>simp[aB,ho,hc] at hk
   next hc=>simp[aB,ho,hc] at hk
   next hc=>simp[aB,ho,hc] at hk
   next hc=>simp[aB,ho,hc] at hk
   exact⟨none,rfl,rfl⟩
  next ho=>first |exact absurd ho (Uy _ _ _)| (simp[aB,ho] at hk)
  next ho=>first |exact absurd ho (Uy _ _ _)| (simp[aB,ho] at hk)
  next ho=>first |exact absurd ho (Uy _ _ _)| (simp[aB,ho] at hk)
  next ho=>first |exact absurd ho (Uy _ _ _)| (simp[aB,ho] at hk)
  next ho=>first |exact absurd ho (Uy _ _ _)| (simp[aB,ho] at hk)
  next ho=>first |exact absurd ho (Uy _ _ _)| (simp[aB,ho] at hk)
  next ho=>first |exact absurd ho (Uy _ _ _)| (simp[aB,ho] at hk)
  next ho=>first |exact absurd ho (Uy _ _ _)| (simp[aB,ho] at hk)
  exact⟨none,rfl,rfl⟩
theorem Uz{ops o}{t:Nat}(h:Operand.tmp t∈o.op.operands.toList):t∈looks ops o:=
 zbg _ (zcP.2 ⟨_,h,by simp[Ts]⟩)
theorem qQ{ops o t w}(h:br ops o=some (some (t,w))):t∈looks ops o:=by
 unfold br at h;unfold looks;refine zba _ ?_;split at h
 ·cases h
 rename_i j want hg;split at h
 next oj hj=>
  split at h
  next t' ht=>simp at h;obtain⟨rfl,rfl⟩:=h;simp[hg,hj,ht]
  cases h
 cases h
theorem L3{ops}{s s2:S}{o}(h: ∀t∈looks ops o,lk s2.tm t=lk s.tm t): ∀x∈o.op.operands.toList,s2.ev x=s.ev x:=by
 intro x hx;cases x with
 |tmp t=>show(lk s2.tm t).getD .bad=(lk s.tm t).getD .bad;rw[h t (Uz hx)]
 |_=>rfl
theorem qR{Q cf ops s s2}{o}(hk:aB o<=1)(eb: ∀t∈looks ops o,lk s2.tm t=lk s.tm t)(hn:s2.n=s.n)
  (h:aB o=0\/ ∀g,br ops o=some g-> ∀x∈o.op.operands.toList,gg s2.rg s.rg (s.eg g x)):
  ∃c:Option P,bu Q cf ops s o=(c.bind λq=>s.put o.dst q)/\bu Q cf ops s2 o=(c.bind λq=>s2.put o.dst q):=by
 have ha:=L3 eb;unfold bu;have act: ∀g,br ops o=some g-> ∃c:Option P,gI Q cf s o g=(c.bind λq=>s.put o.dst q)/\gI Q cf s2 o g=(c.bind λq=>s2.put o.dst q):=by intro g hg;unfold gI;rw[xh hk];exact QL (Q:=Q) (s:=s) (s2:=s2) (g:=g) hk ha hn (h.imp id λh=>h g hg)
 cases hg:br ops o with
 |none=>exact⟨none,rfl,rfl⟩
 |some g=>
  cases g with
  |none=>exact act none hg
  |some tw=>
   obtain⟨t,want⟩:=tw;simp only[];rw[eb t (qQ hg)];split
   ·split
    ·exact act _ hg
    exact⟨some .skip,rfl,rfl⟩
   ·exact⟨some .skip,rfl,rfl⟩
   exact⟨none,rfl,rfl⟩
theorem Iq{Q cf ops s s2}{o}(qk: ∃t m k,o.op= .lookup t m k false)(eb: ∀t∈looks ops o,lk s2.tm t=lk s.tm t)(hn:s2.n=s.n)
  (h: ∀g,br ops o=some g->pv Q (s.wr s2.rg) o g=pv Q s o g):
  ∃c:Option P,bu Q cf ops s o=(c.bind λq=>s.put o.dst q)/\bu Q cf ops s2 o=(c.bind λq=>s2.put o.dst q):=by
 obtain⟨lt,lm,lkk,ho⟩:=qk;have hk:aB o<=1:=by simp[aB,ho]
 have ha:=L3 eb;have act: ∀g,br ops o=some g-> ∃c:Option P,gI Q cf s o g=(c.bind λq=>s.put o.dst q)/\gI Q cf s2 o g=(c.bind λq=>s2.put o.dst q):=by
  intro g hg;unfold gI;rw[xh hk];have hm:sZ o=none:=by simp[sZ,ho]
  unfold exec;rw[hm];simp only[];unfold jK;rw[qP hk];have h1:Alike (s.wr s2.rg) s2 o.op.operands.toList:=⟨hn,rfl,ha⟩
  have e:=Ab (Q:=Q) h1 g;simp only[];rw[e,h g hg];cases pv Q s o g with
  |some p=>exact⟨some p,rfl,rfl⟩
  |none=>exact⟨none,by simp[ef,ho],by simp[ef,ho]⟩
 unfold bu;cases hg:br ops o with
 |none=>exact⟨none,rfl,rfl⟩
 |some g=>
  cases g with
  |none=>exact act none hg
  |some tw=>
   obtain⟨t,want⟩:=tw;simp only[];rw[eb t (qQ hg)];split
   ·split
    ·exact act _ hg
    exact⟨some .skip,rfl,rfl⟩
   ·exact⟨some .skip,rfl,rfl⟩
   exact⟨none,rfl,rfl⟩
theorem tj{Q cf ops s s2}{o}(eb: ∀t∈looks ops o,lk s2.tm t=lk s.tm t)(hn:s2.n=s.n)(hr:s2.rg=s.rg):
  ∃c,bu Q cf ops s o=fin s o.dst c/\bu Q cf ops s2 o=fin s2 o.dst c:=by
 have ha:Alike s s2 o.op.operands.toList:=⟨hn,hr,L3 eb⟩
 unfold bu;cases hg:br ops o with
 |none=>exact⟨none,rfl,rfl⟩
 |some g=>
  cases g with
  |none=>exact DF Q cf ha none
  |some tw=>
   obtain⟨t,want⟩:=tw;simp only[];rw[eb t (qQ hg)];split
   ·split
    ·exact DF Q cf ha _
    exact⟨some (s.rg,.skip),rfl,by unfold fin;rw[<-hr]⟩
   ·exact⟨some (s.rg,.skip),rfl,by unfold fin;rw[<-hr]⟩
   exact⟨none,rfl,rfl⟩
theorem kQ{Q cf ops s s1}{o}(hk:1<aB o)(h:bu Q cf ops s o=some s1){m}(hm: ¬yK (bP Q ops s o).ws m):lk s1.rg m=lk s.rg m:=by
 unfold bu at h;unfold bP at hm;have hb:Nat.ble (aB o) 1=false:=by
  cases hx:Nat.ble (aB o) 1 with
  |false=>rfl
  |true=>rw[zcf] at hx;omega
 cases hg:br ops o with
 |none=>simp[hg] at h
 |some g=>
  simp only[hg,hb,zaE,zbn] at hm;cases g with
  |none=>simp only[hg] at h;exact xg h hm
  |some tw=>
   obtain⟨t,want⟩:=tw;simp only[hg] at h;split at h
   ·split at h
    ·exact xg h hm
    rw[bz h]
   ·rw[bz h]
   cases h
end Pi
