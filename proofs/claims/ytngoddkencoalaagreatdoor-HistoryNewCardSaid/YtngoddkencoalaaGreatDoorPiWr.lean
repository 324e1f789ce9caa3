/- The text PiWr. -/
import Derived.Test.YtngoddkencoalaaGreatDoorPiLoc2
namespace Pi
open Go
def S.wr(s:S)(R:List (Nat×En)):S:=⟨s.n,s.tm,R⟩
def fK(R R':List (Nat×En))(p:P):Prop:= ∀n v,p.name=some (n,v)->lk R n=lk R' n
theorem iO{s:S}{R:List (Nat×En)}{n:Nat}(h:lk R n=lk s.rg n)(v:Nat):(s.wr R).obj n v=s.obj n v:=by unfold S.obj S.wr;simp only[h]
theorem gq{s:S}{R:List (Nat×En)}{n:Nat}(h:lk R n=lk s.rg n)(v:Nat):(s.wr R).live n v=s.live n v:=by unfold S.live;rw[iO h]
theorem CJ{s:S}{R:List (Nat×En)}{p:P}(h:fK R s.rg p):kr (s.wr R) p=kr s p:=by
 cases p<;>simp only[kr]
 ·rw[gq (h _ _ rfl)]
 rw[gq (h _ _ rfl)]
theorem PY(Q:Program){s:S}{R:List (Nat×En)}{t:TypeId}{p:P}(h:fK R s.rg p):qM Q (s.wr R) t p=qM Q s t p:=by
 cases p<;>simp only[qM]
 ·rw[iO (h _ _ rfl)]
 rw[iO (h _ _ rfl)]
theorem zZ(Q:Program){s:S}{R:List (Nat×En)}{t:TypeId}{f:Nat}{p:P}(h:fK R s.rg p):iI Q (s.wr R) t f p=iI Q s t f p:=by
 unfold iI;split
 ·rfl
 cases p with
 |ref n v off=>simp only[gq (h n v rfl)]
 |dz n v i k off=>simp only[gq (h n v rfl)]
 |_=>rfl
theorem z6(Q:Program){s:S}{R:List (Nat×En)}{t:TypeId}{p i:P}(h:fK R s.rg p):fb Q (s.wr R) t p i=fb Q s t p i:=by
 unfold fb;split
 ·unfold oU;cases p with
  |ref n v off=>simp only[gq (h n v rfl)]
  |dz n v i k off=>simp only[gq (h n v rfl)]
  |_=>rfl
 split
 ·split
  ·cases p with
   |sl n v len=>simp only[iO (h n v rfl)]
   |lG n v k off len=>simp only[iO (h n v rfl)]
   |d x=>cases x<;>rfl
   |_=>rfl
  rfl
 rfl
theorem PZ(Q:Program){s:S}{R:List (Nat×En)}{t:TypeId}{p:P}{lo:Option P}(h:fK R s.rg p):oc Q (s.wr R) t p lo=oc Q s t p lo:=by
 unfold oc;split
 ·rw[iO (h _ _ rfl)]
 rfl
theorem EZ(Q:Program){s:S}{R:List (Nat×En)}{t:TypeId}{p:P}{lo:Option P}(h:fK R s.rg p):fK R s.rg (oc Q s t p lo):=by
 unfold oc;split
 ·split
  ·split
   ·split
    ·intro n v hn;cases hn
    exact h
   exact h
  exact h
 exact h
theorem Mv(Q:Program){s:S}{R:List (Nat×En)}{t:TypeId}{p:P}{lo hi:Option P}(h:fK R s.rg p):l6 Q (s.wr R) t p lo hi=l6 Q s t p lo hi:=by
 unfold l6;rw[PZ Q h]
 replace h:=EZ Q (t:=t) (lo:=lo) h
 generalize oc Q s t p lo=p at h;unfold wm;split
 ·rfl
 split
 ·cases p with
  |sl n v len=>simp only[iO (h n v rfl)]
  |lG n v k off len=>simp only[iO (h n v rfl)]
  |d x=>cases x<;>rfl
  |_=>rfl
 rfl
theorem Wn{s:S}{R:List (Nat×En)}{p:P}(h:fK R s.rg p):El (s.wr R) p=El s p:=by
 unfold El;cases p with
 |sl n v len=>simp only[gq (h n v rfl)]
 |lG n v k off len=>simp only[gq (h n v rfl)]
 |d x=>cases x<;>rfl
 |_=>rfl
theorem Mw{s:S}{R:List (Nat×En)}{p q:P}(h:fK R s.rg p)(h2:fK R s.rg q):tN (s.wr R) p q=tN s p q:=by
 unfold tN;cases p with
 |ref n v off=>cases q with
  |d x=>cases x<;>simp only[gq (h n v rfl)]
  |_=>rfl
 |dz n v i k off=>cases q with
  |d x=>cases x<;>simp only[gq (h n v rfl)]
  |_=>rfl
 |d x=>cases q with
  |ref n v off=>cases x<;>simp only[gq (h2 n v rfl)]
  |dz n v i k off=>cases x<;>simp only[gq (h2 n v rfl)]
  |d y=>cases x<;>cases y<;>rfl
  |_=>cases x<;>rfl
 |e8 x off=>cases q with
  |d y=>cases y<;>rfl
  |_=>rfl
 |_=>cases q<;>rfl
theorem Wo(Q:Program){s:S}{R:List (Nat×En)}{t2:TypeId}{k:Nat}{p:P}(h:fK R s.rg p):l8 Q (s.wr R) t2 k p=l8 Q s t2 k p:=by
 unfold l8;cases p with
 |sl n v len=>simp only[iO (h n v rfl)]
 |lG n v k' off len=>simp only[iO (h n v rfl)]
 |d x=>cases x<;>rfl
 |_=>rfl
theorem Ii(Q:Program){s:S}{R:List (Nat×En)}{t:TypeId}{p i:P}{ok:Bool}{z:D}(h:fK R s.rg p):eB Q (s.wr R) t p i ok z=eB Q s t p i ok z:=by
 unfold eB;split
 next n v k _=>rw[iO (h _ _ rfl)]
 ·rfl
 rfl
theorem Mx{s:S}{R:List (Nat×En)}{p:P}(h:fK R s.rg p):oV (s.wr R) p=oV s p:=by
 unfold oV;split
 ·rw[iO (h _ _ rfl)]
 rfl
theorem Wp{s:S}{R:List (Nat×En)}{p:P}(h:fK R s.rg p):Em (s.wr R) p=Em s p:=by cases p<;>simp only[Em];rw[iO (h _ _ rfl)]
theorem qaH{Q:Program}{s:S}{R:List (Nat×En)}{o:Oper}{g:Option (Nat×Bool)}(h:aC o=0\/ ∀x∈o.op.operands.toList,fK R s.rg (s.eg g x)):pv Q (s.wr R) o g=pv Q s o g:=by
 have eg: ∀x,(s.wr R).eg g x=s.eg g x:=λ_=>rfl;have ev: ∀x,(s.wr R).ev x=s.ev x:=λ_=>rfl;have mem: ∀{P':Prop},aC o≠0->(aC o=0\/P')->P':=λh1 h2=>h2.resolve_left h1;have egf:(s.wr R).eg g=s.eg g:=rfl;unfold pv;simp only[eg,egf];split
 ·rfl
 ·rfl
 ·rfl
 next x ho=>exact CJ (mem (by simp[aC,ho]) h x (by simp[ho,Op.operands]))
 next op t x y yt ho=>have hm:=mem (by simp[aC,ho]) h;unfold oz;rw[Mw (hm x (by simp[ho,Op.operands])) (hm y (by simp[ho,Op.operands]))]
 ·rfl
 ·rfl
 next t x ho=>exact PY Q (mem (by simp[aC,ho]) h x (by simp[ho,Op.operands]))
 next t x f ho=>exact zZ Q (mem (by simp[aC,ho]) h x (by simp[ho,Op.operands]))
 next t x i ho=>exact z6 Q (mem (by simp[aC,ho]) h x (by simp[ho,Op.operands]))
 ·rfl
 ·rfl
 ·rfl
 next t x i ok ho=>have e: ∀z,eB Q (s.wr R) t (s.eg g x) (s.eg g i) ok z=eB Q s t (s.eg g x) (s.eg g i) ok z:=λz=>Ii Q (mem (by simp[aC,ho]) h x (by simp[ho,Op.operands]));simp only[e]
 next x ho=>exact Mx (mem (by simp[aC,ho]) h x (by simp[ho,Op.operands]))
 next t x lo hi ho=>rw[Mv Q (mem (by simp[aC,ho]) h x (by simp[ho,Op.operands]))]
 ·rfl
 ·rfl
 next c ho=>
  split
  next hc=>
   split
   ·rename_i x cP;have hx:x∈o.op.operands.toList:=by
     have:x∈c.args.toList:=by rw[cP];simp
     simp only[ho,Op.operands,Call.operands];simp at this;simp[this]
    rw[Wn (mem (by simp[aC,ho,hc]) h x hx),Wp (mem (by simp[aC,ho,hc]) h x hx)]
   rfl
  ·rfl
  ·rfl
  rfl
 rfl
theorem qbL{Q:Program}{s s2:S}{o:Oper}{g:Option (Nat×Bool)}(ha: ∀x∈o.op.operands.toList,s2.ev x=s.ev x)(hn:s2.n=s.n)
  (h:aC o=0\/ ∀x∈o.op.operands.toList,fK s2.rg s.rg (s.eg g x)):pv Q s2 o g=pv Q s o g:=by
 have h1:Alike s (s.wt s2.tm) o.op.operands.toList:=⟨rfl,rfl,ha⟩
 have e:s2=(s.wt s2.tm).wr s2.rg:=by
  cases s2 with
  |mk n tm rg=>simp only at hn;subst hn;rfl
 rw[e];rw[qaH (s:=s.wt s2.tm)]
 ·exact xG h1 g
 rcases h with h |h
 ·exact .inl h
 refine .inr λx hx=> ?_;rw[h1.eg hx];exact h x hx
theorem uW{o:Oper}(hk:aC o<=1):gy o=none:=by
 unfold gy;split
 next c ho=>
  split
  next f hf=>simp[aC,ho,hf] at hk
  rfl
 rfl
theorem pq{Q:Program}{o:Oper}(hk:aC o<=1):c7 Q o=none:=by
 unfold c7;split
 next ho=>simp[aC,ho] at hk
 rfl
theorem My{Q:Program}{s s2:S}{o:Oper}{g:Option (Nat×Bool)}(hk:aC o<=1)(ha: ∀x∈o.op.operands.toList,s2.ev x=s.ev x)(hn:s2.n=s.n)
  (h:aC o=0\/ ∀x∈o.op.operands.toList,fK s2.rg s.rg (s.eg g x)): ∃c:Option P,exec Q s o g=(c.bind λp=>s.put o.dst p)/\exec Q s2 o g=(c.bind λp=>s2.put o.dst p):=by
 unfold exec;cases hm:rl o with
 |some r=>
  obtain⟨t,len,parts⟩:=r;obtain⟨ps,ho,rfl,_⟩:=tT hm;have e:ps.toList.map (λx=>(x.1,s2.eg g x.2))=ps.toList.map (λx=>(x.1,s.eg g x.2)):=zbF λx hx=>by have:s2.ev x.2=s.ev x.2:=ha _ (by rw[ho];simp[Op.operands];exact⟨_,by simpa using hx⟩);unfold S.eg;rw[this]
  simp only[e];cases AA Q t len (ps.toList.map λx=>(x.1,s.eg g x.2)) with
  |none=>exact⟨none,rfl,rfl⟩
  |some p=>exact⟨some p,rfl,rfl⟩
 |none=>
 have P0: ∀t l ps,o.op≠ .buildSlice t l ps:=λt l ps ho=>by
  have h0:Nat.beq o.type 4000000=false:=by
   cases hb:Nat.beq o.type 4000000 with
   |false=>rfl
   |true=>simp[rl,ho,hb] at hm
  simp[aC,ho,h0] at hk
 simp only[];unfold jg;rw[pq hk];simp only[];rw[qbL ha hn h];cases pv Q s o g with
 |some p=>exact⟨some p,rfl,rfl⟩
 |none=>
  simp only[];unfold ef;split
  next ho=>first |exact absurd ho (P0 _ _ _)| (simp[aC,ho] at hk)
  next ho=>first |exact absurd ho (P0 _ _ _)| (simp[aC,ho] at hk)
  next ho=>first |exact absurd ho (P0 _ _ _)| (simp[aC,ho] at hk)
  next t1 t2 x ho=>
   have hx:x∈o.op.operands.toList:=by simp[ho,Op.operands]
   have e0:s2.eg g x=s.eg g x:=by unfold S.eg;rw[ha x hx]
   have e1:l8 Q s2 t1 1 (s.eg g x)=l8 Q s t1 1 (s.eg g x):=by
    have wo:fK s2.rg s.rg (s.eg g x):=by
     rcases h with h |h
     ·simp[aC,ho] at h
     exact h x hx
    have:l8 Q (s.wr s2.rg) t1 1 (s.eg g x)=l8 Q s t1 1 (s.eg g x):=Wo Q wo;rw[<-this];rfl
   rw[e0,e1];split
   ·split
    ·split
     ·exact⟨some _,rfl,rfl⟩
     exact⟨none,rfl,rfl⟩
    exact⟨none,rfl,rfl⟩
   exact⟨none,rfl,rfl⟩
  next c ho=>
   split
   next hc=>simp[aC,ho,hc] at hk
   next hc=>simp[aC,ho,hc] at hk
   next hc=>simp[aC,ho,hc] at hk
   exact⟨none,rfl,rfl⟩
  next ho=>first |exact absurd ho (P0 _ _ _)| (simp[aC,ho] at hk)
  next ho=>first |exact absurd ho (P0 _ _ _)| (simp[aC,ho] at hk)
  next ho=>first |exact absurd ho (P0 _ _ _)| (simp[aC,ho] at hk)
  next ho=>first |exact absurd ho (P0 _ _ _)| (simp[aC,ho] at hk)
  next ho=>first |exact absurd ho (P0 _ _ _)| (simp[aC,ho] at hk)
  next ho=>first |exact absurd ho (P0 _ _ _)| (simp[aC,ho] at hk)
  next ho=>first |exact absurd ho (P0 _ _ _)| (simp[aC,ho] at hk)
  next ho=>first |exact absurd ho (P0 _ _ _)| (simp[aC,ho] at hk)
  exact⟨none,rfl,rfl⟩
theorem P9{ops:List Oper}{o:Oper}{t:Nat}(h:Operand.tmp t∈o.op.operands.toList):t∈looks ops o:=
 zbr _ (zcw.2 ⟨_,h,by simp[OS]⟩)
theorem pr{ops:List Oper}{o:Oper}{t:Nat}{w:Bool}(h:bp ops o=some (some (t,w))):t∈looks ops o:=by
 unfold bp at h;unfold looks;refine zbc _ ?_;split at h
 ·cases h
 rename_i j want hg;split at h
 next oj hj=>
  split at h
  next t' ht=>simp at h;obtain⟨rfl,rfl⟩:=h;simp[hg,hj,ht]
  cases h
 cases h
theorem Ij{ops:List Oper}{s s2:S}{o:Oper}(h: ∀t∈looks ops o,lk s2.tm t=lk s.tm t): ∀x∈o.op.operands.toList,s2.ev x=s.ev x:=by
 intro x hx;cases x with
 |tmp t=>show(lk s2.tm t).getD .bad=(lk s.tm t).getD .bad;rw[h t (P9 hx)]
 |_=>rfl
theorem pw{Q:Program}{cf:CF}{ops:List Oper}{s s2:S}{o:Oper}(hk:aC o<=1)(dR: ∀t∈looks ops o,lk s2.tm t=lk s.tm t)(hn:s2.n=s.n)
  (h:aC o=0\/ ∀g,bp ops o=some g-> ∀x∈o.op.operands.toList,fK s2.rg s.rg (s.eg g x)):
  ∃c:Option P,bu Q cf ops s o=(c.bind λq=>s.put o.dst q)/\bu Q cf ops s2 o=(c.bind λq=>s2.put o.dst q):=by
 have ha:=Ij dR;unfold bu;have act: ∀g,bp ops o=some g-> ∃c:Option P,fX Q cf s o g=(c.bind λq=>s.put o.dst q)/\fX Q cf s2 o g=(c.bind λq=>s2.put o.dst q):=by intro g hg;unfold fX;rw[uW hk];exact My (Q:=Q) (s:=s) (s2:=s2) (g:=g) hk ha hn (h.imp id λh=>h g hg)
 cases hg:bp ops o with
 |none=>exact⟨none,rfl,rfl⟩
 |some g=>
  cases g with
  |none=>exact act none hg
  |some tw=>
   obtain⟨t,want⟩:=tw;simp only[];rw[dR t (pr hg)];split
   ·split
    ·exact act _ hg
    exact⟨some .skip,rfl,rfl⟩
   ·exact⟨some .skip,rfl,rfl⟩
   exact⟨none,rfl,rfl⟩
theorem E0{Q:Program}{cf:CF}{ops:List Oper}{s s2:S}{o:Oper}(oM: ∃t m k,o.op= .lookup t m k false)(dR: ∀t∈looks ops o,lk s2.tm t=lk s.tm t)(hn:s2.n=s.n)
  (h: ∀g,bp ops o=some g->pv Q (s.wr s2.rg) o g=pv Q s o g):
  ∃c:Option P,bu Q cf ops s o=(c.bind λq=>s.put o.dst q)/\bu Q cf ops s2 o=(c.bind λq=>s2.put o.dst q):=by
 obtain⟨lt,lm,lkk,ho⟩:=oM;have hk:aC o<=1:=by simp[aC,ho]
 have ha:=Ij dR;have act: ∀g,bp ops o=some g-> ∃c:Option P,fX Q cf s o g=(c.bind λq=>s.put o.dst q)/\fX Q cf s2 o g=(c.bind λq=>s2.put o.dst q):=by
  intro g hg;unfold fX;rw[uW hk];have hm:rl o=none:=by simp[rl,ho]
  unfold exec;rw[hm];simp only[];unfold jg;rw[pq hk];have h1:Alike (s.wr s2.rg) s2 o.op.operands.toList:=⟨hn,rfl,ha⟩
  have e:=xG (Q:=Q) h1 g;simp only[];rw[e,h g hg];cases pv Q s o g with
  |some p=>exact⟨some p,rfl,rfl⟩
  |none=>exact⟨none,by simp[ef,ho],by simp[ef,ho]⟩
 unfold bu;cases hg:bp ops o with
 |none=>exact⟨none,rfl,rfl⟩
 |some g=>
  cases g with
  |none=>exact act none hg
  |some tw=>
   obtain⟨t,want⟩:=tw;simp only[];rw[dR t (pr hg)];split
   ·split
    ·exact act _ hg
    exact⟨some .skip,rfl,rfl⟩
   ·exact⟨some .skip,rfl,rfl⟩
   exact⟨none,rfl,rfl⟩
theorem rz{Q:Program}{cf:CF}{ops:List Oper}{s s2:S}{o:Oper}(dR: ∀t∈looks ops o,lk s2.tm t=lk s.tm t)(hn:s2.n=s.n)(hr:s2.rg=s.rg):
  ∃c,bu Q cf ops s o=fin s o.dst c/\bu Q cf ops s2 o=fin s2 o.dst c:=by
 have ha:Alike s s2 o.op.operands.toList:=⟨hn,hr,Ij dR⟩
 unfold bu;cases hg:bp ops o with
 |none=>exact⟨none,rfl,rfl⟩
 |some g=>
  cases g with
  |none=>exact A0 Q cf ha none
  |some tw=>
   obtain⟨t,want⟩:=tw;simp only[];rw[dR t (pr hg)];split
   ·split
    ·exact A0 Q cf ha _
    exact⟨some (s.rg,.skip),rfl,by unfold fin;rw[<-hr]⟩
   ·exact⟨some (s.rg,.skip),rfl,by unfold fin;rw[<-hr]⟩
   exact⟨none,rfl,rfl⟩
theorem kc{Q:Program}{cf:CF}{ops:List Oper}{s s1:S}{o:Oper}(hk:1<aC o)(h:bu Q cf ops s o=some s1){m:Nat}(hm: ¬wB (bL Q ops s o).ws m):lk s1.rg m=lk s.rg m:=by
 unfold bu at h;unfold bL at hm;have hb:Nat.ble (aC o) 1=false:=by
  cases hx:Nat.ble (aC o) 1 with
  |false=>rfl
  |true=>rw[zb0] at hx;omega
 cases hg:bp ops o with
 |none=>simp[hg] at h
 |some g=>
  simp only[hg,hb,zaB,zbj] at hm;cases g with
  |none=>simp only[hg] at h;exact uV h hm
  |some tw=>
   obtain⟨t,want⟩:=tw;simp only[hg] at h;split at h
   ·split at h
    ·exact uV h hm
    rw[bz h]
   ·rw[bz h]
   cases h
end Pi
