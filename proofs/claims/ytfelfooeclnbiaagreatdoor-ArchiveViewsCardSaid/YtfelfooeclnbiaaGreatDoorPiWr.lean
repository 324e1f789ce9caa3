/- The text PiWr. -/
import Derived.Test.YtfelfooeclnbiaaGreatDoorPiLoc2
namespace Pi
open Go
def S.wr(s:S)(R:List (Nat×En)):S:=⟨s.n,s.tm,R⟩
def fQ(R R':List (Nat×En))(p:P):Prop:= ∀n v,p.name=some (n,v)->lk R n=lk R' n
theorem iI{s:S}{R:List (Nat×En)}{n:Nat}(h:lk R n=lk s.rg n)(v:Nat):(s.wr R).obj n v=s.obj n v:=by unfold S.obj S.wr;simp only[h]
theorem gq{s:S}{R:List (Nat×En)}{n:Nat}(h:lk R n=lk s.rg n)(v:Nat):(s.wr R).live n v=s.live n v:=by unfold S.live;rw[iI h]
theorem CB{s:S}{R:List (Nat×En)}{p:P}(h:fQ R s.rg p):ko (s.wr R) p=ko s p:=by
 cases p<;>simp only[ko]
 ·rw[gq (h _ _ rfl)]
 rw[gq (h _ _ rfl)]
theorem P9(Q:Program){s:S}{R:List (Nat×En)}{t:TypeId}{p:P}(h:fQ R s.rg p):qE Q (s.wr R) t p=qE Q s t p:=by
 cases p<;>simp only[qE]
 ·rw[iI (h _ _ rfl)]
 rw[iI (h _ _ rfl)]
theorem zS(Q:Program){s:S}{R:List (Nat×En)}{t:TypeId}{f:Nat}{p:P}(h:fQ R s.rg p):iB Q (s.wr R) t f p=iB Q s t f p:=by
 unfold iB;split
 ·rfl
 cases p with
 |ref n v off=>simp only[gq (h n v rfl)]
 |dj n v i k off=>simp only[gq (h n v rfl)]
 |_=>rfl
theorem zT(Q:Program){s:S}{R:List (Nat×En)}{t:TypeId}{p i:P}(h:fQ R s.rg p):fb Q (s.wr R) t p i=fb Q s t p i:=by
 unfold fb;split
 ·unfold o4;cases p with
  |ref n v off=>simp only[gq (h n v rfl)]
  |dj n v i k off=>simp only[gq (h n v rfl)]
  |_=>rfl
 split
 ·split
  ·cases p with
   |sl n v len=>simp only[iI (h n v rfl)]
   |lu n v k off len=>simp only[iI (h n v rfl)]
   |d x=>cases x<;>rfl
   |_=>rfl
  rfl
 rfl
theorem Qa(Q:Program){s:S}{R:List (Nat×En)}{t:TypeId}{p:P}{lo:Option P}(h:fQ R s.rg p):og Q (s.wr R) t p lo=og Q s t p lo:=by
 unfold og;split
 ·rw[iI (h _ _ rfl)]
 rfl
theorem ET(Q:Program){s:S}{R:List (Nat×En)}{t:TypeId}{p:P}{lo:Option P}(h:fQ R s.rg p):fQ R s.rg (og Q s t p lo):=by
 unfold og;split
 ·split
  ·split
   ·split
    ·intro n v hn;cases hn
    exact h
   exact h
  exact h
 exact h
theorem My(Q:Program){s:S}{R:List (Nat×En)}{t:TypeId}{p:P}{lo hi:Option P}(h:fQ R s.rg p):lU Q (s.wr R) t p lo hi=lU Q s t p lo hi:=by
 unfold lU;rw[Qa Q h]
 replace h:=ET Q (t:=t) (lo:=lo) h
 generalize og Q s t p lo=p at h;unfold wz;split
 ·rfl
 split
 ·cases p with
  |sl n v len=>simp only[iI (h n v rfl)]
  |lu n v k off len=>simp only[iI (h n v rfl)]
  |d x=>cases x<;>rfl
  |_=>rfl
 rfl
theorem Wp{s:S}{R:List (Nat×En)}{p:P}(h:fQ R s.rg p):Eh (s.wr R) p=Eh s p:=by
 unfold Eh;cases p with
 |sl n v len=>simp only[gq (h n v rfl)]
 |lu n v k off len=>simp only[gq (h n v rfl)]
 |d x=>cases x<;>rfl
 |_=>rfl
theorem Mz{s:S}{R:List (Nat×En)}{p q:P}(h:fQ R s.rg p)(h2:fQ R s.rg q):tZ (s.wr R) p q=tZ s p q:=by
 unfold tZ;cases p with
 |ref n v off=>cases q with
  |d x=>cases x<;>simp only[gq (h n v rfl)]
  |_=>rfl
 |dj n v i k off=>cases q with
  |d x=>cases x<;>simp only[gq (h n v rfl)]
  |_=>rfl
 |d x=>cases q with
  |ref n v off=>cases x<;>simp only[gq (h2 n v rfl)]
  |dj n v i k off=>cases x<;>simp only[gq (h2 n v rfl)]
  |d y=>cases x<;>cases y<;>rfl
  |_=>cases x<;>rfl
 |eX x off=>cases q with
  |d y=>cases y<;>rfl
  |_=>rfl
 |_=>cases q<;>rfl
theorem Wq(Q:Program){s:S}{R:List (Nat×En)}{t2:TypeId}{k:Nat}{p:P}(h:fQ R s.rg p):lW Q (s.wr R) t2 k p=lW Q s t2 k p:=by
 unfold lW;cases p with
 |sl n v len=>simp only[iI (h n v rfl)]
 |lu n v k' off len=>simp only[iI (h n v rfl)]
 |d x=>cases x<;>rfl
 |_=>rfl
theorem Ir(Q:Program){s:S}{R:List (Nat×En)}{t:TypeId}{p i:P}{ok:Bool}{z:D}(h:fQ R s.rg p):eo Q (s.wr R) t p i ok z=eo Q s t p i ok z:=by
 unfold eo;split
 next n v k _=>rw[iI (h _ _ rfl)]
 ·rfl
 rfl
theorem MA{s:S}{R:List (Nat×En)}{p:P}(h:fQ R s.rg p):o5 (s.wr R) p=o5 s p:=by
 unfold o5;split
 ·rw[iI (h _ _ rfl)]
 rfl
theorem Wr{s:S}{R:List (Nat×En)}{p:P}(h:fQ R s.rg p):Ei (s.wr R) p=Ei s p:=by cases p<;>simp only[Ei];rw[iI (h _ _ rfl)]
theorem qaW{Q:Program}{s:S}{R:List (Nat×En)}{o:Oper}{g:Option (Nat×Bool)}(h:aA o=0\/ ∀x∈o.op.operands.toList,fQ R s.rg (s.eg g x)):pv Q (s.wr R) o g=pv Q s o g:=by
 have eg: ∀x,(s.wr R).eg g x=s.eg g x:=λ_=>rfl;have ev: ∀x,(s.wr R).ev x=s.ev x:=λ_=>rfl;have mem: ∀{P':Prop},aA o≠0->(aA o=0\/P')->P':=λh1 h2=>h2.resolve_left h1;have egf:(s.wr R).eg g=s.eg g:=rfl;unfold pv;simp only[eg,egf];split
 ·rfl
 ·rfl
 ·rfl
 next x ho=>exact CB (mem (by simp[aA,ho]) h x (by simp[ho,Op.operands]))
 next op t x y yt ho=>have hm:=mem (by simp[aA,ho]) h;unfold oG;rw[Mz (hm x (by simp[ho,Op.operands])) (hm y (by simp[ho,Op.operands]))]
 ·rfl
 ·rfl
 next t x ho=>exact P9 Q (mem (by simp[aA,ho]) h x (by simp[ho,Op.operands]))
 next t x f ho=>exact zS Q (mem (by simp[aA,ho]) h x (by simp[ho,Op.operands]))
 next t x i ho=>exact zT Q (mem (by simp[aA,ho]) h x (by simp[ho,Op.operands]))
 ·rfl
 ·rfl
 ·rfl
 next t x i ok ho=>have e: ∀z,eo Q (s.wr R) t (s.eg g x) (s.eg g i) ok z=eo Q s t (s.eg g x) (s.eg g i) ok z:=λz=>Ir Q (mem (by simp[aA,ho]) h x (by simp[ho,Op.operands]));simp only[e]
 next x ho=>exact MA (mem (by simp[aA,ho]) h x (by simp[ho,Op.operands]))
 next t x lo hi ho=>rw[My Q (mem (by simp[aA,ho]) h x (by simp[ho,Op.operands]))]
 ·rfl
 ·rfl
 next c ho=>
  split
  next hc=>
   split
   ·rename_i x cN;have hx:x∈o.op.operands.toList:=by
     have:x∈c.args.toList:=by rw[cN];simp
     simp only[ho,Op.operands,Call.operands];simp at this;simp[this]
    rw[Wp (mem (by simp[aA,ho,hc]) h x hx),Wr (mem (by simp[aA,ho,hc]) h x hx)]
   rfl
  ·rfl
  ·rfl
  rfl
 rfl
theorem qbX{Q:Program}{s s2:S}{o:Oper}{g:Option (Nat×Bool)}(ha: ∀x∈o.op.operands.toList,s2.ev x=s.ev x)(hn:s2.n=s.n)
  (h:aA o=0\/ ∀x∈o.op.operands.toList,fQ s2.rg s.rg (s.eg g x)):pv Q s2 o g=pv Q s o g:=by
 have h1:Alike s (s.wt s2.tm) o.op.operands.toList:=⟨rfl,rfl,ha⟩
 have e:s2=(s.wt s2.tm).wr s2.rg:=by
  cases s2 with
  |mk n tm rg=>simp only at hn;subst hn;rfl
 rw[e];rw[qaW (s:=s.wt s2.tm)]
 ·exact xG h1 g
 rcases h with h |h
 ·exact .inl h
 refine .inr λx hx=> ?_;rw[h1.eg hx];exact h x hx
theorem vA{o:Oper}(hk:aA o<=1):gx o=none:=by
 unfold gx;split
 next c ho=>
  split
  next f hf=>simp[aA,ho,hf] at hk
  rfl
 rfl
theorem pD{Q:Program}{o:Oper}(hk:aA o<=1):cS Q o=none:=by
 unfold cS;split
 next ho=>simp[aA,ho] at hk
 rfl
theorem MB{Q:Program}{s s2:S}{o:Oper}{g:Option (Nat×Bool)}(hk:aA o<=1)(ha: ∀x∈o.op.operands.toList,s2.ev x=s.ev x)(hn:s2.n=s.n)
  (h:aA o=0\/ ∀x∈o.op.operands.toList,fQ s2.rg s.rg (s.eg g x)): ∃c:Option P,exec Q s o g=(c.bind λp=>s.put o.dst p)/\exec Q s2 o g=(c.bind λp=>s2.put o.dst p):=by
 unfold exec;cases hm:re o with
 |some r=>
  obtain⟨t,len,parts⟩:=r;obtain⟨ps,ho,rfl,_⟩:=uj hm;have e:ps.toList.map (λx=>(x.1,s2.eg g x.2))=ps.toList.map (λx=>(x.1,s.eg g x.2)):=zbP λx hx=>by have:s2.ev x.2=s.ev x.2:=ha _ (by rw[ho];simp[Op.operands];exact⟨_,by simpa using hx⟩);unfold S.eg;rw[this]
  simp only[e];cases Aq Q t len (ps.toList.map λx=>(x.1,s.eg g x.2)) with
  |none=>exact⟨none,rfl,rfl⟩
  |some p=>exact⟨some p,rfl,rfl⟩
 |none=>
 have Qb: ∀t l ps,o.op≠ .buildSlice t l ps:=λt l ps ho=>by
  have h0:Nat.beq o.type 4000000=false:=by
   cases hb:Nat.beq o.type 4000000 with
   |false=>rfl
   |true=>simp[re,ho,hb] at hm
  simp[aA,ho,h0] at hk
 simp only[];unfold jg;rw[pD hk];simp only[];rw[qbX ha hn h];cases pv Q s o g with
 |some p=>exact⟨some p,rfl,rfl⟩
 |none=>
  simp only[];unfold ef;split
  next ho=>first |exact absurd ho (Qb _ _ _)| (simp[aA,ho] at hk)
  next ho=>first |exact absurd ho (Qb _ _ _)| (simp[aA,ho] at hk)
  next ho=>first |exact absurd ho (Qb _ _ _)| (simp[aA,ho] at hk)
  next t1 t2 x ho=>
   have hx:x∈o.op.operands.toList:=by simp[ho,Op.operands]
   have e0:s2.eg g x=s.eg g x:=by unfold S.eg;rw[ha x hx]
   have e1:lW Q s2 t1 1 (s.eg g x)=lW Q s t1 1 (s.eg g x):=by
    have Kd:fQ s2.rg s.rg (s.eg g x):=by
     rcases h with h |h
     ·simp[aA,ho] at h
     exact h x hx
    have:lW Q (s.wr s2.rg) t1 1 (s.eg g x)=lW Q s t1 1 (s.eg g x):=Wq Q Kd;rw[<-this];rfl
   rw[e0,e1];split
   ·split
    ·split
     ·exact⟨some _,rfl,rfl⟩
     exact⟨none,rfl,rfl⟩
    exact⟨none,rfl,rfl⟩
   exact⟨none,rfl,rfl⟩
  next c ho=>
   split
   next hc=>simp[aA,ho,hc] at hk
   next hc=>simp[aA,ho,hc] at hk
   next hc=>simp[aA,ho,hc] at hk
   exact⟨none,rfl,rfl⟩
  next ho=>first |exact absurd ho (Qb _ _ _)| (simp[aA,ho] at hk)
  next ho=>first |exact absurd ho (Qb _ _ _)| (simp[aA,ho] at hk)
  next ho=>first |exact absurd ho (Qb _ _ _)| (simp[aA,ho] at hk)
  next ho=>first |exact absurd ho (Qb _ _ _)| (simp[aA,ho] at hk)
  next ho=>first |exact absurd ho (Qb _ _ _)| (simp[aA,ho] at hk)
  next ho=>first |exact absurd ho (Qb _ _ _)| (simp[aA,ho] at hk)
  next ho=>first |exact absurd ho (Qb _ _ _)| (simp[aA,ho] at hk)
  next ho=>first |exact absurd ho (Qb _ _ _)| (simp[aA,ho] at hk)
  exact⟨none,rfl,rfl⟩
theorem Qc{ops:List Oper}{o:Oper}{t:Nat}(h:Operand.tmp t∈o.op.operands.toList):t∈looks ops o:=
 zbe _ (zcB.2 ⟨_,h,by simp[O0]⟩)
theorem pF{ops:List Oper}{o:Oper}{t:Nat}{w:Bool}(h:bf ops o=some (some (t,w))):t∈looks ops o:=by
 unfold bf at h;unfold looks;refine zbk _ ?_;split at h
 ·cases h
 rename_i j want hg;split at h
 next oj hj=>
  split at h
  next t' ht=>simp at h;obtain⟨rfl,rfl⟩:=h;simp[hg,hj,ht]
  cases h
 cases h
theorem Is{ops:List Oper}{s s2:S}{o:Oper}(h: ∀t∈looks ops o,lk s2.tm t=lk s.tm t): ∀x∈o.op.operands.toList,s2.ev x=s.ev x:=by
 intro x hx;cases x with
 |tmp t=>show(lk s2.tm t).getD .bad=(lk s.tm t).getD .bad;rw[h t (Qc hx)]
 |_=>rfl
theorem pG{Q:Program}{cf:CF}{ops:List Oper}{s s2:S}{o:Oper}(hk:aA o<=1)(dw: ∀t∈looks ops o,lk s2.tm t=lk s.tm t)(hn:s2.n=s.n)
  (h:aA o=0\/ ∀g,bf ops o=some g-> ∀x∈o.op.operands.toList,fQ s2.rg s.rg (s.eg g x)):
  ∃c:Option P,bj Q cf ops s o=(c.bind λq=>s.put o.dst q)/\bj Q cf ops s2 o=(c.bind λq=>s2.put o.dst q):=by
 have ha:=Is dw;unfold bj;have act: ∀g,bf ops o=some g-> ∃c:Option P,ga Q cf s o g=(c.bind λq=>s.put o.dst q)/\ga Q cf s2 o g=(c.bind λq=>s2.put o.dst q):=by intro g hg;unfold ga;rw[vA hk];exact MB (Q:=Q) (s:=s) (s2:=s2) (g:=g) hk ha hn (h.imp id λh=>h g hg)
 cases hg:bf ops o with
 |none=>exact⟨none,rfl,rfl⟩
 |some g=>
  cases g with
  |none=>exact act none hg
  |some tw=>
   obtain⟨t,want⟩:=tw;simp only[];rw[dw t (pF hg)];split
   ·split
    ·exact act _ hg
    exact⟨some .skip,rfl,rfl⟩
   ·exact⟨some .skip,rfl,rfl⟩
   exact⟨none,rfl,rfl⟩
theorem EU{Q:Program}{cf:CF}{ops:List Oper}{s s2:S}{o:Oper}(oU: ∃t m k,o.op= .lookup t m k false)(dw: ∀t∈looks ops o,lk s2.tm t=lk s.tm t)(hn:s2.n=s.n)
  (h: ∀g,bf ops o=some g->pv Q (s.wr s2.rg) o g=pv Q s o g):
  ∃c:Option P,bj Q cf ops s o=(c.bind λq=>s.put o.dst q)/\bj Q cf ops s2 o=(c.bind λq=>s2.put o.dst q):=by
 obtain⟨lt,lm,lkk,ho⟩:=oU;have hk:aA o<=1:=by simp[aA,ho]
 have ha:=Is dw;have act: ∀g,bf ops o=some g-> ∃c:Option P,ga Q cf s o g=(c.bind λq=>s.put o.dst q)/\ga Q cf s2 o g=(c.bind λq=>s2.put o.dst q):=by
  intro g hg;unfold ga;rw[vA hk];have hm:re o=none:=by simp[re,ho]
  unfold exec;rw[hm];simp only[];unfold jg;rw[pD hk];have h1:Alike (s.wr s2.rg) s2 o.op.operands.toList:=⟨hn,rfl,ha⟩
  have e:=xG (Q:=Q) h1 g;simp only[];rw[e,h g hg];cases pv Q s o g with
  |some p=>exact⟨some p,rfl,rfl⟩
  |none=>exact⟨none,by simp[ef,ho],by simp[ef,ho]⟩
 unfold bj;cases hg:bf ops o with
 |none=>exact⟨none,rfl,rfl⟩
 |some g=>
  cases g with
  |none=>exact act none hg
  |some tw=>
   obtain⟨t,want⟩:=tw;simp only[];rw[dw t (pF hg)];split
   ·split
    ·exact act _ hg
    exact⟨some .skip,rfl,rfl⟩
   ·exact⟨some .skip,rfl,rfl⟩
   exact⟨none,rfl,rfl⟩
theorem rm{Q:Program}{cf:CF}{ops:List Oper}{s s2:S}{o:Oper}(dw: ∀t∈looks ops o,lk s2.tm t=lk s.tm t)(hn:s2.n=s.n)(hr:s2.rg=s.rg):
  ∃c,bj Q cf ops s o=fin s o.dst c/\bj Q cf ops s2 o=fin s2 o.dst c:=by
 have ha:Alike s s2 o.op.operands.toList:=⟨hn,hr,Is dw⟩
 unfold bj;cases hg:bf ops o with
 |none=>exact⟨none,rfl,rfl⟩
 |some g=>
  cases g with
  |none=>exact AX Q cf ha none
  |some tw=>
   obtain⟨t,want⟩:=tw;simp only[];rw[dw t (pF hg)];split
   ·split
    ·exact AX Q cf ha _
    exact⟨some (s.rg,.skip),rfl,by unfold fin;rw[<-hr]⟩
   ·exact⟨some (s.rg,.skip),rfl,by unfold fin;rw[<-hr]⟩
   exact⟨none,rfl,rfl⟩
theorem jZ{Q:Program}{cf:CF}{ops:List Oper}{s s1:S}{o:Oper}(hk:1<aA o)(h:bj Q cf ops s o=some s1){m:Nat}(hm: ¬wJ (bA Q ops s o).ws m):lk s1.rg m=lk s.rg m:=by
 unfold bj at h;unfold bA at hm;have hb:Nat.ble (aA o) 1=false:=by
  cases hx:Nat.ble (aA o) 1 with
  |false=>rfl
  |true=>rw[zb7] at hx;omega
 cases hg:bf ops o with
 |none=>simp[hg] at h
 |some g=>
  simp only[hg,hb,zaC,zbq] at hm;cases g with
  |none=>simp only[hg] at h;exact vz h hm
  |some tw=>
   obtain⟨t,want⟩:=tw;simp only[hg] at h;split at h
   ·split at h
    ·exact vz h hm
    rw[bq h]
   ·rw[bq h]
   cases h
end Pi
