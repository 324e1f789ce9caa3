/- The text PiWr. -/
import Derived.Test.YtfelfooeclnbiaaPiLoc2
namespace Pi
open Go
def S.wr(s:S)(R:List (Nat×En)):S:=⟨s.n,s.tm,R⟩
def cE(R R':List (Nat×En))(p:P):Prop:= ∀n v,p.name=some (n,v)->lk R n=lk R' n
theorem dy{s:S}{R:List (Nat×En)}{n:Nat}(h:lk R n=lk s.rg n)(v:Nat):(s.wr R).obj n v=s.obj n v:=by unfold S.obj S.wr;simp only[h]
theorem cM{s:S}{R:List (Nat×En)}{n:Nat}(h:lk R n=lk s.rg n)(v:Nat):(s.wr R).live n v=s.live n v:=by unfold S.live;rw[dy h]
theorem pP{s:S}{R:List (Nat×En)}{p:P}(h:cE R s.rg p):ew (s.wr R) p=ew s p:=by
 cases p<;>simp only[ew]
 ·rw[cM (h _ _ rfl)]
 rw[cM (h _ _ rfl)]
theorem xo(Q:Program){s:S}{R:List (Nat×En)}{t:TypeId}{p:P}(h:cE R s.rg p):iY Q (s.wr R) t p=iY Q s t p:=by
 cases p<;>simp only[iY]
 ·rw[dy (h _ _ rfl)]
 rw[dy (h _ _ rfl)]
theorem nW(Q:Program){s:S}{R:List (Nat×En)}{t:TypeId}{f:Nat}{p:P}(h:cE R s.rg p):dt Q (s.wr R) t f p=dt Q s t f p:=by
 unfold dt;split
 ·rfl
 cases p with
 |ref n v off=>simp only[cM (h n v rfl)]
 |bG n v i k off=>simp only[cM (h n v rfl)]
 |_=>rfl
theorem nX(Q:Program){s:S}{R:List (Nat×En)}{t:TypeId}{p i:P}(h:cE R s.rg p):cq Q (s.wr R) t p i=cq Q s t p i:=by
 unfold cq;split
 ·unfold gN;cases p with
  |ref n v off=>simp only[cM (h n v rfl)]
  |bG n v i k off=>simp only[cM (h n v rfl)]
  |_=>rfl
 split
 ·split
  ·cases p with
   |sl n v len=>simp only[dy (h n v rfl)]
   |eZ n v k off len=>simp only[dy (h n v rfl)]
   |d x=>cases x<;>rfl
   |_=>rfl
  rfl
 rfl
theorem xp(Q:Program){s:S}{R:List (Nat×En)}{t:TypeId}{p:P}{lo:Option P}(h:cE R s.rg p):gu Q (s.wr R) t p lo=gu Q s t p lo:=by
 unfold gu;split
 ·rw[dy (h _ _ rfl)]
 rfl
theorem qT(Q:Program){s:S}{R:List (Nat×En)}{t:TypeId}{p:P}{lo:Option P}(h:cE R s.rg p):cE R s.rg (gu Q s t p lo):=by
 unfold gu;split
 ·split
  ·split
   ·split
    ·intro n v hn;cases hn
    exact h
   exact h
  exact h
 exact h
theorem uX(Q:Program){s:S}{R:List (Nat×En)}{t:TypeId}{p:P}{lo hi:Option P}(h:cE R s.rg p):fh Q (s.wr R) t p lo hi=fh Q s t p lo hi:=by
 unfold fh;rw[xp Q h]
 replace h:=qT Q (t:=t) (lo:=lo) h
 generalize gu Q s t p lo=p at h;unfold lT;split
 ·rfl
 split
 ·cases p with
  |sl n v len=>simp only[dy (h n v rfl)]
  |eZ n v k off len=>simp only[dy (h n v rfl)]
  |d x=>cases x<;>rfl
  |_=>rfl
 rfl
theorem ze{s:S}{R:List (Nat×En)}{p:P}(h:cE R s.rg p):qf (s.wr R) p=qf s p:=by
 unfold qf;cases p with
 |sl n v len=>simp only[cM (h n v rfl)]
 |eZ n v k off len=>simp only[cM (h n v rfl)]
 |d x=>cases x<;>rfl
 |_=>rfl
theorem uY{s:S}{R:List (Nat×En)}{p q:P}(h:cE R s.rg p)(h2:cE R s.rg q):kr (s.wr R) p q=kr s p q:=by
 unfold kr;cases p with
 |ref n v off=>cases q with
  |d x=>cases x<;>simp only[cM (h n v rfl)]
  |_=>rfl
 |bG n v i k off=>cases q with
  |d x=>cases x<;>simp only[cM (h n v rfl)]
  |_=>rfl
 |d x=>cases q with
  |ref n v off=>cases x<;>simp only[cM (h2 n v rfl)]
  |bG n v i k off=>cases x<;>simp only[cM (h2 n v rfl)]
  |d y=>cases x<;>cases y<;>rfl
  |_=>cases x<;>rfl
 |cl x off=>cases q with
  |d y=>cases y<;>rfl
  |_=>rfl
 |_=>cases q<;>rfl
theorem zf(Q:Program){s:S}{R:List (Nat×En)}{t2:TypeId}{k:Nat}{p:P}(h:cE R s.rg p):fi Q (s.wr R) t2 k p=fi Q s t2 k p:=by
 unfold fi;cases p with
 |sl n v len=>simp only[dy (h n v rfl)]
 |eZ n v k' off len=>simp only[dy (h n v rfl)]
 |d x=>cases x<;>rfl
 |_=>rfl
theorem sL(Q:Program){s:S}{R:List (Nat×En)}{t:TypeId}{p i:P}{ok:Bool}{z:D}(h:cE R s.rg p):bL Q (s.wr R) t p i ok z=bL Q s t p i ok z:=by
 unfold bL;split
 next n v k _=>rw[dy (h _ _ rfl)]
 ·rfl
 rfl
theorem uZ{s:S}{R:List (Nat×En)}{p:P}(h:cE R s.rg p):gO (s.wr R) p=gO s p:=by
 unfold gO;split
 ·rw[dy (h _ _ rfl)]
 rfl
theorem zg{s:S}{R:List (Nat×En)}{p:P}(h:cE R s.rg p):qg (s.wr R) p=qg s p:=by cases p<;>simp only[qg];rw[dy (h _ _ rfl)]
theorem Ag{Q:Program}{s:S}{R:List (Nat×En)}{o:Oper}{g:Option (Nat×Bool)}(h:ak o=0\/ ∀x∈o.op.operands.toList,cE R s.rg (s.eg g x)):pv Q (s.wr R) o g=pv Q s o g:=by
 have eg: ∀x,(s.wr R).eg g x=s.eg g x:=λ_=>rfl;have ev: ∀x,(s.wr R).ev x=s.ev x:=λ_=>rfl;have mem: ∀{P':Prop},ak o≠0->(ak o=0\/P')->P':=λh1 h2=>h2.resolve_left h1;have Ho:(s.wr R).eg g=s.eg g:=rfl;unfold pv;simp only[eg,Ho];split
 ·rfl
 ·rfl
 ·rfl
 next x ho=>exact pP (mem (by simp[ak,ho]) h x (by simp[ho,Op.operands]))
 next op t x y yt ho=>have hm:=mem (by simp[ak,ho]) h;unfold gD;rw[uY (hm x (by simp[ho,Op.operands])) (hm y (by simp[ho,Op.operands]))]
 ·rfl
 ·rfl
 next t x ho=>exact xo Q (mem (by simp[ak,ho]) h x (by simp[ho,Op.operands]))
 next t x f ho=>exact nW Q (mem (by simp[ak,ho]) h x (by simp[ho,Op.operands]))
 next t x i ho=>exact nX Q (mem (by simp[ak,ho]) h x (by simp[ho,Op.operands]))
 ·rfl
 ·rfl
 ·rfl
 next t x i ok ho=>have e: ∀z,bL Q (s.wr R) t (s.eg g x) (s.eg g i) ok z=bL Q s t (s.eg g x) (s.eg g i) ok z:=λz=>sL Q (mem (by simp[ak,ho]) h x (by simp[ho,Op.operands]));simp only[e]
 next x ho=>exact uZ (mem (by simp[ak,ho]) h x (by simp[ho,Op.operands]))
 next t x lo hi ho=>rw[uX Q (mem (by simp[ak,ho]) h x (by simp[ho,Op.operands]))]
 ·rfl
 ·rfl
 next c ho=>
  split
  next hc=>
   split
   ·rename_i x bt;have hx:x∈o.op.operands.toList:=by
     have:x∈c.args.toList:=by rw[bt];simp
     simp only[ho,Op.operands,Call.operands];simp at this;simp[this]
    rw[ze (mem (by simp[ak,ho,hc]) h x hx),zg (mem (by simp[ak,ho,hc]) h x hx)]
   rfl
  ·rfl
  ·rfl
  rfl
 rfl
theorem A1{Q:Program}{s s2:S}{o:Oper}{g:Option (Nat×Bool)}(ha: ∀x∈o.op.operands.toList,s2.ev x=s.ev x)(hn:s2.n=s.n)
  (h:ak o=0\/ ∀x∈o.op.operands.toList,cE s2.rg s.rg (s.eg g x)):pv Q s2 o g=pv Q s o g:=by
 have h1:Alike s (s.wt s2.tm) o.op.operands.toList:=⟨rfl,rfl,ha⟩
 have e:s2=(s.wt s2.tm).wr s2.rg:=by
  cases s2 with
  |mk n tm rg=>simp only at hn;subst hn;rfl
 rw[e];rw[Ag (s:=s.wt s2.tm)]
 ·exact mN h1 g
 rcases h with h |h
 ·exact .inl h
 refine .inr λx hx=> ?_;rw[h1.eg hx];exact h x hx
theorem lq{o:Oper}(hk:ak o<=1):eJ o=none:=by
 unfold eJ;split
 next c ho=>
  split
  next f hf=>simp[ak,ho,hf] at hk
  rfl
 rfl
theorem ic{Q:Program}{o:Oper}(hk:ak o<=1):bm Q o=none:=by
 unfold bm;split
 next ho=>simp[ak,ho] at hk
 rfl
theorem u0{Q:Program}{s s2:S}{o:Oper}{g:Option (Nat×Bool)}(hk:ak o<=1)(ha: ∀x∈o.op.operands.toList,s2.ev x=s.ev x)(hn:s2.n=s.n)
  (h:ak o=0\/ ∀x∈o.op.operands.toList,cE s2.rg s.rg (s.eg g x)): ∃c:Option P,exec Q s o g=(c.bind λp=>s.put o.dst p)/\exec Q s2 o g=(c.bind λp=>s2.put o.dst p):=by
 unfold exec;cases hm:jl o with
 |some r=>
  obtain⟨t,len,parts⟩:=r;obtain⟨ps,ho,rfl,_⟩:=kH hm;have e:ps.toList.map (λx=>(x.1,s2.eg g x.2))=ps.toList.map (λx=>(x.1,s.eg g x.2)):=za9 λx hx=>by have:s2.ev x.2=s.ev x.2:=ha _ (by rw[ho];simp[Op.operands];exact⟨_,by simpa using hx⟩);unfold S.eg;rw[this]
  simp only[e];cases n5 Q t len (ps.toList.map λx=>(x.1,s.eg g x.2)) with
  |none=>exact⟨none,rfl,rfl⟩
  |some p=>exact⟨some p,rfl,rfl⟩
 |none=>
 have xq: ∀t l ps,o.op≠ .buildSlice t l ps:=λt l ps ho=>by
  have h0:Nat.beq o.type 4000000=false:=by
   cases hb:Nat.beq o.type 4000000 with
   |false=>rfl
   |true=>simp[jl,ho,hb] at hm
  simp[ak,ho,h0] at hk
 simp only[];unfold dL;rw[ic hk];simp only[];rw[A1 ha hn h];cases pv Q s o g with
 |some p=>exact⟨some p,rfl,rfl⟩
 |none=>
  simp only[];unfold ef;split
  next ho=>first |exact absurd ho (xq _ _ _)| (simp[ak,ho] at hk)
  next ho=>first |exact absurd ho (xq _ _ _)| (simp[ak,ho] at hk)
  next ho=>first |exact absurd ho (xq _ _ _)| (simp[ak,ho] at hk)
  next t1 t2 x ho=>
   have hx:x∈o.op.operands.toList:=by simp[ho,Op.operands]
   have e0:s2.eg g x=s.eg g x:=by unfold S.eg;rw[ha x hx]
   have e1:fi Q s2 t1 1 (s.eg g x)=fi Q s t1 1 (s.eg g x):=by
    have tn:cE s2.rg s.rg (s.eg g x):=by
     rcases h with h |h
     ·simp[ak,ho] at h
     exact h x hx
    have:fi Q (s.wr s2.rg) t1 1 (s.eg g x)=fi Q s t1 1 (s.eg g x):=zf Q tn;rw[<-this];rfl
   rw[e0,e1];split
   ·split
    ·split
     ·exact⟨some _,rfl,rfl⟩
     exact⟨none,rfl,rfl⟩
    exact⟨none,rfl,rfl⟩
   exact⟨none,rfl,rfl⟩
  next c ho=>
   split
   next hc=>simp[ak,ho,hc] at hk
   next hc=>simp[ak,ho,hc] at hk
   next hc=>simp[ak,ho,hc] at hk
   next hc=>simp[ak,ho,hc] at hk
   exact⟨none,rfl,rfl⟩
  next ho=>first |exact absurd ho (xq _ _ _)| (simp[ak,ho] at hk)
  next ho=>first |exact absurd ho (xq _ _ _)| (simp[ak,ho] at hk)
  next ho=>first |exact absurd ho (xq _ _ _)| (simp[ak,ho] at hk)
  next ho=>first |exact absurd ho (xq _ _ _)| (simp[ak,ho] at hk)
  next ho=>first |exact absurd ho (xq _ _ _)| (simp[ak,ho] at hk)
  next ho=>first |exact absurd ho (xq _ _ _)| (simp[ak,ho] at hk)
  next ho=>first |exact absurd ho (xq _ _ _)| (simp[ak,ho] at hk)
  next ho=>first |exact absurd ho (xq _ _ _)| (simp[ak,ho] at hk)
  exact⟨none,rfl,rfl⟩
theorem xr{ops:List Oper}{o:Oper}{t:Nat}(h:Operand.tmp t∈o.op.operands.toList):t∈looks ops o:=
 List.mem_append_left _ (List.mem_flatMap.2 ⟨_,h,by simp[vX]⟩)
theorem ie{ops:List Oper}{o:Oper}{t:Nat}{w:Bool}(h:aA ops o=some (some (t,w))):t∈looks ops o:=by
 unfold aA at h;unfold looks;refine List.mem_append_right _ ?_;split at h
 ·cases h
 rename_i j want hg;split at h
 next oj hj=>
  split at h
  next t' ht=>simp at h;obtain⟨rfl,rfl⟩:=h;simp[hg,hj,ht]
  cases h
 cases h
theorem sM{ops:List Oper}{s s2:S}{o:Oper}(h: ∀t∈looks ops o,lk s2.tm t=lk s.tm t): ∀x∈o.op.operands.toList,s2.ev x=s.ev x:=by
 intro x hx;cases x with
 |tmp t=>show(lk s2.tm t).getD .bad=(lk s.tm t).getD .bad;rw[h t (xr hx)]
 |_=>rfl
theorem ig{Q:Program}{cf:CF}{ops:List Oper}{s s2:S}{o:Oper}(hk:ak o<=1)(bP: ∀t∈looks ops o,lk s2.tm t=lk s.tm t)(hn:s2.n=s.n)
  (h:ak o=0\/ ∀g,aA ops o=some g-> ∀x∈o.op.operands.toList,cE s2.rg s.rg (s.eg g x)):
  ∃c:Option P,aE Q cf ops s o=(c.bind λq=>s.put o.dst q)/\aE Q cf ops s2 o=(c.bind λq=>s2.put o.dst q):=by
 have ha:=sM bP;unfold aE;have act: ∀g,aA ops o=some g-> ∃c:Option P,cG Q cf s o g=(c.bind λq=>s.put o.dst q)/\cG Q cf s2 o g=(c.bind λq=>s2.put o.dst q):=by intro g hg;unfold cG;rw[lq hk];exact u0 (Q:=Q) (s:=s) (s2:=s2) (g:=g) hk ha hn (h.imp id λh=>h g hg)
 cases hg:aA ops o with
 |none=>exact⟨none,rfl,rfl⟩
 |some g=>
  cases g with
  |none=>exact act none hg
  |some tw=>
   obtain⟨t,want⟩:=tw;simp only[];rw[bP t (ie hg)];split
   ·split
    ·exact act _ hg
    exact⟨some .skip,rfl,rfl⟩
   ·exact⟨some .skip,rfl,rfl⟩
   exact⟨none,rfl,rfl⟩
theorem qU{Q:Program}{cf:CF}{ops:List Oper}{s s2:S}{o:Oper}(gM: ∃t m k,o.op= .lookup t m k false)(bP: ∀t∈looks ops o,lk s2.tm t=lk s.tm t)(hn:s2.n=s.n)
  (h: ∀g,aA ops o=some g->pv Q (s.wr s2.rg) o g=pv Q s o g):
  ∃c:Option P,aE Q cf ops s o=(c.bind λq=>s.put o.dst q)/\aE Q cf ops s2 o=(c.bind λq=>s2.put o.dst q):=by
 obtain⟨lt,lm,Ib,ho⟩:=gM;have hk:ak o<=1:=by simp[ak,ho]
 have ha:=sM bP;have act: ∀g,aA ops o=some g-> ∃c:Option P,cG Q cf s o g=(c.bind λq=>s.put o.dst q)/\cG Q cf s2 o g=(c.bind λq=>s2.put o.dst q):=by
  intro g hg;unfold cG;rw[lq hk];have hm:jl o=none:=by simp[jl,ho]
  unfold exec;rw[hm];simp only[];unfold dL;rw[ic hk];have h1:Alike (s.wr s2.rg) s2 o.op.operands.toList:=⟨hn,rfl,ha⟩
  have e:=mN (Q:=Q) h1 g;simp only[];rw[e,h g hg];cases pv Q s o g with
  |some p=>exact⟨some p,rfl,rfl⟩
  |none=>exact⟨none,by simp[ef,ho],by simp[ef,ho]⟩
 unfold aE;cases hg:aA ops o with
 |none=>exact⟨none,rfl,rfl⟩
 |some g=>
  cases g with
  |none=>exact act none hg
  |some tw=>
   obtain⟨t,want⟩:=tw;simp only[];rw[bP t (ie hg)];split
   ·split
    ·exact act _ hg
    exact⟨some .skip,rfl,rfl⟩
   ·exact⟨some .skip,rfl,rfl⟩
   exact⟨none,rfl,rfl⟩
theorem jy{Q:Program}{cf:CF}{ops:List Oper}{s s2:S}{o:Oper}(bP: ∀t∈looks ops o,lk s2.tm t=lk s.tm t)(hn:s2.n=s.n)(hr:s2.rg=s.rg):
  ∃c,aE Q cf ops s o=fin s o.dst c/\aE Q cf ops s2 o=fin s2 o.dst c:=by
 have ha:Alike s s2 o.op.operands.toList:=⟨hn,hr,sM bP⟩
 unfold aE;cases hg:aA ops o with
 |none=>exact⟨none,rfl,rfl⟩
 |some g=>
  cases g with
  |none=>exact oG Q cf ha none
  |some tw=>
   obtain⟨t,want⟩:=tw;simp only[];rw[bP t (ie hg)];split
   ·split
    ·exact oG Q cf ha _
    exact⟨some (s.rg,.skip),rfl,by unfold fin;rw[<-hr]⟩
   ·exact⟨some (s.rg,.skip),rfl,by unfold fin;rw[<-hr]⟩
   exact⟨none,rfl,rfl⟩
theorem eu{Q:Program}{cf:CF}{ops:List Oper}{s s1:S}{o:Oper}(hk:1<ak o)(h:aE Q cf ops s o=some s1){m:Nat}(hm: ¬l5 (aL Q ops s o).ws m):lk s1.rg m=lk s.rg m:=by
 unfold aE at h;unfold aL at hm;have hb:Nat.ble (ak o) 1=false:=by
  cases hx:Nat.ble (ak o) 1 with
  |false=>rfl
  |true=>rw[zbl] at hx;omega
 cases hg:aA ops o with
 |none=>simp[hg] at h
 |some g=>
  simp only[hg,hb,zaz,zbe] at hm;cases g with
  |none=>simp only[hg] at h;exact lp h hm
  |some tw=>
   obtain⟨t,want⟩:=tw;simp only[hg] at h;split at h
   ·split at h
    ·exact lp h hm
    rw[aB h]
   ·rw[aB h]
   cases h
end Pi
