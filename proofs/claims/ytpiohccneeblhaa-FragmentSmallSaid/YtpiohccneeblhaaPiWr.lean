/- The text PiWr. -/
import Derived.Test.YtpiohccneeblhaaPiLoc2
namespace Pi
open Go
def S.wr(s:S)(R:List (Nat×En)):S:=⟨s.n,s.tm,R⟩
def dG(R R':List (Nat×En))(p:P):Prop:= ∀n v,p.name=some (n,v)->lk R n=lk R' n
theorem fj{s:S}{R:List (Nat×En)}{n:Nat}(h:lk R n=lk s.rg n)(v:Nat):(s.wr R).obj n v=s.obj n v:=by unfold S.obj S.wr;simp only[h]
theorem cW{s:S}{R:List (Nat×En)}{n:Nat}(h:lk R n=lk s.rg n)(v:Nat):(s.wr R).live n v=s.live n v:=by unfold S.live;rw[fj h]
theorem uk{s:S}{R:List (Nat×En)}{p:P}(h:dG R s.rg p):gl (s.wr R) p=gl s p:=by
 cases p<;>simp only[gl]
 ·rw[cW (h _ _ rfl)]
 rw[cW (h _ _ rfl)]
theorem CW(Q:Program){s:S}{R:List (Nat×En)}{t:TypeId}{p:P}(h:dG R s.rg p):iJ Q (s.wr R) t p=iJ Q s t p:=by
 cases p<;>simp only[iJ]
 ·rw[fj (h _ _ rfl)]
 rw[fj (h _ _ rfl)]
theorem rK(Q:Program){s:S}{R:List (Nat×En)}{t:TypeId}{f:Nat}{p:P}(h:dG R s.rg p):fb Q (s.wr R) t f p=fb Q s t f p:=by
 unfold fb;split
 ·rfl
 cases p with
 |ref n v off=>simp only[cW (h n v rfl)]
 |bR n v i k off=>simp only[cW (h n v rfl)]
 |_=>rfl
theorem rL(Q:Program){s:S}{R:List (Nat×En)}{t:TypeId}{p i:P}(h:dG R s.rg p):dk Q (s.wr R) t p i=dk Q s t p i:=by
 unfold dk;split
 ·unfold j8;cases p with
  |ref n v off=>simp only[cW (h n v rfl)]
  |bR n v i k off=>simp only[cW (h n v rfl)]
  |_=>rfl
 split
 ·split
  ·cases p with
   |sl n v len=>simp only[fj (h n v rfl)]
   |hZ n v k off len=>simp only[fj (h n v rfl)]
   |d x=>cases x<;>rfl
   |_=>rfl
  rfl
 rfl
theorem CX(Q:Program){s:S}{R:List (Nat×En)}{t:TypeId}{p:P}{lo:Option P}(h:dG R s.rg p):jH Q (s.wr R) t p lo=jH Q s t p lo:=by
 unfold jH;split
 ·rw[fj (h _ _ rfl)]
 rfl
theorem wa(Q:Program){s:S}{R:List (Nat×En)}{t:TypeId}{p:P}{lo:Option P}(h:dG R s.rg p):dG R s.rg (jH Q s t p lo):=by
 unfold jH;split
 ·split
  ·split
   ·split
    ·intro n v hn;cases hn
    exact h
   exact h
  exact h
 exact h
theorem AG(Q:Program){s:S}{R:List (Nat×En)}{t:TypeId}{p:P}{lo hi:Option P}(h:dG R s.rg p):ix Q (s.wr R) t p lo hi=ix Q s t p lo hi:=by
 unfold ix;rw[CX Q h]
 replace h:=wa Q (t:=t) (lo:=lo) h
 generalize jH Q s t p lo=p at h;unfold oS;split
 ·rfl
 split
 ·cases p with
  |sl n v len=>simp only[fj (h n v rfl)]
  |hZ n v k off len=>simp only[fj (h n v rfl)]
  |d x=>cases x<;>rfl
  |_=>rfl
 rfl
theorem E6{s:S}{R:List (Nat×En)}{p:P}(h:dG R s.rg p):vg (s.wr R) p=vg s p:=by
 unfold vg;cases p with
 |sl n v len=>simp only[cW (h n v rfl)]
 |hZ n v k off len=>simp only[cW (h n v rfl)]
 |rf n v len=>simp only[cW (h n v rfl)]
 |d x=>cases x<;>rfl
 |_=>rfl
theorem AH{s:S}{R:List (Nat×En)}{p q:P}(h:dG R s.rg p)(h2:dG R s.rg q):nj (s.wr R) p q=nj s p q:=by
 unfold nj;cases p with
 |ref n v off=>cases q with
  |d x=>cases x<;>simp only[cW (h n v rfl)]
  |_=>rfl
 |bR n v i k off=>cases q with
  |d x=>cases x<;>simp only[cW (h n v rfl)]
  |_=>rfl
 |hd n v=>cases q with
  |d x=>cases x<;>simp only[cW (h n v rfl)]
  |_=>rfl
 |d x=>cases q with
  |ref n v off=>cases x<;>simp only[cW (h2 n v rfl)]
  |bR n v i k off=>cases x<;>simp only[cW (h2 n v rfl)]
  |hd n v=>cases x<;>simp only[cW (h2 n v rfl)]
  |d y=>cases x<;>cases y<;>rfl
  |_=>cases x<;>rfl
 |dg x off=>cases q with
  |d y=>cases y<;>rfl
  |_=>rfl
 |_=>cases q<;>rfl
theorem E7(Q:Program){s:S}{R:List (Nat×En)}{t2:TypeId}{k:Nat}{p:P}(h:dG R s.rg p):iz Q (s.wr R) t2 k p=iz Q s t2 k p:=by
 unfold iz;cases p with
 |sl n v len=>simp only[fj (h n v rfl)]
 |hZ n v k' off len=>simp only[fj (h n v rfl)]
 |d x=>cases x<;>rfl
 |_=>rfl
theorem yj(Q:Program){s:S}{R:List (Nat×En)}{t:TypeId}{p i:P}{ok:Bool}{z:D}(h:dG R s.rg p):ct Q (s.wr R) t p i ok z=ct Q s t p i ok z:=by
 unfold ct;split
 next n v k _=>rw[fj (h _ _ rfl)]
 ·rfl
 rfl
theorem AI{s:S}{R:List (Nat×En)}{p:P}(h:dG R s.rg p):j9 (s.wr R) p=j9 s p:=by
 unfold j9;split
 ·rw[fj (h _ _ rfl)]
 rfl
theorem E8{s:S}{R:List (Nat×En)}{p:P}(h:dG R s.rg p):vi (s.wr R) p=vi s p:=by cases p<;>simp only[vi];rw[fj (h _ _ rfl)]
theorem Gp{Q:Program}{s:S}{R:List (Nat×En)}{o:Oper}{g:Option (Nat×Bool)}(h:ar o=0\/ ∀x∈o.op.operands.toList,dG R s.rg (s.eg g x)):pv Q (s.wr R) o g=pv Q s o g:=by
 have eg: ∀x,(s.wr R).eg g x=s.eg g x:=λ_=>rfl;have ev: ∀x,(s.wr R).ev x=s.ev x:=λ_=>rfl;have mem: ∀{P':Prop},ar o≠0->(ar o=0\/P')->P':=λh1 h2=>h2.resolve_left h1;have PC:(s.wr R).eg g=s.eg g:=rfl;unfold pv;simp only[eg,PC];split
 ·rfl
 ·rfl
 ·rfl
 next x ho=>exact uk (mem (by simp[ar,ho]) h x (by simp[ho,Op.operands]))
 next op t x y yt ho=>have hm:=mem (by simp[ar,ho]) h;unfold jQ;rw[AH (hm x (by simp[ho,Op.operands])) (hm y (by simp[ho,Op.operands]))]
 ·rfl
 ·rfl
 next t x ho=>exact CW Q (mem (by simp[ar,ho]) h x (by simp[ho,Op.operands]))
 next t x f ho=>exact rK Q (mem (by simp[ar,ho]) h x (by simp[ho,Op.operands]))
 next t x i ho=>exact rL Q (mem (by simp[ar,ho]) h x (by simp[ho,Op.operands]))
 ·rfl
 ·rfl
 ·rfl
 next t x i ok ho=>have e: ∀z,ct Q (s.wr R) t (s.eg g x) (s.eg g i) ok z=ct Q s t (s.eg g x) (s.eg g i) ok z:=λz=>yj Q (mem (by simp[ar,ho]) h x (by simp[ho,Op.operands]));simp only[e]
 next x ho=>exact AI (mem (by simp[ar,ho]) h x (by simp[ho,Op.operands]))
 next t x lo hi ho=>rw[AG Q (mem (by simp[ar,ho]) h x (by simp[ho,Op.operands]))]
 ·rfl
 ·rfl
 next c ho=>
  split
  next hc=>
   split
   ·rename_i x bq;have hx:x∈o.op.operands.toList:=by
     have:x∈c.args.toList:=by rw[bq];simp
     simp only[ho,Op.operands,Call.operands];simp at this;simp[this]
    rw[E6 (mem (by simp[ar,ho,hc]) h x hx),E8 (mem (by simp[ar,ho,hc]) h x hx)]
   rfl
  ·rfl
  ·rfl
  rfl
 rfl
theorem Ho{Q:Program}{s s2:S}{o:Oper}{g:Option (Nat×Bool)}(ha: ∀x∈o.op.operands.toList,s2.ev x=s.ev x)(hn:s2.n=s.n)
  (h:ar o=0\/ ∀x∈o.op.operands.toList,dG s2.rg s.rg (s.eg g x)):pv Q s2 o g=pv Q s o g:=by
 have h1:Alike s (s.wt s2.tm) o.op.operands.toList:=⟨rfl,rfl,ha⟩
 have e:s2=(s.wt s2.tm).wr s2.rg:=by
  cases s2 with
  |mk n tm rg=>simp only at hn;subst hn;rfl
 rw[e];rw[Gp (s:=s.wt s2.tm)]
 ·exact qg h1 g
 rcases h with h |h
 ·exact .inl h
 refine .inr λx hx=> ?_;rw[h1.eg hx];exact h x hx
theorem nT{o:Oper}(hk:ar o<=1):dU o=none:=by
 unfold dU;split
 next c ho=>
  split
  next f hf=>simp[ar,ho,hf] at hk
  rfl
 rfl
theorem kK{Q:Program}{o:Oper}(hk:ar o<=1):bT Q o=none:=by
 unfold bT;split
 next ho=>simp[ar,ho] at hk
 rfl
theorem AJ{Q:Program}{s s2:S}{o:Oper}{g:Option (Nat×Bool)}(hk:ar o<=1)(ha: ∀x∈o.op.operands.toList,s2.ev x=s.ev x)(hn:s2.n=s.n)
  (h:ar o=0\/ ∀x∈o.op.operands.toList,dG s2.rg s.rg (s.eg g x)): ∃c:Option P,exec Q s o g=(c.bind λp=>s.put o.dst p)/\exec Q s2 o g=(c.bind λp=>s2.put o.dst p):=by
 unfold exec;cases hm:lN o with
 |some r=>
  obtain⟨t,len,parts⟩:=r;obtain⟨ps,ho,rfl,_⟩:=nv hm;have e:ps.toList.map (λx=>(x.1,s2.eg g x.2))=ps.toList.map (λx=>(x.1,s.eg g x.2)):=zbh λx hx=>by have:s2.ev x.2=s.ev x.2:=ha _ (by rw[ho];simp[Op.operands];exact⟨_,by simpa using hx⟩);unfold S.eg;rw[this]
  simp only[e];cases rY Q t len (ps.toList.map λx=>(x.1,s.eg g x.2)) with
  |none=>exact⟨none,rfl,rfl⟩
  |some p=>exact⟨some p,rfl,rfl⟩
 |none=>
 have AK: ∀t l ps,o.op≠ .buildSlice t l ps:=λt l ps ho=>by
  have h0:Nat.beq o.type 4000000=false:=by
   cases hb:Nat.beq o.type 4000000 with
   |false=>rfl
   |true=>simp[lN,ho,hb] at hm
  simp[ar,ho,h0] at hk
 simp only[];unfold fA;rw[kK hk];simp only[];rw[Ho ha hn h];cases pv Q s o g with
 |some p=>exact⟨some p,rfl,rfl⟩
 |none=>
  simp only[];unfold ef;split
  next ho=>first |exact absurd ho (AK _ _ _)| (simp[ar,ho] at hk)
  next ho=>first |exact absurd ho (AK _ _ _)| (simp[ar,ho] at hk)
  next ho=>first |exact absurd ho (AK _ _ _)| (simp[ar,ho] at hk)
  next t1 t2 x ho=>
   have hx:x∈o.op.operands.toList:=by simp[ho,Op.operands]
   have e0:s2.eg g x=s.eg g x:=by unfold S.eg;rw[ha x hx]
   have e1:iz Q s2 t1 1 (s.eg g x)=iz Q s t1 1 (s.eg g x):=by
    have yS:dG s2.rg s.rg (s.eg g x):=by
     rcases h with h |h
     ·simp[ar,ho] at h
     exact h x hx
    have:iz Q (s.wr s2.rg) t1 1 (s.eg g x)=iz Q s t1 1 (s.eg g x):=E7 Q yS;rw[<-this];rfl
   rw[e0,e1];split
   ·split
    ·split
     ·exact⟨some _,rfl,rfl⟩
     exact⟨none,rfl,rfl⟩
    exact⟨none,rfl,rfl⟩
   exact⟨none,rfl,rfl⟩
  next c ho=>
   split
   next hc=>simp[ar,ho,hc] at hk
   next hc=>simp[ar,ho,hc] at hk
   next hc=>simp[ar,ho,hc] at hk
   next hc=>simp[ar,ho,hc] at hk
   exact⟨none,rfl,rfl⟩
  next ho=>first |exact absurd ho (AK _ _ _)| (simp[ar,ho] at hk)
  next ho=>first |exact absurd ho (AK _ _ _)| (simp[ar,ho] at hk)
  next ho=>first |exact absurd ho (AK _ _ _)| (simp[ar,ho] at hk)
  next ho=>first |exact absurd ho (AK _ _ _)| (simp[ar,ho] at hk)
  next ho=>first |exact absurd ho (AK _ _ _)| (simp[ar,ho] at hk)
  next ho=>first |exact absurd ho (AK _ _ _)| (simp[ar,ho] at hk)
  next ho=>first |exact absurd ho (AK _ _ _)| (simp[ar,ho] at hk)
  next ho=>first |exact absurd ho (AK _ _ _)| (simp[ar,ho] at hk)
  exact⟨none,rfl,rfl⟩
theorem CY{ops:List Oper}{o:Oper}{t:Nat}(h:Operand.tmp t∈o.op.operands.toList):t∈looks ops o:=
 List.mem_append_left _ (zbj.2 ⟨_,h,by simp[BN]⟩)
theorem kL{ops:List Oper}{o:Oper}{t:Nat}{w:Bool}(h:aG ops o=some (some (t,w))):t∈looks ops o:=by
 unfold aG at h;unfold looks;refine List.mem_append_right _ ?_;split at h
 ·cases h
 rename_i j want hg;split at h
 next oj hj=>
  split at h
  next t' ht=>simp at h;obtain⟨rfl,rfl⟩:=h;simp[hg,hj,ht]
  cases h
 cases h
theorem yl{ops:List Oper}{s s2:S}{o:Oper}(h: ∀t∈looks ops o,lk s2.tm t=lk s.tm t): ∀x∈o.op.operands.toList,s2.ev x=s.ev x:=by
 intro x hx;cases x with
 |tmp t=>show(lk s2.tm t).getD .bad=(lk s.tm t).getD .bad;rw[h t (CY hx)]
 |_=>rfl
theorem kM{Q:Program}{cf:CF}{ops:List Oper}{s s2:S}{o:Oper}(hk:ar o<=1)(bN: ∀t∈looks ops o,lk s2.tm t=lk s.tm t)(hn:s2.n=s.n)
  (h:ar o=0\/ ∀g,aG ops o=some g-> ∀x∈o.op.operands.toList,dG s2.rg s.rg (s.eg g x)):
  ∃c:Option P,aM Q cf ops s o=(c.bind λq=>s.put o.dst q)/\aM Q cf ops s2 o=(c.bind λq=>s2.put o.dst q):=by
 have ha:=yl bN;unfold aM;have act: ∀g,aG ops o=some g-> ∃c:Option P,dL Q cf s o g=(c.bind λq=>s.put o.dst q)/\dL Q cf s2 o g=(c.bind λq=>s2.put o.dst q):=by intro g hg;unfold dL;rw[nT hk];exact AJ (Q:=Q) (s:=s) (s2:=s2) (g:=g) hk ha hn (h.imp id λh=>h g hg)
 cases hg:aG ops o with
 |none=>exact⟨none,rfl,rfl⟩
 |some g=>
  cases g with
  |none=>exact act none hg
  |some tw=>
   obtain⟨t,want⟩:=tw;simp only[];rw[bN t (kL hg)];split
   ·split
    ·exact act _ hg
    exact⟨some .skip,rfl,rfl⟩
   ·exact⟨some .skip,rfl,rfl⟩
   exact⟨none,rfl,rfl⟩
theorem wb{Q:Program}{cf:CF}{ops:List Oper}{s s2:S}{o:Oper}(jZ: ∃t m k,o.op= .lookup t m k false)(bN: ∀t∈looks ops o,lk s2.tm t=lk s.tm t)(hn:s2.n=s.n)
  (h: ∀g,aG ops o=some g->pv Q (s.wr s2.rg) o g=pv Q s o g):
  ∃c:Option P,aM Q cf ops s o=(c.bind λq=>s.put o.dst q)/\aM Q cf ops s2 o=(c.bind λq=>s2.put o.dst q):=by
 obtain⟨lt,lm,QX,ho⟩:=jZ;have hk:ar o<=1:=by simp[ar,ho]
 have ha:=yl bN;have act: ∀g,aG ops o=some g-> ∃c:Option P,dL Q cf s o g=(c.bind λq=>s.put o.dst q)/\dL Q cf s2 o g=(c.bind λq=>s2.put o.dst q):=by
  intro g hg;unfold dL;rw[nT hk];have hm:lN o=none:=by simp[lN,ho]
  unfold exec;rw[hm];simp only[];unfold fA;rw[kK hk];have h1:Alike (s.wr s2.rg) s2 o.op.operands.toList:=⟨hn,rfl,ha⟩
  have e:=qg (Q:=Q) h1 g;simp only[];rw[e,h g hg];cases pv Q s o g with
  |some p=>exact⟨some p,rfl,rfl⟩
  |none=>exact⟨none,by simp[ef,ho],by simp[ef,ho]⟩
 unfold aM;cases hg:aG ops o with
 |none=>exact⟨none,rfl,rfl⟩
 |some g=>
  cases g with
  |none=>exact act none hg
  |some tw=>
   obtain⟨t,want⟩:=tw;simp only[];rw[bN t (kL hg)];split
   ·split
    ·exact act _ hg
    exact⟨some .skip,rfl,rfl⟩
   ·exact⟨some .skip,rfl,rfl⟩
   exact⟨none,rfl,rfl⟩
theorem lV{Q:Program}{cf:CF}{ops:List Oper}{s s2:S}{o:Oper}(bN: ∀t∈looks ops o,lk s2.tm t=lk s.tm t)(hn:s2.n=s.n)(hr:s2.rg=s.rg):
  ∃c,aM Q cf ops s o=fin s o.dst c/\aM Q cf ops s2 o=fin s2 o.dst c:=by
 have ha:Alike s s2 o.op.operands.toList:=⟨hn,hr,yl bN⟩
 unfold aM;cases hg:aG ops o with
 |none=>exact⟨none,rfl,rfl⟩
 |some g=>
  cases g with
  |none=>exact sC Q cf ha none
  |some tw=>
   obtain⟨t,want⟩:=tw;simp only[];rw[bN t (kL hg)];split
   ·split
    ·exact sC Q cf ha _
    exact⟨some (s.rg,.skip),rfl,by unfold fin;rw[<-hr]⟩
   ·exact⟨some (s.rg,.skip),rfl,by unfold fin;rw[<-hr]⟩
   exact⟨none,rfl,rfl⟩
theorem gh{Q:Program}{cf:CF}{ops:List Oper}{s s1:S}{o:Oper}(hk:1<ar o)(h:aM Q cf ops s o=some s1){m:Nat}(hm: ¬o6 (aQ Q ops s o).ws m):lk s1.rg m=lk s.rg m:=by
 unfold aM at h;unfold aQ at hm;have hb:Nat.ble (ar o) 1=false:=by
  cases hx:Nat.ble (ar o) 1 with
  |false=>rfl
  |true=>rw[zbd] at hx;omega
 cases hg:aG ops o with
 |none=>simp[hg] at h
 |some g=>
  simp only[hg,hb,zar,za3] at hm;cases g with
  |none=>simp only[hg] at h;exact nS h hm
  |some tw=>
   obtain⟨t,want⟩:=tw;simp only[hg] at h;split at h
   ·split at h
    ·exact nS h hm
    rw[aE h]
   ·rw[aE h]
   cases h
end Pi
