/- The text PiWr. -/
import Derived.Test.YtfelfooeclnbiaaPiLoc2
namespace Pi
open Go
def S.wr(s:S)(R:List (Nat×En)):S:=⟨s.n,s.tm,R⟩
def cp(R R':List (Nat×En))(p:P):Prop:= ∀n v,p.name=some (n,v)->lk R n=lk R' n
theorem dn{s:S}{R:List (Nat×En)}{n:Nat}(h:lk R n=lk s.rg n)(v:Nat):(s.wr R).obj n v=s.obj n v:=by unfold S.obj S.wr;simp only[h]
theorem cz{s:S}{R:List (Nat×En)}{n:Nat}(h:lk R n=lk s.rg n)(v:Nat):(s.wr R).live n v=s.live n v:=by unfold S.live;rw[dn h]
theorem oU{s:S}{R:List (Nat×En)}{p:P}(h:cp R s.rg p):dY (s.wr R) p=dY s p:=by
 cases p<;>simp only[dY]
 ·rw[cz (h _ _ rfl)]
 rw[cz (h _ _ rfl)]
theorem vU(Q:Program){s:S}{R:List (Nat×En)}{t:TypeId}{p:P}(h:cp R s.rg p):iu Q (s.wr R) t p=iu Q s t p:=by
 cases p<;>simp only[iu]
 ·rw[dn (h _ _ rfl)]
 rw[dn (h _ _ rfl)]
theorem nc(Q:Program){s:S}{R:List (Nat×En)}{t:TypeId}{f:Nat}{p:P}(h:cp R s.rg p):da Q (s.wr R) t f p=da Q s t f p:=by
 unfold da;split
 ·rfl
 cases p with
 |ref n v off=>simp only[cz (h n v rfl)]
 |bs n v i k off=>simp only[cz (h n v rfl)]
 |_=>rfl
theorem nf(Q:Program){s:S}{R:List (Nat×En)}{t:TypeId}{p i:P}(h:cp R s.rg p):bX Q (s.wr R) t p i=bX Q s t p i:=by
 unfold bX;split
 ·unfold gu;cases p with
  |ref n v off=>simp only[cz (h n v rfl)]
  |bs n v i k off=>simp only[cz (h n v rfl)]
  |_=>rfl
 split
 ·split
  ·cases p with
   |sl n v len=>simp only[dn (h n v rfl)]
   |eL n v k off len=>simp only[dn (h n v rfl)]
   |d x=>cases x<;>rfl
   |_=>rfl
  rfl
 rfl
theorem vV(Q:Program){s:S}{R:List (Nat×En)}{t:TypeId}{p:P}{lo:Option P}(h:cp R s.rg p):fX Q (s.wr R) t p lo=fX Q s t p lo:=by
 unfold fX;split
 ·rw[dn (h _ _ rfl)]
 rfl
theorem p6(Q:Program){s:S}{R:List (Nat×En)}{t:TypeId}{p:P}{lo:Option P}(h:cp R s.rg p):cp R s.rg (fX Q s t p lo):=by
 unfold fX;split
 ·split
  ·split
   ·split
    ·intro n v hn;cases hn
    exact h
   exact h
  exact h
 exact h
theorem tI(Q:Program){s:S}{R:List (Nat×En)}{t:TypeId}{p:P}{lo hi:Option P}(h:cp R s.rg p):eV Q (s.wr R) t p lo hi=eV Q s t p lo hi:=by
 unfold eV;rw[vV Q h]
 replace h:=p6 Q (t:=t) (lo:=lo) h
 generalize fX Q s t p lo=p at h;unfold lg;split
 ·rfl
 split
 ·cases p with
  |sl n v len=>simp only[dn (h n v rfl)]
  |eL n v k off len=>simp only[dn (h n v rfl)]
  |d x=>cases x<;>rfl
  |_=>rfl
 rfl
theorem xw{s:S}{R:List (Nat×En)}{p:P}(h:cp R s.rg p):pk (s.wr R) p=pk s p:=by
 unfold pk;cases p with
 |sl n v len=>simp only[cz (h n v rfl)]
 |eL n v k off len=>simp only[cz (h n v rfl)]
 |d x=>cases x<;>rfl
 |_=>rfl
theorem tJ{s:S}{R:List (Nat×En)}{p q:P}(h:cp R s.rg p)(h2:cp R s.rg q):jL (s.wr R) p q=jL s p q:=by
 unfold jL;cases p with
 |ref n v off=>cases q with
  |d x=>cases x<;>simp only[cz (h n v rfl)]
  |_=>rfl
 |bs n v i k off=>cases q with
  |d x=>cases x<;>simp only[cz (h n v rfl)]
  |_=>rfl
 |d x=>cases q with
  |ref n v off=>cases x<;>simp only[cz (h2 n v rfl)]
  |bs n v i k off=>cases x<;>simp only[cz (h2 n v rfl)]
  |d y=>cases x<;>cases y<;>rfl
  |_=>cases x<;>rfl
 |bT x off=>cases q with
  |d y=>cases y<;>rfl
  |_=>rfl
 |_=>cases q<;>rfl
theorem xx(Q:Program){s:S}{R:List (Nat×En)}{t2:TypeId}{k:Nat}{p:P}(h:cp R s.rg p):eW Q (s.wr R) t2 k p=eW Q s t2 k p:=by
 unfold eW;cases p with
 |sl n v len=>simp only[dn (h n v rfl)]
 |eL n v k' off len=>simp only[dn (h n v rfl)]
 |d x=>cases x<;>rfl
 |_=>rfl
theorem rF(Q:Program){s:S}{R:List (Nat×En)}{t:TypeId}{p i:P}{ok:Bool}{z:D}(h:cp R s.rg p):bA Q (s.wr R) t p i ok z=bA Q s t p i ok z:=by
 unfold bA;split
 next n v k _=>rw[dn (h _ _ rfl)]
 ·rfl
 rfl
theorem tK{s:S}{R:List (Nat×En)}{p:P}(h:cp R s.rg p):gv (s.wr R) p=gv s p:=by
 unfold gv;split
 ·rw[dn (h _ _ rfl)]
 rfl
theorem xy{s:S}{R:List (Nat×En)}{p:P}(h:cp R s.rg p):pn (s.wr R) p=pn s p:=by cases p<;>simp only[pn];rw[dn (h _ _ rfl)]
theorem yi{Q:Program}{s:S}{R:List (Nat×En)}{o:Oper}{g:Option (Nat×Bool)}(h:ak o=0\/ ∀x∈o.op.operands.toList,cp R s.rg (s.eg g x)):pv Q (s.wr R) o g=pv Q s o g:=by
 have eg: ∀x,(s.wr R).eg g x=s.eg g x:=λ_=>rfl;have ev: ∀x,(s.wr R).ev x=s.ev x:=λ_=>rfl;have mem: ∀{P':Prop},ak o≠0->(ak o=0\/P')->P':=λh1 h2=>h2.resolve_left h1;have D7:(s.wr R).eg g=s.eg g:=rfl;unfold pv;simp only[eg,D7];split
 ·rfl
 ·rfl
 ·rfl
 next x ho=>exact oU (mem (by simp[ak,ho]) h x (by simp[ho,Op.operands]))
 next op t x y yt ho=>have hm:=mem (by simp[ak,ho]) h;unfold gg;rw[tJ (hm x (by simp[ho,Op.operands])) (hm y (by simp[ho,Op.operands]))]
 ·rfl
 ·rfl
 next t x ho=>exact vU Q (mem (by simp[ak,ho]) h x (by simp[ho,Op.operands]))
 next t x f ho=>exact nc Q (mem (by simp[ak,ho]) h x (by simp[ho,Op.operands]))
 next t x i ho=>exact nf Q (mem (by simp[ak,ho]) h x (by simp[ho,Op.operands]))
 ·rfl
 ·rfl
 ·rfl
 next t x i ok ho=>have e: ∀z,bA Q (s.wr R) t (s.eg g x) (s.eg g i) ok z=bA Q s t (s.eg g x) (s.eg g i) ok z:=λz=>rF Q (mem (by simp[ak,ho]) h x (by simp[ho,Op.operands]));simp only[e]
 next x ho=>exact tK (mem (by simp[ak,ho]) h x (by simp[ho,Op.operands]))
 next t x lo hi ho=>rw[tI Q (mem (by simp[ak,ho]) h x (by simp[ho,Op.operands]))]
 ·rfl
 ·rfl
 next c ho=>
  split
  next hc=>
   split
   ·rename_i x bf;have hx:x∈o.op.operands.toList:=by
     have:x∈c.args.toList:=by rw[bf];simp
     simp only[ho,Op.operands,Call.operands];simp at this;simp[this]
    rw[xw (mem (by simp[ak,ho,hc]) h x hx),xy (mem (by simp[ak,ho,hc]) h x hx)]
   rfl
  ·rfl
  ·rfl
  rfl
 rfl
theorem yY{Q:Program}{s s2:S}{o:Oper}{g:Option (Nat×Bool)}(ha: ∀x∈o.op.operands.toList,s2.ev x=s.ev x)(hn:s2.n=s.n)
  (h:ak o=0\/ ∀x∈o.op.operands.toList,cp s2.rg s.rg (s.eg g x)):pv Q s2 o g=pv Q s o g:=by
 have h1:Alike s (s.wt s2.tm) o.op.operands.toList:=⟨rfl,rfl,ha⟩
 have e:s2=(s.wt s2.tm).wr s2.rg:=by
  cases s2 with
  |mk n tm rg=>simp only at hn;subst hn;rfl
 rw[e];rw[yi (s:=s.wt s2.tm)]
 ·exact l6 h1 g
 rcases h with h |h
 ·exact .inl h
 refine .inr λx hx=> ?_;rw[h1.eg hx];exact h x hx
theorem kG{o:Oper}(hk:ak o<=1):ep o=none:=by
 unfold ep;split
 next c ho=>
  split
  next f hf=>simp[ak,ho,hf] at hk
  rfl
 rfl
theorem gT{Q:Program}{o:Oper}(hk:ak o<=1):bb Q o=none:=by
 unfold bb;split
 next ho=>simp[ak,ho] at hk
 rfl
theorem tL{Q:Program}{s s2:S}{o:Oper}{g:Option (Nat×Bool)}(hk:ak o<=1)(ha: ∀x∈o.op.operands.toList,s2.ev x=s.ev x)(hn:s2.n=s.n)
  (h:ak o=0\/ ∀x∈o.op.operands.toList,cp s2.rg s.rg (s.eg g x)): ∃c:Option P,exec Q s o g=(c.bind λp=>s.put o.dst p)/\exec Q s2 o g=(c.bind λp=>s2.put o.dst p):=by
 unfold exec;cases hm:iL o with
 |some r=>
  obtain⟨t,len,parts⟩:=r;obtain⟨ps,ho,rfl,_⟩:=jV hm;have e:ps.toList.map (λx=>(x.1,s2.eg g x.2))=ps.toList.map (λx=>(x.1,s.eg g x.2)):=za1 λx hx=>by have:s2.ev x.2=s.ev x.2:=ha _ (by rw[ho];simp[Op.operands];exact⟨_,by simpa using hx⟩);unfold S.eg;rw[this]
  simp only[e];cases nk Q t len (ps.toList.map λx=>(x.1,s.eg g x.2)) with
  |none=>exact⟨none,rfl,rfl⟩
  |some p=>exact⟨some p,rfl,rfl⟩
 |none=>
 have vW: ∀t l ps,o.op≠ .buildSlice t l ps:=λt l ps ho=>by
  have h0:Nat.beq o.type 4000000=false:=by
   cases hb:Nat.beq o.type 4000000 with
   |false=>rfl
   |true=>simp[iL,ho,hb] at hm
  simp[ak,ho,h0] at hk
 simp only[];unfold dE;rw[gT hk];simp only[];rw[yY ha hn h];cases pv Q s o g with
 |some p=>exact⟨some p,rfl,rfl⟩
 |none=>
  simp only[];unfold ef;split
  next ho=>first |exact absurd ho (vW _ _ _)| (simp[ak,ho] at hk)
  next ho=>first |exact absurd ho (vW _ _ _)| (simp[ak,ho] at hk)
  next ho=>first |exact absurd ho (vW _ _ _)| (simp[ak,ho] at hk)
  next t1 t2 x ho=>
   have hx:x∈o.op.operands.toList:=by simp[ho,Op.operands]
   have e0:s2.eg g x=s.eg g x:=by unfold S.eg;rw[ha x hx]
   have e1:eW Q s2 t1 1 (s.eg g x)=eW Q s t1 1 (s.eg g x):=by
    have r8:cp s2.rg s.rg (s.eg g x):=by
     rcases h with h |h
     ·simp[ak,ho] at h
     exact h x hx
    have:eW Q (s.wr s2.rg) t1 1 (s.eg g x)=eW Q s t1 1 (s.eg g x):=xx Q r8;rw[<-this];rfl
   rw[e0,e1];split
   ·split
    ·split
     ·exact⟨some _,rfl,rfl⟩
     exact⟨none,rfl,rfl⟩
    exact⟨none,rfl,rfl⟩
   exact⟨none,rfl,rfl⟩
  next c ho=>
   split
   next hc=>simp[ak,ho,hc] at hk
   next hc=>simp[ak,ho,hc] at hk
   next hc=>simp[ak,ho,hc] at hk
   next hc=>simp[ak,ho,hc] at hk
   exact⟨none,rfl,rfl⟩
  next ho=>first |exact absurd ho (vW _ _ _)| (simp[ak,ho] at hk)
  next ho=>first |exact absurd ho (vW _ _ _)| (simp[ak,ho] at hk)
  next ho=>first |exact absurd ho (vW _ _ _)| (simp[ak,ho] at hk)
  next ho=>first |exact absurd ho (vW _ _ _)| (simp[ak,ho] at hk)
  next ho=>first |exact absurd ho (vW _ _ _)| (simp[ak,ho] at hk)
  next ho=>first |exact absurd ho (vW _ _ _)| (simp[ak,ho] at hk)
  next ho=>first |exact absurd ho (vW _ _ _)| (simp[ak,ho] at hk)
  next ho=>first |exact absurd ho (vW _ _ _)| (simp[ak,ho] at hk)
  exact⟨none,rfl,rfl⟩
theorem vX{ops:List Oper}{o:Oper}{t:Nat}(h:Operand.tmp t∈o.op.operands.toList):t∈looks ops o:=
 List.mem_append_left _ (List.mem_flatMap.2 ⟨_,h,by simp[uz]⟩)
theorem gU{ops:List Oper}{o:Oper}{t:Nat}{w:Bool}(h:az ops o=some (some (t,w))):t∈looks ops o:=by
 unfold az at h;unfold looks;refine List.mem_append_right _ ?_;split at h
 ·cases h
 rename_i j want hg;split at h
 next oj hj=>
  split at h
  next t' ht=>simp at h;obtain⟨rfl,rfl⟩:=h;simp[hg,hj,ht]
  cases h
 cases h
theorem rG{ops:List Oper}{s s2:S}{o:Oper}(h: ∀t∈looks ops o,lk s2.tm t=lk s.tm t): ∀x∈o.op.operands.toList,s2.ev x=s.ev x:=by
 intro x hx;cases x with
 |tmp t=>show(lk s2.tm t).getD .bad=(lk s.tm t).getD .bad;rw[h t (vX hx)]
 |_=>rfl
theorem gV{Q:Program}{cf:CF}{ops:List Oper}{s s2:S}{o:Oper}(hk:ak o<=1)(bE: ∀t∈looks ops o,lk s2.tm t=lk s.tm t)(hn:s2.n=s.n)
  (h:ak o=0\/ ∀g,az ops o=some g-> ∀x∈o.op.operands.toList,cp s2.rg s.rg (s.eg g x)):
  ∃c:Option P,aC Q cf ops s o=(c.bind λq=>s.put o.dst q)/\aC Q cf ops s2 o=(c.bind λq=>s2.put o.dst q):=by
 have ha:=rG bE;unfold aC;have act: ∀g,az ops o=some g-> ∃c:Option P,ct Q cf s o g=(c.bind λq=>s.put o.dst q)/\ct Q cf s2 o g=(c.bind λq=>s2.put o.dst q):=by intro g hg;unfold ct;rw[kG hk];exact tL (Q:=Q) (s:=s) (s2:=s2) (g:=g) hk ha hn (h.imp id λh=>h g hg)
 cases hg:az ops o with
 |none=>exact⟨none,rfl,rfl⟩
 |some g=>
  cases g with
  |none=>exact act none hg
  |some tw=>
   obtain⟨t,want⟩:=tw;simp only[];rw[bE t (gU hg)];split
   ·split
    ·exact act _ hg
    exact⟨some .skip,rfl,rfl⟩
   ·exact⟨some .skip,rfl,rfl⟩
   exact⟨none,rfl,rfl⟩
theorem p7{Q:Program}{cf:CF}{ops:List Oper}{s s2:S}{o:Oper}(gp: ∃t m k,o.op= .lookup t m k false)(bE: ∀t∈looks ops o,lk s2.tm t=lk s.tm t)(hn:s2.n=s.n)
  (h: ∀g,az ops o=some g->pv Q (s.wr s2.rg) o g=pv Q s o g):
  ∃c:Option P,aC Q cf ops s o=(c.bind λq=>s.put o.dst q)/\aC Q cf ops s2 o=(c.bind λq=>s2.put o.dst q):=by
 obtain⟨lt,lm,EX,ho⟩:=gp;have hk:ak o<=1:=by simp[ak,ho]
 have ha:=rG bE;have act: ∀g,az ops o=some g-> ∃c:Option P,ct Q cf s o g=(c.bind λq=>s.put o.dst q)/\ct Q cf s2 o g=(c.bind λq=>s2.put o.dst q):=by
  intro g hg;unfold ct;rw[kG hk];have hm:iL o=none:=by simp[iL,ho]
  unfold exec;rw[hm];simp only[];unfold dE;rw[gT hk];have h1:Alike (s.wr s2.rg) s2 o.op.operands.toList:=⟨hn,rfl,ha⟩
  have e:=l6 (Q:=Q) h1 g;simp only[];rw[e,h g hg];cases pv Q s o g with
  |some p=>exact⟨some p,rfl,rfl⟩
  |none=>exact⟨none,by simp[ef,ho],by simp[ef,ho]⟩
 unfold aC;cases hg:az ops o with
 |none=>exact⟨none,rfl,rfl⟩
 |some g=>
  cases g with
  |none=>exact act none hg
  |some tw=>
   obtain⟨t,want⟩:=tw;simp only[];rw[bE t (gU hg)];split
   ·split
    ·exact act _ hg
    exact⟨some .skip,rfl,rfl⟩
   ·exact⟨some .skip,rfl,rfl⟩
   exact⟨none,rfl,rfl⟩
theorem iW{Q:Program}{cf:CF}{ops:List Oper}{s s2:S}{o:Oper}(bE: ∀t∈looks ops o,lk s2.tm t=lk s.tm t)(hn:s2.n=s.n)(hr:s2.rg=s.rg):
  ∃c,aC Q cf ops s o=fin s o.dst c/\aC Q cf ops s2 o=fin s2 o.dst c:=by
 have ha:Alike s s2 o.op.operands.toList:=⟨hn,hr,rG bE⟩
 unfold aC;cases hg:az ops o with
 |none=>exact⟨none,rfl,rfl⟩
 |some g=>
  cases g with
  |none=>exact nM Q cf ha none
  |some tw=>
   obtain⟨t,want⟩:=tw;simp only[];rw[bE t (gU hg)];split
   ·split
    ·exact nM Q cf ha _
    exact⟨some (s.rg,.skip),rfl,by unfold fin;rw[<-hr]⟩
   ·exact⟨some (s.rg,.skip),rfl,by unfold fin;rw[<-hr]⟩
   exact⟨none,rfl,rfl⟩
theorem dX{Q:Program}{cf:CF}{ops:List Oper}{s s1:S}{o:Oper}(hk:1<ak o)(h:aC Q cf ops s o=some s1){m:Nat}(hm: ¬lx (aL Q ops s o).ws m):lk s1.rg m=lk s.rg m:=by
 unfold aC at h;unfold aL at hm;have hb:Nat.ble (ak o) 1=false:=by
  cases hx:Nat.ble (ak o) 1 with
  |false=>rfl
  |true=>rw[za7] at hx;omega
 cases hg:az ops o with
 |none=>simp[hg] at h
 |some g=>
  simp only[hg,hb,zaw,za6] at hm;cases g with
  |none=>simp only[hg] at h;exact kF h hm
  |some tw=>
   obtain⟨t,want⟩:=tw;simp only[hg] at h;split at h
   ·split at h
    ·exact kF h hm
    rw[aA h]
   ·rw[aA h]
   cases h
end Pi
