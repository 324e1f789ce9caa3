/- The text PiWr. -/
import Derived.Test.YtfelfooeclnbiaaPiLoc2
namespace Pi
open Go
def S.wr(s:S)(R:List (Nat×En)):S:=⟨s.n,s.tm,R⟩
def cA(R R':List (Nat×En))(p:P):Prop:= ∀n v,p.name=some (n,v)->lk R n=lk R' n
theorem dv{s:S}{R:List (Nat×En)}{n:Nat}(h:lk R n=lk s.rg n)(v:Nat):(s.wr R).obj n v=s.obj n v:=by unfold S.obj S.wr;simp only[h]
theorem cI{s:S}{R:List (Nat×En)}{n:Nat}(h:lk R n=lk s.rg n)(v:Nat):(s.wr R).live n v=s.live n v:=by unfold S.live;rw[dv h]
theorem pU{s:S}{R:List (Nat×En)}{p:P}(h:cA R s.rg p):eA (s.wr R) p=eA s p:=by
 cases p<;>simp only[eA]
 ·rw[cI (h _ _ rfl)]
 rw[cI (h _ _ rfl)]
theorem xo(Q:Program){s:S}{R:List (Nat×En)}{t:TypeId}{p:P}(h:cA R s.rg p):ji Q (s.wr R) t p=ji Q s t p:=by
 cases p<;>simp only[ji]
 ·rw[dv (h _ _ rfl)]
 rw[dv (h _ _ rfl)]
theorem n7(Q:Program){s:S}{R:List (Nat×En)}{t:TypeId}{f:Nat}{p:P}(h:cA R s.rg p):dn Q (s.wr R) t f p=dn Q s t f p:=by
 unfold dn;split
 ·rfl
 cases p with
 |ref n v off=>simp only[cI (h n v rfl)]
 |bE n v i k off=>simp only[cI (h n v rfl)]
 |_=>rfl
theorem n8(Q:Program){s:S}{R:List (Nat×En)}{t:TypeId}{p i:P}(h:cA R s.rg p):cn Q (s.wr R) t p i=cn Q s t p i:=by
 unfold cn;split
 ·unfold gU;cases p with
  |ref n v off=>simp only[cI (h n v rfl)]
  |bE n v i k off=>simp only[cI (h n v rfl)]
  |_=>rfl
 split
 ·split
  ·cases p with
   |sl n v len=>simp only[dv (h n v rfl)]
   |e9 n v k off len=>simp only[dv (h n v rfl)]
   |d x=>cases x<;>rfl
   |_=>rfl
  rfl
 rfl
theorem xp(Q:Program){s:S}{R:List (Nat×En)}{t:TypeId}{p:P}{lo:Option P}(h:cA R s.rg p):gw Q (s.wr R) t p lo=gw Q s t p lo:=by
 unfold gw;split
 ·rw[dv (h _ _ rfl)]
 rfl
theorem rf(Q:Program){s:S}{R:List (Nat×En)}{t:TypeId}{p:P}{lo:Option P}(h:cA R s.rg p):cA R s.rg (gw Q s t p lo):=by
 unfold gw;split
 ·split
  ·split
   ·split
    ·intro n v hn;cases hn
    exact h
   exact h
  exact h
 exact h
theorem uZ(Q:Program){s:S}{R:List (Nat×En)}{t:TypeId}{p:P}{lo hi:Option P}(h:cA R s.rg p):fj Q (s.wr R) t p lo hi=fj Q s t p lo hi:=by
 unfold fj;rw[xp Q h]
 replace h:=rf Q (t:=t) (lo:=lo) h
 generalize gw Q s t p lo=p at h;unfold lZ;split
 ·rfl
 split
 ·cases p with
  |sl n v len=>simp only[dv (h n v rfl)]
  |e9 n v k off len=>simp only[dv (h n v rfl)]
  |d x=>cases x<;>rfl
  |_=>rfl
 rfl
theorem zm{s:S}{R:List (Nat×En)}{p:P}(h:cA R s.rg p):qy (s.wr R) p=qy s p:=by
 unfold qy;cases p with
 |sl n v len=>simp only[cI (h n v rfl)]
 |e9 n v k off len=>simp only[cI (h n v rfl)]
 |d x=>cases x<;>rfl
 |_=>rfl
theorem u0{s:S}{R:List (Nat×En)}{p q:P}(h:cA R s.rg p)(h2:cA R s.rg q):kF (s.wr R) p q=kF s p q:=by
 unfold kF;cases p with
 |ref n v off=>cases q with
  |d x=>cases x<;>simp only[cI (h n v rfl)]
  |_=>rfl
 |bE n v i k off=>cases q with
  |d x=>cases x<;>simp only[cI (h n v rfl)]
  |_=>rfl
 |d x=>cases q with
  |ref n v off=>cases x<;>simp only[cI (h2 n v rfl)]
  |bE n v i k off=>cases x<;>simp only[cI (h2 n v rfl)]
  |d y=>cases x<;>cases y<;>rfl
  |_=>cases x<;>rfl
 |cd x off=>cases q with
  |d y=>cases y<;>rfl
  |_=>rfl
 |_=>cases q<;>rfl
theorem zn(Q:Program){s:S}{R:List (Nat×En)}{t2:TypeId}{k:Nat}{p:P}(h:cA R s.rg p):fm Q (s.wr R) t2 k p=fm Q s t2 k p:=by
 unfold fm;cases p with
 |sl n v len=>simp only[dv (h n v rfl)]
 |e9 n v k' off len=>simp only[dv (h n v rfl)]
 |d x=>cases x<;>rfl
 |_=>rfl
theorem sX(Q:Program){s:S}{R:List (Nat×En)}{t:TypeId}{p i:P}{ok:Bool}{z:D}(h:cA R s.rg p):bJ Q (s.wr R) t p i ok z=bJ Q s t p i ok z:=by
 unfold bJ;split
 next n v k _=>rw[dv (h _ _ rfl)]
 ·rfl
 rfl
theorem u6{s:S}{R:List (Nat×En)}{p:P}(h:cA R s.rg p):gV (s.wr R) p=gV s p:=by
 unfold gV;split
 ·rw[dv (h _ _ rfl)]
 rfl
theorem zo{s:S}{R:List (Nat×En)}{p:P}(h:cA R s.rg p):qz (s.wr R) p=qz s p:=by cases p<;>simp only[qz];rw[dv (h _ _ rfl)]
theorem Ao{Q:Program}{s:S}{R:List (Nat×En)}{o:Oper}{g:Option (Nat×Bool)}(h:aj o=0\/ ∀x∈o.op.operands.toList,cA R s.rg (s.eg g x)):pv Q (s.wr R) o g=pv Q s o g:=by
 have eg: ∀x,(s.wr R).eg g x=s.eg g x:=λ_=>rfl;have ev: ∀x,(s.wr R).ev x=s.ev x:=λ_=>rfl;have mem: ∀{P':Prop},aj o≠0->(aj o=0\/P')->P':=λh1 h2=>h2.resolve_left h1;have H3:(s.wr R).eg g=s.eg g:=rfl;unfold pv;simp only[eg,H3];split
 ·rfl
 ·rfl
 ·rfl
 next x ho=>exact pU (mem (by simp[aj,ho]) h x (by simp[ho,Op.operands]))
 next op t x y yt ho=>have hm:=mem (by simp[aj,ho]) h;unfold gF;rw[u0 (hm x (by simp[ho,Op.operands])) (hm y (by simp[ho,Op.operands]))]
 ·rfl
 ·rfl
 next t x ho=>exact xo Q (mem (by simp[aj,ho]) h x (by simp[ho,Op.operands]))
 next t x f ho=>exact n7 Q (mem (by simp[aj,ho]) h x (by simp[ho,Op.operands]))
 next t x i ho=>exact n8 Q (mem (by simp[aj,ho]) h x (by simp[ho,Op.operands]))
 ·rfl
 ·rfl
 ·rfl
 next t x i ok ho=>have e: ∀z,bJ Q (s.wr R) t (s.eg g x) (s.eg g i) ok z=bJ Q s t (s.eg g x) (s.eg g i) ok z:=λz=>sX Q (mem (by simp[aj,ho]) h x (by simp[ho,Op.operands]));simp only[e]
 next x ho=>exact u6 (mem (by simp[aj,ho]) h x (by simp[ho,Op.operands]))
 next t x lo hi ho=>rw[uZ Q (mem (by simp[aj,ho]) h x (by simp[ho,Op.operands]))]
 ·rfl
 ·rfl
 next c ho=>
  split
  next hc=>
   split
   ·rename_i x bq;have hx:x∈o.op.operands.toList:=by
     have:x∈c.args.toList:=by rw[bq];simp
     simp only[ho,Op.operands,Call.operands];simp at this;simp[this]
    rw[zm (mem (by simp[aj,ho,hc]) h x hx),zo (mem (by simp[aj,ho,hc]) h x hx)]
   rfl
  ·rfl
  ·rfl
  rfl
 rfl
theorem Bi{Q:Program}{s s2:S}{o:Oper}{g:Option (Nat×Bool)}(ha: ∀x∈o.op.operands.toList,s2.ev x=s.ev x)(hn:s2.n=s.n)
  (h:aj o=0\/ ∀x∈o.op.operands.toList,cA s2.rg s.rg (s.eg g x)):pv Q s2 o g=pv Q s o g:=by
 have h1:Alike s (s.wt s2.tm) o.op.operands.toList:=⟨rfl,rfl,ha⟩
 have e:s2=(s.wt s2.tm).wr s2.rg:=by
  cases s2 with
  |mk n tm rg=>simp only at hn;subst hn;rfl
 rw[e];rw[Ao (s:=s.wt s2.tm)]
 ·exact mW h1 g
 rcases h with h |h
 ·exact .inl h
 refine .inr λx hx=> ?_;rw[h1.eg hx];exact h x hx
theorem lB{o:Oper}(hk:aj o<=1):eI o=none:=by
 unfold eI;split
 next c ho=>
  split
  next f hf=>simp[aj,ho,hf] at hk
  rfl
 rfl
theorem iw{Q:Program}{o:Oper}(hk:aj o<=1):bj Q o=none:=by
 unfold bj;split
 next ho=>simp[aj,ho] at hk
 rfl
theorem u7{Q:Program}{s s2:S}{o:Oper}{g:Option (Nat×Bool)}(hk:aj o<=1)(ha: ∀x∈o.op.operands.toList,s2.ev x=s.ev x)(hn:s2.n=s.n)
  (h:aj o=0\/ ∀x∈o.op.operands.toList,cA s2.rg s.rg (s.eg g x)): ∃c:Option P,exec Q s o g=(c.bind λp=>s.put o.dst p)/\exec Q s2 o g=(c.bind λp=>s2.put o.dst p):=by
 unfold exec;cases hm:jy o with
 |some r=>
  obtain⟨t,len,parts⟩:=r;obtain⟨ps,ho,rfl,_⟩:=kQ hm;have e:ps.toList.map (λx=>(x.1,s2.eg g x.2))=ps.toList.map (λx=>(x.1,s.eg g x.2)):=za0 λx hx=>by have:s2.ev x.2=s.ev x.2:=ha _ (by rw[ho];simp[Op.operands];exact⟨_,by simpa using hx⟩);unfold S.eg;rw[this]
  simp only[e];cases oc Q t len (ps.toList.map λx=>(x.1,s.eg g x.2)) with
  |none=>exact⟨none,rfl,rfl⟩
  |some p=>exact⟨some p,rfl,rfl⟩
 |none=>
 have xq: ∀t l ps,o.op≠ .buildSlice t l ps:=λt l ps ho=>by
  have h0:Nat.beq o.type 4000000=false:=by
   cases hb:Nat.beq o.type 4000000 with
   |false=>rfl
   |true=>simp[jy,ho,hb] at hm
  simp[aj,ho,h0] at hk
 simp only[];unfold dI;rw[iw hk];simp only[];rw[Bi ha hn h];cases pv Q s o g with
 |some p=>exact⟨some p,rfl,rfl⟩
 |none=>
  simp only[];unfold ef;split
  next ho=>first |exact absurd ho (xq _ _ _)| (simp[aj,ho] at hk)
  next ho=>first |exact absurd ho (xq _ _ _)| (simp[aj,ho] at hk)
  next ho=>first |exact absurd ho (xq _ _ _)| (simp[aj,ho] at hk)
  next t1 t2 x ho=>
   have hx:x∈o.op.operands.toList:=by simp[ho,Op.operands]
   have e0:s2.eg g x=s.eg g x:=by unfold S.eg;rw[ha x hx]
   have e1:fm Q s2 t1 1 (s.eg g x)=fm Q s t1 1 (s.eg g x):=by
    have tE:cA s2.rg s.rg (s.eg g x):=by
     rcases h with h |h
     ·simp[aj,ho] at h
     exact h x hx
    have:fm Q (s.wr s2.rg) t1 1 (s.eg g x)=fm Q s t1 1 (s.eg g x):=zn Q tE;rw[<-this];rfl
   rw[e0,e1];split
   ·split
    ·split
     ·exact⟨some _,rfl,rfl⟩
     exact⟨none,rfl,rfl⟩
    exact⟨none,rfl,rfl⟩
   exact⟨none,rfl,rfl⟩
  next c ho=>
   split
   next hc=>simp[aj,ho,hc] at hk
   next hc=>simp[aj,ho,hc] at hk
   next hc=>simp[aj,ho,hc] at hk
   next hc=>simp[aj,ho,hc] at hk
   exact⟨none,rfl,rfl⟩
  next ho=>first |exact absurd ho (xq _ _ _)| (simp[aj,ho] at hk)
  next ho=>first |exact absurd ho (xq _ _ _)| (simp[aj,ho] at hk)
  next ho=>first |exact absurd ho (xq _ _ _)| (simp[aj,ho] at hk)
  next ho=>first |exact absurd ho (xq _ _ _)| (simp[aj,ho] at hk)
  next ho=>first |exact absurd ho (xq _ _ _)| (simp[aj,ho] at hk)
  next ho=>first |exact absurd ho (xq _ _ _)| (simp[aj,ho] at hk)
  next ho=>first |exact absurd ho (xq _ _ _)| (simp[aj,ho] at hk)
  next ho=>first |exact absurd ho (xq _ _ _)| (simp[aj,ho] at hk)
  exact⟨none,rfl,rfl⟩
theorem xr{ops:List Oper}{o:Oper}{t:Nat}(h:Operand.tmp t∈o.op.operands.toList):t∈looks ops o:=
 List.mem_append_left _ (List.mem_flatMap.2 ⟨_,h,by simp[vY]⟩)
theorem ix{ops:List Oper}{o:Oper}{t:Nat}{w:Bool}(h:ay ops o=some (some (t,w))):t∈looks ops o:=by
 unfold ay at h;unfold looks;refine List.mem_append_right _ ?_;split at h
 ·cases h
 rename_i j want hg;split at h
 next oj hj=>
  split at h
  next t' ht=>simp at h;obtain⟨rfl,rfl⟩:=h;simp[hg,hj,ht]
  cases h
 cases h
theorem sY{ops:List Oper}{s s2:S}{o:Oper}(h: ∀t∈looks ops o,lk s2.tm t=lk s.tm t): ∀x∈o.op.operands.toList,s2.ev x=s.ev x:=by
 intro x hx;cases x with
 |tmp t=>show(lk s2.tm t).getD .bad=(lk s.tm t).getD .bad;rw[h t (xr hx)]
 |_=>rfl
theorem iy{Q:Program}{cf:CF}{ops:List Oper}{s s2:S}{o:Oper}(hk:aj o<=1)(bM: ∀t∈looks ops o,lk s2.tm t=lk s.tm t)(hn:s2.n=s.n)
  (h:aj o=0\/ ∀g,ay ops o=some g-> ∀x∈o.op.operands.toList,cA s2.rg s.rg (s.eg g x)):
  ∃c:Option P,aC Q cf ops s o=(c.bind λq=>s.put o.dst q)/\aC Q cf ops s2 o=(c.bind λq=>s2.put o.dst q):=by
 have ha:=sY bM;unfold aC;have act: ∀g,ay ops o=some g-> ∃c:Option P,cC Q cf s o g=(c.bind λq=>s.put o.dst q)/\cC Q cf s2 o g=(c.bind λq=>s2.put o.dst q):=by intro g hg;unfold cC;rw[lB hk];exact u7 (Q:=Q) (s:=s) (s2:=s2) (g:=g) hk ha hn (h.imp id λh=>h g hg)
 cases hg:ay ops o with
 |none=>exact⟨none,rfl,rfl⟩
 |some g=>
  cases g with
  |none=>exact act none hg
  |some tw=>
   obtain⟨t,want⟩:=tw;simp only[];rw[bM t (ix hg)];split
   ·split
    ·exact act _ hg
    exact⟨some .skip,rfl,rfl⟩
   ·exact⟨some .skip,rfl,rfl⟩
   exact⟨none,rfl,rfl⟩
theorem rh{Q:Program}{cf:CF}{ops:List Oper}{s s2:S}{o:Oper}(gS: ∃t m k,o.op= .lookup t m k false)(bM: ∀t∈looks ops o,lk s2.tm t=lk s.tm t)(hn:s2.n=s.n)
  (h: ∀g,ay ops o=some g->pv Q (s.wr s2.rg) o g=pv Q s o g):
  ∃c:Option P,aC Q cf ops s o=(c.bind λq=>s.put o.dst q)/\aC Q cf ops s2 o=(c.bind λq=>s2.put o.dst q):=by
 obtain⟨lt,lm,IY,ho⟩:=gS;have hk:aj o<=1:=by simp[aj,ho]
 have ha:=sY bM;have act: ∀g,ay ops o=some g-> ∃c:Option P,cC Q cf s o g=(c.bind λq=>s.put o.dst q)/\cC Q cf s2 o g=(c.bind λq=>s2.put o.dst q):=by
  intro g hg;unfold cC;rw[lB hk];have hm:jy o=none:=by simp[jy,ho]
  unfold exec;rw[hm];simp only[];unfold dI;rw[iw hk];have h1:Alike (s.wr s2.rg) s2 o.op.operands.toList:=⟨hn,rfl,ha⟩
  have e:=mW (Q:=Q) h1 g;simp only[];rw[e,h g hg];cases pv Q s o g with
  |some p=>exact⟨some p,rfl,rfl⟩
  |none=>exact⟨none,by simp[ef,ho],by simp[ef,ho]⟩
 unfold aC;cases hg:ay ops o with
 |none=>exact⟨none,rfl,rfl⟩
 |some g=>
  cases g with
  |none=>exact act none hg
  |some tw=>
   obtain⟨t,want⟩:=tw;simp only[];rw[bM t (ix hg)];split
   ·split
    ·exact act _ hg
    exact⟨some .skip,rfl,rfl⟩
   ·exact⟨some .skip,rfl,rfl⟩
   exact⟨none,rfl,rfl⟩
theorem jH{Q:Program}{cf:CF}{ops:List Oper}{s s2:S}{o:Oper}(bM: ∀t∈looks ops o,lk s2.tm t=lk s.tm t)(hn:s2.n=s.n)(hr:s2.rg=s.rg):
  ∃c,aC Q cf ops s o=fin s o.dst c/\aC Q cf ops s2 o=fin s2 o.dst c:=by
 have ha:Alike s s2 o.op.operands.toList:=⟨hn,hr,sY bM⟩
 unfold aC;cases hg:ay ops o with
 |none=>exact⟨none,rfl,rfl⟩
 |some g=>
  cases g with
  |none=>exact oK Q cf ha none
  |some tw=>
   obtain⟨t,want⟩:=tw;simp only[];rw[bM t (ix hg)];split
   ·split
    ·exact oK Q cf ha _
    exact⟨some (s.rg,.skip),rfl,by unfold fin;rw[<-hr]⟩
   ·exact⟨some (s.rg,.skip),rfl,by unfold fin;rw[<-hr]⟩
   exact⟨none,rfl,rfl⟩
theorem ey{Q:Program}{cf:CF}{ops:List Oper}{s s1:S}{o:Oper}(hk:1<aj o)(h:aC Q cf ops s o=some s1){m:Nat}(hm: ¬mb (aK Q ops s o).ws m):lk s1.rg m=lk s.rg m:=by
 unfold aC at h;unfold aK at hm;have hb:Nat.ble (aj o) 1=false:=by
  cases hx:Nat.ble (aj o) 1 with
  |false=>rfl
  |true=>rw[zbd] at hx;omega
 cases hg:ay ops o with
 |none=>simp[hg] at h
 |some g=>
  simp only[hg,hb,zaz,za6] at hm;cases g with
  |none=>simp only[hg] at h;exact lA h hm
  |some tw=>
   obtain⟨t,want⟩:=tw;simp only[hg] at h;split at h
   ·split at h
    ·exact lA h hm
    rw[az h]
   ·rw[az h]
   cases h
end Pi
