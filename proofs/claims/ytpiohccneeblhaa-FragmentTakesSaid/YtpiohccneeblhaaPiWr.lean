/- The text PiWr. -/
import Derived.Test.YtpiohccneeblhaaPiLoc2
namespace Pi
open Go
def S.wr(s:S)(R:List (Nat×En)):S:=⟨s.n,s.tm,R⟩
def dF(R R':List (Nat×En))(p:P):Prop:= ∀n v,p.name=some (n,v)->lk R n=lk R' n
theorem fj{s:S}{R:List (Nat×En)}{n:Nat}(h:lk R n=lk s.rg n)(v:Nat):(s.wr R).obj n v=s.obj n v:=by unfold S.obj S.wr;simp only[h]
theorem cW{s:S}{R:List (Nat×En)}{n:Nat}(h:lk R n=lk s.rg n)(v:Nat):(s.wr R).live n v=s.live n v:=by unfold S.live;rw[fj h]
theorem uc{s:S}{R:List (Nat×En)}{p:P}(h:dF R s.rg p):gk (s.wr R) p=gk s p:=by
 cases p<;>simp only[gk]
 ·rw[cW (h _ _ rfl)]
 rw[cW (h _ _ rfl)]
theorem CG(Q:Program){s:S}{R:List (Nat×En)}{t:TypeId}{p:P}(h:dF R s.rg p):iJ Q (s.wr R) t p=iJ Q s t p:=by
 cases p<;>simp only[iJ]
 ·rw[fj (h _ _ rfl)]
 rw[fj (h _ _ rfl)]
theorem rF(Q:Program){s:S}{R:List (Nat×En)}{t:TypeId}{f:Nat}{p:P}(h:dF R s.rg p):fb Q (s.wr R) t f p=fb Q s t f p:=by
 unfold fb;split
 ·rfl
 cases p with
 |ref n v off=>simp only[cW (h n v rfl)]
 |bP n v i k off=>simp only[cW (h n v rfl)]
 |_=>rfl
theorem rG(Q:Program){s:S}{R:List (Nat×En)}{t:TypeId}{p i:P}(h:dF R s.rg p):dk Q (s.wr R) t p i=dk Q s t p i:=by
 unfold dk;split
 ·unfold j8;cases p with
  |ref n v off=>simp only[cW (h n v rfl)]
  |bP n v i k off=>simp only[cW (h n v rfl)]
  |_=>rfl
 split
 ·split
  ·cases p with
   |sl n v len=>simp only[fj (h n v rfl)]
   |hZ n v k off len=>simp only[fj (h n v rfl)]
   |d x=>cases x<;>rfl
   |_=>rfl
  rfl
 rfl
theorem CH(Q:Program){s:S}{R:List (Nat×En)}{t:TypeId}{p:P}{lo:Option P}(h:dF R s.rg p):jI Q (s.wr R) t p lo=jI Q s t p lo:=by
 unfold jI;split
 ·rw[fj (h _ _ rfl)]
 rfl
theorem vS(Q:Program){s:S}{R:List (Nat×En)}{t:TypeId}{p:P}{lo:Option P}(h:dF R s.rg p):dF R s.rg (jI Q s t p lo):=by
 unfold jI;split
 ·split
  ·split
   ·split
    ·intro n v hn;cases hn
    exact h
   exact h
  exact h
 exact h
theorem Aq(Q:Program){s:S}{R:List (Nat×En)}{t:TypeId}{p:P}{lo hi:Option P}(h:dF R s.rg p):iw Q (s.wr R) t p lo hi=iw Q s t p lo hi:=by
 unfold iw;rw[CH Q h]
 replace h:=vS Q (t:=t) (lo:=lo) h
 generalize jI Q s t p lo=p at h;unfold oQ;split
 ·rfl
 split
 ·cases p with
  |sl n v len=>simp only[fj (h n v rfl)]
  |hZ n v k off len=>simp only[fj (h n v rfl)]
  |d x=>cases x<;>rfl
  |_=>rfl
 rfl
theorem EP{s:S}{R:List (Nat×En)}{p:P}(h:dF R s.rg p):uX (s.wr R) p=uX s p:=by
 unfold uX;cases p with
 |sl n v len=>simp only[cW (h n v rfl)]
 |hZ n v k off len=>simp only[cW (h n v rfl)]
 |rT n v len=>simp only[cW (h n v rfl)]
 |d x=>cases x<;>rfl
 |_=>rfl
theorem Ar{s:S}{R:List (Nat×En)}{p q:P}(h:dF R s.rg p)(h2:dF R s.rg q):ng (s.wr R) p q=ng s p q:=by
 unfold ng;cases p with
 |ref n v off=>cases q with
  |d x=>cases x<;>simp only[cW (h n v rfl)]
  |_=>rfl
 |bP n v i k off=>cases q with
  |d x=>cases x<;>simp only[cW (h n v rfl)]
  |_=>rfl
 |hd n v=>cases q with
  |d x=>cases x<;>simp only[cW (h n v rfl)]
  |_=>rfl
 |d x=>cases q with
  |ref n v off=>cases x<;>simp only[cW (h2 n v rfl)]
  |bP n v i k off=>cases x<;>simp only[cW (h2 n v rfl)]
  |hd n v=>cases x<;>simp only[cW (h2 n v rfl)]
  |d y=>cases x<;>cases y<;>rfl
  |_=>cases x<;>rfl
 |dg x off=>cases q with
  |d y=>cases y<;>rfl
  |_=>rfl
 |_=>cases q<;>rfl
theorem ER(Q:Program){s:S}{R:List (Nat×En)}{t2:TypeId}{k:Nat}{p:P}(h:dF R s.rg p):iy Q (s.wr R) t2 k p=iy Q s t2 k p:=by
 unfold iy;cases p with
 |sl n v len=>simp only[fj (h n v rfl)]
 |hZ n v k' off len=>simp only[fj (h n v rfl)]
 |d x=>cases x<;>rfl
 |_=>rfl
theorem x5(Q:Program){s:S}{R:List (Nat×En)}{t:TypeId}{p i:P}{ok:Bool}{z:D}(h:dF R s.rg p):cr Q (s.wr R) t p i ok z=cr Q s t p i ok z:=by
 unfold cr;split
 next n v k _=>rw[fj (h _ _ rfl)]
 ·rfl
 rfl
theorem As{s:S}{R:List (Nat×En)}{p:P}(h:dF R s.rg p):j9 (s.wr R) p=j9 s p:=by
 unfold j9;split
 ·rw[fj (h _ _ rfl)]
 rfl
theorem ES{s:S}{R:List (Nat×En)}{p:P}(h:dF R s.rg p):uY (s.wr R) p=uY s p:=by cases p<;>simp only[uY];rw[fj (h _ _ rfl)]
theorem F9{Q:Program}{s:S}{R:List (Nat×En)}{o:Oper}{g:Option (Nat×Bool)}(h:ar o=0\/ ∀x∈o.op.operands.toList,dF R s.rg (s.eg g x)):pv Q (s.wr R) o g=pv Q s o g:=by
 have eg: ∀x,(s.wr R).eg g x=s.eg g x:=λ_=>rfl;have ev: ∀x,(s.wr R).ev x=s.ev x:=λ_=>rfl;have mem: ∀{P':Prop},ar o≠0->(ar o=0\/P')->P':=λh1 h2=>h2.resolve_left h1;have O3:(s.wr R).eg g=s.eg g:=rfl;unfold pv;simp only[eg,O3];split
 ·rfl
 ·rfl
 ·rfl
 next x ho=>exact uc (mem (by simp[ar,ho]) h x (by simp[ho,Op.operands]))
 next op t x y yt ho=>have hm:=mem (by simp[ar,ho]) h;unfold jR;rw[Ar (hm x (by simp[ho,Op.operands])) (hm y (by simp[ho,Op.operands]))]
 ·rfl
 ·rfl
 next t x ho=>exact CG Q (mem (by simp[ar,ho]) h x (by simp[ho,Op.operands]))
 next t x f ho=>exact rF Q (mem (by simp[ar,ho]) h x (by simp[ho,Op.operands]))
 next t x i ho=>exact rG Q (mem (by simp[ar,ho]) h x (by simp[ho,Op.operands]))
 ·rfl
 ·rfl
 ·rfl
 next t x i ok ho=>have e: ∀z,cr Q (s.wr R) t (s.eg g x) (s.eg g i) ok z=cr Q s t (s.eg g x) (s.eg g i) ok z:=λz=>x5 Q (mem (by simp[ar,ho]) h x (by simp[ho,Op.operands]));simp only[e]
 next x ho=>exact As (mem (by simp[ar,ho]) h x (by simp[ho,Op.operands]))
 next t x lo hi ho=>rw[Aq Q (mem (by simp[ar,ho]) h x (by simp[ho,Op.operands]))]
 ·rfl
 ·rfl
 next c ho=>
  split
  next hc=>
   split
   ·rename_i x bp;have hx:x∈o.op.operands.toList:=by
     have:x∈c.args.toList:=by rw[bp];simp
     simp only[ho,Op.operands,Call.operands];simp at this;simp[this]
    rw[EP (mem (by simp[ar,ho,hc]) h x hx),ES (mem (by simp[ar,ho,hc]) h x hx)]
   rfl
  ·rfl
  ·rfl
  rfl
 rfl
theorem G9{Q:Program}{s s2:S}{o:Oper}{g:Option (Nat×Bool)}(ha: ∀x∈o.op.operands.toList,s2.ev x=s.ev x)(hn:s2.n=s.n)
  (h:ar o=0\/ ∀x∈o.op.operands.toList,dF s2.rg s.rg (s.eg g x)):pv Q s2 o g=pv Q s o g:=by
 have h1:Alike s (s.wt s2.tm) o.op.operands.toList:=⟨rfl,rfl,ha⟩
 have e:s2=(s.wt s2.tm).wr s2.rg:=by
  cases s2 with
  |mk n tm rg=>simp only at hn;subst hn;rfl
 rw[e];rw[F9 (s:=s.wt s2.tm)]
 ·exact qb h1 g
 rcases h with h |h
 ·exact .inl h
 refine .inr λx hx=> ?_;rw[h1.eg hx];exact h x hx
theorem nR{o:Oper}(hk:ar o<=1):dT o=none:=by
 unfold dT;split
 next c ho=>
  split
  next f hf=>simp[ar,ho,hf] at hk
  rfl
 rfl
theorem kK{Q:Program}{o:Oper}(hk:ar o<=1):bR Q o=none:=by
 unfold bR;split
 next ho=>simp[ar,ho] at hk
 rfl
theorem At{Q:Program}{s s2:S}{o:Oper}{g:Option (Nat×Bool)}(hk:ar o<=1)(ha: ∀x∈o.op.operands.toList,s2.ev x=s.ev x)(hn:s2.n=s.n)
  (h:ar o=0\/ ∀x∈o.op.operands.toList,dF s2.rg s.rg (s.eg g x)): ∃c:Option P,exec Q s o g=(c.bind λp=>s.put o.dst p)/\exec Q s2 o g=(c.bind λp=>s2.put o.dst p):=by
 unfold exec;cases hm:lL o with
 |some r=>
  obtain⟨t,len,parts⟩:=r;obtain⟨ps,ho,rfl,_⟩:=nt hm;have e:ps.toList.map (λx=>(x.1,s2.eg g x.2))=ps.toList.map (λx=>(x.1,s.eg g x.2)):=zbg λx hx=>by have:s2.ev x.2=s.ev x.2:=ha _ (by rw[ho];simp[Op.operands];exact⟨_,by simpa using hx⟩);unfold S.eg;rw[this]
  simp only[e];cases rU Q t len (ps.toList.map λx=>(x.1,s.eg g x.2)) with
  |none=>exact⟨none,rfl,rfl⟩
  |some p=>exact⟨some p,rfl,rfl⟩
 |none=>
 have Au: ∀t l ps,o.op≠ .buildSlice t l ps:=λt l ps ho=>by
  have h0:Nat.beq o.type 4000000=false:=by
   cases hb:Nat.beq o.type 4000000 with
   |false=>rfl
   |true=>simp[lL,ho,hb] at hm
  simp[ar,ho,h0] at hk
 simp only[];unfold fA;rw[kK hk];simp only[];rw[G9 ha hn h];cases pv Q s o g with
 |some p=>exact⟨some p,rfl,rfl⟩
 |none=>
  simp only[];unfold ef;split
  next ho=>first |exact absurd ho (Au _ _ _)| (simp[ar,ho] at hk)
  next ho=>first |exact absurd ho (Au _ _ _)| (simp[ar,ho] at hk)
  next ho=>first |exact absurd ho (Au _ _ _)| (simp[ar,ho] at hk)
  next t1 t2 x ho=>
   have hx:x∈o.op.operands.toList:=by simp[ho,Op.operands]
   have e0:s2.eg g x=s.eg g x:=by unfold S.eg;rw[ha x hx]
   have e1:iy Q s2 t1 1 (s.eg g x)=iy Q s t1 1 (s.eg g x):=by
    have yE:dF s2.rg s.rg (s.eg g x):=by
     rcases h with h |h
     ·simp[ar,ho] at h
     exact h x hx
    have:iy Q (s.wr s2.rg) t1 1 (s.eg g x)=iy Q s t1 1 (s.eg g x):=ER Q yE;rw[<-this];rfl
   rw[e0,e1];split
   ·split
    ·split
     ·exact⟨some _,rfl,rfl⟩
     exact⟨none,rfl,rfl⟩
    exact⟨none,rfl,rfl⟩
   exact⟨none,rfl,rfl⟩
  next c ho=>
   split
   next hc=>simp[ar,ho,hc] at hk
   next hc=>simp[ar,ho,hc] at hk
   next hc=>simp[ar,ho,hc] at hk
   next hc=>simp[ar,ho,hc] at hk
   exact⟨none,rfl,rfl⟩
  next ho=>first |exact absurd ho (Au _ _ _)| (simp[ar,ho] at hk)
  next ho=>first |exact absurd ho (Au _ _ _)| (simp[ar,ho] at hk)
  next ho=>first |exact absurd ho (Au _ _ _)| (simp[ar,ho] at hk)
  next ho=>first |exact absurd ho (Au _ _ _)| (simp[ar,ho] at hk)
  next ho=>first |exact absurd ho (Au _ _ _)| (simp[ar,ho] at hk)
  next ho=>first |exact absurd ho (Au _ _ _)| (simp[ar,ho] at hk)
  next ho=>first |exact absurd ho (Au _ _ _)| (simp[ar,ho] at hk)
  next ho=>first |exact absurd ho (Au _ _ _)| (simp[ar,ho] at hk)
  exact⟨none,rfl,rfl⟩
theorem CI{ops:List Oper}{o:Oper}{t:Nat}(h:Operand.tmp t∈o.op.operands.toList):t∈looks ops o:=
 List.mem_append_left _ (zbh.2 ⟨_,h,by simp[Bw]⟩)
theorem kL{ops:List Oper}{o:Oper}{t:Nat}{w:Bool}(h:aG ops o=some (some (t,w))):t∈looks ops o:=by
 unfold aG at h;unfold looks;refine List.mem_append_right _ ?_;split at h
 ·cases h
 rename_i j want hg;split at h
 next oj hj=>
  split at h
  next t' ht=>simp at h;obtain⟨rfl,rfl⟩:=h;simp[hg,hj,ht]
  cases h
 cases h
theorem x6{ops:List Oper}{s s2:S}{o:Oper}(h: ∀t∈looks ops o,lk s2.tm t=lk s.tm t): ∀x∈o.op.operands.toList,s2.ev x=s.ev x:=by
 intro x hx;cases x with
 |tmp t=>show(lk s2.tm t).getD .bad=(lk s.tm t).getD .bad;rw[h t (CI hx)]
 |_=>rfl
theorem kM{Q:Program}{cf:CF}{ops:List Oper}{s s2:S}{o:Oper}(hk:ar o<=1)(bL: ∀t∈looks ops o,lk s2.tm t=lk s.tm t)(hn:s2.n=s.n)
  (h:ar o=0\/ ∀g,aG ops o=some g-> ∀x∈o.op.operands.toList,dF s2.rg s.rg (s.eg g x)):
  ∃c:Option P,aM Q cf ops s o=(c.bind λq=>s.put o.dst q)/\aM Q cf ops s2 o=(c.bind λq=>s2.put o.dst q):=by
 have ha:=x6 bL;unfold aM;have act: ∀g,aG ops o=some g-> ∃c:Option P,dK Q cf s o g=(c.bind λq=>s.put o.dst q)/\dK Q cf s2 o g=(c.bind λq=>s2.put o.dst q):=by intro g hg;unfold dK;rw[nR hk];exact At (Q:=Q) (s:=s) (s2:=s2) (g:=g) hk ha hn (h.imp id λh=>h g hg)
 cases hg:aG ops o with
 |none=>exact⟨none,rfl,rfl⟩
 |some g=>
  cases g with
  |none=>exact act none hg
  |some tw=>
   obtain⟨t,want⟩:=tw;simp only[];rw[bL t (kL hg)];split
   ·split
    ·exact act _ hg
    exact⟨some .skip,rfl,rfl⟩
   ·exact⟨some .skip,rfl,rfl⟩
   exact⟨none,rfl,rfl⟩
theorem vT{Q:Program}{cf:CF}{ops:List Oper}{s s2:S}{o:Oper}(jZ: ∃t m k,o.op= .lookup t m k false)(bL: ∀t∈looks ops o,lk s2.tm t=lk s.tm t)(hn:s2.n=s.n)
  (h: ∀g,aG ops o=some g->pv Q (s.wr s2.rg) o g=pv Q s o g):
  ∃c:Option P,aM Q cf ops s o=(c.bind λq=>s.put o.dst q)/\aM Q cf ops s2 o=(c.bind λq=>s2.put o.dst q):=by
 obtain⟨lt,lm,Qp,ho⟩:=jZ;have hk:ar o<=1:=by simp[ar,ho]
 have ha:=x6 bL;have act: ∀g,aG ops o=some g-> ∃c:Option P,dK Q cf s o g=(c.bind λq=>s.put o.dst q)/\dK Q cf s2 o g=(c.bind λq=>s2.put o.dst q):=by
  intro g hg;unfold dK;rw[nR hk];have hm:lL o=none:=by simp[lL,ho]
  unfold exec;rw[hm];simp only[];unfold fA;rw[kK hk];have h1:Alike (s.wr s2.rg) s2 o.op.operands.toList:=⟨hn,rfl,ha⟩
  have e:=qb (Q:=Q) h1 g;simp only[];rw[e,h g hg];cases pv Q s o g with
  |some p=>exact⟨some p,rfl,rfl⟩
  |none=>exact⟨none,by simp[ef,ho],by simp[ef,ho]⟩
 unfold aM;cases hg:aG ops o with
 |none=>exact⟨none,rfl,rfl⟩
 |some g=>
  cases g with
  |none=>exact act none hg
  |some tw=>
   obtain⟨t,want⟩:=tw;simp only[];rw[bL t (kL hg)];split
   ·split
    ·exact act _ hg
    exact⟨some .skip,rfl,rfl⟩
   ·exact⟨some .skip,rfl,rfl⟩
   exact⟨none,rfl,rfl⟩
theorem lT{Q:Program}{cf:CF}{ops:List Oper}{s s2:S}{o:Oper}(bL: ∀t∈looks ops o,lk s2.tm t=lk s.tm t)(hn:s2.n=s.n)(hr:s2.rg=s.rg):
  ∃c,aM Q cf ops s o=fin s o.dst c/\aM Q cf ops s2 o=fin s2 o.dst c:=by
 have ha:Alike s s2 o.op.operands.toList:=⟨hn,hr,x6 bL⟩
 unfold aM;cases hg:aG ops o with
 |none=>exact⟨none,rfl,rfl⟩
 |some g=>
  cases g with
  |none=>exact sv Q cf ha none
  |some tw=>
   obtain⟨t,want⟩:=tw;simp only[];rw[bL t (kL hg)];split
   ·split
    ·exact sv Q cf ha _
    exact⟨some (s.rg,.skip),rfl,by unfold fin;rw[<-hr]⟩
   ·exact⟨some (s.rg,.skip),rfl,by unfold fin;rw[<-hr]⟩
   exact⟨none,rfl,rfl⟩
theorem gg{Q:Program}{cf:CF}{ops:List Oper}{s s1:S}{o:Oper}(hk:1<ar o)(h:aM Q cf ops s o=some s1){m:Nat}(hm: ¬oZ (aR Q ops s o).ws m):lk s1.rg m=lk s.rg m:=by
 unfold aM at h;unfold aR at hm;have hb:Nat.ble (ar o) 1=false:=by
  cases hx:Nat.ble (ar o) 1 with
  |false=>rfl
  |true=>rw[zbd] at hx;omega
 cases hg:aG ops o with
 |none=>simp[hg] at h
 |some g=>
  simp only[hg,hb,zar,za2] at hm;cases g with
  |none=>simp only[hg] at h;exact nQ h hm
  |some tw=>
   obtain⟨t,want⟩:=tw;simp only[hg] at h;split at h
   ·split at h
    ·exact nQ h hm
    rw[aE h]
   ·rw[aE h]
   cases h
end Pi
