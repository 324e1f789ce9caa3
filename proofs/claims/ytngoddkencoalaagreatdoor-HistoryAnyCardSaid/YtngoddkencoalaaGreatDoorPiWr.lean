/- The text PiWr. -/
import Derived.Test.YtngoddkencoalaaGreatDoorPiLoc2
namespace Pi
open Go
def S.wr (s:S) (R:List (Nat×En)):S:=⟨s.n,s.tm,R⟩
def fu (R R':List (Nat×En)) (p:P):Prop:= ∀n v,p.name=some (n,v)->lk R n=lk R' n
theorem iw {s:S} {R:List (Nat×En)} {n:Nat} (h:lk R n=lk s.rg n) (v:Nat):(s.wr R).obj n v=s.obj n v:=by
 unfold S.obj S.wr;simp only[h]
theorem fV {s:S} {R:List (Nat×En)} {n:Nat} (h:lk R n=lk s.rg n) (v:Nat):(s.wr R).live n v=s.live n v:=by
 unfold S.live;rw[iw h]
theorem BI {s:S} {R:List (Nat×En)} {p:P} (h:fu R s.rg p):jL (s.wr R) p=jL s p:=by
 cases p<;>simp only[jL]
 ·rw[fV (h _ _ rfl)]
 ·rw[fV (h _ _ rfl)]
theorem N1 (Q:Program) {s:S} {R:List (Nat×En)} {t:TypeId} {p:P} (h:fu R s.rg p):qi Q (s.wr R) t p=qi Q s t p:=by
 cases p<;>simp only[qi]
 ·rw[iw (h _ _ rfl)]
 ·rw[iw (h _ _ rfl)]
theorem yV (Q:Program) {s:S} {R:List (Nat×En)} {t:TypeId} {f:Nat} {p:P} (h:fu R s.rg p):ij Q (s.wr R) t f p=ij Q s t f p:=by
 unfold ij
 split
 ·rfl
 ·cases p with
  |ref n v off=>simp only[fV (h n v rfl)]
  |dn n v i k off=>simp only[fV (h n v rfl)]
  |_=>rfl
theorem yW (Q:Program) {s:S} {R:List (Nat×En)} {t:TypeId} {p i:P} (h:fu R s.rg p):eW Q (s.wr R) t p i=eW Q s t p i:=by
 unfold eW
 split
 ·unfold od
  cases p with
  |ref n v off=>simp only[fV (h n v rfl)]
  |dn n v i k off=>simp only[fV (h n v rfl)]
  |_=>rfl
 split
 ·split
  ·cases p with
   |sl n v len=>simp only[iw (h n v rfl)]
   |kT n v k off len=>simp only[iw (h n v rfl)]
   |d x=>cases x<;>rfl
   |_=>rfl
  ·rfl
 ·rfl
theorem N2 (Q:Program) {s:S} {R:List (Nat×En)} {t:TypeId} {p:P} {lo:Option P} (h:fu R s.rg p):nE Q (s.wr R) t p lo=nE Q s t p lo:=by
 unfold nE
 split
 ·rw[iw (h _ _ rfl)]
 ·rfl
theorem DQ (Q:Program) {s:S} {R:List (Nat×En)} {t:TypeId} {p:P} {lo:Option P} (h:fu R s.rg p):fu R s.rg (nE Q s t p lo):=by
 unfold nE
 split
 ·split
  ·split
   ·split
    ·intro n v hn;cases hn
    ·exact h
   ·exact h
  ·exact h
 ·exact h
theorem Kz (Q:Program) {s:S} {R:List (Nat×En)} {t:TypeId} {p:P} {lo hi:Option P} (h:fu R s.rg p):lj Q (s.wr R) t p lo hi=lj Q s t p lo hi:=by
 unfold lj
 rw[N2 Q h]
 replace h:=DQ Q (t:=t) (lo:=lo) h
 generalize nE Q s t p lo=p at h
 unfold vg
 split
 ·rfl
 ·split
  ·cases p with
   |sl n v len=>simp only[iw (h n v rfl)]
   |kT n v k off len=>simp only[iw (h n v rfl)]
   |d x=>cases x<;>rfl
   |_=>rfl
  ·rfl
theorem TA {s:S} {R:List (Nat×En)} {p:P} (h:fu R s.rg p):Dk (s.wr R) p=Dk s p:=by
 unfold Dk
 cases p with
 |sl n v len=>simp only[fV (h n v rfl)]
 |kT n v k off len=>simp only[fV (h n v rfl)]
 |d x=>cases x<;>rfl
 |_=>rfl
theorem KA {s:S} {R:List (Nat×En)} {p q:P} (h:fu R s.rg p) (h2:fu R s.rg q):sR (s.wr R) p q=sR s p q:=by
 unfold sR
 cases p with
 |ref n v off=>cases q with
  |d x=>cases x<;>simp only[fV (h n v rfl)]
  |_=>rfl
 |dn n v i k off=>cases q with
  |d x=>cases x<;>simp only[fV (h n v rfl)]
  |_=>rfl
 |d x=>cases q with
  |ref n v off=>cases x<;>simp only[fV (h2 n v rfl)]
  |dn n v i k off=>cases x<;>simp only[fV (h2 n v rfl)]
  |d y=>cases x<;>cases y<;>rfl
  |_=>cases x<;>rfl
 |eS x off=>cases q with
  |d y=>cases y<;>rfl
  |_=>rfl
 |_=>cases q<;>rfl
theorem TB (Q:Program) {s:S} {R:List (Nat×En)} {t2:TypeId} {k:Nat} {p:P} (h:fu R s.rg p):ln Q (s.wr R) t2 k p=ln Q s t2 k p:=by
 unfold ln
 cases p with
 |sl n v len=>simp only[iw (h n v rfl)]
 |kT n v k' off len=>simp only[iw (h n v rfl)]
 |d x=>cases x<;>rfl
 |_=>rfl
theorem GC (Q:Program) {s:S} {R:List (Nat×En)} {t:TypeId} {p i:P} {ok:Bool} {z:D} (h:fu R s.rg p):ec Q (s.wr R) t p i ok z=ec Q s t p i ok z:=by
 unfold ec
 split
 ·rename_i n v k _
  rw[iw (h _ _ rfl)]
 ·rfl
 ·rfl
theorem KB {s:S} {R:List (Nat×En)} {p:P} (h:fu R s.rg p):oe (s.wr R) p=oe s p:=by
 unfold oe
 split
 ·rw[iw (h _ _ rfl)]
 ·rfl
theorem TC {s:S} {R:List (Nat×En)} {p:P} (h:fu R s.rg p):Dl (s.wr R) p=Dl s p:=by
 cases p<;>simp only[Dl]
 rw[iw (h _ _ rfl)]
theorem W4 {Q:Program} {s:S} {R:List (Nat×En)} {o:Oper} {g:Option (Nat×Bool)} (h:aA o=0\/ ∀x∈o.op.operands.toList,fu R s.rg (s.eg g x)):pv Q (s.wr R) o g=pv Q s o g:=by
 have eg: ∀x,(s.wr R).eg g x=s.eg g x:=fun _=>rfl
 have ev: ∀x,(s.wr R).ev x=s.ev x:=fun _=>rfl
 have mem: ∀{P':Prop},aA o≠0->(aA o=0\/P')->P':=fun h1 h2=>h2.resolve_left h1
 have egf:(s.wr R).eg g=s.eg g:=rfl
 unfold pv
 simp only[eg,egf]
 split
 ·rfl
 ·rfl
 ·rfl
 ·rename_i x ho
  exact BI (mem (by simp[aA,ho]) h x (by simp[ho,Op.operands]))
 ·rename_i op t x y yt ho
  have hm:=mem (by simp[aA,ho]) h
  unfold nP
  rw[KA (hm x (by simp[ho,Op.operands])) (hm y (by simp[ho,Op.operands]))]
 ·rfl
 ·rfl
 ·rename_i t x ho
  exact N1 Q (mem (by simp[aA,ho]) h x (by simp[ho,Op.operands]))
 ·rename_i t x f ho
  exact yV Q (mem (by simp[aA,ho]) h x (by simp[ho,Op.operands]))
 ·rename_i t x i ho
  exact yW Q (mem (by simp[aA,ho]) h x (by simp[ho,Op.operands]))
 ·rfl
 ·rfl
 ·rfl
 ·rename_i t x i ok ho
  have e: ∀z,ec Q (s.wr R) t (s.eg g x) (s.eg g i) ok z=ec Q s t (s.eg g x) (s.eg g i) ok z:=fun z=>GC Q (mem (by simp[aA,ho]) h x (by simp[ho,Op.operands]))
  simp only[e]
 ·rename_i x ho
  exact KB (mem (by simp[aA,ho]) h x (by simp[ho,Op.operands]))
 ·rename_i t x lo hi ho
  rw[Kz Q (mem (by simp[aA,ho]) h x (by simp[ho,Op.operands]))]
 ·rfl
 ·rfl
 ·rename_i c ho
  split
  ·rename_i hc
   split
   ·rename_i x b8
    have hx:x∈o.op.operands.toList:=by
     have:x∈c.args.toList:=by rw[b8];simp
     simp only[ho,Op.operands,Call.operands]
     simp at this
     simp[this]
    rw[TA (mem (by simp[aA,ho,hc]) h x hx),TC (mem (by simp[aA,ho,hc]) h x hx)]
   ·rfl
  ·rfl
  ·rfl
  ·rfl
 ·rfl
theorem Y7 {Q:Program} {s s2:S} {o:Oper} {g:Option (Nat×Bool)} (ha: ∀x∈o.op.operands.toList,s2.ev x=s.ev x) (hn:s2.n=s.n)
  (h:aA o=0\/ ∀x∈o.op.operands.toList,fu s2.rg s.rg (s.eg g x)):pv Q s2 o g=pv Q s o g:=by
 have h1:Alike s (s.wt s2.tm) o.op.operands.toList:=⟨rfl,rfl,ha⟩
 have e:s2=(s.wt s2.tm).wr s2.rg:=by
  cases s2 with
  |mk n tm rg=>simp only at hn;subst hn;rfl
 rw[e]
 rw[W4 (s:=s.wt s2.tm)]
 ·exact wK h1 g
 ·rcases h with h |h
  ·exact .inl h
  ·refine .inr fun x hx=> ?_
   rw[h1.eg hx]
   exact h x hx
theorem uf {o:Oper} (hk:aA o<=1):fY o=none:=by
 unfold fY
 split
 ·rename_i c ho
  split
  ·rename_i f hf;simp[aA,ho,hf] at hk
  ·rfl
 ·rfl
theorem oL {Q:Program} {o:Oper} (hk:aA o<=1):cP Q o=none:=by
 unfold cP
 split
 ·rename_i ho;simp[aA,ho] at hk
 ·rfl
theorem KC {Q:Program} {s s2:S} {o:Oper} {g:Option (Nat×Bool)} (hk:aA o<=1) (ha: ∀x∈o.op.operands.toList,s2.ev x=s.ev x) (hn:s2.n=s.n)
  (h:aA o=0\/ ∀x∈o.op.operands.toList,fu s2.rg s.rg (s.eg g x)): ∃c:Option P,exec Q s o g=(c.bind fun p=>s.put o.dst p)/\exec Q s2 o g=(c.bind fun p=>s2.put o.dst p):=by
 unfold exec
 cases hm:qS o with
 |some r=>
  obtain⟨t,len,parts⟩:=r
  obtain⟨ps,ho,rfl,_⟩:=sY hm
  have e:ps.toList.map (fun x=>(x.1,s2.eg g x.2))=ps.toList.map (fun x=>(x.1,s.eg g x.2)):=List.map_congr_left fun x hx=>by
   have:s2.ev x.2=s.ev x.2:=ha _ (by rw[ho];simp[Op.operands];exact⟨_,by simpa using hx⟩)
   unfold S.eg
   rw[this]
  simp only[e]
  cases zu Q t len (ps.toList.map fun x=>(x.1,s.eg g x.2)) with
  |none=>exact⟨none,rfl,rfl⟩
  |some p=>exact⟨some p,rfl,rfl⟩
 |none=>
 have N3: ∀t l ps,o.op≠ .buildSlice t l ps:=fun t l ps ho=>by
  have h0:Nat.beq o.type 4000000=false:=by
   cases hb:Nat.beq o.type 4000000 with
   |false=>rfl
   |true=>simp[qS,ho,hb] at hm
  simp[aA,ho,h0] at hk
 simp only[]
 unfold iO
 rw[oL hk]
 simp only[]
 rw[Y7 ha hn h]
 cases pv Q s o g with
 |some p=>exact⟨some p,rfl,rfl⟩
 |none=>
  simp only[]
  unfold ef
  split
  ·rename_i ho;first |exact absurd ho (N3 _ _ _)| (simp[aA,ho] at hk)
  ·rename_i ho;first |exact absurd ho (N3 _ _ _)| (simp[aA,ho] at hk)
  ·rename_i ho;first |exact absurd ho (N3 _ _ _)| (simp[aA,ho] at hk)
  ·rename_i t1 t2 x ho
   have hx:x∈o.op.operands.toList:=by simp[ho,Op.operands]
   have e0:s2.eg g x=s.eg g x:=by unfold S.eg;rw[ha x hx]
   have e1:ln Q s2 t1 1 (s.eg g x)=ln Q s t1 1 (s.eg g x):=by
    have vi:fu s2.rg s.rg (s.eg g x):=by
     rcases h with h |h
     ·simp[aA,ho] at h
     ·exact h x hx
    have:ln Q (s.wr s2.rg) t1 1 (s.eg g x)=ln Q s t1 1 (s.eg g x):=TB Q vi
    rw[<-this]
    rfl
   rw[e0,e1]
   split
   ·split
    ·split
     ·exact⟨some _,rfl,rfl⟩
     ·exact⟨none,rfl,rfl⟩
    ·exact⟨none,rfl,rfl⟩
   ·exact⟨none,rfl,rfl⟩
  ·rename_i c ho
   split
   ·rename_i hc;simp[aA,ho,hc] at hk
   ·rename_i hc;simp[aA,ho,hc] at hk
   ·rename_i hc;simp[aA,ho,hc] at hk
   ·exact⟨none,rfl,rfl⟩
  ·rename_i ho;first |exact absurd ho (N3 _ _ _)| (simp[aA,ho] at hk)
  ·rename_i ho;first |exact absurd ho (N3 _ _ _)| (simp[aA,ho] at hk)
  ·rename_i ho;first |exact absurd ho (N3 _ _ _)| (simp[aA,ho] at hk)
  ·rename_i ho;first |exact absurd ho (N3 _ _ _)| (simp[aA,ho] at hk)
  ·rename_i ho;first |exact absurd ho (N3 _ _ _)| (simp[aA,ho] at hk)
  ·rename_i ho;first |exact absurd ho (N3 _ _ _)| (simp[aA,ho] at hk)
  ·rename_i ho;first |exact absurd ho (N3 _ _ _)| (simp[aA,ho] at hk)
  ·rename_i ho;first |exact absurd ho (N3 _ _ _)| (simp[aA,ho] at hk)
  ·exact⟨none,rfl,rfl⟩
theorem N4 {ops:List Oper} {o:Oper} {t:Nat} (h:Operand.tmp t∈o.op.operands.toList):t∈looks ops o:=
 List.mem_append_left _ (List.mem_flatMap.2 ⟨_,h,by simp[MT]⟩)
theorem oM {ops:List Oper} {o:Oper} {t:Nat} {w:Bool} (h:bj ops o=some (some (t,w))):t∈looks ops o:=by
 unfold bj at h
 unfold looks
 refine List.mem_append_right _ ?_
 split at h
 ·cases h
 ·rename_i j want hg
  split at h
  ·rename_i oj hj
   split at h
   ·rename_i t' ht
    simp at h
    obtain⟨rfl,rfl⟩:=h
    simp[hg,hj,ht]
   ·cases h
  ·cases h
theorem GD {ops:List Oper} {s s2:S} {o:Oper} (h: ∀t∈looks ops o,lk s2.tm t=lk s.tm t): ∀x∈o.op.operands.toList,s2.ev x=s.ev x:=by
 intro x hx
 cases x with
 |tmp t=>show(lk s2.tm t).getD .bad=(lk s.tm t).getD .bad;rw[h t (N4 hx)]
 |_=>rfl
theorem oN {Q:Program} {cf:CF} {ops:List Oper} {s s2:S} {o:Oper} (hk:aA o<=1) (dI: ∀t∈looks ops o,lk s2.tm t=lk s.tm t) (hn:s2.n=s.n)
  (h:aA o=0\/ ∀g,bj ops o=some g-> ∀x∈o.op.operands.toList,fu s2.rg s.rg (s.eg g x)):
  ∃c:Option P,br Q cf ops s o=(c.bind fun q=>s.put o.dst q)/\br Q cf ops s2 o=(c.bind fun q=>s2.put o.dst q):=by
 have ha:=GD dI
 unfold br
 have act: ∀g,bj ops o=some g-> ∃c:Option P,fH Q cf s o g=(c.bind fun q=>s.put o.dst q)/\fH Q cf s2 o g=(c.bind fun q=>s2.put o.dst q):=by
  intro g hg
  unfold fH
  rw[uf hk]
  exact KC (Q:=Q) (s:=s) (s2:=s2) (g:=g) hk ha hn (h.imp id fun h=>h g hg)
 cases hg:bj ops o with
 |none=>exact⟨none,rfl,rfl⟩
 |some g=>
  cases g with
  |none=>exact act none hg
  |some tw=>
   obtain⟨t,want⟩:=tw
   simp only[]
   rw[dI t (oM hg)]
   split
   ·split
    ·exact act _ hg
    ·exact⟨some .skip,rfl,rfl⟩
   ·exact⟨some .skip,rfl,rfl⟩
   ·exact⟨none,rfl,rfl⟩
theorem DR {Q:Program} {cf:CF} {ops:List Oper} {s s2:S} {o:Oper} (n0: ∃t m k,o.op= .lookup t m k false) (dI: ∀t∈looks ops o,lk s2.tm t=lk s.tm t) (hn:s2.n=s.n)
  (h: ∀g,bj ops o=some g->pv Q (s.wr s2.rg) o g=pv Q s o g):
  ∃c:Option P,br Q cf ops s o=(c.bind fun q=>s.put o.dst q)/\br Q cf ops s2 o=(c.bind fun q=>s2.put o.dst q):=by
 obtain⟨lt,lm,lkk,ho⟩:=n0
 have hk:aA o<=1:=by simp[aA,ho]
 have ha:=GD dI
 have act: ∀g,bj ops o=some g-> ∃c:Option P,fH Q cf s o g=(c.bind fun q=>s.put o.dst q)/\fH Q cf s2 o g=(c.bind fun q=>s2.put o.dst q):=by
  intro g hg
  unfold fH
  rw[uf hk]
  have hm:qS o=none:=by simp[qS,ho]
  unfold exec
  rw[hm]
  simp only[]
  unfold iO
  rw[oL hk]
  have h1:Alike (s.wr s2.rg) s2 o.op.operands.toList:=⟨hn,rfl,ha⟩
  have e:=wK (Q:=Q) h1 g
  simp only[]
  rw[e,h g hg]
  cases pv Q s o g with
  |some p=>exact⟨some p,rfl,rfl⟩
  |none=>exact⟨none,by simp[ef,ho],by simp[ef,ho]⟩
 unfold br
 cases hg:bj ops o with
 |none=>exact⟨none,rfl,rfl⟩
 |some g=>
  cases g with
  |none=>exact act none hg
  |some tw=>
   obtain⟨t,want⟩:=tw
   simp only[]
   rw[dI t (oM hg)]
   split
   ·split
    ·exact act _ hg
    ·exact⟨some .skip,rfl,rfl⟩
   ·exact⟨some .skip,rfl,rfl⟩
   ·exact⟨none,rfl,rfl⟩
theorem q5 {Q:Program} {cf:CF} {ops:List Oper} {s s2:S} {o:Oper} (dI: ∀t∈looks ops o,lk s2.tm t=lk s.tm t) (hn:s2.n=s.n) (hr:s2.rg=s.rg):
  ∃c,br Q cf ops s o=fin s o.dst c/\br Q cf ops s2 o=fin s2 o.dst c:=by
 have ha:Alike s s2 o.op.operands.toList:=⟨hn,hr,GD dI⟩
 unfold br
 cases hg:bj ops o with
 |none=>exact⟨none,rfl,rfl⟩
 |some g=>
  cases g with
  |none=>exact zU Q cf ha none
  |some tw=>
   obtain⟨t,want⟩:=tw
   simp only[]
   rw[dI t (oM hg)]
   split
   ·split
    ·exact zU Q cf ha _
    ·exact⟨some (s.rg,.skip),rfl,by unfold fin;rw[<-hr]⟩
   ·exact⟨some (s.rg,.skip),rfl,by unfold fin;rw[<-hr]⟩
   ·exact⟨none,rfl,rfl⟩
theorem jE {Q:Program} {cf:CF} {ops:List Oper} {s s1:S} {o:Oper} (hk:1<aA o) (h:br Q cf ops s o=some s1) {m:Nat} (hm: ¬ua (bK Q ops s o).ws m):lk s1.rg m=lk s.rg m:=by
 unfold br at h
 unfold bK at hm
 have hb:Nat.ble (aA o) 1=false:=by
  cases hx:Nat.ble (aA o) 1 with
  |false=>rfl
  |true=>rw[Nat.ble_eq] at hx;omega
 cases hg:bj ops o with
 |none=>simp[hg] at h
 |some g=>
  simp only[hg,hb,Bool.false_eq_true,if_false] at hm
  cases g with
  |none=>simp only[hg] at h;exact ud h hm
  |some tw=>
   obtain⟨t,want⟩:=tw
   simp only[hg] at h
   split at h
   ·split at h
    ·exact ud h hm
    ·rw[bs h]
   ·rw[bs h]
   ·cases h
end Pi
