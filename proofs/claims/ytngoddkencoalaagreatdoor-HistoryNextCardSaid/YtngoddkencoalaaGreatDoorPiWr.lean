/- The text PiWr. -/
import Derived.Test.YtngoddkencoalaaGreatDoorPiLoc2
namespace Pi
open Go
def S.wr (s:S) (R:List (Nat×En)):S:=⟨s.n,s.tm,R⟩
def fL (R R':List (Nat×En)) (p:P):Prop:= ∀n v,p.name=some (n,v)->lk R n=lk R' n
theorem iN {s:S} {R:List (Nat×En)} {n:Nat} (h:lk R n=lk s.rg n) (v:Nat):(s.wr R).obj n v=s.obj n v:=by
 unfold S.obj S.wr;simp only[h]
theorem gn {s:S} {R:List (Nat×En)} {n:Nat} (h:lk R n=lk s.rg n) (v:Nat):(s.wr R).live n v=s.live n v:=by
 unfold S.live;rw[iN h]
theorem CG {s:S} {R:List (Nat×En)} {p:P} (h:fL R s.rg p):kr (s.wr R) p=kr s p:=by
 cases p<;>simp only[kr]
 ·rw[gn (h _ _ rfl)]
 ·rw[gn (h _ _ rfl)]
theorem PN (Q:Program) {s:S} {R:List (Nat×En)} {t:TypeId} {p:P} (h:fL R s.rg p):qG Q (s.wr R) t p=qG Q s t p:=by
 cases p<;>simp only[qG]
 ·rw[iN (h _ _ rfl)]
 ·rw[iN (h _ _ rfl)]
theorem zQ (Q:Program) {s:S} {R:List (Nat×En)} {t:TypeId} {f:Nat} {p:P} (h:fL R s.rg p):iH Q (s.wr R) t f p=iH Q s t f p:=by
 unfold iH
 split
 ·rfl
 ·cases p with
  |ref n v off=>simp only[gn (h n v rfl)]
  |dx n v i k off=>simp only[gn (h n v rfl)]
  |_=>rfl
theorem zR (Q:Program) {s:S} {R:List (Nat×En)} {t:TypeId} {p i:P} (h:fL R s.rg p):e9 Q (s.wr R) t p i=e9 Q s t p i:=by
 unfold e9
 split
 ·unfold oV
  cases p with
  |ref n v off=>simp only[gn (h n v rfl)]
  |dx n v i k off=>simp only[gn (h n v rfl)]
  |_=>rfl
 split
 ·split
  ·cases p with
   |sl n v len=>simp only[iN (h n v rfl)]
   |lC n v k off len=>simp only[iN (h n v rfl)]
   |d x=>cases x<;>rfl
   |_=>rfl
  ·rfl
 ·rfl
theorem PO (Q:Program) {s:S} {R:List (Nat×En)} {t:TypeId} {p:P} {lo:Option P} (h:fL R s.rg p):n0 Q (s.wr R) t p lo=n0 Q s t p lo:=by
 unfold n0
 split
 ·rw[iN (h _ _ rfl)]
 ·rfl
theorem EU (Q:Program) {s:S} {R:List (Nat×En)} {t:TypeId} {p:P} {lo:Option P} (h:fL R s.rg p):fL R s.rg (n0 Q s t p lo):=by
 unfold n0
 split
 ·split
  ·split
   ·split
    ·intro n v hn;cases hn
    ·exact h
   ·exact h
  ·exact h
 ·exact h
theorem Mk (Q:Program) {s:S} {R:List (Nat×En)} {t:TypeId} {p:P} {lo hi:Option P} (h:fL R s.rg p):l5 Q (s.wr R) t p lo hi=l5 Q s t p lo hi:=by
 unfold l5
 rw[PO Q h]
 replace h:=EU Q (t:=t) (lo:=lo) h
 generalize n0 Q s t p lo=p at h
 unfold v8
 split
 ·rfl
 ·split
  ·cases p with
   |sl n v len=>simp only[iN (h n v rfl)]
   |lC n v k off len=>simp only[iN (h n v rfl)]
   |d x=>cases x<;>rfl
   |_=>rfl
  ·rfl
theorem V9 {s:S} {R:List (Nat×En)} {p:P} (h:fL R s.rg p):Eg (s.wr R) p=Eg s p:=by
 unfold Eg
 cases p with
 |sl n v len=>simp only[gn (h n v rfl)]
 |lC n v k off len=>simp only[gn (h n v rfl)]
 |d x=>cases x<;>rfl
 |_=>rfl
theorem Ml {s:S} {R:List (Nat×En)} {p q:P} (h:fL R s.rg p) (h2:fL R s.rg q):tG (s.wr R) p q=tG s p q:=by
 unfold tG
 cases p with
 |ref n v off=>cases q with
  |d x=>cases x<;>simp only[gn (h n v rfl)]
  |_=>rfl
 |dx n v i k off=>cases q with
  |d x=>cases x<;>simp only[gn (h n v rfl)]
  |_=>rfl
 |d x=>cases q with
  |ref n v off=>cases x<;>simp only[gn (h2 n v rfl)]
  |dx n v i k off=>cases x<;>simp only[gn (h2 n v rfl)]
  |d y=>cases x<;>cases y<;>rfl
  |_=>cases x<;>rfl
 |eZ x off=>cases q with
  |d y=>cases y<;>rfl
  |_=>rfl
 |_=>cases q<;>rfl
theorem Wa (Q:Program) {s:S} {R:List (Nat×En)} {t2:TypeId} {k:Nat} {p:P} (h:fL R s.rg p):l7 Q (s.wr R) t2 k p=l7 Q s t2 k p:=by
 unfold l7
 cases p with
 |sl n v len=>simp only[iN (h n v rfl)]
 |lC n v k' off len=>simp only[iN (h n v rfl)]
 |d x=>cases x<;>rfl
 |_=>rfl
theorem H7 (Q:Program) {s:S} {R:List (Nat×En)} {t:TypeId} {p i:P} {ok:Bool} {z:D} (h:fL R s.rg p):eB Q (s.wr R) t p i ok z=eB Q s t p i ok z:=by
 unfold eB
 split
 ·rename_i n v k _
  rw[iN (h _ _ rfl)]
 ·rfl
 ·rfl
theorem Mm {s:S} {R:List (Nat×En)} {p:P} (h:fL R s.rg p):oW (s.wr R) p=oW s p:=by
 unfold oW
 split
 ·rw[iN (h _ _ rfl)]
 ·rfl
theorem Wb {s:S} {R:List (Nat×En)} {p:P} (h:fL R s.rg p):Eh (s.wr R) p=Eh s p:=by
 cases p<;>simp only[Eh]
 rw[iN (h _ _ rfl)]
theorem qaB {Q:Program} {s:S} {R:List (Nat×En)} {o:Oper} {g:Option (Nat×Bool)} (h:aB o=0\/ ∀x∈o.op.operands.toList,fL R s.rg (s.eg g x)):pv Q (s.wr R) o g=pv Q s o g:=by
 have eg: ∀x,(s.wr R).eg g x=s.eg g x:=fun _=>rfl
 have ev: ∀x,(s.wr R).ev x=s.ev x:=fun _=>rfl
 have mem: ∀{P':Prop},aB o≠0->(aB o=0\/P')->P':=fun h1 h2=>h2.resolve_left h1
 have egf:(s.wr R).eg g=s.eg g:=rfl
 unfold pv
 simp only[eg,egf]
 split
 ·rfl
 ·rfl
 ·rfl
 ·rename_i x ho
  exact CG (mem (by simp[aB,ho]) h x (by simp[ho,Op.operands]))
 ·rename_i op t x y yt ho
  have hm:=mem (by simp[aB,ho]) h
  unfold oo
  rw[Ml (hm x (by simp[ho,Op.operands])) (hm y (by simp[ho,Op.operands]))]
 ·rfl
 ·rfl
 ·rename_i t x ho
  exact PN Q (mem (by simp[aB,ho]) h x (by simp[ho,Op.operands]))
 ·rename_i t x f ho
  exact zQ Q (mem (by simp[aB,ho]) h x (by simp[ho,Op.operands]))
 ·rename_i t x i ho
  exact zR Q (mem (by simp[aB,ho]) h x (by simp[ho,Op.operands]))
 ·rfl
 ·rfl
 ·rfl
 ·rename_i t x i ok ho
  have e: ∀z,eB Q (s.wr R) t (s.eg g x) (s.eg g i) ok z=eB Q s t (s.eg g x) (s.eg g i) ok z:=fun z=>H7 Q (mem (by simp[aB,ho]) h x (by simp[ho,Op.operands]))
  simp only[e]
 ·rename_i x ho
  exact Mm (mem (by simp[aB,ho]) h x (by simp[ho,Op.operands]))
 ·rename_i t x lo hi ho
  rw[Mk Q (mem (by simp[aB,ho]) h x (by simp[ho,Op.operands]))]
 ·rfl
 ·rfl
 ·rename_i c ho
  split
  ·rename_i hc
   split
   ·rename_i x cN
    have hx:x∈o.op.operands.toList:=by
     have:x∈c.args.toList:=by rw[cN];simp
     simp only[ho,Op.operands,Call.operands]
     simp at this
     simp[this]
    rw[V9 (mem (by simp[aB,ho,hc]) h x hx),Wb (mem (by simp[aB,ho,hc]) h x hx)]
   ·rfl
  ·rfl
  ·rfl
  ·rfl
 ·rfl
theorem qbG {Q:Program} {s s2:S} {o:Oper} {g:Option (Nat×Bool)} (ha: ∀x∈o.op.operands.toList,s2.ev x=s.ev x) (hn:s2.n=s.n)
  (h:aB o=0\/ ∀x∈o.op.operands.toList,fL s2.rg s.rg (s.eg g x)):pv Q s2 o g=pv Q s o g:=by
 have h1:Alike s (s.wt s2.tm) o.op.operands.toList:=⟨rfl,rfl,ha⟩
 have e:s2=(s.wt s2.tm).wr s2.rg:=by
  cases s2 with
  |mk n tm rg=>simp only at hn;subst hn;rfl
 rw[e]
 rw[qaB (s:=s.wt s2.tm)]
 ·exact xw h1 g
 ·rcases h with h |h
  ·exact .inl h
  ·refine .inr fun x hx=> ?_
   rw[h1.eg hx]
   exact h x hx
theorem uR {o:Oper} (hk:aB o<=1):gx o=none:=by
 unfold gx
 split
 ·rename_i c ho
  split
  ·rename_i f hf;simp[aB,ho,hf] at hk
  ·rfl
 ·rfl
theorem pr {Q:Program} {o:Oper} (hk:aB o<=1):cZ Q o=none:=by
 unfold cZ
 split
 ·rename_i ho;simp[aB,ho] at hk
 ·rfl
theorem Mn {Q:Program} {s s2:S} {o:Oper} {g:Option (Nat×Bool)} (hk:aB o<=1) (ha: ∀x∈o.op.operands.toList,s2.ev x=s.ev x) (hn:s2.n=s.n)
  (h:aB o=0\/ ∀x∈o.op.operands.toList,fL s2.rg s.rg (s.eg g x)): ∃c:Option P,exec Q s o g=(c.bind fun p=>s.put o.dst p)/\exec Q s2 o g=(c.bind fun p=>s2.put o.dst p):=by
 unfold exec
 cases hm:rb o with
 |some r=>
  obtain⟨t,len,parts⟩:=r
  obtain⟨ps,ho,rfl,_⟩:=tM hm
  have e:ps.toList.map (fun x=>(x.1,s2.eg g x.2))=ps.toList.map (fun x=>(x.1,s.eg g x.2)):=zbE fun x hx=>by
   have:s2.ev x.2=s.ev x.2:=ha _ (by rw[ho];simp[Op.operands];exact⟨_,by simpa using hx⟩)
   unfold S.eg
   rw[this]
  simp only[e]
  cases Au Q t len (ps.toList.map fun x=>(x.1,s.eg g x.2)) with
  |none=>exact⟨none,rfl,rfl⟩
  |some p=>exact⟨some p,rfl,rfl⟩
 |none=>
 have N8: ∀t l ps,o.op≠ .buildSlice t l ps:=fun t l ps ho=>by
  have h0:Nat.beq o.type 4000000=false:=by
   cases hb:Nat.beq o.type 4000000 with
   |false=>rfl
   |true=>simp[rb,ho,hb] at hm
  simp[aB,ho,h0] at hk
 simp only[]
 unfold jk
 rw[pr hk]
 simp only[]
 rw[qbG ha hn h]
 cases pv Q s o g with
 |some p=>exact⟨some p,rfl,rfl⟩
 |none=>
  simp only[]
  unfold ef
  split
  ·rename_i ho;first |exact absurd ho (N8 _ _ _)| (simp[aB,ho] at hk)
  ·rename_i ho;first |exact absurd ho (N8 _ _ _)| (simp[aB,ho] at hk)
  ·rename_i ho;first |exact absurd ho (N8 _ _ _)| (simp[aB,ho] at hk)
  ·rename_i t1 t2 x ho
   have hx:x∈o.op.operands.toList:=by simp[ho,Op.operands]
   have e0:s2.eg g x=s.eg g x:=by unfold S.eg;rw[ha x hx]
   have e1:l7 Q s2 t1 1 (s.eg g x)=l7 Q s t1 1 (s.eg g x):=by
    have wa:fL s2.rg s.rg (s.eg g x):=by
     rcases h with h |h
     ·simp[aB,ho] at h
     ·exact h x hx
    have:l7 Q (s.wr s2.rg) t1 1 (s.eg g x)=l7 Q s t1 1 (s.eg g x):=Wa Q wa
    rw[<-this]
    rfl
   rw[e0,e1]
   split
   ·split
    ·split
     ·exact⟨some _,rfl,rfl⟩
     ·exact⟨none,rfl,rfl⟩
    ·exact⟨none,rfl,rfl⟩
   ·exact⟨none,rfl,rfl⟩
  ·rename_i c ho
   split
   ·rename_i hc;simp[aB,ho,hc] at hk
   ·rename_i hc;simp[aB,ho,hc] at hk
   ·rename_i hc;simp[aB,ho,hc] at hk
   ·exact⟨none,rfl,rfl⟩
  ·rename_i ho;first |exact absurd ho (N8 _ _ _)| (simp[aB,ho] at hk)
  ·rename_i ho;first |exact absurd ho (N8 _ _ _)| (simp[aB,ho] at hk)
  ·rename_i ho;first |exact absurd ho (N8 _ _ _)| (simp[aB,ho] at hk)
  ·rename_i ho;first |exact absurd ho (N8 _ _ _)| (simp[aB,ho] at hk)
  ·rename_i ho;first |exact absurd ho (N8 _ _ _)| (simp[aB,ho] at hk)
  ·rename_i ho;first |exact absurd ho (N8 _ _ _)| (simp[aB,ho] at hk)
  ·rename_i ho;first |exact absurd ho (N8 _ _ _)| (simp[aB,ho] at hk)
  ·rename_i ho;first |exact absurd ho (N8 _ _ _)| (simp[aB,ho] at hk)
  ·exact⟨none,rfl,rfl⟩
theorem PQ {ops:List Oper} {o:Oper} {t:Nat} (h:Operand.tmp t∈o.op.operands.toList):t∈looks ops o:=
 zbz _ (zcv.2 ⟨_,h,by simp[OJ]⟩)
theorem pw {ops:List Oper} {o:Oper} {t:Nat} {w:Bool} (h:bn ops o=some (some (t,w))):t∈looks ops o:=by
 unfold bn at h
 unfold looks
 refine zbb _ ?_
 split at h
 ·cases h
 ·rename_i j want hg
  split at h
  ·rename_i oj hj
   split at h
   ·rename_i t' ht
    simp at h
    obtain⟨rfl,rfl⟩:=h
    simp[hg,hj,ht]
   ·cases h
  ·cases h
theorem H8 {ops:List Oper} {s s2:S} {o:Oper} (h: ∀t∈looks ops o,lk s2.tm t=lk s.tm t): ∀x∈o.op.operands.toList,s2.ev x=s.ev x:=by
 intro x hx
 cases x with
 |tmp t=>show(lk s2.tm t).getD .bad=(lk s.tm t).getD .bad;rw[h t (PQ hx)]
 |_=>rfl
theorem py {Q:Program} {cf:CF} {ops:List Oper} {s s2:S} {o:Oper} (hk:aB o<=1) (dP: ∀t∈looks ops o,lk s2.tm t=lk s.tm t) (hn:s2.n=s.n)
  (h:aB o=0\/ ∀g,bn ops o=some g-> ∀x∈o.op.operands.toList,fL s2.rg s.rg (s.eg g x)):
  ∃c:Option P,bu Q cf ops s o=(c.bind fun q=>s.put o.dst q)/\bu Q cf ops s2 o=(c.bind fun q=>s2.put o.dst q):=by
 have ha:=H8 dP
 unfold bu
 have act: ∀g,bn ops o=some g-> ∃c:Option P,fY Q cf s o g=(c.bind fun q=>s.put o.dst q)/\fY Q cf s2 o g=(c.bind fun q=>s2.put o.dst q):=by
  intro g hg
  unfold fY
  rw[uR hk]
  exact Mn (Q:=Q) (s:=s) (s2:=s2) (g:=g) hk ha hn (h.imp id fun h=>h g hg)
 cases hg:bn ops o with
 |none=>exact⟨none,rfl,rfl⟩
 |some g=>
  cases g with
  |none=>exact act none hg
  |some tw=>
   obtain⟨t,want⟩:=tw
   simp only[]
   rw[dP t (pw hg)]
   split
   ·split
    ·exact act _ hg
    ·exact⟨some .skip,rfl,rfl⟩
   ·exact⟨some .skip,rfl,rfl⟩
   ·exact⟨none,rfl,rfl⟩
theorem EV {Q:Program} {cf:CF} {ops:List Oper} {s s2:S} {o:Oper} (oL: ∃t m k,o.op= .lookup t m k false) (dP: ∀t∈looks ops o,lk s2.tm t=lk s.tm t) (hn:s2.n=s.n)
  (h: ∀g,bn ops o=some g->pv Q (s.wr s2.rg) o g=pv Q s o g):
  ∃c:Option P,bu Q cf ops s o=(c.bind fun q=>s.put o.dst q)/\bu Q cf ops s2 o=(c.bind fun q=>s2.put o.dst q):=by
 obtain⟨lt,lm,lkk,ho⟩:=oL
 have hk:aB o<=1:=by simp[aB,ho]
 have ha:=H8 dP
 have act: ∀g,bn ops o=some g-> ∃c:Option P,fY Q cf s o g=(c.bind fun q=>s.put o.dst q)/\fY Q cf s2 o g=(c.bind fun q=>s2.put o.dst q):=by
  intro g hg
  unfold fY
  rw[uR hk]
  have hm:rb o=none:=by simp[rb,ho]
  unfold exec
  rw[hm]
  simp only[]
  unfold jk
  rw[pr hk]
  have h1:Alike (s.wr s2.rg) s2 o.op.operands.toList:=⟨hn,rfl,ha⟩
  have e:=xw (Q:=Q) h1 g
  simp only[]
  rw[e,h g hg]
  cases pv Q s o g with
  |some p=>exact⟨some p,rfl,rfl⟩
  |none=>exact⟨none,by simp[ef,ho],by simp[ef,ho]⟩
 unfold bu
 cases hg:bn ops o with
 |none=>exact⟨none,rfl,rfl⟩
 |some g=>
  cases g with
  |none=>exact act none hg
  |some tw=>
   obtain⟨t,want⟩:=tw
   simp only[]
   rw[dP t (pw hg)]
   split
   ·split
    ·exact act _ hg
    ·exact⟨some .skip,rfl,rfl⟩
   ·exact⟨some .skip,rfl,rfl⟩
   ·exact⟨none,rfl,rfl⟩
theorem rl {Q:Program} {cf:CF} {ops:List Oper} {s s2:S} {o:Oper} (dP: ∀t∈looks ops o,lk s2.tm t=lk s.tm t) (hn:s2.n=s.n) (hr:s2.rg=s.rg):
  ∃c,bu Q cf ops s o=fin s o.dst c/\bu Q cf ops s2 o=fin s2 o.dst c:=by
 have ha:Alike s s2 o.op.operands.toList:=⟨hn,hr,H8 dP⟩
 unfold bu
 cases hg:bn ops o with
 |none=>exact⟨none,rfl,rfl⟩
 |some g=>
  cases g with
  |none=>exact AU Q cf ha none
  |some tw=>
   obtain⟨t,want⟩:=tw
   simp only[]
   rw[dP t (pw hg)]
   split
   ·split
    ·exact AU Q cf ha _
    ·exact⟨some (s.rg,.skip),rfl,by unfold fin;rw[<-hr]⟩
   ·exact⟨some (s.rg,.skip),rfl,by unfold fin;rw[<-hr]⟩
   ·exact⟨none,rfl,rfl⟩
theorem j9 {Q:Program} {cf:CF} {ops:List Oper} {s s1:S} {o:Oper} (hk:1<aB o) (h:bu Q cf ops s o=some s1) {m:Nat} (hm: ¬wk (bK Q ops s o).ws m):lk s1.rg m=lk s.rg m:=by
 unfold bu at h
 unfold bK at hm
 have hb:Nat.ble (aB o) 1=false:=by
  cases hx:Nat.ble (aB o) 1 with
  |false=>rfl
  |true=>rw[zbZ] at hx;omega
 cases hg:bn ops o with
 |none=>simp[hg] at h
 |some g=>
  simp only[hg,hb,zaz,zbd] at hm
  cases g with
  |none=>simp only[hg] at h;exact uQ h hm
  |some tw=>
   obtain⟨t,want⟩:=tw
   simp only[hg] at h
   split at h
   ·split at h
    ·exact uQ h hm
    ·rw[bw h]
   ·rw[bw h]
   ·cases h
end Pi
