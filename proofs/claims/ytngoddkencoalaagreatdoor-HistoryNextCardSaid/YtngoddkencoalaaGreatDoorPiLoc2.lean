/- The text PiLoc2. -/
import Derived.Test.YtngoddkencoalaaGreatDoorPiLoc
namespace Pi
open Go
theorem qbF (Q:Program) {s s2:S} {o:Oper} (h:Alike s s2 o.op.operands.toList) (g:Option (Nat×Bool)): ∃c,ef Q s o g=fin s o.dst c/\ef Q s2 o g=fin s2 o.dst c:=by
 unfold ef
 split
 ·rename_i t ho
  split
  ·rename_i z hz;exact pk h (xu Q s o.dst t _)
  ·exact⟨none,rfl,rfl⟩
 ·rename_i t x ho
  rw[h.eg (x:=x) (by simp[ho,Op.operands])]
  split
  ·exact pk h (xu Q s o.dst t _)
  ·exact⟨none,rfl,rfl⟩
 ·rename_i t ad x ho
  rw[h.eg (x:=ad) (by simp[ho,Op.operands]),h.eg (x:=x) (by simp[ho,Op.operands])]
  refine pk (f:=fun s'=>match gw Q s' t (s.eg g ad) (s.eg g x) with |some s1=>s1.put o.dst .bad |none=>none) h ?_
  cases h1:gw Q s t (s.eg g ad) (s.eg g x) with
  |none=>exact⟨none,fun m=>by simp only[AR,h1];rfl⟩
  |some s1=>exact⟨some (s1.rg,.bad),fun m=>by grind [AR,gY,PK]⟩
 ·rename_i t1 t2 x ho
  rw[h.eg (x:=x) (by simp[ho,Op.operands])]
  refine pk (f:=fun s'=>match Q.underlying t1,Q.underlying t2 with
   |some (.slice e),some .string=>match Q.underlying e,l7 Q s' t1 1 (s.eg g x) with
    |some (.int .u8),some ys=>match jE ys with |some l=>s'.put o.dst (.d (.str l))|none=>none
    |_,_=>none
   |_,_=>none) h ?_
  split
  ·rename_i e h1 h2
   simp only[Loc,Cu]
   split
   ·split
    ·exact⟨some (s.rg,_),fun m=>rfl⟩
    ·exact⟨none,fun m=>rfl⟩
   ·exact⟨none,fun m=>rfl⟩
  ·exact⟨none,fun m=>rfl⟩
 ·rename_i c ho
  have hm: ∀y∈c.args.toList,y∈o.op.operands.toList:=fun y hy=>by
   simp only[ho,Op.operands,Call.operands]
   grind
  split
  ·split
   ·rename_i x y t t2 cN EJ
    rw[h.eg (x:=x) (hm x (by rw[cN];simp)),h.eg (x:=y) (hm y (by rw[cN];simp))]
    exact pk h (EP Q s o.dst t t2 _ _)
   ·exact⟨none,rfl,rfl⟩
  ·split
   ·rename_i x y t t2 cN EJ
    rw[h.eg (x:=x) (hm x (by rw[cN];simp)),h.eg (x:=y) (hm y (by rw[cN];simp))]
    exact pk h (Mi Q s o.dst t t2 _ _)
   ·exact⟨none,rfl,rfl⟩
  ·split
   ·rename_i x t cN EJ
    rw[h.eg (x:=x) (hm x (by rw[cN];simp))]
    exact pk h (H4 Q s o.dst t _)
   ·exact⟨none,rfl,rfl⟩
  ·exact⟨none,rfl,rfl⟩
 ·rename_i t x y ho
  rw[h.eg (x:=x) (by simp[ho,Op.operands]),h.eg (x:=y) (by simp[ho,Op.operands])]
  exact pk h (Mh Q s o.dst t _ _)
 ·rename_i t ho
  exact pk h (Cx Q s o.dst t)
 ·rename_i t m k x ho
  rw[h.eg (x:=m) (by simp[ho,Op.operands]),h.eg (x:=k) (by simp[ho,Op.operands]),h.eg (x:=x) (by simp[ho,Op.operands])]
  exact pk h (uN Q s o.dst t _ _ _)
 ·rename_i t m k x ho
  rw[h.eg (x:=m) (by simp[ho,Op.operands]),h.eg (x:=k) (by simp[ho,Op.operands]),h.eg (x:=x) (by simp[ho,Op.operands])]
  exact pk h (uN Q s o.dst t _ _ _)
 ·rename_i t x ho
  rw[h.eg (x:=x) (by simp[ho,Op.operands])]
  exact pk h (H2 Q s o.dst t _)
 ·rename_i t m k ho
  rw[h.eg (x:=m) (by simp[ho,Op.operands]),h.eg (x:=k) (by simp[ho,Op.operands])]
  exact pk h (ER Q s o.dst t _ _)
 ·rename_i t m st x ho
  rw[h.eg (x:=m) (by simp[ho,Op.operands]),h.eg (x:=st) (by simp[ho,Op.operands]),h.eg (x:=x) (by simp[ho,Op.operands])]
  exact pk h (H0 Q s o.dst _ _ _)
 ·rename_i t len parts ho
  have e:parts.toList.map (fun x=>(x.1,s2.eg g x.2))=parts.toList.map (fun x=>(x.1,s.eg g x.2)):=zbE fun x hx=>by
   have:=h.eg (x:=x.2) (by
    simp only[ho,Op.operands]
    grind) g
   rw[this]
  rw[e]
  exact pk h (H3 Q s o.dst t len _)
 ·exact⟨none,rfl,rfl⟩
theorem Mj (Q:Program) {s s2:S} {o:Oper} (h:Alike s s2 o.op.operands.toList) (g:Option (Nat×Bool)): ∃c,jk Q s o g=fin s o.dst c/\jk Q s2 o g=fin s2 o.dst c:=by
 unfold jk
 split
 ·rename_i e he
  refine pk (f:=fun s'=>match s'.new (site o.dst) (.arr e false []) with |some (s1,v)=>s1.put o.dst (.sl (site o.dst) v 0)|none=>none) h ?_
  cases h1:s.new (site o.dst) (.arr e false []) with
  |none=>exact⟨none,fun m=>by simp only[jM,h1];rfl⟩
  |some r=>exact⟨some (r.1.rg,_),fun m=>by simp only[jM,h1];exact gY m (qQ h1)⟩
 ·rw[xw h g]
  split
  ·rename_i p hp
   exact⟨some (s.rg,p),rfl,by unfold fin;rw[<-h.rg]⟩
  ·exact qbF Q h g
theorem PL (Q:Program) {s s2:S} {o:Oper} (h:Alike s s2 o.op.operands.toList) (g:Option (Nat×Bool)): ∃c,exec Q s o g=fin s o.dst c/\exec Q s2 o g=fin s2 o.dst c:=by
 unfold exec
 cases hm:rb o with
 |none=>exact Mj Q h g
 |some r=>
  obtain⟨t,len,parts⟩:=r
  obtain⟨ps,ho,rfl,_⟩:=tM hm
  have e:ps.toList.map (fun x=>(x.1,s2.eg g x.2))=ps.toList.map (fun x=>(x.1,s.eg g x.2)):=zbE fun x hx=>by
   rw[h.eg (by simp[Op.operands];grind)]
  simp only[e]
  cases Au Q t len (ps.toList.map fun x=>(x.1,s.eg g x.2)) with
  |none=>exact⟨none,rfl,rfl⟩
  |some p=>exact⟨some (s.rg,p),rfl,by unfold fin;rw[<-h.rg]⟩
theorem H5 (Q:Program) (cf:CF) (s:S) (dst:Option Nat) (f:P) (args:List P):Loc (fun s=>l8 Q cf s dst f args) s dst:=by
 unfold l8
 cases f with
 |fn ku cG=>
  cases h1:cL Q s ku (args++cG) with
  |none=>exact⟨none,fun m=>by simp only[uM,h1];rfl⟩
  |some r=>
   obtain⟨s1,qs⟩:=r
   have hn:=HZ _ _ _ _ h1
   have e0: ∀m,(s1.wt m).rg=s1.rg:=fun _=>rfl
   unfold Loc
   simp only[uM,h1,zaK,e0]
   split
   ·split
    ·exact⟨none,fun m=>rfl⟩
    ·split
     ·exact⟨none,fun m=>rfl⟩
     ·split
      ·split
       ·exact⟨none,fun m=>rfl⟩
       ·split
        ·exact⟨none,fun m=>rfl⟩
        ·rename_i R3 h3
         exact⟨some (R3,_),fun m=>by unfold fin S.wt;rw[hn]⟩
      ·exact⟨none,fun m=>rfl⟩
   ·exact⟨none,fun m=>rfl⟩
 |_=>exact⟨none,fun m=>rfl⟩
theorem AU (Q:Program) (cf:CF) {s s2:S} {o:Oper} (h:Alike s s2 o.op.operands.toList) (g:Option (Nat×Bool)): ∃c,fY Q cf s o g=fin s o.dst c/\fY Q cf s2 o g=fin s2 o.dst c:=by
 unfold fY
 split
 ·rename_i f xs hc
  have hf:f∈o.op.operands.toList/\ ∀y∈xs,y∈o.op.operands.toList:=by
   unfold gx at hc
   split at hc
   ·rename_i c ho
    split at hc
    ·rename_i f' kS
     simp[ho,Op.operands,Call.operands,kS]
     grind
    ·cases hc
   ·cases hc
  rw[h.eg hf.1,h.egs hf.2]
  exact pk h (H5 Q cf s o.dst _ _)
 ·exact PL Q h g
def wk (W:List Nat×Nat×Nat) (n:Nat):Prop:=n∈W.1\/(W.2.1<=n/\n<W.2.2)
theorem eQ {s s':S} {n v:Nat} {o:Obj} (h:s.new n o=some (s',v)) {m:Nat} (hm:m≠n):lk s'.rg m=lk s.rg m:=by
 obtain⟨rfl,_⟩:=S.kV h
 grind [bU]
theorem cS (s:S) (n:Nat) (o:Obj) {m:Nat} (hm:m≠n):lk (s.setObj n o).rg m=lk s.rg m:=by
 grind [S.setObj,bU]
theorem bw {s s':S} {dst:Option Nat} {p:P} (h:s.put dst p=some s'):s'.rg=s.rg:=by
 unfold S.put at h
 grind
theorem xx {s:S} {n:Nat} {p q:P} {t:Option TypeId} {s':S} (h:sb s n p t=some (s',q)) {m:Nat} (hm:m≠n):lk s'.rg m=lk s.rg m:=by
 unfold sb at h
 grind [eQ]
theorem pn: ∀(ps:List P) (ts:List (Option TypeId)) (n:Nat) (s s':S) (qs:List P),cg s n ps ts=some (s',qs)-> ∀m,(m<n\/n+ps.length<=m)->lk s'.rg m=lk s.rg m
 | [],_,_,s,s',qs,h,m,hm=>by simp[cg] at h;rw[<-h.1]
 |p::ps,ts,n,s,s',qs,h,m,hm=>by
  simp only[cg] at h
  simp only[zap] at hm
  split at h
  ·cases h
  ·rename_i s1 q h1
   split at h
   ·rename_i s2 qs2 h2
    simp at h
    rw[<-h.1,pn ps _ _ _ _ _ h2 m (by omega),xx h1 (by omega)]
   ·cases h
theorem kW {Q:Program} {s s':S} {p:P} {x:D} (h:oX Q s p=some (s',x)) {m:Nat} (hm:m∉bE [p]):lk s'.rg m=lk s.rg m:=by
 unfold oX at h
 grind [cS,bE]
theorem nC (p:P) (ps:List P):bE (p::ps)=bE [p]++bE ps:=by cases p<;>simp[bE]
theorem xy {Q:Program}: ∀(ps:List P) (s s':S) (xs:List D),qm Q s ps=some (s',xs)-> ∀m,m∉bE ps->lk s'.rg m=lk s.rg m
 | [],s,s',xs,h,m,hm=>by simp[qm] at h;rw[<-h.1]
 |p::ps,s,s',xs,h,m,hm=>by
  rw[nC] at hm
  simp only[zaG,zcI] at hm
  simp only[qm] at h
  split at h
  ·cases h
  ·rename_i s1 x h1
   split at h
   ·rename_i s2 xs2 h2;simp at h;rw[<-h.1,xy ps _ _ _ h2 m hm.2,kW h1 hm.1]
   ·cases h
theorem AV {Q:Program} {s s':S} {p:P} {x:D} (h:DP Q s p=some (s',x)) {m:Nat} (hm:m∉bE p.cells):lk s'.rg m=lk s.rg m:=by
 unfold DP at h
 split at h
 ·split at h
  ·rename_i h1;simp at h;rw[<-h.1];exact xy _ _ _ _ h1 m hm
  ·cases h
 ·cases p with
  |sl n v len=>exact kW h hm
  |lC n v k off len=>exact kW h hm
  |d x=>simp[oX] at h;rw[<-h.1]
  |_=>simp[oX] at h
theorem po: ∀(a b:List P),bE (a++b)=bE a++bE b
 | [],_=>rfl
 |p::a,b=>by rw[List.cons_append,nC,po a b,nC p a,zaY]
theorem nD {Q:Program} {s s':S} {t:TypeId} {p:P} {x:D} (h:nq Q s t p=some (s',x)) {m:Nat} (hm:m∉bE p.cells):lk s'.rg m=lk s.rg m:=by
 grind [tL,AV]
theorem Cy {Q:Program} {s s':S} {t:TypeId} {p q:P} (h:kH Q s t p=some (s',q)) {m:Nat} (hm:m∉bE p.cells):lk s'.rg m=lk s.rg m:=by
 unfold kH at h
 grind [nD,D.force_eq]
theorem qR {Q:Program}: ∀(ps:List P) (ts:List TypeId) (s s':S) (xs:List P),eC Q s ts ps=some (s',xs)-> ∀m,m∉bE (ps.flatMap P.cells)->lk s'.rg m=lk s.rg m
 | [],ts,s,s',xs,h,m,hm=>by simp[eC] at h;rw[<-h.1]
 |p::ps,ts,s,s',xs,h,m,hm=>by
  rw[zcq,po] at hm
  simp only[zaG,zcI] at hm
  simp only[eC] at h
  split at h
  ·cases h
  ·rename_i s1 x h1
   have e1:lk s1.rg m=lk s.rg m:=by
    unfold oZ at h1
    split at h1
    ·split at h1
     ·rename_i hf;simp at h1;rw[<-h1.1];exact kW hf hm.1
     ·cases h1
    ·split at h1
     ·rename_i hf;simp at h1;rw[<-h1.1];exact kW hf hm.1
     ·cases h1
    grind [Cy]
   split at h
   ·rename_i s2 xs2 h2;simp at h;rw[<-h.1,qR ps _ _ _ _ h2 m hm.2,e1]
   ·cases h
theorem xA {Q:Program} {f:FuncId} (ps:List P) (s s':S) (xs:List P) (h:cL Q s f ps=some (s',xs)) (m:Nat) (hm:m∉bE (ps.flatMap P.cells)):lk s'.rg m=lk s.rg m:=by
 grind [cL,qR]
def H6 (m:Nat) (q:P):P->Prop
 | .ref n _ off=>m≠n/\m≠2000000+n*1000+off
 | .dx n _ _ _ _=>m≠n/\m∉bE q.cells
 |_=>True
def uP (m:Nat) (dst:Option Nat):P->Prop
 | .sl n _ _=>m≠n
 |_=>m≠site dst
theorem Cz {Q:Program} {s s':S} {t:TypeId} {p q:P} (h:gw Q s t p q=some s') {m:Nat} (hm:H6 m q p):lk s'.rg m=lk s.rg m:=by
 unfold gw at h
 split at h
 ·cases h
 ·split at h
  ·split at h
   ·rename_i h1
    split at h
    ·split at h
     ·simp at h;rw[<-h,cS _ _ _ hm.1,xx h1 hm.2]
     ·cases h
    ·cases h
   ·cases h
  ·split at h
   ·rename_i h1
    split at h
    ·split at h
     ·split at h
      ·simp only[zal] at h;rw[<-h,cS _ _ _ hm.1,nD h1 hm.2]
      ·cases h
     ·cases h
    ·cases h
   ·cases h
  ·cases h
theorem sC {Q:Program} {s s':S} {dst:Option Nat} {t:TypeId} {ps:List P} (h:nk Q s dst t ps=some s') {m:Nat} (h1:m≠site dst) (h2:m<site dst*1000\/site dst*1000+ps.length<=m):lk s'.rg m=lk s.rg m:=by
 unfold nk at h
 split at h
 ·cases h
 ·rename_i s1 qs g1
  split at h
  ·rename_i s2 v g2
   rw[bw h,eQ g2 h1,pn _ _ _ _ _ _ g1 m h2]
  ·cases h
theorem zO {Q:Program} {s s':S} {dst:Option Nat} {t t2:TypeId} {p q:P} (h:iZ Q s dst t t2 p q=some s') {m:Nat} (hm:uP m dst p):lk s'.rg m=lk s.rg m:=by
 unfold iZ at h
 split at h
 ·cases h
 ·split at h
  ·split at h
   ·split at h
    ·split at h
     ·split at h
      ·split at h
       ·split at h
        ·rw[bw h];exact bU _ _ (zbC hm)
        ·cases h
       ·cases h
      ·cases h
     ·split at h
      ·split at h
       ·rename_i g2;rw[bw h,eQ g2 hm]
       ·cases h
      ·cases h
     ·cases h
    ·cases h
   ·cases h
  ·cases h
theorem ES {Q:Program} {s s':S} {dst:Option Nat} {t:TypeId} {p q:P} (h:sc Q s dst t p q=some s') {m:Nat} (hm:m≠site dst):lk s'.rg m=lk s.rg m:=by
 unfold sc at h
 split at h
 ·split at h
  ·split at h
   ·split at h
    ·rename_i hn
     rw[bw h,eQ hn hm]
    ·cases h
   ·cases h
  ·cases h
 ·cases h
theorem xC {Q:Program} {s s':S} {dst:Option Nat} {t:TypeId} (h:kG Q s dst t=some s') {m:Nat} (hm:m≠site dst):lk s'.rg m=lk s.rg m:=by
 unfold kG at h
 split at h
 ·split at h
  ·rename_i hn
   rw[bw h,eQ hn hm]
  ·cases h
 ·cases h
def sE (m:Nat):P->Prop
 | .mp n _=>m≠n
 |_=>True
theorem qS {Q:Program} {s s':S} {dst:Option Nat} {t:TypeId} {p k x:P} (h:ja Q s dst t p k x=some s') {m:Nat} (hm:sE m p) (hx:m∉bE x.cells):lk s'.rg m=lk s.rg m:=by
 unfold ja at h
 split at h
 ·split at h
  ·rename_i hf
   split at h
   ·split at h
    ·rw[bw h,cS _ _ _ hm,nD hf hx]
    ·cases h
   ·cases h
  ·cases h
 ·cases h
theorem zP {Q:Program} {s s':S} {dst:Option Nat} {t:TypeId} {p k:P} (h:jb Q s dst t p k=some s') {m:Nat} (hd:m≠site dst) (hm:sE m p):lk s'.rg m=lk s.rg m:=by
 unfold jb at h
 split at h
 ·split at h
  ·split at h
   ·split at h
    ·split at h
     ·rename_i hn
      rw[bw h,cS _ _ _ hm,eQ hn hd]
     ·cases h
    ·cases h
   ·cases h
  ·cases h
 ·cases h
theorem CA {Q:Program} {s s':S} {dst:Option Nat} {p st x:P} (h:oY Q s dst p st x=some s') {m:Nat} (hm:sE m p) (hx:m∉bE x.cells):lk s'.rg m=lk s.rg m:=by
 unfold oY at h
 split at h
 ·split at h
  ·rename_i hf
   split at h
   ·split at h
    ·rw[bw h,cS _ _ _ hm,AV hf hx]
    ·cases h
   ·cases h
  ·cases h
 ·cases h
theorem sF {Q:Program} {s s':S} {dst:Option Nat} {t:TypeId} {p:P} (h:ra Q s dst t p=some s') {m:Nat} (hd:m≠site dst) (hm:sE m p):lk s'.rg m=lk s.rg m:=by
 unfold ra at h
 split at h
 ·split at h
  ·split at h
   ·split at h
    ·rename_i hn
     rw[bw h,eQ hn hd,cS _ _ _ hm]
    ·cases h
   ·cases h
  ·cases h
 ·split at h
  ·rename_i hn
   rw[bw h,eQ hn hd]
  ·cases h
 ·cases h
theorem pq {Q:Program} {t:TypeId} {k:Nat}: ∀(ps:List (Nat×P)) (s s':S) (es fA:List D),cK Q t k s es ps=some (s',fA)-> ∀m,(∀x∈ps,m∉bE x.2.cells)->lk s'.rg m=lk s.rg m
 | [],s,s',es,fA,h,m,_=>by simp[cK] at h;rw[h.1]
 | (i,p)::r,s,s',es,fA,h,m,hm=>by
  simp only[cK] at h
  split at h
  ·rename_i s1 x h1
   split at h
   ·rw[pq r s1 s' _ fA h m (fun x hx=>hm x (by simp[hx])),nD h1 (hm (i,p) (by simp))]
   ·cases h
  ·cases h
theorem CB {Q:Program} {s s':S} {dst:Option Nat} {t:TypeId} {len:Nat} {ps:List (Nat×P)} (h:q9 Q s dst t len ps=some s') {m:Nat} (hm:m≠site dst) (hp: ∀x∈ps,m∉bE x.2.cells):lk s'.rg m=lk s.rg m:=by
 unfold q9 at h
 split at h
 ·split at h
  ·split at h
   ·split at h
    ·rename_i hb
     split at h
     ·rename_i hn
      rw[bw h,eQ hn hm,pq _ _ _ _ _ hb m hp]
     ·cases h
    ·cases h
   ·cases h
  ·cases h
 ·cases h
def AW (m:Nat):P->Prop
 | .sl n _ _=>m≠n
 |_=>True
theorem ET {Q:Program} {s s':S} {dst:Option Nat} {t t2:TypeId} {p q:P} (h:sd Q s dst t t2 p q=some s') {m:Nat} (hm:AW m p):lk s'.rg m=lk s.rg m:=by
 unfold sd at h
 split at h
 ·split at h
  ·split at h
   ·split at h
    ·rw[bw h,cS _ _ _ hm]
    ·cases h
   ·cases h
  ·cases h
 ·cases h
def xD (m:Nat):P->Prop
 | .lC n _ _ _ _=>m≠n
 |_=>True
theorem CC {Q:Program} {s s':S} {dst:Option Nat} {t:TypeId} {p:P} (h:nr Q s dst t p=some s') {m:Nat} (hm:xD m p):lk s'.rg m=lk s.rg m:=by
 unfold nr at h
 split at h
 ·split at h
  ·split at h
   ·rw[bw h,cS _ _ _ hm]
   ·cases h
  ·cases h
 ·cases h
theorem qT (R1:List (Nat×En)) (σ:Nat->Nat->Option (Nat×Nat)): ∀(ns:List Nat) (i0:Nat) (R R2:List (Nat×En)),gk R1 σ i0 ns R=some R2-> ∀m,m∉ns->lk R2 m=lk R m
 | [],i0,R,R2,h,m,hm=>by simp[gk] at h;rw[h]
 |n::ns,i0,R,R2,h,m,hm=>by
  simp only[zav,zcI] at hm
  simp only[gk] at h
  split at h
  ·cases h
  ·rw[qT R1 σ ns _ _ _ h m hm.2,bU _ _ (zbC hm.1)]
theorem CD {Q:Program} {cf:CF} {s s':S} {dst:Option Nat} {ku:FuncId} {cG args:List P} (h:l8 Q cf s dst (.fn ku cG) args=some s') {s1:S} {qs:List P} (hf:cL Q s ku (args++cG)=some (s1,qs)) {m:Nat}
  (h1:m∉bE ((args++cG).flatMap P.cells)) (h2:m∉reach s1.rg 1000 qs []) (h3:m<site dst*1000\/site dst*1000+1000<=m):lk s'.rg m=lk s.rg m:=by
 unfold l8 at h
 simp only[hf] at h
 split at h
 ·split at h
  ·cases h
  ·split at h
   ·cases h
   ·split at h
    ·rename_i V7
     have hle:=(zab _ _▸V7:_/\_).2
     simp only[zbZ] at hle
     split at h
     ·cases h
     ·rename_i R2 hb
      split at h
      ·cases h
      ·rename_i R3 hn
       rw[bw h]
       rw[(tN _ _ _ _ _ _ hn m).2 (by omega),qT _ _ _ _ _ _ hb m h2,xA _ _ _ _ hf m h1]
    ·cases h
 ·cases h
theorem uQ {Q:Program} {cf:CF} {s s':S} {o:Oper} {g:Option (Nat×Bool)} (h:fY Q cf s o g=some s') {m:Nat} (hm: ¬wk (writes Q s o g) m):lk s'.rg m=lk s.rg m:=by
 unfold fY at h
 unfold writes at hm
 split at h
 ·rename_i f xs hc
  unfold gx at hc
  split at hc
  ·rename_i c ho
   split at hc
   ·rename_i f' kS
    have UZ:cZ Q o=none:=by unfold cZ;rw[ho]
    simp only[UZ,ho,kS] at hm
    grind [cL,l8,wk,CD]
   ·cases hc
  ·cases hc
 ·unfold exec at h
  split at h
  ·grind [bw]
  unfold jk at h
  split at h
  ·rename_i e he
   simp only[he] at hm
   split at h
   ·rename_i s1 v hn
    rw[bw h,eQ hn (by simpa [wk] using hm)]
   ·cases h
  ·rename_i he
   simp only[he] at hm
   split at h
   ·rw[bw h]
   ·unfold ef at h
    split at h
    ·grind [wk,sC,pb]
    ·grind [wk,sC]
    ·rename_i t ad x ho
     simp only[ho] at hm
     split at h
     ·rename_i s1 h1
      rw[bw h]
      refine Cz h1 ?_
      generalize s.eg g ad=pa at hm
      cases pa with
      |ref n v off=>
       simp only[wk,zav,zcI] at hm
       exact⟨hm.1.1,by omega⟩
      |dx n v i k off=>
       simp only[wk,zav,zcI] at hm
       exact⟨hm.1.1,hm.1.2⟩
      |_=>trivial
     ·cases h
    ·grind [bw]
    ·rename_i c ho
     simp only[ho] at hm
     grind [zO,uP,wk,ET,AW,CC,xD]
    ·grind [wk,ES]
    ·grind [wk,xC]
    ·rename_i t mo k x ho
     simp only[ho] at hm
     cases hp:s.eg g mo with
     |mp n v=>
      rw[hp] at hm h
      simp only[wk,zav,zcI] at hm
      exact qS h hm.1.1 hm.1.2
     |_=>rw[hp] at h;simp[ja] at h
    ·rename_i t mo k x ho
     simp only[ho] at hm
     cases hp:s.eg g mo with
     |mp n v=>
      rw[hp] at hm h
      simp only[wk,zav,zcI] at hm
      exact qS h hm.1.1 hm.1.2
     |_=>rw[hp] at h;simp[ja] at h
    ·rename_i t x ho
     simp only[ho] at hm
     cases hp:s.eg g x with
     |mp n v=>
      rw[hp] at hm h
      simp only[wk,zav,zcY,or_false,zcI] at hm
      exact sF h hm.1.1 hm.1.2
     |_=>
      rw[hp] at hm h
      simp only[wk,zav,zcY,or_false,zcI] at hm
      exact sF h hm.1 trivial
    ·rename_i t mo k ho
     simp only[ho] at hm
     cases hp:s.eg g mo with
     |mp n v=>
      rw[hp] at hm h
      simp only[wk,zav,zcY,or_false,zcI] at hm
      exact zP h hm.1.1 hm.1.2
     |_=>rw[hp] at h;simp[jb] at h
    ·rename_i t mo st x ho
     simp only[ho] at hm
     cases hp:s.eg g mo with
     |mp n v=>
      rw[hp] at hm h
      simp only[wk,zav,zcI] at hm
      exact CA h hm.1.1 hm.1.2
     |_=>rw[hp] at h;simp[oY] at h
    ·grind [wk,CB]
    ·cases h
end Pi
