/- The text PiLoc2. -/
import Derived.Test.YtngoddkencoalaaGreatDoorPiLoc
namespace Pi
open Go
theorem Y5 (Q:Program) {s s2:S} {o:Oper} (h:Alike s s2 o.op.operands.toList) (g:Option (Nat×Bool)): ∃c,ef Q s o g=fin s o.dst c/\ef Q s2 o g=fin s2 o.dst c:=by
 have hs:=h.wt
 unfold ef
 split
 ·rename_i t ho
  split
  ·rename_i z hz;exact oH h (wI Q s o.dst t _)
  ·exact⟨none,rfl,rfl⟩
 ·rename_i t x ho
  rw[h.eg (x:=x) (by simp[ho,Op.operands])]
  split
  ·exact oH h (wI Q s o.dst t _)
  ·exact⟨none,rfl,rfl⟩
 ·rename_i t ad x ho
  rw[h.eg (x:=ad) (by simp[ho,Op.operands]),h.eg (x:=x) (by simp[ho,Op.operands])]
  refine oH (f:=fun s'=>match fX Q s' t (s.eg g ad) (s.eg g x) with |some s1=>s1.put o.dst .bad |none=>none) h ?_
  cases h1:fX Q s t (s.eg g ad) (s.eg g x) with
  |none=>exact⟨none,fun m=>by simp only[zS,h1];rfl⟩
  |some s1=>exact⟨some (s1.rg,.bad),fun m=>by simp only[zS,h1];exact gH m (NZ h1)⟩
 ·rename_i t1 t2 x ho
  rw[h.eg (x:=x) (by simp[ho,Op.operands])]
  refine oH (f:=fun s'=>match Q.underlying t1,Q.underlying t2 with
   |some (.slice e),some .string=>match Q.underlying e,ln Q s' t1 1 (s.eg g x) with
    |some (.int .u8),some ys=>match je ys with |some l=>s'.put o.dst (.d (.str l))|none=>none
    |_,_=>none
   |_,_=>none) h ?_
  split
  ·rename_i e h1 h2
   simp only[Loc,Bx]
   split
   ·split
    ·exact⟨some (s.rg,_),fun m=>rfl⟩
    ·exact⟨none,fun m=>rfl⟩
   ·exact⟨none,fun m=>rfl⟩
  ·exact⟨none,fun m=>rfl⟩
 ·rename_i c ho
  have hm: ∀y∈c.args.toList,y∈o.op.operands.toList:=fun y hy=>by
   simp only[ho,Op.operands,Call.operands]
   simp at hy
   simp[hy]
  split
  ·split
   ·rename_i x y t t2 b8 wA
    rw[h.eg (x:=x) (hm x (by rw[b8];simp)),h.eg (x:=y) (hm y (by rw[b8];simp))]
    exact oH h (DM Q s o.dst t t2 _ _)
   ·exact⟨none,rfl,rfl⟩
  ·split
   ·rename_i x y t t2 b8 wA
    rw[h.eg (x:=x) (hm x (by rw[b8];simp)),h.eg (x:=y) (hm y (by rw[b8];simp))]
    exact oH h (Kx Q s o.dst t t2 _ _)
   ·exact⟨none,rfl,rfl⟩
  ·split
   ·rename_i x t b8 wA
    rw[h.eg (x:=x) (hm x (by rw[b8];simp))]
    exact oH h (Gz Q s o.dst t _)
   ·exact⟨none,rfl,rfl⟩
  ·exact⟨none,rfl,rfl⟩
 ·rename_i t x y ho
  rw[h.eg (x:=x) (by simp[ho,Op.operands]),h.eg (x:=y) (by simp[ho,Op.operands])]
  exact oH h (Kw Q s o.dst t _ _)
 ·rename_i t ho
  exact oH h (BA Q s o.dst t)
 ·rename_i t m k x ho
  rw[h.eg (x:=m) (by simp[ho,Op.operands]),h.eg (x:=k) (by simp[ho,Op.operands]),h.eg (x:=x) (by simp[ho,Op.operands])]
  exact oH h (tY Q s o.dst t _ _ _)
 ·rename_i t m k x ho
  rw[h.eg (x:=m) (by simp[ho,Op.operands]),h.eg (x:=k) (by simp[ho,Op.operands]),h.eg (x:=x) (by simp[ho,Op.operands])]
  exact oH h (tY Q s o.dst t _ _ _)
 ·rename_i t x ho
  rw[h.eg (x:=x) (by simp[ho,Op.operands])]
  exact oH h (Gx Q s o.dst t _)
 ·rename_i t m k ho
  rw[h.eg (x:=m) (by simp[ho,Op.operands]),h.eg (x:=k) (by simp[ho,Op.operands])]
  exact oH h (DN Q s o.dst t _ _)
 ·rename_i t m st x ho
  rw[h.eg (x:=m) (by simp[ho,Op.operands]),h.eg (x:=st) (by simp[ho,Op.operands]),h.eg (x:=x) (by simp[ho,Op.operands])]
  exact oH h (Gw Q s o.dst _ _ _)
 ·rename_i t len parts ho
  have e:parts.toList.map (fun x=>(x.1,s2.eg g x.2))=parts.toList.map (fun x=>(x.1,s.eg g x.2)):=List.map_congr_left fun x hx=>by
   have:=h.eg (x:=x.2) (by
    simp only[ho,Op.operands]
    exact List.mem_map_of_mem (f:=fun x:Nat×Operand=>x.2) hx) g
   rw[this]
  rw[e]
  exact oH h (Gy Q s o.dst t len _)
 ·exact⟨none,rfl,rfl⟩
theorem Ky (Q:Program) {s s2:S} {o:Oper} (h:Alike s s2 o.op.operands.toList) (g:Option (Nat×Bool)): ∃c,iO Q s o g=fin s o.dst c/\iO Q s2 o g=fin s2 o.dst c:=by
 unfold iO
 split
 ·rename_i e he
  refine oH (f:=fun s'=>match s'.new (site o.dst) (.arr e false []) with |some (s1,v)=>s1.put o.dst (.sl (site o.dst) v 0)|none=>none) h ?_
  cases h1:s.new (site o.dst) (.arr e false []) with
  |none=>exact⟨none,fun m=>by simp only[jl,h1];rfl⟩
  |some r=>exact⟨some (r.1.rg,_),fun m=>by simp only[jl,h1];exact gH m (qu h1)⟩
 ·rw[wK h g]
  split
  ·rename_i p hp
   exact⟨some (s.rg,p),rfl,by unfold fin;rw[<-h.rg]⟩
  ·exact Y5 Q h g
theorem N0 (Q:Program) {s s2:S} {o:Oper} (h:Alike s s2 o.op.operands.toList) (g:Option (Nat×Bool)): ∃c,exec Q s o g=fin s o.dst c/\exec Q s2 o g=fin s2 o.dst c:=by
 unfold exec
 cases hm:qS o with
 |none=>exact Ky Q h g
 |some r=>
  obtain⟨t,len,parts⟩:=r
  obtain⟨ps,ho,rfl,_⟩:=sY hm
  have e:ps.toList.map (fun x=>(x.1,s2.eg g x.2))=ps.toList.map (fun x=>(x.1,s.eg g x.2)):=List.map_congr_left fun x hx=>by
   rw[h.eg (by rw[ho];simp[Op.operands];exact⟨_,by simpa using hx⟩)]
  simp only[e]
  cases zu Q t len (ps.toList.map fun x=>(x.1,s.eg g x.2)) with
  |none=>exact⟨none,rfl,rfl⟩
  |some p=>exact⟨some (s.rg,p),rfl,by unfold fin;rw[<-h.rg]⟩
theorem GA (Q:Program) (cf:CF) (s:S) (dst:Option Nat) (f:P) (args:List P):Loc (fun s=>jW Q cf s dst f args) s dst:=by
 unfold jW
 cases f with
 |fn ju cy=>
  cases h1:cG Q s ju (args++cy) with
  |none=>exact⟨none,fun m=>by simp only[tX,h1];rfl⟩
  |some r=>
   obtain⟨s1,qs⟩:=r
   have hn:=Gv _ _ _ _ h1
   have e0: ∀m,(s1.wt m).rg=s1.rg:=fun _=>rfl
   unfold Loc
   simp only[tX,h1,Option.map_some,e0]
   split
   ·split
    ·exact⟨none,fun m=>rfl⟩
    ·split
     ·exact⟨none,fun m=>rfl⟩
     ·split
      ·split
       ·exact⟨none,fun m=>rfl⟩
       ·split
        ·exact⟨none,fun m=>rfl⟩
        ·rename_i R3 h3
         exact⟨some (R3,_),fun m=>by unfold fin S.wt;rw[hn]⟩
      ·exact⟨none,fun m=>rfl⟩
   ·exact⟨none,fun m=>rfl⟩
 |_=>exact⟨none,fun m=>rfl⟩
theorem zU (Q:Program) (cf:CF) {s s2:S} {o:Oper} (h:Alike s s2 o.op.operands.toList) (g:Option (Nat×Bool)): ∃c,fH Q cf s o g=fin s o.dst c/\fH Q cf s2 o g=fin s2 o.dst c:=by
 unfold fH
 split
 ·rename_i f xs hc
  have hf:f∈o.op.operands.toList/\ ∀y∈xs,y∈o.op.operands.toList:=by
   unfold fY at hc
   split at hc
   ·rename_i c ho
    split at hc
    ·rename_i f' gD
     simp at hc
     obtain⟨rfl,rfl⟩:=hc
     simp[ho,Op.operands,Call.operands,gD]
     intro y hy
     exact .inr hy
    ·cases hc
   ·cases hc
  rw[h.eg hf.1,h.egs hf.2]
  exact oH h (GA Q cf s o.dst _ _)
 ·exact N0 Q h g
def ua (W:List Nat×Nat×Nat) (n:Nat):Prop:=n∈W.1\/(W.2.1<=n/\n<W.2.2)
theorem eG {s s':S} {n v:Nat} {o:Obj} (h:s.new n o=some (s',v)) {m:Nat} (hm:m≠n):lk s'.rg m=lk s.rg m:=by
 obtain⟨rfl,_⟩:=S.ki h
 exact bG _ _ (Ne.symm hm)
theorem cx (s:S) (n:Nat) (o:Obj) {m:Nat} (hm:m≠n):lk (s.setObj n o).rg m=lk s.rg m:=by
 unfold S.setObj
 split
 ·exact bG _ _ (Ne.symm hm)
 ·rfl
theorem bs {s s':S} {dst:Option Nat} {p:P} (h:s.put dst p=some s'):s'.rg=s.rg:=by
 unfold S.put at h
 split at h
 ·simp at h;rw[h]
 ·split at h
  ·simp at h;rw[<-h]
  ·cases h
theorem wM {s:S} {n:Nat} {p q:P} {t:Option TypeId} {s':S} (h:rS s n p t=some (s',q)) {m:Nat} (hm:m≠n):lk s'.rg m=lk s.rg m:=by
 unfold rS at h
 split at h
 ·split at h
  ·rename_i hn;simp at h;rw[<-h.1];exact eG hn hm
  ·cases h
 ·simp at h;rw[<-h.1]
theorem oI: ∀(ps:List P) (ts:List (Option TypeId)) (n:Nat) (s s':S) (qs:List P),cb s n ps ts=some (s',qs)-> ∀m,(m<n\/n+ps.length<=m)->lk s'.rg m=lk s.rg m
 | [],_,_,s,s',qs,h,m,hm=>by simp[cb] at h;rw[<-h.1]
 |p::ps,ts,n,s,s',qs,h,m,hm=>by
  simp only[cb] at h
  simp only[List.length_cons] at hm
  split at h
  ·cases h
  ·rename_i s1 q h1
   split at h
   ·rename_i s2 YT h2
    simp at h
    rw[<-h.1,oI ps _ _ _ _ _ h2 m (by omega),wM h1 (by omega)]
   ·cases h
theorem kj {Q:Program} {s s':S} {p:P} {x:D} (h:og Q s p=some (s',x)) {m:Nat} (hm:m∉bw [p]):lk s'.rg m=lk s.rg m:=by
 unfold og at h
 split at h
 ·simp at h;rw[<-h.1]
 ·split at h
  ·split at h
   ·simp at h;rw[<-h.1];exact cx _ _ _ (by simpa [bw] using hm)
   ·cases h
  ·cases h
 ·split at h
  ·split at h
   ·split at h
    ·simp at h;rw[<-h.1];exact cx _ _ _ (by simpa [bw] using hm)
    ·cases h
   ·cases h
  ·cases h
 ·cases h
theorem mQ (p:P) (ps:List P):bw (p::ps)=bw [p]++bw ps:=by cases p<;>simp[bw]
theorem wN {Q:Program}: ∀(ps:List P) (s s':S) (xs:List D),pU Q s ps=some (s',xs)-> ∀m,m∉bw ps->lk s'.rg m=lk s.rg m
 | [],s,s',xs,h,m,hm=>by simp[pU] at h;rw[<-h.1]
 |p::ps,s,s',xs,h,m,hm=>by
  rw[mQ] at hm
  simp only[List.mem_append,not_or] at hm
  simp only[pU] at h
  split at h
  ·cases h
  ·rename_i s1 x h1
   split at h
   ·rename_i s2 YL h2;simp at h;rw[<-h.1,wN ps _ _ _ h2 m hm.2,kj h1 hm.1]
   ·cases h
theorem zV {Q:Program} {s s':S} {p:P} {x:D} (h:C1 Q s p=some (s',x)) {m:Nat} (hm:m∉bw p.cells):lk s'.rg m=lk s.rg m:=by
 unfold C1 at h
 split at h
 ·split at h
  ·rename_i h1;simp at h;rw[<-h.1];exact wN _ _ _ _ h1 m hm
  ·cases h
 ·cases p with
  |sl n v len=>exact kj h hm
  |kT n v k off len=>exact kj h hm
  |d x=>simp[og] at h;rw[<-h.1]
  |_=>simp[og] at h
theorem oJ: ∀(a b:List P),bw (a++b)=bw a++bw b
 | [],_=>rfl
 |p::a,b=>by rw[List.cons_append,mQ,oJ a b,mQ p a,List.append_assoc]
theorem mR {Q:Program} {s s':S} {t:TypeId} {p:P} {x:D} (h:mF Q s t p=some (s',x)) {m:Nat} (hm:m∉bw p.cells):lk s'.rg m=lk s.rg m:=by
 obtain⟨y,h1,_⟩:=sV h
 exact zV h1 hm
theorem BB {Q:Program} {s s':S} {t:TypeId} {p q:P} (h:jU Q s t p=some (s',q)) {m:Nat} (hm:m∉bw p.cells):lk s'.rg m=lk s.rg m:=by
 unfold jU at h
 split at h
 ·split at h
  ·split at h
   ·rename_i hf;simp at h;rw[<-h.1];exact mR hf hm
   ·cases h
  ·simp at h;rw[<-h.1]
 ·split at h
  ·rw[D.force_eq] at h;simp at h;rw[<-h.1]
  ·simp at h;rw[<-h.1]
 ·simp at h;rw[<-h.1]
theorem qv {Q:Program}: ∀(ps:List P) (ts:List TypeId) (s s':S) (xs:List P),eo Q s ts ps=some (s',xs)-> ∀m,m∉bw (ps.flatMap P.cells)->lk s'.rg m=lk s.rg m
 | [],ts,s,s',xs,h,m,hm=>by simp[eo] at h;rw[<-h.1]
 |p::ps,ts,s,s',xs,h,m,hm=>by
  rw[List.flatMap_cons,oJ] at hm
  simp only[List.mem_append,not_or] at hm
  simp only[eo] at h
  split at h
  ·cases h
  ·rename_i s1 x h1
   have e1:lk s1.rg m=lk s.rg m:=by
    unfold oi at h1
    split at h1
    ·split at h1
     ·rename_i hf;simp at h1;rw[<-h1.1];exact kj hf hm.1
     ·cases h1
    ·split at h1
     ·rename_i hf;simp at h1;rw[<-h1.1];exact kj hf hm.1
     ·cases h1
    ·exact BB h1 hm.1
   split at h
   ·rename_i s2 YL h2;simp at h;rw[<-h.1,qv ps _ _ _ _ h2 m hm.2,e1]
   ·cases h
theorem wO {Q:Program} {f:FuncId} (ps:List P) (s s':S) (xs:List P) (h:cG Q s f ps=some (s',xs)) (m:Nat) (hm:m∉bw (ps.flatMap P.cells)):lk s'.rg m=lk s.rg m:=by
 unfold cG at h
 split at h
 ·simp only[Option.some.injEq,Prod.mk.injEq] at h;rw[h.1]
 ·exact qv ps _ s s' xs h m hm
def GB (m:Nat) (q:P):P->Prop
 | .ref n _ off=>m≠n/\m≠2000000+n*1000+off
 | .dn n _ _ _ _=>m≠n/\m∉bw q.cells
 |_=>True
def uc (m:Nat) (dst:Option Nat):P->Prop
 | .sl n _ _=>m≠n
 |_=>m≠site dst
theorem BD {Q:Program} {s s':S} {t:TypeId} {p q:P} (h:fX Q s t p q=some s') {m:Nat} (hm:GB m q p):lk s'.rg m=lk s.rg m:=by
 unfold fX at h
 split at h
 ·cases h
 ·split at h
  ·split at h
   ·rename_i h1
    split at h
    ·split at h
     ·simp at h;rw[<-h,cx _ _ _ hm.1,wM h1 hm.2]
     ·cases h
    ·cases h
   ·cases h
  ·split at h
   ·rename_i h1
    split at h
    ·split at h
     ·split at h
      ·simp only[Option.some.injEq] at h;rw[<-h,cx _ _ _ hm.1,mR h1 hm.2]
      ·cases h
     ·cases h
    ·cases h
   ·cases h
  ·cases h
theorem sb {Q:Program} {s s':S} {dst:Option Nat} {t:TypeId} {ps:List P} (h:mE Q s dst t ps=some s') {m:Nat} (h1:m≠site dst) (h2:m<site dst*1000\/site dst*1000+ps.length<=m):lk s'.rg m=lk s.rg m:=by
 unfold mE at h
 split at h
 ·cases h
 ·rename_i s1 qs g1
  split at h
  ·rename_i s2 v g2
   rw[bs h,eG g2 h1,oI _ _ _ _ _ _ g1 m h2]
  ·cases h
theorem yT {Q:Program} {s s':S} {dst:Option Nat} {t t2:TypeId} {p q:P} (h:iC Q s dst t t2 p q=some s') {m:Nat} (hm:uc m dst p):lk s'.rg m=lk s.rg m:=by
 unfold iC at h
 split at h
 ·cases h
 ·split at h
  ·split at h
   ·split at h
    ·split at h
     ·split at h
      ·split at h
       ·split at h
        ·rw[bs h];exact bG _ _ (Ne.symm hm)
        ·cases h
       ·cases h
      ·cases h
     ·split at h
      ·split at h
       ·rename_i g2;rw[bs h,eG g2 hm]
       ·cases h
      ·cases h
     ·cases h
    ·cases h
   ·cases h
  ·cases h
theorem DO {Q:Program} {s s':S} {dst:Option Nat} {t:TypeId} {p q:P} (h:rT Q s dst t p q=some s') {m:Nat} (hm:m≠site dst):lk s'.rg m=lk s.rg m:=by
 unfold rT at h
 split at h
 ·split at h
  ·split at h
   ·split at h
    ·rename_i hn
     rw[bs h,eG hn hm]
    ·cases h
   ·cases h
  ·cases h
 ·cases h
theorem wP {Q:Program} {s s':S} {dst:Option Nat} {t:TypeId} (h:jT Q s dst t=some s') {m:Nat} (hm:m≠site dst):lk s'.rg m=lk s.rg m:=by
 unfold jT at h
 split at h
 ·split at h
  ·rename_i hn
   rw[bs h,eG hn hm]
  ·cases h
 ·cases h
def sc (m:Nat):P->Prop
 | .mp n _=>m≠n
 |_=>True
theorem qw {Q:Program} {s s':S} {dst:Option Nat} {t:TypeId} {p k x:P} (h:iF Q s dst t p k x=some s') {m:Nat} (hm:sc m p) (hx:m∉bw x.cells):lk s'.rg m=lk s.rg m:=by
 unfold iF at h
 split at h
 ·split at h
  ·rename_i hf
   split at h
   ·split at h
    ·rw[bs h,cx _ _ _ hm,mR hf hx]
    ·cases h
   ·cases h
  ·cases h
 ·cases h
theorem yU {Q:Program} {s s':S} {dst:Option Nat} {t:TypeId} {p k:P} (h:iG Q s dst t p k=some s') {m:Nat} (hd:m≠site dst) (hm:sc m p):lk s'.rg m=lk s.rg m:=by
 unfold iG at h
 split at h
 ·split at h
  ·split at h
   ·split at h
    ·split at h
     ·rename_i hn
      rw[bs h,cx _ _ _ hm,eG hn hd]
     ·cases h
    ·cases h
   ·cases h
  ·cases h
 ·cases h
theorem BE {Q:Program} {s s':S} {dst:Option Nat} {p st x:P} (h:oh Q s dst p st x=some s') {m:Nat} (hm:sc m p) (hx:m∉bw x.cells):lk s'.rg m=lk s.rg m:=by
 unfold oh at h
 split at h
 ·split at h
  ·rename_i hf
   split at h
   ·split at h
    ·rw[bs h,cx _ _ _ hm,zV hf hx]
    ·cases h
   ·cases h
  ·cases h
 ·cases h
theorem sd {Q:Program} {s s':S} {dst:Option Nat} {t:TypeId} {p:P} (h:qR Q s dst t p=some s') {m:Nat} (hd:m≠site dst) (hm:sc m p):lk s'.rg m=lk s.rg m:=by
 unfold qR at h
 split at h
 ·split at h
  ·split at h
   ·split at h
    ·rename_i hn
     rw[bs h,eG hn hd,cx _ _ _ hm]
    ·cases h
   ·cases h
  ·cases h
 ·split at h
  ·rename_i hn
   rw[bs h,eG hn hd]
  ·cases h
 ·cases h
theorem oK {Q:Program} {t:TypeId} {k:Nat}: ∀(ps:List (Nat×P)) (s s':S) (es fh:List D),cz Q t k s es ps=some (s',fh)-> ∀m,(∀x∈ps,m∉bw x.2.cells)->lk s'.rg m=lk s.rg m
 | [],s,s',es,fh,h,m,_=>by simp[cz] at h;rw[h.1]
 | (i,p)::r,s,s',es,fh,h,m,hm=>by
  simp only[cz] at h
  split at h
  ·rename_i s1 x h1
   split at h
   ·rw[oK r s1 s' _ fh h m (fun x hx=>hm x (by simp[hx])),mR h1 (hm (i,p) (by simp))]
   ·cases h
  ·cases h
theorem BF {Q:Program} {s s':S} {dst:Option Nat} {t:TypeId} {len:Nat} {ps:List (Nat×P)} (h:qQ Q s dst t len ps=some s') {m:Nat} (hm:m≠site dst) (hp: ∀x∈ps,m∉bw x.2.cells):lk s'.rg m=lk s.rg m:=by
 unfold qQ at h
 split at h
 ·split at h
  ·split at h
   ·split at h
    ·rename_i hb
     split at h
     ·rename_i hn
      rw[bs h,eG hn hm,oK _ _ _ _ _ hb m hp]
     ·cases h
    ·cases h
   ·cases h
  ·cases h
 ·cases h
def zW (m:Nat):P->Prop
 | .sl n _ _=>m≠n
 |_=>True
theorem DP {Q:Program} {s s':S} {dst:Option Nat} {t t2:TypeId} {p q:P} (h:rU Q s dst t t2 p q=some s') {m:Nat} (hm:zW m p):lk s'.rg m=lk s.rg m:=by
 unfold rU at h
 split at h
 ·split at h
  ·split at h
   ·split at h
    ·rw[bs h,cx _ _ _ hm]
    ·cases h
   ·cases h
  ·cases h
 ·cases h
def wQ (m:Nat):P->Prop
 | .kT n _ _ _ _=>m≠n
 |_=>True
theorem BG {Q:Program} {s s':S} {dst:Option Nat} {t:TypeId} {p:P} (h:mG Q s dst t p=some s') {m:Nat} (hm:wQ m p):lk s'.rg m=lk s.rg m:=by
 unfold mG at h
 split at h
 ·split at h
  ·split at h
   ·rw[bs h,cx _ _ _ hm]
   ·cases h
  ·cases h
 ·cases h
theorem qx (R1:List (Nat×En)) (σ:Nat->Nat->Option (Nat×Nat)): ∀(ns:List Nat) (i0:Nat) (R R2:List (Nat×En)),fT R1 σ i0 ns R=some R2-> ∀m,m∉ns->lk R2 m=lk R m
 | [],i0,R,R2,h,m,hm=>by simp[fT] at h;rw[h]
 |n::ns,i0,R,R2,h,m,hm=>by
  simp only[List.mem_cons,not_or] at hm
  simp only[fT] at h
  split at h
  ·cases h
  ·rw[qx R1 σ ns _ _ _ h m hm.2,bG _ _ (Ne.symm hm.1)]
theorem BH {Q:Program} {cf:CF} {s s':S} {dst:Option Nat} {ju:FuncId} {cy args:List P} (h:jW Q cf s dst (.fn ju cy) args=some s') {s1:S} {qs:List P} (hf:cG Q s ju (args++cy)=some (s1,qs)) {m:Nat}
  (h1:m∉bw ((args++cy).flatMap P.cells)) (h2:m∉reach s1.rg 1000 qs []) (h3:m<site dst*1000\/site dst*1000+1000<=m):lk s'.rg m=lk s.rg m:=by
 unfold jW at h
 simp only[hf] at h
 split at h
 ·split at h
  ·cases h
  ·split at h
   ·cases h
   ·split at h
    ·rename_i Ty
     have hle:=(Bool.and_eq_true _ _▸Ty:_/\_).2
     simp only[Nat.ble_eq] at hle
     split at h
     ·cases h
     ·rename_i R2 hb
      split at h
      ·cases h
      ·rename_i R3 hn
       rw[bs h]
       simp only[]
       rw[(sZ _ _ _ _ _ _ hn m).2 (by omega),qx _ _ _ _ _ _ hb m h2,wO _ _ _ _ hf m h1]
    ·cases h
 ·cases h
theorem ud {Q:Program} {cf:CF} {s s':S} {o:Oper} {g:Option (Nat×Bool)} (h:fH Q cf s o g=some s') {m:Nat} (hm: ¬ua (writes Q s o g) m):lk s'.rg m=lk s.rg m:=by
 unfold fH at h
 unfold writes at hm
 split at h
 ·rename_i f xs hc
  unfold fY at hc
  split at hc
  ·rename_i c ho
   split at hc
   ·rename_i f' gD
    simp at hc
    obtain⟨rfl,rfl⟩:=hc
    have Mn:cP Q o=none:=by unfold cP;rw[ho]
    simp only[Mn,ho,gD] at hm
    cases Y6:s.eg g f' with
    |fn ju cy=>
     rw[Y6] at h
     simp only[Y6] at hm
     cases yN:cG Q s ju (c.args.toList.map (s.eg g)++cy) with
     |none=>unfold jW at h;simp only[yN] at h;cases h
     |some r=>
      obtain⟨s1,qs⟩:=r
      simp only[yN,ua,List.mem_append,not_or] at hm
      exact BH h yN hm.1.1 hm.1.2 (by omega)
    |_=>rw[Y6] at h;simp[jW] at h
   ·cases hc
  ·cases hc
 ·unfold exec at h
  split at h
  ·split at h
   ·rw[bs h]
   ·cases h
  unfold iO at h
  split at h
  ·rename_i e he
   simp only[he] at hm
   split at h
   ·rename_i s1 v hn
    rw[bs h,eG hn (by simpa [ua] using hm)]
   ·cases h
  ·rename_i he
   simp only[he] at hm
   split at h
   ·rw[bs h]
   ·unfold ef at h
    split at h
    ·rename_i t ho
     simp only[ho] at hm
     split at h
     ·rename_i z hz
      simp only[hz,ua,List.mem_singleton,not_or] at hm
      refine sb h hm.1 ?_
      rw[oA]
      simp only[List.length_map]
      omega
     ·cases h
    ·rename_i t x ho
     simp only[ho,ua,List.mem_singleton,not_or] at hm
     split at h
     ·exact sb h hm.1 (by omega)
     ·cases h
    ·rename_i t ad x ho
     simp only[ho] at hm
     split at h
     ·rename_i s1 h1
      rw[bs h]
      refine BD h1 ?_
      generalize s.eg g ad=pa at hm
      cases pa with
      |ref n v off=>
       simp only[ua,List.mem_cons,not_or] at hm
       exact⟨hm.1.1,by omega⟩
      |dn n v i k off=>
       simp only[ua,List.mem_cons,not_or] at hm
       exact⟨hm.1.1,hm.1.2⟩
      |_=>trivial
     ·cases h
    ·split at h
     ·split at h
      ·split at h
       ·rw[bs h]
       ·cases h
      ·cases h
     ·cases h
    ·rename_i c ho
     simp only[ho] at hm
     split at h
     ·rename_i gD
      simp only[gD] at hm
      split at h
      ·rename_i x y t t2 b8 wA
       simp only[b8] at hm
       refine yT h ?_
       generalize s.eg g x=px at hm
       cases px<;>simpa [uc,ua] using hm
      ·cases h
     ·rename_i gD
      simp only[gD] at hm
      split at h
      ·rename_i x y t t2 b8 wA
       simp only[b8] at hm
       refine DP h ?_
       generalize s.eg g x=px at hm
       cases px<;>first |trivial |simpa [zW,ua] using hm
      ·cases h
     ·rename_i gD
      simp only[gD] at hm
      split at h
      ·rename_i x t b8 wA
       simp only[b8] at hm
       refine BG h ?_
       generalize s.eg g x=px at hm
       cases px<;>first |trivial |simpa [wQ,ua] using hm
      ·cases h
     ·cases h
    ·rename_i t x y ho
     simp only[ho,ua,List.mem_singleton,not_or] at hm
     exact DO h hm.1
    ·rename_i t ho
     simp only[ho,ua,List.mem_singleton,not_or] at hm
     exact wP h hm.1
    ·rename_i t mo k x ho
     simp only[ho] at hm
     cases hp:s.eg g mo with
     |mp n v=>
      rw[hp] at hm h
      simp only[ua,List.mem_cons,not_or] at hm
      exact qw h hm.1.1 hm.1.2
     |_=>rw[hp] at h;simp[iF] at h
    ·rename_i t mo k x ho
     simp only[ho] at hm
     cases hp:s.eg g mo with
     |mp n v=>
      rw[hp] at hm h
      simp only[ua,List.mem_cons,not_or] at hm
      exact qw h hm.1.1 hm.1.2
     |_=>rw[hp] at h;simp[iF] at h
    ·rename_i t x ho
     simp only[ho] at hm
     cases hp:s.eg g x with
     |mp n v=>
      rw[hp] at hm h
      simp only[ua,List.mem_cons,List.not_mem_nil,or_false,not_or] at hm
      exact sd h hm.1.1 hm.1.2
     |_=>
      rw[hp] at hm h
      simp only[ua,List.mem_cons,List.not_mem_nil,or_false,not_or] at hm
      exact sd h hm.1 trivial
    ·rename_i t mo k ho
     simp only[ho] at hm
     cases hp:s.eg g mo with
     |mp n v=>
      rw[hp] at hm h
      simp only[ua,List.mem_cons,List.not_mem_nil,or_false,not_or] at hm
      exact yU h hm.1.1 hm.1.2
     |_=>rw[hp] at h;simp[iG] at h
    ·rename_i t mo st x ho
     simp only[ho] at hm
     cases hp:s.eg g mo with
     |mp n v=>
      rw[hp] at hm h
      simp only[ua,List.mem_cons,not_or] at hm
      exact BE h hm.1.1 hm.1.2
     |_=>rw[hp] at h;simp[oh] at h
    ·rename_i t len parts ho
     simp only[ho,ua,List.mem_cons,not_or] at hm
     refine BF h hm.1.1 (fun y hy=> ?_)
     obtain⟨x,hx,rfl⟩:=List.mem_map.1 hy
     exact fun hc=>hm.1.2 (List.mem_flatMap.2 ⟨x,hx,hc⟩)
    ·cases h
end Pi
