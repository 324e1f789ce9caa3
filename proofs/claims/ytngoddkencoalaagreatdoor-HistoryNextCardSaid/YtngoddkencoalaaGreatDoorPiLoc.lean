/- The text PiLoc. -/
import Derived.Test.YtngoddkencoalaaGreatDoorPiRegion
namespace Pi
open Go
def S.wt (s:S) (m:List (Nat×P)):S:=⟨s.n,m,s.rg⟩
theorem mc (s:S) (m:List (Nat×P)) (n v:Nat):(s.wt m).obj n v=s.obj n v:=rfl
theorem jM (s:S) (m:List (Nat×P)) (n:Nat) (o:Obj):(s.wt m).new n o=(s.new n o).map fun x=>(x.1.wt m,x.2):=by
 unfold S.new S.wt
 simp only
 split
 ·rfl
 ·split
  ·rfl
  ·split<;>rfl
theorem eP (s:S) (m:List (Nat×P)) (n:Nat) (o:Obj):(s.wt m).setObj n o=(s.setObj n o).wt m:=by
 unfold S.setObj S.wt
 simp only
 split<;>rfl
theorem Km (s:S) (m:List (Nat×P)) (n:Nat) (p:P) (t:Option TypeId):sb (s.wt m) n p t=(sb s n p t).map fun x=>(x.1.wt m,x.2):=by
 unfold sb
 split
 ·rw[jM]
  cases s.new n _<;>rfl
 ·rfl
theorem lS (m:List (Nat×P)): ∀(ps:List P) (ts:List (Option TypeId)) (n:Nat) (s:S),cg (s.wt m) n ps ts=(cg s n ps ts).map fun x=>(x.1.wt m,x.2)
 | [],_,_,_=>rfl
 |p::ps,ts,n,s=>by
  simp only[cg]
  rw[Km]
  cases h:sb s n p (ts.headD none) with
  |none=>rfl
  |some r=>
   simp only[zaK]
   rw[lS m ps ts.tail (n+1) r.1]
   cases cg r.1 (n+1) ps ts.tail<;>rfl
theorem wi (Q:Program) (s:S) (m:List (Nat×P)) (p:P):oX Q (s.wt m) p=(oX Q s p).map fun x=>(x.1.wt m,x.2):=by
 unfold oX
 split
 ·rfl
 ·rw[mc]
  split
  ·split
   ·rw[eP];rfl
   ·rfl
  ·rfl
 ·rw[mc]
  split
  ·split
   ·split
    ·rw[eP];rfl
    ·rfl
   ·rfl
  ·rfl
 ·rfl
theorem Kn (Q:Program) (m:List (Nat×P)): ∀(ps:List P) (s:S),qm Q (s.wt m) ps=(qm Q s ps).map fun x=>(x.1.wt m,x.2)
 | [],_=>rfl
 |p::ps,s=>by
  simp only[qm]
  rw[wi]
  cases h:oX Q s p with
  |none=>rfl
  |some r=>
   simp only[zaK]
   rw[Kn Q m ps r.1]
   cases qm Q r.1 ps<;>rfl
theorem HY (Q:Program) (s:S) (m:List (Nat×P)) (p:P):DP Q (s.wt m) p=(DP Q s p).map fun x=>(x.1.wt m,x.2):=by
 unfold DP
 split
 ·rw[Kn]
  cases qm Q s _<;>rfl
 ·exact wi Q s m p
theorem wj (Q:Program) (s:S) (t:TypeId) (m:List (Nat×P)) (p:P):nq Q (s.wt m) t p=(nq Q s t p).map fun x=>(x.1.wt m,x.2):=by
 unfold nq
 split
 ·exact HY Q s m p
 ·rw[HY]
  cases DP Q s p with
  |none=>rfl
  |some r=>simp only[zaK,D.force_eq]
theorem Mf (Q:Program) (s:S) (t:TypeId) (m:List (Nat×P)) (p:P):kH Q (s.wt m) t p=(kH Q s t p).map fun x=>(x.1.wt m,x.2):=by
 unfold kH
 split
 ·split
  ·rw[wj]
   cases nq Q s t _<;>rfl
  ·rfl
 ·split
  ·simp only[D.force_eq];rfl
  ·rfl
 ·rfl
theorem Mg (Q:Program) (s:S) (t:TypeId) (m:List (Nat×P)) (p:P):oZ Q (s.wt m) t p=(oZ Q s t p).map fun x=>(x.1.wt m,x.2):=by
 unfold oZ
 split
 ·rw[wi]
  cases oX Q s _<;>rfl
 ·rw[wi]
  cases oX Q s _<;>rfl
 ·exact Mf Q s t m _
theorem xr (Q:Program) (m:List (Nat×P)): ∀(ps:List P) (ts:List TypeId) (s:S),eC Q (s.wt m) ts ps=(eC Q s ts ps).map fun x=>(x.1.wt m,x.2)
 | [],_,_=>rfl
 |p::ps,ts,s=>by
  simp only[eC]
  rw[Mg]
  cases h:oZ Q s (ts.headD 0) p with
  |none=>rfl
  |some r=>
   simp only[zaK]
   rw[xr Q m ps ts.tail r.1]
   cases eC Q r.1 ts.tail ps<;>rfl
theorem uM (Q:Program) (m:List (Nat×P)) (f:FuncId) (ps:List P) (s:S):cL Q (s.wt m) f ps=(cL Q s f ps).map fun x=>(x.1.wt m,x.2):=by
 unfold cL
 split
 ·rfl
 ·exact xr Q m ps _ s
theorem AR (Q:Program) (s:S) (m:List (Nat×P)) (t:TypeId) (p q:P):gw Q (s.wt m) t p q=(gw Q s t p q).map fun x=>x.wt m:=by
 unfold gw
 split
 ·rfl
 ·split
  ·rw[Km]
   cases sb s _ q _ with
   |none=>rfl
   |some r=>
    simp only[zaK,mc]
    split
    ·split
     ·rw[eP];rfl
     ·rfl
    ·rfl
  ·rw[wj]
   cases nq Q s t q with
   |none=>rfl
   |some r=>
    simp only[zaK,mc]
    split
    ·split
     ·split
      ·rw[eP];rfl
      ·rfl
     ·rfl
    ·rfl
  ·rfl
theorem Cu (Q:Program) (s:S) (m:List (Nat×P)) (t2:TypeId) (k:Nat) (p:P):l7 Q (s.wt m) t2 k p=l7 Q s t2 k p:=rfl
def fin (s:S) (dst:Option Nat) (c:Option (List (Nat×En)×P)):Option S:=
 match c with
 |some (R,p)=>(⟨s.n,s.tm,R⟩:S).put dst p
 |none=>none
def Loc (f:S->Option S) (s:S) (dst:Option Nat):Prop:= ∃c,∀m,f (s.wt m)=fin (s.wt m) dst c
theorem gY {s s1:S} {dst:Option Nat} {p:P} (m:List (Nat×P)) (hn:s1.n=s.n):(s1.wt m).put dst p=fin (s.wt m) dst (some (s1.rg,p)):=by
 unfold fin S.wt
 rw[hn]
theorem qQ {s:S} {n v:Nat} {o:Obj} {s':S} (h:s.new n o=some (s',v)):s'.n=s.n:=by
 obtain⟨rfl,_⟩:=S.kV h;rfl
theorem ga (s:S) (n:Nat) (o:Obj):(s.setObj n o).n=s.n:=by unfold S.setObj;split<;>rfl
theorem PH {s:S} {n:Nat} {p q:P} {t:Option TypeId} {s':S} (h:sb s n p t=some (s',q)):s'.n=s.n:=by
 unfold sb at h
 split at h
 ·split at h
  ·rename_i hn;simp at h;rw[<-h.1];exact qQ hn
  ·cases h
 ·simp at h;rw[<-h.1]
theorem xt: ∀(ps:List P) (ts:List (Option TypeId)) (n:Nat) (s s':S) (qs:List P),cg s n ps ts=some (s',qs)->s'.n=s.n
 | [],_,_,s,s',qs,h=>by simp[cg] at h;rw[<-h.1]
 |p::ps,ts,n,s,s',qs,h=>by
  simp only[cg] at h
  split at h
  ·cases h
  ·rename_i s1 q h1
   split at h
   ·rename_i s2 qs2 h2
    simp at h
    rw[<-h.1,xt ps _ _ _ _ _ h2,PH h1]
   ·cases h
theorem Cv {Q:Program} {s s':S} {p:P} {x:D} (h:oX Q s p=some (s',x)):s'.n=s.n:=by
 unfold oX at h
 split at h
 ·simp at h;rw[<-h.1]
 ·split at h
  ·split at h
   ·simp at h;rw[<-h.1];exact ga _ _ _
   ·cases h
  ·cases h
 ·split at h
  ·split at h
   ·split at h
    ·simp at h;rw[<-h.1];exact ga _ _ _
    ·cases h
   ·cases h
  ·cases h
 ·cases h
theorem PI {Q:Program}: ∀(ps:List P) (s s':S) (xs:List D),qm Q s ps=some (s',xs)->s'.n=s.n
 | [],s,s',xs,h=>by simp[qm] at h;rw[<-h.1]
 |p::ps,s,s',xs,h=>by
  simp only[qm] at h
  split at h
  ·cases h
  ·rename_i s1 x h1
   split at h
   ·rename_i s2 xs2 h2;simp at h;rw[<-h.1,PI ps _ _ _ h2,Cv h1]
   ·cases h
theorem qaA {Q:Program} {s s':S} {p:P} {x:D} (h:DP Q s p=some (s',x)):s'.n=s.n:=by
 unfold DP at h
 split at h
 ·split at h
  ·rename_i h1;simp at h;rw[<-h.1];exact PI _ _ _ _ h1
  ·cases h
 ·exact Cv h
theorem Cw {Q:Program} {s s':S} {t:TypeId} {p:P} {x:D} (h:nq Q s t p=some (s',x)):s'.n=s.n:=by
 obtain⟨y,h1,_⟩:=tL h
 exact qaA h1
theorem PJ {Q:Program} {s s':S} {t:TypeId} {p q:P} (h:kH Q s t p=some (s',q)):s'.n=s.n:=by
 unfold kH at h
 split at h
 ·split at h
  ·split at h
   ·rename_i hf;simp at h;rw[<-h.1];exact Cw hf
   ·cases h
  ·simp at h;rw[<-h.1]
 ·split at h
  ·rw[D.force_eq] at h;simp at h;rw[<-h.1]
  ·simp at h;rw[<-h.1]
 ·simp at h;rw[<-h.1]
theorem AT {Q:Program}: ∀(ps:List P) (ts:List TypeId) (s s':S) (xs:List P),eC Q s ts ps=some (s',xs)->s'.n=s.n
 | [],ts,s,s',xs,h=>by simp[eC] at h;rw[<-h.1]
 |p::ps,ts,s,s',xs,h=>by
  simp only[eC] at h
  split at h
  ·cases h
  ·rename_i s1 x h1
   have e1:s1.n=s.n:=by
    unfold oZ at h1
    split at h1
    ·split at h1
     ·rename_i hf;simp at h1;rw[<-h1.1];exact Cv hf
     ·cases h1
    ·split at h1
     ·rename_i hf;simp at h1;rw[<-h1.1];exact Cv hf
     ·cases h1
    ·exact PJ h1
   split at h
   ·rename_i s2 xs2 h2;simp at h;rw[<-h.1,AT ps _ _ _ _ h2,e1]
   ·cases h
theorem PK {Q:Program} {s s':S} {t:TypeId} {p q:P} (h:gw Q s t p q=some s'):s'.n=s.n:=by
 unfold gw at h
 split at h
 ·cases h
 ·split at h
  ·split at h
   ·rename_i h1
    split at h
    ·split at h
     ·simp at h;rw[<-h,ga,PH h1]
     ·cases h
    ·cases h
   ·cases h
  ·split at h
   ·rename_i h1
    split at h
    ·split at h
     ·split at h
      ·simp only[zal] at h;rw[<-h,ga,Cw h1]
      ·cases h
     ·cases h
    ·cases h
   ·cases h
  ·cases h
theorem HZ {Q:Program} {f:FuncId} (ps:List P) (s s':S) (xs:List P) (h:cL Q s f ps=some (s',xs)):s'.n=s.n:=by
 unfold cL at h
 split at h
 ·simp only[zal,zbB] at h;rw[h.1]
 ·exact AT ps _ s s' xs h
theorem xu (Q:Program) (s:S) (dst:Option Nat) (t:TypeId) (ps:List P):Loc (fun s=>nk Q s dst t ps) s dst:=by
 unfold nk
 cases h:cg s (site dst*1000) ps (pW Q 20 t) with
 |none=>exact⟨none,fun m=>by simp only[lS,h];rfl⟩
 |some r=>
  cases h2:r.1.new (site dst) (.box t r.2) with
  |none=>exact⟨none,fun m=>by simp only[lS,h,zaK,jM,h2];rfl⟩
  |some r2=>exact⟨some (r2.1.rg,.ref (site dst) r2.2 0),fun m=>by simp only[lS,h,zaK,jM,h2];exact gY m (by rw[qQ h2,xt _ _ _ _ _ _ h])⟩
theorem EP (Q:Program) (s:S) (dst:Option Nat) (t t2:TypeId) (p q:P):Loc (fun s=>iZ Q s dst t t2 p q) s dst:=by
 unfold Loc iZ
 cases h1:cH Q t with
 |none=>exact⟨none,fun m=>rfl⟩
 |some e=>
  simp only[]
  cases h2:Q.info? e with
  |none=>exact⟨none,fun m=>rfl⟩
  |some i=>
   cases h3:sz Q e with
   |none=>exact⟨none,fun m=>rfl⟩
   |some k=>
    cases k with
    |zero=>exact⟨none,fun m=>rfl⟩
    |succ k=>
     simp only[Cu]
     cases h4:l7 Q s t2 (k+1) q with
     |none=>exact⟨none,fun m=>rfl⟩
     |some ys=>
      cases h5:ey Q e with
      |none=>exact⟨none,fun m=>rfl⟩
      |some z=>
       simp only[]
       cases h6:Nat.beq z.cells.length (k+1) with
       |false=>exact⟨none,fun m=>rfl⟩
       |true=>
        simp only[zba]
        cases p with
        |sl n v len=>
         have e0: ∀m,(s.wt m).rg=s.rg:=fun _=>rfl
         simp only[e0]
         cases h7:lk s.rg n with
         |none=>exact⟨none,fun m=>rfl⟩
         |some en=>
          simp only[]
          cases h8:en.obj with
          |arr ty fz es=>
           cases fz with
           |true=>exact⟨none,fun m=>rfl⟩
           |false=>
            simp only[]
            split
            ·exact⟨some (_,_),fun m=>rfl⟩
            ·exact⟨none,fun m=>rfl⟩
          |_=>exact⟨none,fun m=>rfl⟩
        |d x=>
         cases x with
         |fQ=>
          simp only[jM]
          split
          ·cases h7:s.new (site dst) (.arr e false ys) with
           |none=>exact⟨none,fun m=>rfl⟩
           |some r2=>exact⟨some (r2.1.rg,_),fun m=>gY m (qQ h7)⟩
          ·exact⟨none,fun m=>rfl⟩
         |_=>exact⟨none,fun m=>rfl⟩
        |_=>exact⟨none,fun m=>rfl⟩
theorem Mh (Q:Program) (s:S) (dst:Option Nat) (t:TypeId) (p q:P):Loc (fun s=>sc Q s dst t p q) s dst:=by
 unfold Loc sc
 split
 ·rename_i e k1 l k2 c h1
  split
  ·rename_i i k z h2 h3 h4
   split
   ·simp only[jM]
    cases h7:s.new (site dst) (.arr e false (List.replicate l.toNat z)) with
    |none=>exact⟨none,fun m=>rfl⟩
    |some r2=>exact⟨some (r2.1.rg,_),fun m=>gY m (qQ h7)⟩
   ·exact⟨none,fun m=>rfl⟩
  ·exact⟨none,fun m=>rfl⟩
 ·exact⟨none,fun m=>rfl⟩
theorem Cx (Q:Program) (s:S) (dst:Option Nat) (t:TypeId):Loc (fun s=>kG Q s dst t) s dst:=by
 unfold Loc kG
 split
 ·rename_i kt e h1
  simp only[jM]
  cases h7:s.new (site dst) (.map kt (fun _=>none) 0 false) with
  |none=>exact⟨none,fun m=>rfl⟩
  |some r2=>exact⟨some (r2.1.rg,_),fun m=>gY m (qQ h7)⟩
 ·exact⟨none,fun m=>rfl⟩
theorem uN (Q:Program) (s:S) (dst:Option Nat) (t:TypeId) (p k x:P):Loc (fun s=>ja Q s dst t p k x) s dst:=by
 unfold Loc ja
 split
 ·rename_i kt e n v kd h1
  simp only[wj]
  cases h2:nq Q s e x with
  |none=>exact⟨none,fun m=>rfl⟩
  |some y=>
   simp only[zaK,mc]
   split
   ·split
    ·simp only[eP]
     exact⟨some (_,.bad),fun m=>gY m ((ga _ _ _).trans (Cw h2))⟩
    ·exact⟨none,fun m=>rfl⟩
   ·exact⟨none,fun m=>rfl⟩
 ·exact⟨none,fun m=>rfl⟩
theorem ER (Q:Program) (s:S) (dst:Option Nat) (t:TypeId) (p k:P):Loc (fun s=>jb Q s dst t p k) s dst:=by
 unfold Loc jb
 split
 ·rename_i kt e n v kd h1
  split
  ·simp only[mc]
   split
   ·rename_i zA get c h2
    split
    ·simp only[jM]
     cases h7:s.new (site dst) .ew with
     |none=>exact⟨none,fun m=>rfl⟩
     |some r2=>
      simp only[zaK,eP]
      exact⟨some (_,_),fun m=>gY m ((ga _ _ _).trans (qQ h7))⟩
    ·exact⟨none,fun m=>rfl⟩
   ·exact⟨none,fun m=>rfl⟩
  ·exact⟨none,fun m=>rfl⟩
 ·exact⟨none,fun m=>rfl⟩
theorem H0 (Q:Program) (s:S) (dst:Option Nat) (p st x:P):Loc (fun s=>oY Q s dst p st x) s dst:=by
 unfold Loc oY
 split
 ·simp only[HY]
  cases h2:DP Q s x with
  |none=>exact⟨none,fun m=>rfl⟩
  |some y=>
   simp only[zaK,mc]
   split
   ·split
    ·simp only[eP]
     exact⟨some (_,.bad),fun m=>gY m ((ga _ _ _).trans (qaA h2))⟩
    ·exact⟨none,fun m=>rfl⟩
   ·exact⟨none,fun m=>rfl⟩
 ·exact⟨none,fun m=>rfl⟩
theorem H2 (Q:Program) (s:S) (dst:Option Nat) (t:TypeId) (p:P):Loc (fun s=>ra Q s dst t p) s dst:=by
 unfold Loc ra
 split
 ·rename_i kt vt n v h1
  simp only[mc]
  split
  ·rename_i zA get c fz h2
   split
   ·simp only[eP,jM]
    cases h7:(s.setObj n (.map kt get c true)).new (site dst) (.iter kt vt get none) with
    |none=>exact⟨none,fun m=>rfl⟩
    |some r2=>exact⟨some (r2.1.rg,_),fun m=>gY m ((qQ h7).trans (ga _ _ _))⟩
   ·exact⟨none,fun m=>rfl⟩
  ·exact⟨none,fun m=>rfl⟩
 ·rename_i kt vt h1
  simp only[jM]
  cases h7:s.new (site dst) (.iter kt vt (fun _=>none) none) with
  |none=>exact⟨none,fun m=>rfl⟩
  |some r2=>exact⟨some (r2.1.rg,_),fun m=>gY m (qQ h7)⟩
 ·exact⟨none,fun m=>rfl⟩
theorem uO (Q:Program) (t:TypeId) (k:Nat) (m:List (Nat×P)): ∀(ps:List (Nat×P)) (s:S) (es:List D),cK Q t k (s.wt m) es ps=(cK Q t k s es ps).map fun x=>(x.1.wt m,x.2)
 | [],s,es=>rfl
 | (i,p)::r,s,es=>by
  simp only[cK,wj]
  cases h:nq Q s t p with
  |none=>rfl
  |some y=>
   simp only[zaK]
   split
   ·exact uO Q t k m r y.1 _
   ·rfl
theorem xv {Q:Program} {t:TypeId} {k:Nat}: ∀(ps:List (Nat×P)) (s s':S) (es fA:List D),cK Q t k s es ps=some (s',fA)->s'.n=s.n
 | [],s,s',es,fA,h=>by simp[cK] at h;rw[h.1]
 | (i,p)::r,s,s',es,fA,h=>by
  simp only[cK] at h
  split at h
  ·rename_i s1 x h1
   split at h
   ·rw[xv r s1 s' _ fA h,Cw h1]
   ·cases h
  ·cases h
theorem H3 (Q:Program) (s:S) (dst:Option Nat) (t:TypeId) (len:Nat) (parts:List (Nat×P)):Loc (fun s=>q9 Q s dst t len parts) s dst:=by
 unfold Loc q9
 split
 ·rename_i e h1
  split
  ·rename_i i k z h2 h3 h4
   split
   ·simp only[uO]
    cases h5:cK Q e (k+1) s (List.replicate len z) parts with
    |none=>exact⟨none,fun m=>rfl⟩
    |some r=>
     simp only[zaK,jM]
     cases h7:r.1.new (site dst) (.arr e false r.2) with
     |none=>exact⟨none,fun m=>rfl⟩
     |some r2=>exact⟨some (r2.1.rg,_),fun m=>gY m (by rw[qQ h7,xv _ _ _ _ _ h5])⟩
   ·exact⟨none,fun m=>rfl⟩
  ·exact⟨none,fun m=>rfl⟩
 ·exact⟨none,fun m=>rfl⟩
theorem H4 (Q:Program) (s:S) (dst:Option Nat) (t:TypeId) (p:P):Loc (fun s=>nr Q s dst t p) s dst:=by
 unfold Loc nr
 split
 ·simp only[mc,eP]
  split
  ·split
   ·exact⟨some (_,_),fun m=>gY m (ga _ _ _)⟩
   ·exact⟨none,fun m=>rfl⟩
  ·exact⟨none,fun m=>rfl⟩
 ·exact⟨none,fun m=>rfl⟩
theorem Mi (Q:Program) (s:S) (dst:Option Nat) (t t2:TypeId) (p q:P):Loc (fun s=>sd Q s dst t t2 p q) s dst:=by
 unfold Loc sd
 split
 ·split
  ·simp only[Cu,mc,eP]
   split
   ·split
    ·exact⟨some (_,_),fun m=>gY m (ga _ _ _)⟩
    ·exact⟨none,fun m=>rfl⟩
   ·exact⟨none,fun m=>rfl⟩
  ·exact⟨none,fun m=>rfl⟩
 ·exact⟨none,fun m=>rfl⟩
structure Alike (s s2:S) (xs:List Operand):Prop where
 n:s2.n=s.n
 rg:s2.rg=s.rg
 ev: ∀x∈xs,s2.ev x=s.ev x
theorem Alike.wt {s s2:S} {xs:List Operand} (h:Alike s s2 xs):s2=s.wt s2.tm:=by
 cases s2 with
 |mk n tm rg=>
  have h1:=h.n
  have h2:=h.rg
  simp only at h1 h2
  subst h1 h2
  rfl
theorem Alike.eg {s s2:S} {xs:List Operand} (h:Alike s s2 xs) {x:Operand} (hx:x∈xs) (g:Option (Nat×Bool)):s2.eg g x=s.eg g x:=by
 unfold S.eg;rw[h.ev x hx]
theorem Alike.egs {s s2:S} {xs:List Operand} (h:Alike s s2 xs) {ys:List Operand} (hy: ∀y∈ys,y∈xs) (g:Option (Nat×Bool)):ys.map (s2.eg g)=ys.map (s.eg g):=
 zbE fun y hyy=>h.eg (hy y hyy) g
theorem pk {f:S->Option S} {s s2:S} {xs:List Operand} {dst:Option Nat} (h:Alike s s2 xs) (hl:Loc f s dst): ∃c,f s=fin s dst c/\f s2=fin s2 dst c:=by
 obtain⟨c,hc⟩:=hl
 refine⟨c,?_,?_⟩
 ·exact hc s.tm
 ·have e:=h.wt
  rw[e]
  exact hc s2.tm
theorem xw {Q:Program} {s s2:S} {o:Oper} (h:Alike s s2 o.op.operands.toList) (g:Option (Nat×Bool)):pv Q s2 o g=pv Q s o g:=by
 have hs:=h.wt
 have mem: ∀{x:Operand},x∈o.op.operands->x∈o.op.operands.toList:=fun hx=>by simpa using hx
 unfold pv
 split
 ·rename_i x ho;rw[h.eg (by simp[ho,Op.operands])]
 ·rename_i x ho;rw[h.eg (by simp[ho,Op.operands])]
 ·rename_i c x y ho
  rw[h.eg (x:=c) (by simp[ho,Op.operands]),h.eg (x:=x) (by simp[ho,Op.operands]),h.eg (x:=y) (by simp[ho,Op.operands])]
 ·rename_i x ho;rw[h.eg (by simp[ho,Op.operands]),hs];rfl
 ·rename_i op t x y yt ho;rw[h.eg (x:=x) (by simp[ho,Op.operands]),h.eg (x:=y) (by simp[ho,Op.operands]),hs];rfl
 ·rename_i op t x ho;rw[h.eg (by simp[ho,Op.operands])]
 ·rename_i t1 t2 x ho;rw[h.eg (by simp[ho,Op.operands])]
 ·rename_i t x ho;rw[h.eg (by simp[ho,Op.operands]),hs];rfl
 ·rename_i t x f ho;rw[h.eg (by simp[ho,Op.operands]),hs];rfl
 ·rename_i t x i ho;rw[h.eg (x:=x) (by simp[ho,Op.operands]),h.eg (x:=i) (by simp[ho,Op.operands]),hs];rfl
 ·rename_i t x i ho;rw[h.eg (x:=x) (by simp[ho,Op.operands]),h.eg (x:=i) (by simp[ho,Op.operands])]
 ·rename_i t x f ho;rw[h.eg (by simp[ho,Op.operands])]
 ·rename_i x i ho;rw[h.eg (by simp[ho,Op.operands])]
 ·rename_i t x i ok ho;rw[h.eg (x:=x) (by simp[ho,Op.operands]),h.eg (x:=i) (by simp[ho,Op.operands]),hs];rfl
 ·rename_i x ho
  have e5: ∀p,oW s2 p=oW s p:=fun p=>by rw[hs];rfl
  rw[e5,h.eg (by simp[ho,Op.operands])]
 ·rename_i t x lo hi ho
  have e5: ∀p l h',l5 Q s2 t p l h'=l5 Q s t p l h':=fun p l h'=>by rw[hs];rfl
  rw[e5,h.eg (x:=x) (by simp[ho,Op.operands])]
  cases lo with
  |none=>cases hi with
   |none=>rfl
   |some u=>simp only[zaK];rw[h.eg (x:=u) (by simp[ho,Op.operands])];rfl
  |some l=>cases hi with
   |none=>simp only[zaK];rw[h.eg (x:=l) (by simp[ho,Op.operands])];rfl
   |some u=>simp only[zaK];rw[h.eg (x:=l) (by simp[ho,Op.operands]),h.eg (x:=u) (by simp[ho,Op.operands])]
 ·rename_i t parts ho
  have e:parts.toList.map (fun x=>s2.eg g x.2)=parts.toList.map (fun x=>s.eg g x.2):=zbE fun x hx=>h.eg (by
   simp only[ho,Op.operands]
   exact za6 (f:=fun x:Nat×Operand=>x.2) hx) g
  have e2:parts.toList.map (fun x=>(x.1,s2.eg g x.2))=parts.toList.map (fun x=>(x.1,s.eg g x.2)):=zbE fun x hx=>by
   rw[h.eg (x:=x.2) (by
    simp only[ho,Op.operands]
    exact za6 (f:=fun x:Nat×Operand=>x.2) hx) g]
  rw[e,e2]
 ·rename_i f first cG ho
  have e:cG.toList.map (s2.eg g)=cG.toList.map (s.eg g):=h.egs (fun y hy=>by
   simp only[ho,Op.operands]
   simp at hy
   simp[hy]) g
  rw[e]
 ·rename_i c ho
  have hm: ∀y∈c.args.toList,y∈o.op.operands.toList:=fun y hy=>by
   simp only[ho,Op.operands,Call.operands]
   simp at hy
   simp[hy]
  split
  ·split
   ·rename_i x cN
    rw[h.eg (x:=x) (hm x (by rw[cN];simp))]
    have e5: ∀p,Eg s2 p=Eg s p:=fun p=>by rw[hs];rfl
    have e6: ∀p,Eh s2 p=Eh s p:=fun p=>by rw[hs];rfl
    rw[e5,e6]
   ·rfl
  ·rw[h.egs hm]
  ·rw[h.egs hm]
  ·rfl
 ·rfl
end Pi
