/- The text PiLoc. -/
import Derived.Test.YtngoddkencoalaaGreatDoorPiRegion
namespace Pi
open Go
def S.wt (s:S) (m:List (Nat×P)):S:=⟨s.n,m,s.rg⟩
theorem ly (s:S) (m:List (Nat×P)) (n v:Nat):(s.wt m).obj n v=s.obj n v:=rfl
theorem jl (s:S) (m:List (Nat×P)) (n:Nat) (o:Obj):(s.wt m).new n o=(s.new n o).map fun x=>(x.1.wt m,x.2):=by
 unfold S.new S.wt
 simp only
 split
 ·rfl
 ·split
  ·rfl
  ·split<;>rfl
theorem eF (s:S) (m:List (Nat×P)) (n:Nat) (o:Obj):(s.wt m).setObj n o=(s.setObj n o).wt m:=by
 unfold S.setObj S.wt
 simp only
 split<;>rfl
theorem Iv (s:S) (m:List (Nat×P)) (n:Nat) (p:P) (t:Option TypeId):rS (s.wt m) n p t=(rS s n p t).map fun x=>(x.1.wt m,x.2):=by
 unfold rS
 split
 ·rw[jl]
  cases s.new n _<;>rfl
 ·rfl
theorem k9 (m:List (Nat×P)): ∀(ps:List P) (ts:List (Option TypeId)) (n:Nat) (s:S),cb (s.wt m) n ps ts=(cb s n ps ts).map fun x=>(x.1.wt m,x.2)
 | [],_,_,_=>rfl
 |p::ps,ts,n,s=>by
  simp only[cb]
  rw[Iv]
  cases h:rS s n p (ts.headD none) with
  |none=>rfl
  |some r=>
   simp only[Option.map_some]
   rw[k9 m ps ts.tail (n+1) r.1]
   cases cb r.1 (n+1) ps ts.tail<;>rfl
theorem vq (Q:Program) (s:S) (m:List (Nat×P)) (p:P):og Q (s.wt m) p=(og Q s p).map fun x=>(x.1.wt m,x.2):=by
 unfold og
 split
 ·rfl
 ·rw[ly]
  split
  ·split
   ·rw[eF];rfl
   ·rfl
  ·rfl
 ·rw[ly]
  split
  ·split
   ·split
    ·rw[eF];rfl
    ·rfl
   ·rfl
  ·rfl
 ·rfl
theorem Iw (Q:Program) (m:List (Nat×P)): ∀(ps:List P) (s:S),pU Q (s.wt m) ps=(pU Q s ps).map fun x=>(x.1.wt m,x.2)
 | [],_=>rfl
 |p::ps,s=>by
  simp only[pU]
  rw[vq]
  cases h:og Q s p with
  |none=>rfl
  |some r=>
   simp only[Option.map_some]
   rw[Iw Q m ps r.1]
   cases pU Q r.1 ps<;>rfl
theorem Gu (Q:Program) (s:S) (m:List (Nat×P)) (p:P):C1 Q (s.wt m) p=(C1 Q s p).map fun x=>(x.1.wt m,x.2):=by
 unfold C1
 split
 ·rw[Iw]
  cases pU Q s _<;>rfl
 ·exact vq Q s m p
theorem vr (Q:Program) (s:S) (t:TypeId) (m:List (Nat×P)) (p:P):mF Q (s.wt m) t p=(mF Q s t p).map fun x=>(x.1.wt m,x.2):=by
 unfold mF
 split
 ·exact Gu Q s m p
 ·rw[Gu]
  cases C1 Q s p with
  |none=>rfl
  |some r=>simp only[Option.map_some,D.force_eq]
theorem Ku (Q:Program) (s:S) (t:TypeId) (m:List (Nat×P)) (p:P):jU Q (s.wt m) t p=(jU Q s t p).map fun x=>(x.1.wt m,x.2):=by
 unfold jU
 split
 ·split
  ·rw[vr]
   cases mF Q s t _<;>rfl
  ·rfl
 ·split
  ·simp only[D.force_eq];rfl
  ·rfl
 ·rfl
theorem Kv (Q:Program) (s:S) (t:TypeId) (m:List (Nat×P)) (p:P):oi Q (s.wt m) t p=(oi Q s t p).map fun x=>(x.1.wt m,x.2):=by
 unfold oi
 split
 ·rw[vq]
  cases og Q s _<;>rfl
 ·rw[vq]
  cases og Q s _<;>rfl
 ·exact Ku Q s t m _
theorem wG (Q:Program) (m:List (Nat×P)): ∀(ps:List P) (ts:List TypeId) (s:S),eo Q (s.wt m) ts ps=(eo Q s ts ps).map fun x=>(x.1.wt m,x.2)
 | [],_,_=>rfl
 |p::ps,ts,s=>by
  simp only[eo]
  rw[Kv]
  cases h:oi Q s (ts.headD 0) p with
  |none=>rfl
  |some r=>
   simp only[Option.map_some]
   rw[wG Q m ps ts.tail r.1]
   cases eo Q r.1 ts.tail ps<;>rfl
theorem tX (Q:Program) (m:List (Nat×P)) (f:FuncId) (ps:List P) (s:S):cG Q (s.wt m) f ps=(cG Q s f ps).map fun x=>(x.1.wt m,x.2):=by
 unfold cG
 split
 ·rfl
 ·exact wG Q m ps _ s
theorem zS (Q:Program) (s:S) (m:List (Nat×P)) (t:TypeId) (p q:P):fX Q (s.wt m) t p q=(fX Q s t p q).map fun x=>x.wt m:=by
 unfold fX
 split
 ·rfl
 ·split
  ·rw[Iv]
   cases rS s _ q _ with
   |none=>rfl
   |some r=>
    simp only[Option.map_some,ly]
    split
    ·split
     ·rw[eF];rfl
     ·rfl
    ·rfl
  ·rw[vr]
   cases mF Q s t q with
   |none=>rfl
   |some r=>
    simp only[Option.map_some,ly]
    split
    ·split
     ·split
      ·rw[eF];rfl
      ·rfl
     ·rfl
    ·rfl
  ·rfl
theorem Bx (Q:Program) (s:S) (m:List (Nat×P)) (t2:TypeId) (k:Nat) (p:P):ln Q (s.wt m) t2 k p=ln Q s t2 k p:=rfl
def fin (s:S) (dst:Option Nat) (c:Option (List (Nat×En)×P)):Option S:=
 match c with
 |some (R,p)=>(⟨s.n,s.tm,R⟩:S).put dst p
 |none=>none
def Loc (f:S->Option S) (s:S) (dst:Option Nat):Prop:= ∃c,∀m,f (s.wt m)=fin (s.wt m) dst c
theorem gH {s s1:S} {dst:Option Nat} {p:P} (m:List (Nat×P)) (hn:s1.n=s.n):(s1.wt m).put dst p=fin (s.wt m) dst (some (s1.rg,p)):=by
 unfold fin S.wt
 rw[hn]
theorem qu {s:S} {n v:Nat} {o:Obj} {s':S} (h:s.new n o=some (s',v)):s'.n=s.n:=by
 obtain⟨rfl,_⟩:=S.ki h;rfl
theorem fK (s:S) (n:Nat) (o:Obj):(s.setObj n o).n=s.n:=by unfold S.setObj;split<;>rfl
theorem NW {s:S} {n:Nat} {p q:P} {t:Option TypeId} {s':S} (h:rS s n p t=some (s',q)):s'.n=s.n:=by
 unfold rS at h
 split at h
 ·split at h
  ·rename_i hn;simp at h;rw[<-h.1];exact qu hn
  ·cases h
 ·simp at h;rw[<-h.1]
theorem wH: ∀(ps:List P) (ts:List (Option TypeId)) (n:Nat) (s s':S) (qs:List P),cb s n ps ts=some (s',qs)->s'.n=s.n
 | [],_,_,s,s',qs,h=>by simp[cb] at h;rw[<-h.1]
 |p::ps,ts,n,s,s',qs,h=>by
  simp only[cb] at h
  split at h
  ·cases h
  ·rename_i s1 q h1
   split at h
   ·rename_i s2 YT h2
    simp at h
    rw[<-h.1,wH ps _ _ _ _ _ h2,NW h1]
   ·cases h
theorem By {Q:Program} {s s':S} {p:P} {x:D} (h:og Q s p=some (s',x)):s'.n=s.n:=by
 unfold og at h
 split at h
 ·simp at h;rw[<-h.1]
 ·split at h
  ·split at h
   ·simp at h;rw[<-h.1];exact fK _ _ _
   ·cases h
  ·cases h
 ·split at h
  ·split at h
   ·split at h
    ·simp at h;rw[<-h.1];exact fK _ _ _
    ·cases h
   ·cases h
  ·cases h
 ·cases h
theorem NX {Q:Program}: ∀(ps:List P) (s s':S) (xs:List D),pU Q s ps=some (s',xs)->s'.n=s.n
 | [],s,s',xs,h=>by simp[pU] at h;rw[<-h.1]
 |p::ps,s,s',xs,h=>by
  simp only[pU] at h
  split at h
  ·cases h
  ·rename_i s1 x h1
   split at h
   ·rename_i s2 YL h2;simp at h;rw[<-h.1,NX ps _ _ _ h2,By h1]
   ·cases h
theorem W3 {Q:Program} {s s':S} {p:P} {x:D} (h:C1 Q s p=some (s',x)):s'.n=s.n:=by
 unfold C1 at h
 split at h
 ·split at h
  ·rename_i h1;simp at h;rw[<-h.1];exact NX _ _ _ _ h1
  ·cases h
 ·exact By h
theorem Bz {Q:Program} {s s':S} {t:TypeId} {p:P} {x:D} (h:mF Q s t p=some (s',x)):s'.n=s.n:=by
 obtain⟨y,h1,_⟩:=sV h
 exact W3 h1
theorem NY {Q:Program} {s s':S} {t:TypeId} {p q:P} (h:jU Q s t p=some (s',q)):s'.n=s.n:=by
 unfold jU at h
 split at h
 ·split at h
  ·split at h
   ·rename_i hf;simp at h;rw[<-h.1];exact Bz hf
   ·cases h
  ·simp at h;rw[<-h.1]
 ·split at h
  ·rw[D.force_eq] at h;simp at h;rw[<-h.1]
  ·simp at h;rw[<-h.1]
 ·simp at h;rw[<-h.1]
theorem zT {Q:Program}: ∀(ps:List P) (ts:List TypeId) (s s':S) (xs:List P),eo Q s ts ps=some (s',xs)->s'.n=s.n
 | [],ts,s,s',xs,h=>by simp[eo] at h;rw[<-h.1]
 |p::ps,ts,s,s',xs,h=>by
  simp only[eo] at h
  split at h
  ·cases h
  ·rename_i s1 x h1
   have e1:s1.n=s.n:=by
    unfold oi at h1
    split at h1
    ·split at h1
     ·rename_i hf;simp at h1;rw[<-h1.1];exact By hf
     ·cases h1
    ·split at h1
     ·rename_i hf;simp at h1;rw[<-h1.1];exact By hf
     ·cases h1
    ·exact NY h1
   split at h
   ·rename_i s2 YL h2;simp at h;rw[<-h.1,zT ps _ _ _ _ h2,e1]
   ·cases h
theorem NZ {Q:Program} {s s':S} {t:TypeId} {p q:P} (h:fX Q s t p q=some s'):s'.n=s.n:=by
 unfold fX at h
 split at h
 ·cases h
 ·split at h
  ·split at h
   ·rename_i h1
    split at h
    ·split at h
     ·simp at h;rw[<-h,fK,NW h1]
     ·cases h
    ·cases h
   ·cases h
  ·split at h
   ·rename_i h1
    split at h
    ·split at h
     ·split at h
      ·simp only[Option.some.injEq] at h;rw[<-h,fK,Bz h1]
      ·cases h
     ·cases h
    ·cases h
   ·cases h
  ·cases h
theorem Gv {Q:Program} {f:FuncId} (ps:List P) (s s':S) (xs:List P) (h:cG Q s f ps=some (s',xs)):s'.n=s.n:=by
 unfold cG at h
 split at h
 ·simp only[Option.some.injEq,Prod.mk.injEq] at h;rw[h.1]
 ·exact zT ps _ s s' xs h
theorem wI (Q:Program) (s:S) (dst:Option Nat) (t:TypeId) (ps:List P):Loc (fun s=>mE Q s dst t ps) s dst:=by
 unfold mE
 cases h:cb s (site dst*1000) ps (pq Q 20 t) with
 |none=>exact⟨none,fun m=>by simp only[k9,h];rfl⟩
 |some r=>
  cases h2:r.1.new (site dst) (.box t r.2) with
  |none=>exact⟨none,fun m=>by simp only[k9,h,Option.map_some,jl,h2];rfl⟩
  |some r2=>exact⟨some (r2.1.rg,.ref (site dst) r2.2 0),fun m=>by simp only[k9,h,Option.map_some,jl,h2];exact gH m (by rw[qu h2,wH _ _ _ _ _ _ h])⟩
theorem DM (Q:Program) (s:S) (dst:Option Nat) (t t2:TypeId) (p q:P):Loc (fun s=>iC Q s dst t t2 p q) s dst:=by
 unfold Loc iC
 cases h1:cE Q t with
 |none=>exact⟨none,fun m=>rfl⟩
 |some e=>
  simp only[]
  cases h2:Q.info? e with
  |none=>exact⟨none,fun m=>rfl⟩
  |some i=>
   cases h3:sz Q e with
   |none=>exact⟨none,fun m=>rfl⟩
   |some k=>
    cases k with
    |zero=>exact⟨none,fun m=>rfl⟩
    |succ k=>
     simp only[Bx]
     cases h4:ln Q s t2 (k+1) q with
     |none=>exact⟨none,fun m=>rfl⟩
     |some ys=>
      cases h5:dY Q e with
      |none=>exact⟨none,fun m=>rfl⟩
      |some z=>
       simp only[]
       cases h6:Nat.beq z.cells.length (k+1) with
       |false=>exact⟨none,fun m=>rfl⟩
       |true=>
        simp only[if_true]
        cases p with
        |sl n v len=>
         have e0: ∀m,(s.wt m).rg=s.rg:=fun _=>rfl
         simp only[e0]
         cases h7:lk s.rg n with
         |none=>exact⟨none,fun m=>rfl⟩
         |some en=>
          simp only[]
          cases h8:en.obj with
          |arr ty fz es=>
           cases fz with
           |true=>exact⟨none,fun m=>rfl⟩
           |false=>
            simp only[]
            split
            ·exact⟨some (_,_),fun m=>rfl⟩
            ·exact⟨none,fun m=>rfl⟩
          |_=>exact⟨none,fun m=>rfl⟩
        |d x=>
         cases x with
         |gu=>
          simp only[jl]
          split
          ·cases h7:s.new (site dst) (.arr e false ys) with
           |none=>exact⟨none,fun m=>rfl⟩
           |some r2=>exact⟨some (r2.1.rg,_),fun m=>gH m (qu h7)⟩
          ·exact⟨none,fun m=>rfl⟩
         |_=>exact⟨none,fun m=>rfl⟩
        |_=>exact⟨none,fun m=>rfl⟩
theorem Kw (Q:Program) (s:S) (dst:Option Nat) (t:TypeId) (p q:P):Loc (fun s=>rT Q s dst t p q) s dst:=by
 unfold Loc rT
 split
 ·rename_i e k1 l k2 c h1
  split
  ·rename_i i k z h2 h3 h4
   split
   ·simp only[jl]
    cases h7:s.new (site dst) (.arr e false (List.replicate l.toNat z)) with
    |none=>exact⟨none,fun m=>rfl⟩
    |some r2=>exact⟨some (r2.1.rg,_),fun m=>gH m (qu h7)⟩
   ·exact⟨none,fun m=>rfl⟩
  ·exact⟨none,fun m=>rfl⟩
 ·exact⟨none,fun m=>rfl⟩
theorem BA (Q:Program) (s:S) (dst:Option Nat) (t:TypeId):Loc (fun s=>jT Q s dst t) s dst:=by
 unfold Loc jT
 split
 ·rename_i kt e h1
  simp only[jl]
  cases h7:s.new (site dst) (.map kt (fun _=>none) 0 false) with
  |none=>exact⟨none,fun m=>rfl⟩
  |some r2=>exact⟨some (r2.1.rg,_),fun m=>gH m (qu h7)⟩
 ·exact⟨none,fun m=>rfl⟩
theorem tY (Q:Program) (s:S) (dst:Option Nat) (t:TypeId) (p k x:P):Loc (fun s=>iF Q s dst t p k x) s dst:=by
 unfold Loc iF
 split
 ·rename_i kt e n v kd h1
  simp only[vr]
  cases h2:mF Q s e x with
  |none=>exact⟨none,fun m=>rfl⟩
  |some y=>
   simp only[Option.map_some,ly]
   split
   ·split
    ·simp only[eF]
     exact⟨some (_,.bad),fun m=>gH m ((fK _ _ _).trans (Bz h2))⟩
    ·exact⟨none,fun m=>rfl⟩
   ·exact⟨none,fun m=>rfl⟩
 ·exact⟨none,fun m=>rfl⟩
theorem DN (Q:Program) (s:S) (dst:Option Nat) (t:TypeId) (p k:P):Loc (fun s=>iG Q s dst t p k) s dst:=by
 unfold Loc iG
 split
 ·rename_i kt e n v kd h1
  split
  ·simp only[ly]
   split
   ·rename_i yE get c h2
    split
    ·simp only[jl]
     cases h7:s.new (site dst) .dX with
     |none=>exact⟨none,fun m=>rfl⟩
     |some r2=>
      simp only[Option.map_some,eF]
      exact⟨some (_,_),fun m=>gH m ((fK _ _ _).trans (qu h7))⟩
    ·exact⟨none,fun m=>rfl⟩
   ·exact⟨none,fun m=>rfl⟩
  ·exact⟨none,fun m=>rfl⟩
 ·exact⟨none,fun m=>rfl⟩
theorem Gw (Q:Program) (s:S) (dst:Option Nat) (p st x:P):Loc (fun s=>oh Q s dst p st x) s dst:=by
 unfold Loc oh
 split
 ·simp only[Gu]
  cases h2:C1 Q s x with
  |none=>exact⟨none,fun m=>rfl⟩
  |some y=>
   simp only[Option.map_some,ly]
   split
   ·split
    ·simp only[eF]
     exact⟨some (_,.bad),fun m=>gH m ((fK _ _ _).trans (W3 h2))⟩
    ·exact⟨none,fun m=>rfl⟩
   ·exact⟨none,fun m=>rfl⟩
 ·exact⟨none,fun m=>rfl⟩
theorem Gx (Q:Program) (s:S) (dst:Option Nat) (t:TypeId) (p:P):Loc (fun s=>qR Q s dst t p) s dst:=by
 unfold Loc qR
 split
 ·rename_i kt vt n v h1
  simp only[ly]
  split
  ·rename_i yE get c fz h2
   split
   ·simp only[eF,jl]
    cases h7:(s.setObj n (.map kt get c true)).new (site dst) (.iter kt vt get none) with
    |none=>exact⟨none,fun m=>rfl⟩
    |some r2=>exact⟨some (r2.1.rg,_),fun m=>gH m ((qu h7).trans (fK _ _ _))⟩
   ·exact⟨none,fun m=>rfl⟩
  ·exact⟨none,fun m=>rfl⟩
 ·rename_i kt vt h1
  simp only[jl]
  cases h7:s.new (site dst) (.iter kt vt (fun _=>none) none) with
  |none=>exact⟨none,fun m=>rfl⟩
  |some r2=>exact⟨some (r2.1.rg,_),fun m=>gH m (qu h7)⟩
 ·exact⟨none,fun m=>rfl⟩
theorem tZ (Q:Program) (t:TypeId) (k:Nat) (m:List (Nat×P)): ∀(ps:List (Nat×P)) (s:S) (es:List D),cz Q t k (s.wt m) es ps=(cz Q t k s es ps).map fun x=>(x.1.wt m,x.2)
 | [],s,es=>rfl
 | (i,p)::r,s,es=>by
  simp only[cz,vr]
  cases h:mF Q s t p with
  |none=>rfl
  |some y=>
   simp only[Option.map_some]
   split
   ·exact tZ Q t k m r y.1 _
   ·rfl
theorem wJ {Q:Program} {t:TypeId} {k:Nat}: ∀(ps:List (Nat×P)) (s s':S) (es fh:List D),cz Q t k s es ps=some (s',fh)->s'.n=s.n
 | [],s,s',es,fh,h=>by simp[cz] at h;rw[h.1]
 | (i,p)::r,s,s',es,fh,h=>by
  simp only[cz] at h
  split at h
  ·rename_i s1 x h1
   split at h
   ·rw[wJ r s1 s' _ fh h,Bz h1]
   ·cases h
  ·cases h
theorem Gy (Q:Program) (s:S) (dst:Option Nat) (t:TypeId) (len:Nat) (parts:List (Nat×P)):Loc (fun s=>qQ Q s dst t len parts) s dst:=by
 unfold Loc qQ
 split
 ·rename_i e h1
  split
  ·rename_i i k z h2 h3 h4
   split
   ·simp only[tZ]
    cases h5:cz Q e (k+1) s (List.replicate len z) parts with
    |none=>exact⟨none,fun m=>rfl⟩
    |some r=>
     simp only[Option.map_some,jl]
     cases h7:r.1.new (site dst) (.arr e false r.2) with
     |none=>exact⟨none,fun m=>rfl⟩
     |some r2=>exact⟨some (r2.1.rg,_),fun m=>gH m (by rw[qu h7,wJ _ _ _ _ _ h5])⟩
   ·exact⟨none,fun m=>rfl⟩
  ·exact⟨none,fun m=>rfl⟩
 ·exact⟨none,fun m=>rfl⟩
theorem Gz (Q:Program) (s:S) (dst:Option Nat) (t:TypeId) (p:P):Loc (fun s=>mG Q s dst t p) s dst:=by
 unfold Loc mG
 split
 ·simp only[ly,eF]
  split
  ·split
   ·exact⟨some (_,_),fun m=>gH m (fK _ _ _)⟩
   ·exact⟨none,fun m=>rfl⟩
  ·exact⟨none,fun m=>rfl⟩
 ·exact⟨none,fun m=>rfl⟩
theorem Kx (Q:Program) (s:S) (dst:Option Nat) (t t2:TypeId) (p q:P):Loc (fun s=>rU Q s dst t t2 p q) s dst:=by
 unfold Loc rU
 split
 ·split
  ·simp only[Bx,ly,eF]
   split
   ·split
    ·exact⟨some (_,_),fun m=>gH m (fK _ _ _)⟩
    ·exact⟨none,fun m=>rfl⟩
   ·exact⟨none,fun m=>rfl⟩
  ·exact⟨none,fun m=>rfl⟩
 ·exact⟨none,fun m=>rfl⟩
structure Alike (s s2:S) (xs:List Operand):Prop where
 n:s2.n=s.n
 rg:s2.rg=s.rg
 ev: ∀x∈xs,s2.ev x=s.ev x
theorem Alike.wt {s s2:S} {xs:List Operand} (h:Alike s s2 xs):s2=s.wt s2.tm:=by
 cases s2 with
 |mk n tm rg=>
  have h1:=h.n
  have h2:=h.rg
  simp only at h1 h2
  subst h1 h2
  rfl
theorem Alike.eg {s s2:S} {xs:List Operand} (h:Alike s s2 xs) {x:Operand} (hx:x∈xs) (g:Option (Nat×Bool)):s2.eg g x=s.eg g x:=by
 unfold S.eg;rw[h.ev x hx]
theorem Alike.egs {s s2:S} {xs:List Operand} (h:Alike s s2 xs) {ys:List Operand} (hy: ∀y∈ys,y∈xs) (g:Option (Nat×Bool)):ys.map (s2.eg g)=ys.map (s.eg g):=
 List.map_congr_left fun y hyy=>h.eg (hy y hyy) g
theorem oH {f:S->Option S} {s s2:S} {xs:List Operand} {dst:Option Nat} (h:Alike s s2 xs) (hl:Loc f s dst): ∃c,f s=fin s dst c/\f s2=fin s2 dst c:=by
 obtain⟨c,hc⟩:=hl
 refine⟨c,?_,?_⟩
 ·exact hc s.tm
 ·have e:=h.wt
  rw[e]
  exact hc s2.tm
theorem wK {Q:Program} {s s2:S} {o:Oper} (h:Alike s s2 o.op.operands.toList) (g:Option (Nat×Bool)):pv Q s2 o g=pv Q s o g:=by
 have hs:=h.wt
 have mem: ∀{x:Operand},x∈o.op.operands->x∈o.op.operands.toList:=fun hx=>by simpa using hx
 unfold pv
 split
 ·rename_i x ho;rw[h.eg (by simp[ho,Op.operands])]
 ·rename_i x ho;rw[h.eg (by simp[ho,Op.operands])]
 ·rename_i c x y ho
  rw[h.eg (x:=c) (by simp[ho,Op.operands]),h.eg (x:=x) (by simp[ho,Op.operands]),h.eg (x:=y) (by simp[ho,Op.operands])]
 ·rename_i x ho;rw[h.eg (by simp[ho,Op.operands]),hs];rfl
 ·rename_i op t x y yt ho;rw[h.eg (x:=x) (by simp[ho,Op.operands]),h.eg (x:=y) (by simp[ho,Op.operands]),hs];rfl
 ·rename_i op t x ho;rw[h.eg (by simp[ho,Op.operands])]
 ·rename_i t1 t2 x ho;rw[h.eg (by simp[ho,Op.operands])]
 ·rename_i t x ho;rw[h.eg (by simp[ho,Op.operands]),hs];rfl
 ·rename_i t x f ho;rw[h.eg (by simp[ho,Op.operands]),hs];rfl
 ·rename_i t x i ho;rw[h.eg (x:=x) (by simp[ho,Op.operands]),h.eg (x:=i) (by simp[ho,Op.operands]),hs];rfl
 ·rename_i t x i ho;rw[h.eg (x:=x) (by simp[ho,Op.operands]),h.eg (x:=i) (by simp[ho,Op.operands])]
 ·rename_i t x f ho;rw[h.eg (by simp[ho,Op.operands])]
 ·rename_i x i ho;rw[h.eg (by simp[ho,Op.operands])]
 ·rename_i t x i ok ho;rw[h.eg (x:=x) (by simp[ho,Op.operands]),h.eg (x:=i) (by simp[ho,Op.operands]),hs];rfl
 ·rename_i x ho
  have e5: ∀p,oe s2 p=oe s p:=fun p=>by rw[hs];rfl
  rw[e5,h.eg (by simp[ho,Op.operands])]
 ·rename_i t x lo hi ho
  have e5: ∀p l h',lj Q s2 t p l h'=lj Q s t p l h':=fun p l h'=>by rw[hs];rfl
  rw[e5,h.eg (x:=x) (by simp[ho,Op.operands])]
  cases lo with
  |none=>cases hi with
   |none=>rfl
   |some u=>simp only[Option.map_some];rw[h.eg (x:=u) (by simp[ho,Op.operands])];rfl
  |some l=>cases hi with
   |none=>simp only[Option.map_some];rw[h.eg (x:=l) (by simp[ho,Op.operands])];rfl
   |some u=>simp only[Option.map_some];rw[h.eg (x:=l) (by simp[ho,Op.operands]),h.eg (x:=u) (by simp[ho,Op.operands])]
 ·rename_i t parts ho
  have e:parts.toList.map (fun x=>s2.eg g x.2)=parts.toList.map (fun x=>s.eg g x.2):=List.map_congr_left fun x hx=>h.eg (by
   simp only[ho,Op.operands]
   exact List.mem_map_of_mem (f:=fun x:Nat×Operand=>x.2) hx) g
  have e2:parts.toList.map (fun x=>(x.1,s2.eg g x.2))=parts.toList.map (fun x=>(x.1,s.eg g x.2)):=List.map_congr_left fun x hx=>by
   rw[h.eg (x:=x.2) (by
    simp only[ho,Op.operands]
    exact List.mem_map_of_mem (f:=fun x:Nat×Operand=>x.2) hx) g]
  rw[e,e2]
 ·rename_i f first cy ho
  have e:cy.toList.map (s2.eg g)=cy.toList.map (s.eg g):=h.egs (fun y hy=>by
   simp only[ho,Op.operands]
   simp at hy
   simp[hy]) g
  rw[e]
 ·rename_i c ho
  have hm: ∀y∈c.args.toList,y∈o.op.operands.toList:=fun y hy=>by
   simp only[ho,Op.operands,Call.operands]
   simp at hy
   simp[hy]
  split
  ·split
   ·rename_i x b8
    rw[h.eg (x:=x) (hm x (by rw[b8];simp))]
    have e5: ∀p,Dk s2 p=Dk s p:=fun p=>by rw[hs];rfl
    have e6: ∀p,Dl s2 p=Dl s p:=fun p=>by rw[hs];rfl
    rw[e5,e6]
   ·rfl
  ·rw[h.egs hm]
  ·rw[h.egs hm]
  ·rfl
 ·rfl
end Pi
