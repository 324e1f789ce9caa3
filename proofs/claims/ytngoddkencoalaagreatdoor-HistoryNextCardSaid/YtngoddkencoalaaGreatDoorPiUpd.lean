/- The text PiUpd. -/
import Derived.Test.YtngoddkencoalaaGreatDoorPiKOk3
namespace Pi
open Go
def mY (G:Nat->Value) (n:Nat) (g:Value):Nat->Value:=fun m=>if m=n then g else G m
theorem a8 (G:Nat->Value) (n:Nat) (g:Value):mY G n g n=g:=by simp[mY]
theorem eS {G:Nat->Value} {n m:Nat} (g:Value) (h:m≠n):mY G n g m=G m:=by simp[mY,h]
theorem bW (G:Nat->Value) (n:Nat):mY G n (G n)=G:=by funext m;simp[mY];intro h;rw[h]
theorem mC.mono {F F':Nat->Prop} {w w':World} {cs:Array Value} {k:Nat} {es:List D} (hF: ∀b,F b->F' b) (hw: ∀b,F b->w'.heap[b]?=w.heap[b]?) (h:mC F w cs k es):mC F' w' cs k es:=
 fun i x hx=>let ⟨h1,h2,h3⟩:=h i x hx;⟨h1,h2,fun j c hc=>(h3 j c hc).mono hF hw⟩
theorem ot.mono {Q:Program} {F F':Nat->Prop} {w w':World} {G G':Nat->Value} {R R':List (Nat×En)} {n:Nat} {o:Obj} (h:ot Q F w G R n o) (hF: ∀b,F b->F' b) (hw: ∀b,F b->w'.heap[b]?=w.heap[b]?) (hn:Names G G' R R')
  (hG:G' n=G n) (hb: ∀b,bF (G n) o=some b->w'.heap[b]?=w.heap[b]?):ot Q F' w' G' R' n o:=by
 cases o with
 |gone=>trivial
 |box T ps=>
  obtain⟨b,cs,hg,hh,h1,h2,h3⟩:=h
  exact⟨b,cs,hG.trans hg,(hb b (by simp[bF,hg,aQ])).trans hh,h1,h2,fun i p hp=>(h3 i p hp).mono hF hw hn⟩
 |arr ty fz es=>
  rcases h with⟨hg,he⟩| ⟨b,cap,cs,k,hg,hh,h1,h2,h3,h4,h5,h6,h7⟩
  ·exact .inl ⟨hG.trans hg,he⟩
  ·refine .inr ⟨b,cap,cs,k,hG.trans hg,?_,h1,h2,h3,h4,h5,fun hf=>hF _ (h6 hf),h7.mono hF hw⟩
   cases fz with
   |true=>exact(hw b (h6 rfl)).trans hh
   |false=>exact(hb b (by simp[bF,hg,aQ])).trans hh
 |map kt get c fz=>
  obtain⟨b,es,clock,hg,hh,h1,h2⟩:=h
  refine⟨b,es,clock,hG.trans hg,?_,h1.mono hF hw,fun hf=>hF _ (h2 hf)⟩
  cases fz with
  |true=>exact(hw b (h2 rfl)).trans hh
  |false=>exact(hb b (by simp[bF,hg,aQ])).trans hh
 |ew=>trivial
 |jZ kt get c p kd=>
  obtain⟨b,es,clock,hg,hh,h1,i,e,h2,h3,h4⟩:=h
  exact⟨b,es,clock,hG.trans hg,(hb b (by simp[bF,hg,aQ])).trans hh,h1.mono hF hw,i,e,h2,h3.mono hF hw hn,h4⟩
 |iter kt vt left cur=>
  obtain⟨b,mo,since,seen,last,hg,hh,h1⟩:=h
  refine⟨b,mo,since,seen,last,hG.trans hg,(hb b (by simp[bF,hg,aQ])).trans hh,?_⟩
  rcases h1 with⟨h1,h2⟩| ⟨m,es,h1,h2,h3,h4,h5,h6⟩
  ·exact .inl ⟨h1,h2⟩
  ·exact .inr ⟨m,es,h1,hF m h2,(hw m h2).trans h3,h4,h5.mono hF hw,fun k v hc=>let ⟨e,a,b,c,d⟩:=h6 k v hc;⟨e,a,b,c,d.mono hF hw⟩⟩
section
variable {Q:Program} {T:Tg} {F:Nat->Prop} {G:Nat->Value} {w:World} {a:Act} {s:S}
def qN (G:Nat->Value) (R:List (Nat×En)) (n:Nat) (e1:En) (g1:Value):Prop:=
 ∀e,lk R n=some e->e.aX<e1.aX\/(e.aX=e1.aX/\(e1.obj.live=true->e.obj.live=true/\g1=G n))
theorem gF {R:List (Nat×En)} {n:Nat} {e1:En} {g1:Value} (h:qN G R n e1 g1):Names G (mY G n g1) R (ins n e1 R):=by
 constructor
 ·intro m e he
  by_cases hm:n=m
  ·subst hm
   refine⟨e1,bA _ _ _,?_,?_⟩
   ·rcases h e he with h |h<;>omega
   ·intro hv hl
    rcases h e he with h | ⟨_,h⟩
    ·omega
    ·exact(h hl).1
  ·exact⟨e,by rw[bU _ _ hm];exact he,zaj _,fun _ h=>h⟩
 ·intro m e e' he cI hv hl
  by_cases hm:n=m
  ·subst hm
   rw[bA] at cI
   cases cI
   rw[a8]
   rcases h e he with h | ⟨_,h⟩
   ·omega
   ·exact(h hl).2
  ·exact eS _ (zbC hm)
theorem aC.mY (h:aC Q T F G w a s) {n:Nat} {e1:En} {g1:Value} {w':World} (fZ:qN G s.rg n e1 g1)
  (eJ: ∀b,b<w.heap.size-> ¬(∃e,lk s.rg n=some e/\bF (G n) e.obj=some b)->w'.heap[b]?=w.heap[b]?)
  (fK:w.heap.size<=w'.heap.size) (Pg:w'.os=w.os) (Ph:w'.tape=w.tape) (br:w'.output=w.output)
  (hblk: ∀b,bF g1 e1.obj=some b->w.heap.size<=b\/ ∃e,lk s.rg n=some e/\bF (G n) e.obj=some b)
  (ho:ot Q F w' (Pi.mY G n g1) (ins n e1 s.rg) n e1.obj)
  (VW: ∀i,e1.tag=some i->e1.obj.live=true->g1=T i) (hdr:w.drawn<=w'.drawn:=by exact zaj _):
  aC Q T F (Pi.mY G n g1) w' a {s with rg:=ins n e1 s.rg}/\Ext (Own G s.rg) (Own (Pi.mY G n g1) (ins n e1 s.rg)) F F w w':=by
 have hn:=gF fZ
 have hF: ∀b,F b->w'.heap[b]?=w.heap[b]?:=fun b hb=>eJ b (h.jm b hb) (fun⟨e,he,dj⟩=>h.mq n e b he dj hb)
 have pd: ∀m e b,n≠m->lk s.rg m=some e->bF (G m) e.obj=some b->w'.heap[b]?=w.heap[b]?:=fun m e b hm he hb=>
  eJ b ((h.rg m e he).lt hb) (fun⟨e',cI,dj⟩=>hm (h.own n m e' e b cI he dj hb))
 have oL: ∀m e,lk (ins n e1 s.rg) m=some e->(m=n/\e=e1)\/(n≠m/\lk s.rg m=some e):=fun m e he=>by
  by_cases hm:n=m
  ·subst hm;rw[bA] at he;cases he;exact .inl ⟨rfl,rfl⟩
  ·rw[bU _ _ hm] at he;exact .inr ⟨hm,he⟩
 have mG:Ext (Own G s.rg) (Own (Pi.mY G n g1) (ins n e1 s.rg)) F F w w':=by
  refine⟨fun _ h=>h,fun _ h=> .inl h,?_,?_,fK,Pg,Ph,br⟩
  ·rintro b ⟨m,e,he,hb⟩
   rcases oL m e he with⟨rfl,rfl⟩| ⟨hm,he⟩
   ·rw[a8] at hb
    rcases hblk b hb with h1 | ⟨e0,Kf,Cl⟩
    ·exact .inr h1
    ·exact .inl ⟨_,e0,Kf,Cl⟩
   ·rw[eS _ (zbC hm)] at hb
    exact .inl ⟨m,e,he,hb⟩
  ·intro b hb bZ
   exact eJ b hb (fun⟨e,he,dj⟩=>bZ ⟨n,e,he,dj⟩)
 refine⟨⟨h.rf.go mG,h.size,fun t p hp=>(h.tm t p hp).mono (fun _ h=>h) hF hn,?_,?_,?_,?_,?_,fun b hb=>⟨(h.z b hb).1,(hF b (h.z b hb).1).trans (h.z b hb).2⟩,zaI h.dr hdr,zaI h.sz fK⟩,mG⟩
 ·intro m e he
  rcases oL m e he with⟨rfl,rfl⟩| ⟨hm,he⟩
  ·exact ho
  ·exact(h.rg m e he).mono (fun _ h=>h) hF hn (eS _ (zbC hm)) (fun b hb=>pd m e b hm he hb)
 ·intro m1 m2 e e' b he cI hb dj
  rcases oL m1 e he with⟨rfl,rfl⟩| ⟨L2,DS⟩<;>rcases oL m2 e' cI with⟨rfl,rfl⟩| ⟨EC,U2⟩
  ·rfl
  ·rw[a8] at hb
   rw[eS _ (zbC EC)] at dj
   rcases hblk b hb with h1 | ⟨e0,Kf,Cl⟩
   ·have:=(h.rg m2 e' U2).lt dj;omega
   ·exact h.own _ _ _ _ b Kf U2 Cl dj
  ·rw[a8] at dj
   rw[eS _ (zbC L2)] at hb
   rcases hblk b dj with h1 | ⟨e0,Kf,Cl⟩
   ·have:=(h.rg m1 e DS).lt hb;omega
   ·exact h.own _ _ _ _ b DS Kf hb Cl
  ·rw[eS _ (zbC L2)] at hb
   rw[eS _ (zbC EC)] at dj
   exact h.own _ _ _ _ b DS U2 hb dj
 ·intro m e b he hb zI
  rcases oL m e he with⟨rfl,rfl⟩| ⟨hm,he⟩
  ·rw[a8] at hb
   rcases hblk b hb with h1 | ⟨e0,Kf,Cl⟩
   ·have:=h.jm b zI;omega
   ·exact h.mq _ _ b Kf Cl zI
  ·rw[eS _ (zbC hm)] at hb
   exact h.mq m e b he hb zI
 ·intro b hb
  have:=h.jm b hb
  omega
 ·intro m e i he hi hl
  rcases oL m e he with⟨rfl,rfl⟩| ⟨hm,he⟩
  ·rw[a8];exact VW i hi hl
  ·rw[eS _ (zbC hm)];exact h.tag m e i he hi hl
theorem cv (h:aC Q T F G w a s) {dst:Option Nat} {p:P} {s':S} (hs:s.put dst p=some s') {v:Value} (hp:ct F w G s.rg a.tmps v p):
  aC Q T F G w (a.put dst v) s'/\s'.rg=s.rg:=by
 cases dst with
 |none=>simp[S.put] at hs;subst hs;exact⟨h,rfl⟩
 |some d=>
  simp only[S.put] at hs
  split at hs
  ·rename_i hd
   simp at hs
   subst hs
   have hd:d<s.n:=by simp[Nat.blt] at hd;omega
   have hds:d<a.tmps.size:=za3 hd h.size
   refine⟨⟨h.rf,by simp[Act.put];exact h.size,fun t q hq=> ?_,h.rg,h.own,h.mq,h.jm,h.tag,h.z,h.dr,h.sz⟩,rfl⟩
   simp only[Act.put]
   simp only at hq
   by_cases ht:d=t
   ·subst ht
    rw[bA] at hq
    cases hq
    have e:(a.tmps.setIfInBounds d v).getD d undef=v:=by simp[Array.getD,hds]
    rw[e]
    exact hp
   ·rw[bU _ _ ht] at hq
    have e:(a.tmps.setIfInBounds d v).getD t undef=a.tmps.getD t undef:=by
     simp only[zaD]
     rw[zaX ht]
    rw[e]
    exact h.tm t q hq
  ·cases hs
theorem S.kV {n v:Nat} {o:Obj} {s':S} (h:s.new n o=some (s',v)):s'={s with rg:=ins n ⟨v,none,o⟩ s.rg}/\ ∀e,lk s.rg n=some e->e.aX<v:=by
 unfold S.new at h
 split at h
 ·rename_i hn
  simp at h
  obtain⟨rfl,rfl⟩:=h
  exact⟨rfl,fun e he=>by rw[hn] at he;cases he⟩
 ·rename_i e he
  split at h
  ·rename_i hg
   simp at h
   obtain⟨rfl,rfl⟩:=h
   exact⟨rfl,fun e' cI=>by rw[he] at cI;cases cI;omega⟩
  ·split at h
   ·simp at h
    obtain⟨rfl,rfl⟩:=h
    exact⟨rfl,fun e' cI=>by rw[he] at cI;cases cI;omega⟩
   ·cases h
theorem mb (h:aC Q T F G w a s) {n v:Nat} {o:Obj} {s':S} (hs:s.new n o=some (s',v)) {g1:Value} {w':World}
  (eJ: ∀b,b<w.heap.size->w'.heap[b]?=w.heap[b]?)
  (fK:w.heap.size<=w'.heap.size) (Pg:w'.os=w.os) (Ph:w'.tape=w.tape) (br:w'.output=w.output)
  (hblk: ∀b,bF g1 o=some b->w.heap.size<=b)
  (ho:ot Q F w' (Pi.mY G n g1) (ins n ⟨v,none,o⟩ s.rg) n o) (hdr:w.drawn<=w'.drawn:=by exact zaj _):
  aC Q T F (Pi.mY G n g1) w' a s'/\Ext (Own G s.rg) (Own (Pi.mY G n g1) s'.rg) F F w w'/\Names G (Pi.mY G n g1) s.rg s'.rg/\lk s'.rg n=some ⟨v,none,o⟩:=by
 obtain⟨rfl,xd⟩:=S.kV hs
 have fZ:qN G s.rg n ⟨v,none,o⟩ g1:=fun e he=> .inl (xd e he)
 obtain⟨h1,h2⟩:=h.mY (e1:=⟨v,none,o⟩) fZ (fun b hb _=>eJ b hb) fK Pg Ph br (fun b hb=> .inl (hblk b hb)) ho (fun i hi=>by cases hi) hdr
 exact⟨h1,h2,gF fZ,bA _ _ _⟩
end
end Pi
