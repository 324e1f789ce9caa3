/- The text PiUpd. -/
import Derived.Test.YtngoddkencoalaaGreatDoorPiKOk3
namespace Pi
open Go
def mn (G:Nat->Value) (n:Nat) (g:Value):Nat->Value:=fun m=>if m=n then g else G m
theorem aZ (G:Nat->Value) (n:Nat) (g:Value):mn G n g n=g:=by simp[mn]
theorem eI {G:Nat->Value} {n m:Nat} (g:Value) (h:m≠n):mn G n g m=G m:=by simp[mn,h]
theorem bU (G:Nat->Value) (n:Nat):mn G n (G n)=G:=by funext m;simp[mn];intro h;rw[h]
theorem lR.mono {F F':Nat->Prop} {w w':World} {cs:Array Value} {k:Nat} {es:List D} (hF: ∀b,F b->F' b) (hw: ∀b,F b->w'.heap[b]?=w.heap[b]?) (h:lR F w cs k es):lR F' w' cs k es:=
 fun i x hx=>let ⟨h1,h2,h3⟩:=h i x hx;⟨h1,h2,fun j c hc=>(h3 j c hc).mono hF hw⟩
theorem nR.mono {Q:Program} {F F':Nat->Prop} {w w':World} {G G':Nat->Value} {R R':List (Nat×En)} {n:Nat} {o:Obj} (h:nR Q F w G R n o) (hF: ∀b,F b->F' b) (hw: ∀b,F b->w'.heap[b]?=w.heap[b]?) (hn:Names G G' R R')
  (hG:G' n=G n) (hb: ∀b,bu (G n) o=some b->w'.heap[b]?=w.heap[b]?):nR Q F' w' G' R' n o:=by
 cases o with
 |gone=>trivial
 |box T ps=>
  obtain⟨b,cs,hg,hh,h1,h2,h3⟩:=h
  exact⟨b,cs,hG.trans hg,(hb b (by simp[bu,hg,aL])).trans hh,h1,h2,fun i p hp=>(h3 i p hp).mono hF hw hn⟩
 |arr ty fz es=>
  rcases h with⟨hg,he⟩| ⟨b,cap,cs,k,hg,hh,h1,h2,h3,h4,h5,h6,h7⟩
  ·exact .inl ⟨hG.trans hg,he⟩
  ·refine .inr ⟨b,cap,cs,k,hG.trans hg,?_,h1,h2,h3,h4,h5,fun hf=>hF _ (h6 hf),h7.mono hF hw⟩
   cases fz with
   |true=>exact(hw b (h6 rfl)).trans hh
   |false=>exact(hb b (by simp[bu,hg,aL])).trans hh
 |map kt get c fz=>
  obtain⟨b,es,clock,hg,hh,h1,h2⟩:=h
  refine⟨b,es,clock,hG.trans hg,?_,h1.mono hF hw,fun hf=>hF _ (h2 hf)⟩
  cases fz with
  |true=>exact(hw b (h2 rfl)).trans hh
  |false=>exact(hb b (by simp[bu,hg,aL])).trans hh
 |dX=>trivial
 |jA kt get c p kd=>
  obtain⟨b,es,clock,hg,hh,h1,i,e,h2,h3,h4⟩:=h
  exact⟨b,es,clock,hG.trans hg,(hb b (by simp[bu,hg,aL])).trans hh,h1.mono hF hw,i,e,h2,h3.mono hF hw hn,h4⟩
 |iter kt vt left cur=>
  obtain⟨b,mo,since,seen,last,hg,hh,h1⟩:=h
  refine⟨b,mo,since,seen,last,hG.trans hg,(hb b (by simp[bu,hg,aL])).trans hh,?_⟩
  rcases h1 with⟨h1,h2⟩| ⟨m,es,h1,h2,h3,h4,h5,h6⟩
  ·exact .inl ⟨h1,h2⟩
  ·exact .inr ⟨m,es,h1,hF m h2,(hw m h2).trans h3,h4,h5.mono hF hw,fun k v hc=>let ⟨e,a,b,c,d⟩:=h6 k v hc;⟨e,a,b,c,d.mono hF hw⟩⟩
section
variable {Q:Program} {T:Tg} {F:Nat->Prop} {G:Nat->Value} {w:World} {a:Act} {s:S}
def qo (G:Nat->Value) (R:List (Nat×En)) (n:Nat) (e1:En) (g1:Value):Prop:=
 ∀e,lk R n=some e->e.aU<e1.aU\/(e.aU=e1.aU/\(e1.obj.live=true->e.obj.live=true/\g1=G n))
theorem gi {R:List (Nat×En)} {n:Nat} {e1:En} {g1:Value} (h:qo G R n e1 g1):Names G (mn G n g1) R (ins n e1 R):=by
 constructor
 ·intro m e he
  by_cases hm:n=m
  ·subst hm
   refine⟨e1,bA _ _ _,?_,?_⟩
   ·rcases h e he with h |h<;>omega
   ·intro hv hl
    rcases h e he with h | ⟨_,h⟩
    ·omega
    ·exact(h hl).1
  ·exact⟨e,by rw[bG _ _ hm];exact he,Nat.le_refl _,fun _ h=>h⟩
 ·intro m e e' he cF hv hl
  by_cases hm:n=m
  ·subst hm
   rw[bA] at cF
   cases cF
   rw[aZ]
   rcases h e he with h | ⟨_,h⟩
   ·omega
   ·exact(h hl).2
  ·exact eI _ (Ne.symm hm)
theorem aB.mn (h:aB Q T F G w a s) {n:Nat} {e1:En} {g1:Value} {w':World} (gF:qo G s.rg n e1 g1)
  (eA: ∀b,b<w.heap.size-> ¬(∃e,lk s.rg n=some e/\bu (G n) e.obj=some b)->w'.heap[b]?=w.heap[b]?)
  (e8:w.heap.size<=w'.heap.size) (Nu:w'.os=w.os) (Nv:w'.tape=w.tape) (cp:w'.output=w.output)
  (hblk: ∀b,bu g1 e1.obj=some b->w.heap.size<=b\/ ∃e,lk s.rg n=some e/\bu (G n) e.obj=some b)
  (ho:nR Q F w' (Pi.mn G n g1) (ins n e1 s.rg) n e1.obj)
  (Tj: ∀i,e1.tag=some i->e1.obj.live=true->g1=T i) (hdr:w.drawn<=w'.drawn:=by exact Nat.le_refl _):
  aB Q T F (Pi.mn G n g1) w' a {s with rg:=ins n e1 s.rg}/\Ext (Own G s.rg) (Own (Pi.mn G n g1) (ins n e1 s.rg)) F F w w':=by
 have hn:=gi gF
 have hF: ∀b,F b->w'.heap[b]?=w.heap[b]?:=fun b hb=>eA b (h.iR b hb) (fun⟨e,he,cU⟩=>h.lr n e b he cU hb)
 have oB: ∀m e b,n≠m->lk s.rg m=some e->bu (G m) e.obj=some b->w'.heap[b]?=w.heap[b]?:=fun m e b hm he hb=>
  eA b ((h.rg m e he).lt hb) (fun⟨e',cF,cU⟩=>hm (h.own n m e' e b cF he cU hb))
 have n0: ∀m e,lk (ins n e1 s.rg) m=some e->(m=n/\e=e1)\/(n≠m/\lk s.rg m=some e):=fun m e he=>by
  by_cases hm:n=m
  ·subst hm;rw[bA] at he;cases he;exact .inl ⟨rfl,rfl⟩
  ·rw[bG _ _ hm] at he;exact .inr ⟨hm,he⟩
 have lU:Ext (Own G s.rg) (Own (Pi.mn G n g1) (ins n e1 s.rg)) F F w w':=by
  refine⟨fun _ h=>h,fun _ h=> .inl h,?_,?_,e8,Nu,Nv,cp⟩
  ·rintro b ⟨m,e,he,hb⟩
   rcases n0 m e he with⟨rfl,rfl⟩| ⟨hm,he⟩
   ·rw[aZ] at hb
    rcases hblk b hb with h1 | ⟨e0,Bo,Bp⟩
    ·exact .inr h1
    ·exact .inl ⟨_,e0,Bo,Bp⟩
   ·rw[eI _ (Ne.symm hm)] at hb
    exact .inl ⟨m,e,he,hb⟩
  ·intro b hb b9
   exact eA b hb (fun⟨e,he,cU⟩=>b9 ⟨n,e,he,cU⟩)
 refine⟨⟨h.qV.go lU,h.size,fun t p hp=>(h.tm t p hp).mono (fun _ h=>h) hF hn,?_,?_,?_,?_,?_,fun b hb=>⟨(h.z b hb).1,(hF b (h.z b hb).1).trans (h.z b hb).2⟩,Nat.le_trans h.dr hdr,Nat.le_trans h.sz e8⟩,lU⟩
 ·intro m e he
  rcases n0 m e he with⟨rfl,rfl⟩| ⟨hm,he⟩
  ·exact ho
  ·exact(h.rg m e he).mono (fun _ h=>h) hF hn (eI _ (Ne.symm hm)) (fun b hb=>oB m e b hm he hb)
 ·intro m1 m2 e e' b he cF hb cU
  rcases n0 m1 e he with⟨rfl,rfl⟩| ⟨Ke,yL⟩<;>rcases n0 m2 e' cF with⟨rfl,rfl⟩| ⟨Kf,Sj⟩
  ·rfl
  ·rw[aZ] at hb
   rw[eI _ (Ne.symm Kf)] at cU
   rcases hblk b hb with h1 | ⟨e0,Bo,Bp⟩
   ·have:=(h.rg m2 e' Sj).lt cU;omega
   ·exact h.own _ _ _ _ b Bo Sj Bp cU
  ·rw[aZ] at cU
   rw[eI _ (Ne.symm Ke)] at hb
   rcases hblk b cU with h1 | ⟨e0,Bo,Bp⟩
   ·have:=(h.rg m1 e yL).lt hb;omega
   ·exact h.own _ _ _ _ b yL Bo hb Bp
  ·rw[eI _ (Ne.symm Ke)] at hb
   rw[eI _ (Ne.symm Kf)] at cU
   exact h.own _ _ _ _ b yL Sj hb cU
 ·intro m e b he hb yM
  rcases n0 m e he with⟨rfl,rfl⟩| ⟨hm,he⟩
  ·rw[aZ] at hb
   rcases hblk b hb with h1 | ⟨e0,Bo,Bp⟩
   ·have:=h.iR b yM;omega
   ·exact h.lr _ _ b Bo Bp yM
  ·rw[eI _ (Ne.symm hm)] at hb
   exact h.lr m e b he hb yM
 ·intro b hb
  have:=h.iR b hb
  omega
 ·intro m e i he hi hl
  rcases n0 m e he with⟨rfl,rfl⟩| ⟨hm,he⟩
  ·rw[aZ];exact Tj i hi hl
  ·rw[eI _ (Ne.symm hm)];exact h.tag m e i he hi hl
theorem ct (h:aB Q T F G w a s) {dst:Option Nat} {p:P} {s':S} (hs:s.put dst p=some s') {v:Value} (hp:cr F w G s.rg a.tmps v p):
  aB Q T F G w (a.put dst v) s'/\s'.rg=s.rg:=by
 cases dst with
 |none=>simp[S.put] at hs;subst hs;exact⟨h,rfl⟩
 |some d=>
  simp only[S.put] at hs
  split at hs
  ·rename_i hd
   simp at hs
   subst hs
   have hd:d<s.n:=by simp[Nat.blt] at hd;omega
   have hds:d<a.tmps.size:=Nat.lt_of_lt_of_le hd h.size
   refine⟨⟨h.qV,by simp[Act.put];exact h.size,fun t q hq=> ?_,h.rg,h.own,h.lr,h.iR,h.tag,h.z,h.dr,h.sz⟩,rfl⟩
   simp only[Act.put]
   simp only at hq
   by_cases ht:d=t
   ·subst ht
    rw[bA] at hq
    cases hq
    have e:(a.tmps.setIfInBounds d v).getD d undef=v:=by simp[Array.getD,hds]
    rw[e]
    exact hp
   ·rw[bG _ _ ht] at hq
    have e:(a.tmps.setIfInBounds d v).getD t undef=a.tmps.getD t undef:=by
     simp only[Array.getD_eq_getD_getElem?]
     rw[Array.getElem?_setIfInBounds_ne ht]
    rw[e]
    exact h.tm t q hq
  ·cases hs
theorem S.ki {n v:Nat} {o:Obj} {s':S} (h:s.new n o=some (s',v)):s'={s with rg:=ins n ⟨v,none,o⟩ s.rg}/\ ∀e,lk s.rg n=some e->e.aU<v:=by
 unfold S.new at h
 split at h
 ·rename_i hn
  simp at h
  obtain⟨rfl,rfl⟩:=h
  exact⟨rfl,fun e he=>by rw[hn] at he;cases he⟩
 ·rename_i e he
  split at h
  ·rename_i hg
   simp at h
   obtain⟨rfl,rfl⟩:=h
   exact⟨rfl,fun e' cF=>by rw[he] at cF;cases cF;omega⟩
  ·split at h
   ·simp at h
    obtain⟨rfl,rfl⟩:=h
    exact⟨rfl,fun e' cF=>by rw[he] at cF;cases cF;omega⟩
   ·cases h
theorem lv (h:aB Q T F G w a s) {n v:Nat} {o:Obj} {s':S} (hs:s.new n o=some (s',v)) {g1:Value} {w':World}
  (eA: ∀b,b<w.heap.size->w'.heap[b]?=w.heap[b]?)
  (e8:w.heap.size<=w'.heap.size) (Nu:w'.os=w.os) (Nv:w'.tape=w.tape) (cp:w'.output=w.output)
  (hblk: ∀b,bu g1 o=some b->w.heap.size<=b)
  (ho:nR Q F w' (Pi.mn G n g1) (ins n ⟨v,none,o⟩ s.rg) n o) (hdr:w.drawn<=w'.drawn:=by exact Nat.le_refl _):
  aB Q T F (Pi.mn G n g1) w' a s'/\Ext (Own G s.rg) (Own (Pi.mn G n g1) s'.rg) F F w w'/\Names G (Pi.mn G n g1) s.rg s'.rg/\lk s'.rg n=some ⟨v,none,o⟩:=by
 obtain⟨rfl,wo⟩:=S.ki hs
 have gF:qo G s.rg n ⟨v,none,o⟩ g1:=fun e he=> .inl (wo e he)
 obtain⟨h1,h2⟩:=h.mn (e1:=⟨v,none,o⟩) gF (fun b hb _=>eA b hb) e8 Nu Nv cp (fun b hb=> .inl (hblk b hb)) ho (fun i hi=>by cases hi) hdr
 exact⟨h1,h2,gi gF,bA _ _ _⟩
end
end Pi
