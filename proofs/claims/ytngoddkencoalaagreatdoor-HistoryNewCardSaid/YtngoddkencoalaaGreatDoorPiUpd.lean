/- The text PiUpd. -/
import Derived.Test.YtngoddkencoalaaGreatDoorPiKOk3
namespace Pi
open Go
def ni(G:Nat->Value)(n:Nat)(g:Value):Nat->Value:=λm=>if m=n then g else G m
theorem bb(G:Nat->Value)(n:Nat)(g:Value):ni G n g n=g:=by simp[ni]
theorem eT{G:Nat->Value}{n m:Nat}(g:Value)(h:m≠n):ni G n g m=G m:=by simp[ni,h]
theorem bW(G:Nat->Value)(n:Nat):ni G n (G n)=G:=by funext m;simp[ni];intro h;rw[h]
theorem mG.mono{F F':Nat->Prop}{w w':World}{cs:Array Value}{k:Nat}{es:List D}(hF: ∀b,F b->F' b)(hw: ∀b,F b->w'.heap[b]?=w.heap[b]?)(h:mG F w cs k es):mG F' w' cs k es:=
 λi x hx=>let ⟨h1,h2,h3⟩:=h i x hx;⟨h1,h2,λj c hc=>(h3 j c hc).mono hF hw⟩
theorem oB.mono{Q:Program}{F F':Nat->Prop}{w w':World}{G G':Nat->Value}{R R':List (Nat×En)}{n:Nat}{o:Obj}(h:oB Q F w G R n o)(hF: ∀b,F b->F' b)(hw: ∀b,F b->w'.heap[b]?=w.heap[b]?)(hn:Names G G' R R')
  (hG:G' n=G n) (hb: ∀b,bH (G n) o=some b->w'.heap[b]?=w.heap[b]?):oB Q F' w' G' R' n o:=by
 cases o with
 |gone=>trivial
 |box T ps=>obtain⟨b,cs,hg,hh,h1,h2,h3⟩:=h;exact⟨b,cs,hG.trans hg,(hb b (by simp[bH,hg,aR])).trans hh,h1,h2,λi p hp=>(h3 i p hp).mono hF hw hn⟩
 |arr ty fz es=>
  rcases h with⟨hg,he⟩| ⟨b,cap,cs,k,hg,hh,h1,h2,h3,h4,h5,h6,h7⟩
  ·exact .inl ⟨hG.trans hg,he⟩
  refine .inr ⟨b,cap,cs,k,hG.trans hg,?_,h1,h2,h3,h4,h5,λhf=>hF _ (h6 hf),h7.mono hF hw⟩;cases fz with
  |true=>exact(hw b (h6 rfl)).trans hh
  |false=>exact(hb b (by simp[bH,hg,aR])).trans hh
 |map kt get c fz=>
  obtain⟨b,es,clock,hg,hh,h1,h2⟩:=h;refine⟨b,es,clock,hG.trans hg,?_,h1.mono hF hw,λhf=>hF _ (h2 hf)⟩;cases fz with
  |true=>exact(hw b (h2 rfl)).trans hh
  |false=>exact(hb b (by simp[bH,hg,aR])).trans hh
 |ew=>trivial
 |j7 kt get c p kd=>obtain⟨b,es,clock,hg,hh,h1,i,e,h2,h3,h4⟩:=h;exact⟨b,es,clock,hG.trans hg,(hb b (by simp[bH,hg,aR])).trans hh,h1.mono hF hw,i,e,h2,h3.mono hF hw hn,h4⟩
 |iter kt vt left cur=>
  obtain⟨b,mo,since,seen,last,hg,hh,h1⟩:=h;refine⟨b,mo,since,seen,last,hG.trans hg,(hb b (by simp[bH,hg,aR])).trans hh,?_⟩;rcases h1 with⟨h1,h2⟩| ⟨m,es,h1,h2,h3,h4,h5,h6⟩
  ·exact .inl ⟨h1,h2⟩
  exact .inr ⟨m,es,h1,hF m h2,(hw m h2).trans h3,h4,h5.mono hF hw,λk v hc=>let ⟨e,a,b,c,d⟩:=h6 k v hc;⟨e,a,b,c,d.mono hF hw⟩⟩
section
variable{Q:Program}{T:Tg}{F:Nat->Prop}{G:Nat->Value}{w:World}{a:Act}{s:S}
def qT(G:Nat->Value)(R:List (Nat×En))(n:Nat)(e1:En)(g1:Value):Prop:=
 ∀e,lk R n=some e->e.aY<e1.aY\/(e.aY=e1.aY/\(e1.obj.live=true->e.obj.live=true/\g1=G n))
theorem gG{R:List (Nat×En)}{n:Nat}{e1:En}{g1:Value}(h:qT G R n e1 g1):Names G (ni G n g1) R (ins n e1 R):=by
 constructor
 ·intro m e he;by_cases hm:n=m
  ·subst hm;refine⟨e1,bC _ _ _,?_,?_⟩
   ·rcases h e he with h |h<;>omega
   intro hv hl;rcases h e he with h | ⟨_,h⟩
   ·omega
   exact(h hl).1
  exact⟨e,by rw[bU _ _ hm];exact he,zaj _,λ_ h=>h⟩
 intro m e e' he cK hv hl;by_cases hm:n=m
 ·subst hm;rw[bC] at cK;cases cK;rw[bb];rcases h e he with h | ⟨_,h⟩
  ·omega
  exact(h hl).2
 exact eT _ (zbD hm)
theorem aD.ni(h:aD Q T F G w a s){n:Nat}{e1:En}{g1:Value}{w':World}(fY:qT G s.rg n e1 g1)
  (eK: ∀b,b<w.heap.size-> ¬(∃e,lk s.rg n=some e/\bH (G n) e.obj=some b)->w'.heap[b]?=w.heap[b]?)
  (fJ:w.heap.size<=w'.heap.size) (Pq:w'.os=w.os) (Pr:w'.tape=w.tape) (bw:w'.output=w.output)
  (hblk: ∀b,bH g1 e1.obj=some b->w.heap.size<=b\/ ∃e,lk s.rg n=some e/\bH (G n) e.obj=some b)
  (ho:oB Q F w' (Pi.ni G n g1) (ins n e1 s.rg) n e1.obj)
  (V9: ∀i,e1.tag=some i->e1.obj.live=true->g1=T i) (hdr:w.drawn<=w'.drawn:=by exact zaj _):
  aD Q T F (Pi.ni G n g1) w' a {s with rg:=ins n e1 s.rg}/\Ext (Own G s.rg) (Own (Pi.ni G n g1) (ins n e1 s.rg)) F F w w':=by
 have hn:=gG fY;have hF: ∀b,F b->w'.heap[b]?=w.heap[b]?:=λb hb=>eK b (h.ji b hb) (λ⟨e,he,dj⟩=>h.my n e b he dj hb);have pc: ∀m e b,n≠m->lk s.rg m=some e->bH (G m) e.obj=some b->w'.heap[b]?=w.heap[b]?:=λm e b hm he hb=>eK b ((h.rg m e he).lt hb) (λ⟨e',cK,dj⟩=>hm (h.own n m e' e b cK he dj hb));have oM: ∀m e,lk (ins n e1 s.rg) m=some e->(m=n/\e=e1)\/(n≠m/\lk s.rg m=some e):=λm e he=>by
  by_cases hm:n=m
  ·subst hm;rw[bC] at he;cases he;exact .inl ⟨rfl,rfl⟩
  rw[bU _ _ hm] at he;exact .inr ⟨hm,he⟩
 have mK:Ext (Own G s.rg) (Own (Pi.ni G n g1) (ins n e1 s.rg)) F F w w':=by
  refine⟨λ_ h=>h,λ_ h=> .inl h,?_,?_,fJ,Pq,Pr,bw⟩
  ·rintro b ⟨m,e,he,hb⟩;rcases oM m e he with⟨rfl,rfl⟩| ⟨hm,he⟩
   ·rw[bb] at hb;rcases hblk b hb with h1 | ⟨e0,Kk,Co⟩
    ·exact .inr h1
    exact .inl ⟨_,e0,Kk,Co⟩
   rw[eT _ (zbD hm)] at hb;exact .inl ⟨m,e,he,hb⟩
  intro b hb b7;exact eK b hb (λ⟨e,he,dj⟩=>b7 ⟨n,e,he,dj⟩)
 refine⟨⟨h.rp.go mK,h.size,λt p hp=>(h.tm t p hp).mono (λ_ h=>h) hF hn,?_,?_,?_,?_,?_,λb hb=>⟨(h.z b hb).1,(hF b (h.z b hb).1).trans (h.z b hb).2⟩,zaI h.dr hdr,zaI h.sz fJ⟩,mK⟩
 ·intro m e he;rcases oM m e he with⟨rfl,rfl⟩| ⟨hm,he⟩
  ·exact ho
  exact(h.rg m e he).mono (λ_ h=>h) hF hn (eT _ (zbD hm)) (λb hb=>pc m e b hm he hb)
 ·intro m1 m2 e e' b he cK hb dj;rcases oM m1 e he with⟨rfl,rfl⟩| ⟨Mc,DY⟩<;>rcases oM m2 e' cK with⟨rfl,rfl⟩| ⟨EH,Vg⟩
  ·rfl
  ·rw[bb] at hb;rw[eT _ (zbD EH)] at dj;rcases hblk b hb with h1 | ⟨e0,Kk,Co⟩
   ·have:=(h.rg m2 e' Vg).lt dj;omega
   exact h.own _ _ _ _ b Kk Vg Co dj
  ·rw[bb] at dj;rw[eT _ (zbD Mc)] at hb;rcases hblk b dj with h1 | ⟨e0,Kk,Co⟩
   ·have:=(h.rg m1 e DY).lt hb;omega
   exact h.own _ _ _ _ b DY Kk hb Co
  rw[eT _ (zbD Mc)] at hb;rw[eT _ (zbD EH)] at dj;exact h.own _ _ _ _ b DY Vg hb dj
 ·intro m e b he hb zR;rcases oM m e he with⟨rfl,rfl⟩| ⟨hm,he⟩
  ·rw[bb] at hb;rcases hblk b hb with h1 | ⟨e0,Kk,Co⟩
   ·have:=h.ji b zR;omega
   exact h.my _ _ b Kk Co zR
  rw[eT _ (zbD hm)] at hb;exact h.my m e b he hb zR
 ·intro b hb;have:=h.ji b hb;omega
 intro m e i he hi hl;rcases oM m e he with⟨rfl,rfl⟩| ⟨hm,he⟩
 ·rw[bb];exact V9 i hi hl
 rw[eT _ (zbD hm)];exact h.tag m e i he hi hl
theorem cz(h:aD Q T F G w a s){dst:Option Nat}{p:P}{s':S}(hs:s.put dst p=some s'){v:Value}(hp:cx F w G s.rg a.tmps v p):
  aD Q T F G w (a.put dst v) s'/\s'.rg=s.rg:=by
 cases dst with
 |none=>simp[S.put] at hs;subst hs;exact⟨h,rfl⟩
 |some d=>
  simp only[S.put] at hs;split at hs
  next hd=>
   simp at hs;subst hs;have hd:d<s.n:=by simp[Nat.blt] at hd;omega
   have hds:d<a.tmps.size:=za4 hd h.size;refine⟨⟨h.rp,by simp[Act.put];exact h.size,λt q hq=> ?_,h.rg,h.own,h.my,h.ji,h.tag,h.z,h.dr,h.sz⟩,rfl⟩;simp only[Act.put];simp only at hq;by_cases ht:d=t
   ·subst ht;rw[bC] at hq;cases hq;have e:(a.tmps.setIfInBounds d v).getD d undef=v:=by simp[Array.getD,hds]
    rw[e];exact hp
   rw[bU _ _ ht] at hq;have e:(a.tmps.setIfInBounds d v).getD t undef=a.tmps.getD t undef:=by simp only[zaD];rw[zaY ht]
   rw[e];exact h.tm t q hq
  cases hs
theorem S.kV{n v:Nat}{o:Obj}{s':S}(h:s.new n o=some (s',v)):s'={s with rg:=ins n ⟨v,none,o⟩ s.rg}/\ ∀e,lk s.rg n=some e->e.aY<v:=by
 unfold S.new at h;split at h
 next hn=>simp at h;obtain⟨rfl,rfl⟩:=h;exact⟨rfl,λe he=>by rw[hn] at he;cases he⟩
 rename_i e he;split at h
 next hg=>simp at h;obtain⟨rfl,rfl⟩:=h;exact⟨rfl,λe' cK=>by rw[he] at cK;cases cK;omega⟩
 split at h
 ·simp at h;obtain⟨rfl,rfl⟩:=h;exact⟨rfl,λe' cK=>by rw[he] at cK;cases cK;omega⟩
 cases h
theorem mc(h:aD Q T F G w a s){n v:Nat}{o:Obj}{s':S}(hs:s.new n o=some (s',v)){g1:Value}{w':World}
  (eK: ∀b,b<w.heap.size->w'.heap[b]?=w.heap[b]?)
  (fJ:w.heap.size<=w'.heap.size) (Pq:w'.os=w.os) (Pr:w'.tape=w.tape) (bw:w'.output=w.output)
  (hblk: ∀b,bH g1 o=some b->w.heap.size<=b)
  (ho:oB Q F w' (Pi.ni G n g1) (ins n ⟨v,none,o⟩ s.rg) n o) (hdr:w.drawn<=w'.drawn:=by exact zaj _):
  aD Q T F (Pi.ni G n g1) w' a s'/\Ext (Own G s.rg) (Own (Pi.ni G n g1) s'.rg) F F w w'/\Names G (Pi.ni G n g1) s.rg s'.rg/\lk s'.rg n=some ⟨v,none,o⟩:=by
 obtain⟨rfl,xn⟩:=S.kV hs;have fY:qT G s.rg n ⟨v,none,o⟩ g1:=λe he=> .inl (xn e he);obtain⟨h1,h2⟩:=h.ni (e1:=⟨v,none,o⟩) fY (λb hb _=>eK b hb) fJ Pq Pr bw (λb hb=> .inl (hblk b hb)) ho (λi hi=>by cases hi) hdr;exact⟨h1,h2,gG fY,bC _ _ _⟩
end
end Pi
