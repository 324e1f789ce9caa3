/- The text PiUpd. -/
import Derived.Test.YtfelfooeclnbiaaPiKOk3
namespace Pi
open Go
def gk(G:Nat->Value)(n:Nat)(g:Value):Nat->Value:=λm=>if m=n then g else G m
theorem ax(G:Nat->Value)(n:Nat)(g:Value):gk G n g n=g:=by simp[gk]
theorem bQ{G:Nat->Value}{n m:Nat}(g:Value)(h:m≠n):gk G n g m=G m:=by simp[gk,h]
theorem aH(G:Nat->Value)(n:Nat):gk G n (G n)=G:=by funext m;simp[gk];intro h;rw[h]
theorem fj.mono{F F':Nat->Prop}{w w':World}{cs:Array Value}{k:Nat}{es:List D}(hF: ∀b,F b->F' b)(hw: ∀b,F b->w'.heap[b]?=w.heap[b]?)(h:fj F w cs k es):fj F' w' cs k es:=
 λi x hx=>let ⟨h1,h2,h3⟩:=h i x hx;⟨h1,h2,λj c hc=>(h3 j c hc).mono hF hw⟩
theorem gi.mono{Q:Program}{F F':Nat->Prop}{w w':World}{G G':Nat->Value}{R R':List (Nat×En)}{n:Nat}{o:Obj}(h:gi Q F w G R n o)(hF: ∀b,F b->F' b)(hw: ∀b,F b->w'.heap[b]?=w.heap[b]?)(hn:Names G G' R R')
  (hG:G' n=G n) (hb: ∀b,aD (G n) o=some b->w'.heap[b]?=w.heap[b]?):gi Q F' w' G' R' n o:=by
 cases o with
 |gone=>trivial
 |box T ps=>obtain⟨b,cs,hg,hh,h1,h2,h3⟩:=h;exact⟨b,cs,hG.trans hg,(hb b (by simp[aD,hg,au])).trans hh,h1,h2,λi p hp=>(h3 i p hp).mono hF hw hn⟩
 |arr ty fz es=>
  rcases h with⟨hg,he⟩| ⟨b,cap,cs,k,hg,hh,h1,h2,h3,h4,h5,h6,h7⟩
  ·exact .inl ⟨hG.trans hg,he⟩
  refine .inr ⟨b,cap,cs,k,hG.trans hg,?_,h1,h2,h3,h4,h5,λhf=>hF _ (h6 hf),h7.mono hF hw⟩;cases fz with
  |true=>exact(hw b (h6 rfl)).trans hh
  |false=>exact(hb b (by simp[aD,hg,au])).trans hh
 |map kt get c fz=>
  obtain⟨b,es,clock,hg,hh,h1,h2⟩:=h;refine⟨b,es,clock,hG.trans hg,?_,h1.mono hF hw,λhf=>hF _ (h2 hf)⟩;cases fz with
  |true=>exact(hw b (h2 rfl)).trans hh
  |false=>exact(hb b (by simp[aD,hg,au])).trans hh
 |iq=>trivial
 |dS kt get c p kd=>obtain⟨b,es,clock,hg,hh,h1,i,e,h2,h3,h4⟩:=h;exact⟨b,es,clock,hG.trans hg,(hb b (by simp[aD,hg,au])).trans hh,h1.mono hF hw,i,e,h2,h3.mono hF hw hn,h4⟩
 |cb kt ks=>obtain⟨b,es,clock,hg,hh,h1⟩:=h;exact⟨b,es,clock,hG.trans hg,(hb b (by simp[aD,hg,au])).trans hh,h1.mono hF hw hn⟩
 |iter kt vt left cur=>
  obtain⟨b,mo,since,seen,last,hg,hh,h1⟩:=h;refine⟨b,mo,since,seen,last,hG.trans hg,(hb b (by simp[aD,hg,au])).trans hh,?_⟩;rcases h1 with⟨h1,h2⟩| ⟨m,es,h1,h2,h3,h4,h5,h6⟩
  ·exact .inl ⟨h1,h2⟩
  exact .inr ⟨m,es,h1,hF m h2,(hw m h2).trans h3,h4,h5.mono hF hw,λk v hc=>let ⟨e,a,b,c,d⟩:=h6 k v hc;⟨e,a,b,c,d.mono hF hw⟩⟩
section
variable{Q:Program}{T:Tg}{F:Nat->Prop}{G:Nat->Value}{w:World}{a:Act}{s:S}
def fm(G:Nat->Value)(R:List (Nat×En))(n:Nat)(e1:En)(g1:Value):Prop:=
 ∀e,lk R n=some e->e.aw<e1.aw\/(e.aw=e1.aw/\(e1.obj.live=true->e.obj.live=true/\g1=G n))
theorem cd{R:List (Nat×En)}{n:Nat}{e1:En}{g1:Value}(h:fm G R n e1 g1):Names G (gk G n g1) R (ins n e1 R):=by
 constructor
 ·intro m e he;by_cases hm:n=m
  ·subst hm;refine⟨e1,aK _ _ _,?_,?_⟩
   ·rcases h e he with h |h<;>omega
   intro hv hl;rcases h e he with h | ⟨_,h⟩
   ·omega
   exact(h hl).1
  exact⟨e,by rw[aQ _ _ hm];exact he,zag _,λ_ h=>h⟩
 intro m e e' he aW hv hl;by_cases hm:n=m
 ·subst hm;rw[aK] at aW;cases aW;rw[ax];rcases h e he with h | ⟨_,h⟩
  ·omega
  exact(h hl).2
 exact bQ _ (zaP hm)
theorem ar.gk(h:ar Q T F G w a s){n:Nat}{e1:En}{g1:Value}{w':World}(cD:fm G s.rg n e1 g1)
  (bH: ∀b,b<w.heap.size-> ¬(∃e,lk s.rg n=some e/\aD (G n) e.obj=some b)->w'.heap[b]?=w.heap[b]?)
  (cn:w.heap.size<=w'.heap.size) (vf:w'.os=w.os) (vg:w'.tape=w.tape) (iR:w'.output=w.output)
  (hblk: ∀b,aD g1 e1.obj=some b->w.heap.size<=b\/ ∃e,lk s.rg n=some e/\aD (G n) e.obj=some b)
  (ho:gi Q F w' (Pi.gk G n g1) (ins n e1 s.rg) n e1.obj)
  (xd: ∀i,e1.tag=some i->e1.obj.live=true->g1=T i) (hdr:w.drawn<=w'.drawn:=by exact zag _):
  ar Q T F (Pi.gk G n g1) w' a {s with rg:=ins n e1 s.rg}/\Ext (Own G s.rg) (Own (Pi.gk G n g1) (ins n e1 s.rg)) F F w w':=by
 have hn:=cd cD;have hF: ∀b,F b->w'.heap[b]?=w.heap[b]?:=λb hb=>bH b (h.fL b hb) (λ⟨e,he,bM⟩=>h.hS n e b he bM hb);have jS: ∀m e b,n≠m->lk s.rg m=some e->aD (G m) e.obj=some b->w'.heap[b]?=w.heap[b]?:=λm e b hm he hb=>bH b ((h.rg m e he).lt hb) (λ⟨e',aW,bM⟩=>hm (h.own n m e' e b aW he bM hb));have gp: ∀m e,lk (ins n e1 s.rg) m=some e->(m=n/\e=e1)\/(n≠m/\lk s.rg m=some e):=λm e he=>by
  by_cases hm:n=m
  ·subst hm;rw[aK] at he;cases he;exact .inl ⟨rfl,rfl⟩
  rw[aQ _ _ hm] at he;exact .inr ⟨hm,he⟩
 have fo:Ext (Own G s.rg) (Own (Pi.gk G n g1) (ins n e1 s.rg)) F F w w':=by
  refine⟨λ_ h=>h,λ_ h=> .inl h,?_,?_,cn,vf,vg,iR⟩
  ·rintro b ⟨m,e,he,hb⟩;rcases gp m e he with⟨rfl,rfl⟩| ⟨hm,he⟩
   ·rw[ax] at hb;rcases hblk b hb with h1 | ⟨e0,s8,re⟩
    ·exact .inr h1
    exact .inl ⟨_,e0,s8,re⟩
   rw[bQ _ (zaP hm)] at hb;exact .inl ⟨m,e,he,hb⟩
  intro b hb dH;exact bH b hb (λ⟨e,he,bM⟩=>dH ⟨n,e,he,bM⟩)
 refine⟨⟨h.qX.go fo,h.size,λt p hp=>(h.tm t p hp).mono (λ_ h=>h) hF hn,?_,?_,?_,?_,?_,λb hb=>⟨(h.z b hb).1,(hF b (h.z b hb).1).trans (h.z b hb).2⟩,zaA h.dr hdr,zaA h.sz cn⟩,fo⟩
 ·intro m e he;rcases gp m e he with⟨rfl,rfl⟩| ⟨hm,he⟩
  ·exact ho
  exact(h.rg m e he).mono (λ_ h=>h) hF hn (bQ _ (zaP hm)) (λb hb=>jS m e b hm he hb)
 ·intro m1 m2 e e' b he aW hb bM;rcases gp m1 e he with⟨rfl,rfl⟩| ⟨s9,jJ⟩<;>rcases gp m2 e' aW with⟨rfl,rfl⟩| ⟨ta,wQ⟩
  ·rfl
  ·rw[ax] at hb;rw[bQ _ (zaP ta)] at bM;rcases hblk b hb with h1 | ⟨e0,s8,re⟩
   ·have:=(h.rg m2 e' wQ).lt bM;omega
   exact h.own _ _ _ _ b s8 wQ re bM
  ·rw[ax] at bM;rw[bQ _ (zaP s9)] at hb;rcases hblk b bM with h1 | ⟨e0,s8,re⟩
   ·have:=(h.rg m1 e jJ).lt hb;omega
   exact h.own _ _ _ _ b jJ s8 hb re
  rw[bQ _ (zaP s9)] at hb;rw[bQ _ (zaP ta)] at bM;exact h.own _ _ _ _ b jJ wQ hb bM
 ·intro m e b he hb mT;rcases gp m e he with⟨rfl,rfl⟩| ⟨hm,he⟩
  ·rw[ax] at hb;rcases hblk b hb with h1 | ⟨e0,s8,re⟩
   ·have:=h.fL b mT;omega
   exact h.hS _ _ b s8 re mT
  rw[bQ _ (zaP hm)] at hb;exact h.hS m e b he hb mT
 ·intro b hb;have:=h.fL b hb;omega
 intro m e i he hi hl;rcases gp m e he with⟨rfl,rfl⟩| ⟨hm,he⟩
 ·rw[ax];exact xd i hi hl
 rw[bQ _ (zaP hm)];exact h.tag m e i he hi hl
theorem a7(h:ar Q T F G w a s){dst:Option Nat}{p:P}{s':S}(hs:s.put dst p=some s'){v:Value}(hp:bj F w G s.rg a.tmps v p):
  ar Q T F G w (a.put dst v) s'/\s'.rg=s.rg:=by
 cases dst with
 |none=>simp[S.put] at hs;subst hs;exact⟨h,rfl⟩
 |some d=>
  simp only[S.put] at hs;split at hs
  next hd=>
   simp at hs;subst hs;have hd:d<s.n:=by simp[Nat.blt] at hd;omega
   have DF:d<a.tmps.size:=zaS hd h.size;refine⟨⟨h.qX,by simp[Act.put];exact h.size,λt q hq=> ?_,h.rg,h.own,h.hS,h.fL,h.tag,h.z,h.dr,h.sz⟩,rfl⟩;simp only[Act.put];simp only at hq;by_cases ht:d=t
   ·subst ht;rw[aK] at hq;cases hq;have e:(a.tmps.setIfInBounds d v).getD d undef=v:=by simp[Array.getD,DF]
    rw[e];exact hp
   rw[aQ _ _ ht] at hq;have e:(a.tmps.setIfInBounds d v).getD t undef=a.tmps.getD t undef:=by simp only[zak];rw[zav ht]
   rw[e];exact h.tm t q hq
  cases hs
theorem S.eD{n v:Nat}{o:Obj}{s':S}(h:s.new n o=some (s',v)):s'={s with rg:=ins n ⟨v,none,o⟩ s.rg}/\ ∀e,lk s.rg n=some e->e.aw<v:=by
 unfold S.new at h;split at h
 next hn=>simp at h;obtain⟨rfl,rfl⟩:=h;exact⟨rfl,λe he=>by rw[hn] at he;cases he⟩
 rename_i e he;split at h
 next hg=>simp at h;obtain⟨rfl,rfl⟩:=h;exact⟨rfl,λe' aW=>by rw[he] at aW;cases aW;omega⟩
 split at h
 ·simp at h;obtain⟨rfl,rfl⟩:=h;exact⟨rfl,λe' aW=>by rw[he] at aW;cases aW;omega⟩
 cases h
theorem eE(h:ar Q T F G w a s){n v:Nat}{o:Obj}{s':S}(hs:s.new n o=some (s',v)){g1:Value}{w':World}
  (bH: ∀b,b<w.heap.size->w'.heap[b]?=w.heap[b]?)
  (cn:w.heap.size<=w'.heap.size) (vf:w'.os=w.os) (vg:w'.tape=w.tape) (iR:w'.output=w.output)
  (hblk: ∀b,aD g1 o=some b->w.heap.size<=b)
  (ho:gi Q F w' (Pi.gk G n g1) (ins n ⟨v,none,o⟩ s.rg) n o) (hdr:w.drawn<=w'.drawn:=by exact zag _):
  ar Q T F (Pi.gk G n g1) w' a s'/\Ext (Own G s.rg) (Own (Pi.gk G n g1) s'.rg) F F w w'/\Names G (Pi.gk G n g1) s.rg s'.rg/\lk s'.rg n=some ⟨v,none,o⟩:=by
 obtain⟨rfl,lN⟩:=S.eD hs;have cD:fm G s.rg n ⟨v,none,o⟩ g1:=λe he=> .inl (lN e he);obtain⟨h1,h2⟩:=h.gk (e1:=⟨v,none,o⟩) cD (λb hb _=>bH b hb) cn vf vg iR (λb hb=> .inl (hblk b hb)) ho (λi hi=>by cases hi) hdr;exact⟨h1,h2,cd cD,aK _ _ _⟩
end
end Pi
