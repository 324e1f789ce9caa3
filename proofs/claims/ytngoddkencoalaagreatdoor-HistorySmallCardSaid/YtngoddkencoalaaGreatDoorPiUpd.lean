/- The text PiUpd. -/
import Derived.Test.YtngoddkencoalaaGreatDoorPiKOk3
namespace Pi
open Go
def nL(G:Nat->Value)(n:Nat)(g:Value):Nat->Value:=λm=>if m=n then g else G m
theorem bf(G:Nat->Value)(n:Nat)(g:Value):nL G n g n=g:=by simp[nL]
theorem eW{G:Nat->Value}{n m:Nat}(g:Value)(h:m≠n):nL G n g m=G m:=by simp[nL,h]
theorem cb(G:Nat->Value)(n:Nat):nL G n (G n)=G:=by funext m;simp[nL];intro h;rw[h]
theorem ni.mono{F F':Nat->Prop}{w w':World}{cs:Array Value}{k:Nat}{es:List D}(hF: ∀b,F b->F' b)(hw: ∀b,F b->w'.heap[b]?=w.heap[b]?)(h:ni F w cs k es):ni F' w' cs k es:=
 λi x hx=>let ⟨h1,h2,h3⟩:=h i x hx;⟨h1,h2,λj c hc=>(h3 j c hc).mono hF hw⟩
theorem o6.mono{Q:Program}{F F':Nat->Prop}{w w':World}{G G':Nat->Value}{R R':List (Nat×En)}{n:Nat}{o:Obj}(h:o6 Q F w G R n o)(hF: ∀b,F b->F' b)(hw: ∀b,F b->w'.heap[b]?=w.heap[b]?)(hn:Names G G' R R')
  (hG:G' n=G n) (hb: ∀b,bL (G n) o=some b->w'.heap[b]?=w.heap[b]?):o6 Q F' w' G' R' n o:=by
 cases o with
 |gone=>trivial
 |box T ps=>obtain⟨b,cs,hg,hh,h1,h2,h3⟩:=h;exact⟨b,cs,hG.trans hg,(hb b (by simp[bL,hg,aR])).trans hh,h1,h2,λi p hp=>(h3 i p hp).mono hF hw hn⟩
 |arr ty fz es=>
  rcases h with⟨hg,he⟩| ⟨b,cap,cs,k,hg,hh,h1,h2,h3,h4,h5,h6,h7⟩
  ·exact .inl ⟨hG.trans hg,he⟩
  refine .inr ⟨b,cap,cs,k,hG.trans hg,?_,h1,h2,h3,h4,h5,λhf=>hF _ (h6 hf),h7.mono hF hw⟩;cases fz with
  |true=>exact(hw b (h6 rfl)).trans hh
  |false=>exact(hb b (by simp[bL,hg,aR])).trans hh
 |map kt get c fz=>
  obtain⟨b,es,clock,hg,hh,h1,h2⟩:=h;refine⟨b,es,clock,hG.trans hg,?_,h1.mono hF hw,λhf=>hF _ (h2 hf)⟩;cases fz with
  |true=>exact(hw b (h2 rfl)).trans hh
  |false=>exact(hb b (by simp[bL,hg,aR])).trans hh
 |eE=>trivial
 |kB kt get c p kd=>obtain⟨b,es,clock,hg,hh,h1,i,e,h2,h3,h4⟩:=h;exact⟨b,es,clock,hG.trans hg,(hb b (by simp[bL,hg,aR])).trans hh,h1.mono hF hw,i,e,h2,h3.mono hF hw hn,h4⟩
 |iter kt vt left cur=>
  obtain⟨b,mo,since,seen,last,hg,hh,h1⟩:=h;refine⟨b,mo,since,seen,last,hG.trans hg,(hb b (by simp[bL,hg,aR])).trans hh,?_⟩;rcases h1 with⟨h1,h2⟩| ⟨m,es,h1,h2,h3,h4,h5,h6⟩
  ·exact .inl ⟨h1,h2⟩
  exact .inr ⟨m,es,h1,hF m h2,(hw m h2).trans h3,h4,h5.mono hF hw,λk v hc=>let ⟨e,a,b,c,d⟩:=h6 k v hc;⟨e,a,b,c,d.mono hF hw⟩⟩
section
variable{Q:Program}{T:Tg}{F:Nat->Prop}{G:Nat->Value}{w:World}{a:Act}{s:S}
def rG(G:Nat->Value)(R:List (Nat×En))(n:Nat)(e1:En)(g1:Value):Prop:=
 ∀e,lk R n=some e->e.aZ<e1.aZ\/(e.aZ=e1.aZ/\(e1.obj.live=true->e.obj.live=true/\g1=G n))
theorem gN{R:List (Nat×En)}{n:Nat}{e1:En}{g1:Value}(h:rG G R n e1 g1):Names G (nL G n g1) R (ins n e1 R):=by
 constructor
 ·intro m e he;by_cases hm:n=m
  ·subst hm;refine⟨e1,bF _ _ _,?_,?_⟩
   ·rcases h e he with h |h<;>omega
   intro hv hl;rcases h e he with h | ⟨_,h⟩
   ·omega
   exact(h hl).1
  exact⟨e,by rw[b9 _ _ hm];exact he,zak _,λ_ h=>h⟩
 intro m e e' he cR hv hl;by_cases hm:n=m
 ·subst hm;rw[bF] at cR;cases cR;rw[bf];rcases h e he with h | ⟨_,h⟩
  ·omega
  exact(h hl).2
 exact eW _ (zbD hm)
theorem aG.nL(h:aG Q T F G w a s){n:Nat}{e1:En}{g1:Value}{w':World}(gl:rG G s.rg n e1 g1)
  (eP: ∀b,b<w.heap.size-> ¬(∃e,lk s.rg n=some e/\bL (G n) e.obj=some b)->w'.heap[b]?=w.heap[b]?)
  (fR:w.heap.size<=w'.heap.size) (Ql:w'.os=w.os) (Qm:w'.tape=w.tape) (bt:w'.output=w.output)
  (hblk: ∀b,bL g1 e1.obj=some b->w.heap.size<=b\/ ∃e,lk s.rg n=some e/\bL (G n) e.obj=some b)
  (ho:o6 Q F w' (Pi.nL G n g1) (ins n e1 s.rg) n e1.obj)
  (WT: ∀i,e1.tag=some i->e1.obj.live=true->g1=T i) (hdr:w.drawn<=w'.drawn:=by exact zak _):
  aG Q T F (Pi.nL G n g1) w' a {s with rg:=ins n e1 s.rg}/\Ext (Own G s.rg) (Own (Pi.nL G n g1) (ins n e1 s.rg)) F F w w':=by
 have hn:=gN gl;have hF: ∀b,F b->w'.heap[b]?=w.heap[b]?:=λb hb=>eP b (h.jz b hb) (λ⟨e,he,du⟩=>h.mU n e b he du hb);have pL: ∀m e b,n≠m->lk s.rg m=some e->bL (G m) e.obj=some b->w'.heap[b]?=w.heap[b]?:=λm e b hm he hb=>eP b ((h.rg m e he).lt hb) (λ⟨e',cR,du⟩=>hm (h.own n m e' e b cR he du hb));have pj: ∀m e,lk (ins n e1 s.rg) m=some e->(m=n/\e=e1)\/(n≠m/\lk s.rg m=some e):=λm e he=>by
  by_cases hm:n=m
  ·subst hm;rw[bF] at he;cases he;exact .inl ⟨rfl,rfl⟩
  rw[b9 _ _ hm] at he;exact .inr ⟨hm,he⟩
 have nr:Ext (Own G s.rg) (Own (Pi.nL G n g1) (ins n e1 s.rg)) F F w w':=by
  refine⟨λ_ h=>h,λ_ h=> .inl h,?_,?_,fR,Ql,Qm,bt⟩
  ·rintro b ⟨m,e,he,hb⟩;rcases pj m e he with⟨rfl,rfl⟩| ⟨hm,he⟩
   ·rw[bf] at hb;rcases hblk b hb with h1 | ⟨e0,KT,CZ⟩
    ·exact .inr h1
    exact .inl ⟨_,e0,KT,CZ⟩
   rw[eW _ (zbD hm)] at hb;exact .inl ⟨m,e,he,hb⟩
  intro b hb bX;exact eP b hb (λ⟨e,he,du⟩=>bX ⟨n,e,he,du⟩)
 refine⟨⟨h.r9.go nr,h.size,λt p hp=>(h.tm t p hp).mono (λ_ h=>h) hF hn,?_,?_,?_,?_,?_,λb hb=>⟨(h.z b hb).1,(hF b (h.z b hb).1).trans (h.z b hb).2⟩,zaG h.dr hdr,zaG h.sz fR⟩,nr⟩
 ·intro m e he;rcases pj m e he with⟨rfl,rfl⟩| ⟨hm,he⟩
  ·exact ho
  exact(h.rg m e he).mono (λ_ h=>h) hF hn (eW _ (zbD hm)) (λb hb=>pL m e b hm he hb)
 ·intro m1 m2 e e' b he cR hb du;rcases pj m1 e he with⟨rfl,rfl⟩| ⟨ML,Bx⟩<;>rcases pj m2 e' cR with⟨rfl,rfl⟩| ⟨Fl,VT⟩
  ·rfl
  ·rw[bf] at hb;rw[eW _ (zbD Fl)] at du;rcases hblk b hb with h1 | ⟨e0,KT,CZ⟩
   ·have:=(h.rg m2 e' VT).lt du;omega
   exact h.own _ _ _ _ b KT VT CZ du
  ·rw[bf] at du;rw[eW _ (zbD ML)] at hb;rcases hblk b du with h1 | ⟨e0,KT,CZ⟩
   ·have:=(h.rg m1 e Bx).lt hb;omega
   exact h.own _ _ _ _ b Bx KT hb CZ
  rw[eW _ (zbD ML)] at hb;rw[eW _ (zbD Fl)] at du;exact h.own _ _ _ _ b Bx VT hb du
 ·intro m e b he hb AB;rcases pj m e he with⟨rfl,rfl⟩| ⟨hm,he⟩
  ·rw[bf] at hb;rcases hblk b hb with h1 | ⟨e0,KT,CZ⟩
   ·have:=h.jz b AB;omega
   exact h.mU _ _ b KT CZ AB
  rw[eW _ (zbD hm)] at hb;exact h.mU m e b he hb AB
 ·intro b hb;have:=h.jz b hb;omega
 intro m e i he hi hl;rcases pj m e he with⟨rfl,rfl⟩| ⟨hm,he⟩
 ·rw[bf];exact WT i hi hl
 rw[eW _ (zbD hm)];exact h.tag m e i he hi hl
theorem cD(h:aG Q T F G w a s){dst:Option Nat}{p:P}{s':S}(hs:s.put dst p=some s'){v:Value}(hp:cB F w G s.rg a.tmps v p):
  aG Q T F G w (a.put dst v) s'/\s'.rg=s.rg:=by
 cases dst with
 |none=>simp[S.put] at hs;subst hs;exact⟨h,rfl⟩
 |some d=>
  simp only[S.put] at hs;split at hs
  next hd=>
   simp at hs;subst hs;have hd:d<s.n:=by simp[Nat.blt] at hd;omega
   have hds:d<a.tmps.size:=za4 hd h.size;refine⟨⟨h.r9,by simp[Act.put];exact h.size,λt q hq=> ?_,h.rg,h.own,h.mU,h.jz,h.tag,h.z,h.dr,h.sz⟩,rfl⟩;simp only[Act.put];simp only at hq;by_cases ht:d=t
   ·subst ht;rw[bF] at hq;cases hq;have e:(a.tmps.setIfInBounds d v).getD d undef=v:=by simp[Array.getD,hds]
    rw[e];exact hp
   rw[b9 _ _ ht] at hq;have e:(a.tmps.setIfInBounds d v).getD t undef=a.tmps.getD t undef:=by simp only[zaD];rw[zaZ ht]
   rw[e];exact h.tm t q hq
  cases hs
theorem S.lz{n v:Nat}{o:Obj}{s':S}(h:s.new n o=some (s',v)):s'={s with rg:=ins n ⟨v,none,o⟩ s.rg}/\ ∀e,lk s.rg n=some e->e.aZ<v:=by
 unfold S.new at h;split at h
 next hn=>simp at h;obtain⟨rfl,rfl⟩:=h;exact⟨rfl,λe he=>by rw[hn] at he;cases he⟩
 rename_i e he;split at h
 next hg=>simp at h;obtain⟨rfl,rfl⟩:=h;exact⟨rfl,λe' cR=>by rw[he] at cR;cases cR;omega⟩
 split at h
 ·simp at h;obtain⟨rfl,rfl⟩:=h;exact⟨rfl,λe' cR=>by rw[he] at cR;cases cR;omega⟩
 cases h
theorem mJ(h:aG Q T F G w a s){n v:Nat}{o:Obj}{s':S}(hs:s.new n o=some (s',v)){g1:Value}{w':World}
  (eP: ∀b,b<w.heap.size->w'.heap[b]?=w.heap[b]?)
  (fR:w.heap.size<=w'.heap.size) (Ql:w'.os=w.os) (Qm:w'.tape=w.tape) (bt:w'.output=w.output)
  (hblk: ∀b,bL g1 o=some b->w.heap.size<=b)
  (ho:o6 Q F w' (Pi.nL G n g1) (ins n ⟨v,none,o⟩ s.rg) n o) (hdr:w.drawn<=w'.drawn:=by exact zak _):
  aG Q T F (Pi.nL G n g1) w' a s'/\Ext (Own G s.rg) (Own (Pi.nL G n g1) s'.rg) F F w w'/\Names G (Pi.nL G n g1) s.rg s'.rg/\lk s'.rg n=some ⟨v,none,o⟩:=by
 obtain⟨rfl,x8⟩:=S.lz hs;have gl:rG G s.rg n ⟨v,none,o⟩ g1:=λe he=> .inl (x8 e he);obtain⟨h1,h2⟩:=h.nL (e1:=⟨v,none,o⟩) gl (λb hb _=>eP b hb) fR Ql Qm bt (λb hb=> .inl (hblk b hb)) ho (λi hi=>by cases hi) hdr;exact⟨h1,h2,gN gl,bF _ _ _⟩
end
end Pi
