/- The text PiUpd. -/
import Derived.Test.YtdgkdigdflkjhaaGreatDoorPiKOk3
namespace Pi
open Go
def od(G:Nat->Value) n g:=λm=>if m=n then g else G m
theorem bc G n g:od G n g n=g:=by simp[od]
theorem fa{G n m} g (h:m≠n):od G n g m=G m:=by simp[od,h]
theorem bV G n:od G n (G n)=G:=by funext m;simp[od];intro h;rw[h]
theorem n5.mono{F F' w w' cs k}{es}(hF: ∀b,F b->F' b)(hw: ∀b,F b->w'.heap[b]?=w.heap[b]?)(h:n5 F w cs k es):n5 F' w' cs k es:=
 λi x hx=>let ⟨h1,h2,h3⟩:=h i x hx;⟨h1,h2,λj c hc=>(h3 j c hc).mono hF hw⟩
theorem pZ.mono{Q F F' w w' G G'}{R R' n o}(h:pZ Q F w G R n o)(hF: ∀b,F b->F' b)(hw: ∀b,F b->w'.heap[b]?=w.heap[b]?)(hn:Names G G' R R')
  (hG:G' n=G n) (hb: ∀b,bB (G n) o=some b->w'.heap[b]?=w.heap[b]?):pZ Q F' w' G' R' n o:=by
 cases o with
 |gone=>trivial
 |box T ps=>obtain⟨b,cs,hg,hh,h1,h2,h3⟩:=h;exact⟨b,cs,hG.trans hg,(hb b (by simp[bB,hg,aO])).trans hh,h1,h2,λi p hp=>(h3 i p hp).mono hF hw hn⟩
 |arr ty fz es=>
  rcases h with⟨hg,he⟩| ⟨b,cap,cs,k,hg,hh,h1,h2,h3,h4,h5,h6,h7⟩
  ·exact .inl ⟨hG.trans hg,he⟩
  refine .inr ⟨b,cap,cs,k,hG.trans hg,?_,h1,h2,h3,h4,h5,λhf=>hF _ (h6 hf),h7.mono hF hw⟩;cases fz with
  |true=>exact(hw b (h6 rfl)).trans hh
  |false=>exact(hb b (by simp[bB,hg,aO])).trans hh
 |map kt get c fz=>
  obtain⟨b,es,clock,hg,hh,h1,h2⟩:=h;refine⟨b,es,clock,hG.trans hg,?_,h1.mono hF hw,λhf=>hF _ (h2 hf)⟩;cases fz with
  |true=>exact(hw b (h2 rfl)).trans hh
  |false=>exact(hb b (by simp[bB,hg,aO])).trans hh
 |eJ=>trivial
 |kM kt get c p kd=>obtain⟨b,es,clock,hg,hh,h1,i,e,h2,h3,h4⟩:=h;exact⟨b,es,clock,hG.trans hg,(hb b (by simp[bB,hg,aO])).trans hh,h1.mono hF hw,i,e,h2,h3.mono hF hw hn,h4⟩
 |iter kt vt left cur=>
  obtain⟨b,mo,since,seen,last,hg,hh,h1⟩:=h;refine⟨b,mo,since,seen,last,hG.trans hg,(hb b (by simp[bB,hg,aO])).trans hh,?_⟩;rcases h1 with⟨h1,h2⟩| ⟨m,es,h1,h2,h3,h4,h5,h6⟩
  ·exact .inl ⟨h1,h2⟩
  exact .inr ⟨m,es,h1,hF m h2,(hw m h2).trans h3,h4,h5.mono hF hw,λk v hc=>let ⟨e,a,b,c,d⟩:=h6 k v hc;⟨e,a,b,c,d.mono hF hw⟩⟩
section
variable{Q:Program}{T:Tg}{F:Nat->Prop}{G:Nat->Value}{w:World}{a:Act}{s:S}
def qF(G:Nat->Value)(R:List (Nat×En)) n (e1:En) g1:=
 ∀e,lk R n=some e->e.aV<e1.aV\/(e.aV=e1.aV/\(e1.obj.live=true->e.obj.live=true/\g1=G n))
theorem ib{R n e1 g1}(h:qF G R n e1 g1):Names G (od G n g1) R (ins n e1 R):=by
 constructor
 ·intro m e he;by_cases hm:n=m
  ·subst hm;refine⟨e1,bE _ _ _,?_,?_⟩
   ·rcases h e he with h |h<;>omega
   intro hv hl;rcases h e he with h | ⟨_,h⟩
   ·omega
   exact(h hl).1
  exact⟨e,by rw[cc _ _ hm];exact he,zal _,λ_ h=>h⟩
 intro m e e' he cR hv hl;by_cases hm:n=m
 ·subst hm;rw[bE] at cR;cases cR;rw[bc];rcases h e he with h | ⟨_,h⟩
  ·omega
  exact(h hl).2
 exact fa _ (zbx hm)
theorem aC.od(h:aC Q T F G w a s){n e1 g1 w'}(fV:qF G s.rg n e1 g1)
  (eU: ∀b,b<w.heap.size-> ¬(∃e,lk s.rg n=some e/\bB (G n) e.obj=some b)->w'.heap[b]?=w.heap[b]?)
  (gf:w.heap.size<=w'.heap.size) (T0:w'.os=w.os) (T1:w'.tape=w.tape) (bw:w'.output=w.output)
  (hblk: ∀b,bB g1 e1.obj=some b->w.heap.size<=b\/ ∃e,lk s.rg n=some e/\bB (G n) e.obj=some b)
  (ho:pZ Q F w' (Pi.od G n g1) (ins n e1 s.rg) n e1.obj)
  (qam: ∀i,e1.tag=some i->e1.obj.live=true->g1=T i) (hdr:w.drawn<=w'.drawn:=by exact zal _):
  aC Q T F (Pi.od G n g1) w' a {s with rg:=ins n e1 s.rg}/\Ext (Own G s.rg) (Own (Pi.od G n g1) (ins n e1 s.rg)) F F w w':=by
 have hn:=ib fV;have hF: ∀b,F b->w'.heap[b]?=w.heap[b]?:=λb hb=>eU b (h.jE b hb) (λ⟨e,he,dq⟩=>h.nA n e b he dq hb);have qG: ∀m e b,n≠m->lk s.rg m=some e->bB (G m) e.obj=some b->w'.heap[b]?=w.heap[b]?:=λm e b hm he hb=>eU b ((h.rg m e he).lt hb) (λ⟨e',cR,dq⟩=>hm (h.own n m e' e b cR he dq hb));have qk: ∀m e,lk (ins n e1 s.rg) m=some e->(m=n/\e=e1)\/(n≠m/\lk s.rg m=some e):=λm e he=>by
  by_cases hm:n=m
  ·subst hm;rw[bE] at he;cases he;exact .inl ⟨rfl,rfl⟩
  rw[cc _ _ hm] at he;exact .inr ⟨hm,he⟩
 have oe:Ext (Own G s.rg) (Own (Pi.od G n g1) (ins n e1 s.rg)) F F w w':=by
  refine⟨λ_ h=>h,λ_ h=> .inl h,?_,?_,gf,T0,T1,bw⟩
  ·rintro b ⟨m,e,he,hb⟩;rcases qk m e he with⟨rfl,rfl⟩| ⟨hm,he⟩
   ·rw[bc] at hb;rcases hblk b hb with h1 | ⟨e0,NQ,Cr⟩
    ·exact .inr h1
    exact .inl ⟨_,e0,NQ,Cr⟩
   rw[fa _ (zbx hm)] at hb;exact .inl ⟨m,e,he,hb⟩
  intro b hb bI;exact eU b hb (λ⟨e,he,dq⟩=>bI ⟨n,e,he,dq⟩)
 refine⟨⟨h.s7.go oe,h.size,λt p hp=>(h.tm t p hp).mono (λ_ h=>h) hF hn,?_,?_,?_,?_,?_,λb hb=>⟨(h.z b hb).1,(hF b (h.z b hb).1).trans (h.z b hb).2⟩,zaL h.dr hdr,zaL h.sz gf⟩,oe⟩
 ·intro m e he;rcases qk m e he with⟨rfl,rfl⟩| ⟨hm,he⟩
  ·exact ho
  exact(h.rg m e he).mono (λ_ h=>h) hF hn (fa _ (zbx hm)) (λb hb=>qG m e b hm he hb)
 ·intro m1 m2 e e' b he cR hb dq;rcases qk m1 e he with⟨rfl,rfl⟩| ⟨Qs,Hi⟩<;>rcases qk m2 e' cR with⟨rfl,rfl⟩| ⟨H6,he2⟩
  ·rfl
  ·rw[bc] at hb;rw[fa _ (zbx H6)] at dq;rcases hblk b hb with h1 | ⟨e0,NQ,Cr⟩
   ·have:=(h.rg m2 e' he2).lt dq;omega
   exact h.own _ _ _ _ b NQ he2 Cr dq
  ·rw[bc] at dq;rw[fa _ (zbx Qs)] at hb;rcases hblk b dq with h1 | ⟨e0,NQ,Cr⟩
   ·have:=(h.rg m1 e Hi).lt hb;omega
   exact h.own _ _ _ _ b Hi NQ hb Cr
  rw[fa _ (zbx Qs)] at hb;rw[fa _ (zbx H6)] at dq;exact h.own _ _ _ _ b Hi he2 hb dq
 ·intro m e b he hb Ct;rcases qk m e he with⟨rfl,rfl⟩| ⟨hm,he⟩
  ·rw[bc] at hb;rcases hblk b hb with h1 | ⟨e0,NQ,Cr⟩
   ·have:=h.jE b Ct;omega
   exact h.nA _ _ b NQ Cr Ct
  rw[fa _ (zbx hm)] at hb;exact h.nA m e b he hb Ct
 ·intro b hb;have:=h.jE b hb;omega
 intro m e i he hi hl;rcases qk m e he with⟨rfl,rfl⟩| ⟨hm,he⟩
 ·rw[bc];exact qam i hi hl
 rw[fa _ (zbx hm)];exact h.tag m e i he hi hl
theorem cy(h:aC Q T F G w a s){dst p s'}(hs:s.put dst p=some s'){v}(hp:cE F w G s.rg a.tmps v p):
  aC Q T F G w (a.put dst v) s'/\s'.rg=s.rg:=by
 cases dst with
 |none=>simp[S.put] at hs;subst hs;exact⟨h,rfl⟩
 |some d=>
  simp only[S.put] at hs;split at hs
  next hd=>
   simp at hs;subst hs;have hd:d<s.n:=by simp[Nat.blt] at hd;omega
   have hds:d<a.tmps.size:=zbf hd h.size;refine⟨⟨h.s7,by simp[Act.put];exact h.size,λt q hq=> ?_,h.rg,h.own,h.nA,h.jE,h.tag,h.z,h.dr,h.sz⟩,rfl⟩;simp only[Act.put];simp only at hq;by_cases ht:d=t
   ·subst ht;rw[bE] at hq;cases hq;have e:(a.tmps.setIfInBounds d v).getD d undef=v:=by simp[Array.getD,hds]
    rw[e];exact hp
   rw[cc _ _ ht] at hq;have e:(a.tmps.setIfInBounds d v).getD t undef=a.tmps.getD t undef:=by simp only[zaF];rw[zaX ht]
   rw[e];exact h.tm t q hq
  cases hs
theorem S.lP{n v o s'}(h:s.new n o=some (s',v)):s'={s with rg:=ins n ⟨v,none,o⟩ s.rg}/\ ∀e,lk s.rg n=some e->e.aV<v:=by
 unfold S.new at h;split at h
 next hn=>simp at h;obtain⟨rfl,rfl⟩:=h;exact⟨rfl,λe he=>by rw[hn] at he;cases he⟩
 rename_i e he;split at h
 next hg=>simp at h;obtain⟨rfl,rfl⟩:=h;exact⟨rfl,λe' cR=>by rw[he] at cR;cases cR;omega⟩
 split at h
 ·simp at h;obtain⟨rfl,rfl⟩:=h;exact⟨rfl,λe' cR=>by rw[he] at cR;cases cR;omega⟩
 cases h
theorem nE(h:aC Q T F G w a s){n v o s'}(hs:s.new n o=some (s',v)){g1 w'}
  (eU: ∀b,b<w.heap.size->w'.heap[b]?=w.heap[b]?)
  (gf:w.heap.size<=w'.heap.size) (T0:w'.os=w.os) (T1:w'.tape=w.tape) (bw:w'.output=w.output)
  (hblk: ∀b,bB g1 o=some b->w.heap.size<=b)
  (ho:pZ Q F w' (Pi.od G n g1) (ins n ⟨v,none,o⟩ s.rg) n o) (hdr:w.drawn<=w'.drawn:=by exact zal _):
  aC Q T F (Pi.od G n g1) w' a s'/\Ext (Own G s.rg) (Own (Pi.od G n g1) s'.rg) F F w w'/\Names G (Pi.od G n g1) s.rg s'.rg/\lk s'.rg n=some ⟨v,none,o⟩:=by
 obtain⟨rfl,zM⟩:=S.lP hs;have fV:qF G s.rg n ⟨v,none,o⟩ g1:=λe he=> .inl (zM e he);obtain⟨h1,h2⟩:=h.od (e1:=⟨v,none,o⟩) fV (λb hb _=>eU b hb) gf T0 T1 bw (λb hb=> .inl (hblk b hb)) ho (λi hi=>by cases hi) hdr;exact⟨h1,h2,ib fV,bE _ _ _⟩
end
end Pi
