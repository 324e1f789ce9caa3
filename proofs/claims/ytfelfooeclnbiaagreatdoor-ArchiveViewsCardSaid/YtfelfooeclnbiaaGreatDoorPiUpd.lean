/- The text PiUpd. -/
import Derived.Test.YtfelfooeclnbiaaGreatDoorPiKOk3
namespace Pi
open Go
def mh(G:Nat->Value)(n:Nat)(g:Value):Nat->Value:=λm=>if m=n then g else G m
theorem aV(G:Nat->Value)(n:Nat)(g:Value):mh G n g n=g:=by simp[mh]
theorem eR{G:Nat->Value}{n m:Nat}(g:Value)(h:m≠n):mh G n g m=G m:=by simp[mh,h]
theorem bx(G:Nat->Value)(n:Nat):mh G n (G n)=G:=by funext m;simp[mh];intro h;rw[h]
theorem lZ.mono{F F':Nat->Prop}{w w':World}{cs:Array Value}{k:Nat}{es:List D}(hF: ∀b,F b->F' b)(hw: ∀b,F b->w'.heap[b]?=w.heap[b]?)(h:lZ F w cs k es):lZ F' w' cs k es:=
 λi x hx=>let ⟨h1,h2,h3⟩:=h i x hx;⟨h1,h2,λj c hc=>(h3 j c hc).mono hF hw⟩
theorem oJ.mono{Q:Program}{F F':Nat->Prop}{w w':World}{G G':Nat->Value}{R R':List (Nat×En)}{n:Nat}{o:Obj}(h:oJ Q F w G R n o)(hF: ∀b,F b->F' b)(hw: ∀b,F b->w'.heap[b]?=w.heap[b]?)(hn:Names G G' R R')
  (hG:G' n=G n) (hb: ∀b,bm (G n) o=some b->w'.heap[b]?=w.heap[b]?):oJ Q F' w' G' R' n o:=by
 cases o with
 |gone=>trivial
 |box T ps=>obtain⟨b,cs,hg,hh,h1,h2,h3⟩:=h;exact⟨b,cs,hG.trans hg,(hb b (by simp[bm,hg,aI])).trans hh,h1,h2,λi p hp=>(h3 i p hp).mono hF hw hn⟩
 |arr ty fz es=>
  rcases h with⟨hg,he⟩| ⟨b,cap,cs,k,hg,hh,h1,h2,h3,h4,h5,h6,h7⟩
  ·exact .inl ⟨hG.trans hg,he⟩
  refine .inr ⟨b,cap,cs,k,hG.trans hg,?_,h1,h2,h3,h4,h5,λhf=>hF _ (h6 hf),h7.mono hF hw⟩;cases fz with
  |true=>exact(hw b (h6 rfl)).trans hh
  |false=>exact(hb b (by simp[bm,hg,aI])).trans hh
 |map kt get c fz=>
  obtain⟨b,es,clock,hg,hh,h1,h2⟩:=h;refine⟨b,es,clock,hG.trans hg,?_,h1.mono hF hw,λhf=>hF _ (h2 hf)⟩;cases fz with
  |true=>exact(hw b (h2 rfl)).trans hh
  |false=>exact(hb b (by simp[bm,hg,aI])).trans hh
 |je=>trivial
 |jV kt get c p kd=>obtain⟨b,es,clock,hg,hh,h1,i,e,h2,h3,h4⟩:=h;exact⟨b,es,clock,hG.trans hg,(hb b (by simp[bm,hg,aI])).trans hh,h1.mono hF hw,i,e,h2,h3.mono hF hw hn,h4⟩
 |iter kt vt left cur=>
  obtain⟨b,mo,since,seen,last,hg,hh,h1⟩:=h;refine⟨b,mo,since,seen,last,hG.trans hg,(hb b (by simp[bm,hg,aI])).trans hh,?_⟩;rcases h1 with⟨h1,h2⟩| ⟨m,es,h1,h2,h3,h4,h5,h6⟩
  ·exact .inl ⟨h1,h2⟩
  exact .inr ⟨m,es,h1,hF m h2,(hw m h2).trans h3,h4,h5.mono hF hw,λk v hc=>let ⟨e,a,b,c,d⟩:=h6 k v hc;⟨e,a,b,c,d.mono hF hw⟩⟩
section
variable{Q:Program}{T:Tg}{F:Nat->Prop}{G:Nat->Value}{w:World}{a:Act}{s:S}
def oo(G:Nat->Value)(R:List (Nat×En))(n:Nat)(e1:En)(g1:Value):Prop:=
 ∀e,lk R n=some e->e.aR<e1.aR\/(e.aR=e1.aR/\(e1.obj.live=true->e.obj.live=true/\g1=G n))
theorem fI{R:List (Nat×En)}{n:Nat}{e1:En}{g1:Value}(h:oo G R n e1 g1):Names G (mh G n g1) R (ins n e1 R):=by
 constructor
 ·intro m e he;by_cases hm:n=m
  ·subst hm;refine⟨e1,bp _ _ _,?_,?_⟩
   ·rcases h e he with h |h<;>omega
   intro hv hl;rcases h e he with h | ⟨_,h⟩
   ·omega
   exact(h hl).1
  exact⟨e,by rw[bT _ _ hm];exact he,zai _,λ_ h=>h⟩
 intro m e e' he cx hv hl;by_cases hm:n=m
 ·subst hm;rw[bp] at cx;cases cx;rw[aV];rcases h e he with h | ⟨_,h⟩
  ·omega
  exact(h hl).2
 exact eR _ (zbs hm)
theorem aB.mh(h:aB Q T F G w a s){n:Nat}{e1:En}{g1:Value}{w':World}(eS:oo G s.rg n e1 g1)
  (eF: ∀b,b<w.heap.size-> ¬(∃e,lk s.rg n=some e/\bm (G n) e.obj=some b)->w'.heap[b]?=w.heap[b]?)
  (fP:w.heap.size<=w'.heap.size) (Pw:w'.os=w.os) (Px:w'.tape=w.tape) (aW:w'.output=w.output)
  (hblk: ∀b,bm g1 e1.obj=some b->w.heap.size<=b\/ ∃e,lk s.rg n=some e/\bm (G n) e.obj=some b)
  (ho:oJ Q F w' (Pi.mh G n g1) (ins n e1 s.rg) n e1.obj)
  (V9: ∀i,e1.tag=some i->e1.obj.live=true->g1=T i) (hdr:w.drawn<=w'.drawn:=by exact zai _):
  aB Q T F (Pi.mh G n g1) w' a {s with rg:=ins n e1 s.rg}/\Ext (Own G s.rg) (Own (Pi.mh G n g1) (ins n e1 s.rg)) F F w w':=by
 have hn:=fI eS;have hF: ∀b,F b->w'.heap[b]?=w.heap[b]?:=λb hb=>eF b (h.ja b hb) (λ⟨e,he,cV⟩=>h.mg n e b he cV hb);have pn: ∀m e b,n≠m->lk s.rg m=some e->bm (G m) e.obj=some b->w'.heap[b]?=w.heap[b]?:=λm e b hm he hb=>eF b ((h.rg m e he).lt hb) (λ⟨e',cx,cV⟩=>hm (h.own n m e' e b cx he cV hb));have oU: ∀m e,lk (ins n e1 s.rg) m=some e->(m=n/\e=e1)\/(n≠m/\lk s.rg m=some e):=λm e he=>by
  by_cases hm:n=m
  ·subst hm;rw[bp] at he;cases he;exact .inl ⟨rfl,rfl⟩
  rw[bT _ _ hm] at he;exact .inr ⟨hm,he⟩
 have mD:Ext (Own G s.rg) (Own (Pi.mh G n g1) (ins n e1 s.rg)) F F w w':=by
  refine⟨λ_ h=>h,λ_ h=> .inl h,?_,?_,fP,Pw,Px,aW⟩
  ·rintro b ⟨m,e,he,hb⟩;rcases oU m e he with⟨rfl,rfl⟩| ⟨hm,he⟩
   ·rw[aV] at hb;rcases hblk b hb with h1 | ⟨e0,Kn,wC⟩
    ·exact .inr h1
    exact .inl ⟨_,e0,Kn,wC⟩
   rw[eR _ (zbs hm)] at hb;exact .inl ⟨m,e,he,hb⟩
  intro b hb bk;exact eF b hb (λ⟨e,he,cV⟩=>bk ⟨n,e,he,cV⟩)
 refine⟨⟨h.r0.go mD,h.size,λt p hp=>(h.tm t p hp).mono (λ_ h=>h) hF hn,?_,?_,?_,?_,?_,λb hb=>⟨(h.z b hb).1,(hF b (h.z b hb).1).trans (h.z b hb).2⟩,zaE h.dr hdr,zaE h.sz fP⟩,mD⟩
 ·intro m e he;rcases oU m e he with⟨rfl,rfl⟩| ⟨hm,he⟩
  ·exact ho
  exact(h.rg m e he).mono (λ_ h=>h) hF hn (eR _ (zbs hm)) (λb hb=>pn m e b hm he hb)
 ·intro m1 m2 e e' b he cx hb cV;rcases oU m1 e he with⟨rfl,rfl⟩| ⟨Mf,qK⟩<;>rcases oU m2 e' cx with⟨rfl,rfl⟩| ⟨Ch,Vt⟩
  ·rfl
  ·rw[aV] at hb;rw[eR _ (zbs Ch)] at cV;rcases hblk b hb with h1 | ⟨e0,Kn,wC⟩
   ·have:=(h.rg m2 e' Vt).lt cV;omega
   exact h.own _ _ _ _ b Kn Vt wC cV
  ·rw[aV] at cV;rw[eR _ (zbs Mf)] at hb;rcases hblk b cV with h1 | ⟨e0,Kn,wC⟩
   ·have:=(h.rg m1 e qK).lt hb;omega
   exact h.own _ _ _ _ b qK Kn hb wC
  rw[eR _ (zbs Mf)] at hb;rw[eR _ (zbs Ch)] at cV;exact h.own _ _ _ _ b qK Vt hb cV
 ·intro m e b he hb zK;rcases oU m e he with⟨rfl,rfl⟩| ⟨hm,he⟩
  ·rw[aV] at hb;rcases hblk b hb with h1 | ⟨e0,Kn,wC⟩
   ·have:=h.ja b zK;omega
   exact h.mg _ _ b Kn wC zK
  rw[eR _ (zbs hm)] at hb;exact h.mg m e b he hb zK
 ·intro b hb;have:=h.ja b hb;omega
 intro m e i he hi hl;rcases oU m e he with⟨rfl,rfl⟩| ⟨hm,he⟩
 ·rw[aV];exact V9 i hi hl
 rw[eR _ (zbs hm)];exact h.tag m e i he hi hl
theorem cr(h:aB Q T F G w a s){dst:Option Nat}{p:P}{s':S}(hs:s.put dst p=some s'){v:Value}(hp:cy F w G s.rg a.tmps v p):
  aB Q T F G w (a.put dst v) s'/\s'.rg=s.rg:=by
 cases dst with
 |none=>simp[S.put] at hs;subst hs;exact⟨h,rfl⟩
 |some d=>
  simp only[S.put] at hs;split at hs
  next hd=>
   simp at hs;subst hs;have hd:d<s.n:=by simp[Nat.blt] at hd;omega
   have Wa:d<a.tmps.size:=zaW hd h.size;refine⟨⟨h.r0,by simp[Act.put];exact h.size,λt q hq=> ?_,h.rg,h.own,h.mg,h.ja,h.tag,h.z,h.dr,h.sz⟩,rfl⟩;simp only[Act.put];simp only at hq;by_cases ht:d=t
   ·subst ht;rw[bp] at hq;cases hq;have e:(a.tmps.setIfInBounds d v).getD d undef=v:=by simp[Array.getD,Wa]
    rw[e];exact hp
   rw[bT _ _ ht] at hq;have e:(a.tmps.setIfInBounds d v).getD t undef=a.tmps.getD t undef:=by simp only[zaA];rw[zaV ht]
   rw[e];exact h.tm t q hq
  cases hs
theorem S.kR{n v:Nat}{o:Obj}{s':S}(h:s.new n o=some (s',v)):s'={s with rg:=ins n ⟨v,none,o⟩ s.rg}/\ ∀e,lk s.rg n=some e->e.aR<v:=by
 unfold S.new at h;split at h
 next hn=>simp at h;obtain⟨rfl,rfl⟩:=h;exact⟨rfl,λe he=>by rw[hn] at he;cases he⟩
 rename_i e he;split at h
 next hg=>simp at h;obtain⟨rfl,rfl⟩:=h;exact⟨rfl,λe' cx=>by rw[he] at cx;cases cx;omega⟩
 split at h
 ·simp at h;obtain⟨rfl,rfl⟩:=h;exact⟨rfl,λe' cx=>by rw[he] at cx;cases cx;omega⟩
 cases h
theorem l5(h:aB Q T F G w a s){n v:Nat}{o:Obj}{s':S}(hs:s.new n o=some (s',v)){g1:Value}{w':World}
  (eF: ∀b,b<w.heap.size->w'.heap[b]?=w.heap[b]?)
  (fP:w.heap.size<=w'.heap.size) (Pw:w'.os=w.os) (Px:w'.tape=w.tape) (aW:w'.output=w.output)
  (hblk: ∀b,bm g1 o=some b->w.heap.size<=b)
  (ho:oJ Q F w' (Pi.mh G n g1) (ins n ⟨v,none,o⟩ s.rg) n o) (hdr:w.drawn<=w'.drawn:=by exact zai _):
  aB Q T F (Pi.mh G n g1) w' a s'/\Ext (Own G s.rg) (Own (Pi.mh G n g1) s'.rg) F F w w'/\Names G (Pi.mh G n g1) s.rg s'.rg/\lk s'.rg n=some ⟨v,none,o⟩:=by
 obtain⟨rfl,xo⟩:=S.kR hs;have eS:oo G s.rg n ⟨v,none,o⟩ g1:=λe he=> .inl (xo e he);obtain⟨h1,h2⟩:=h.mh (e1:=⟨v,none,o⟩) eS (λb hb _=>eF b hb) fP Pw Px aW (λb hb=> .inl (hblk b hb)) ho (λi hi=>by cases hi) hdr;exact⟨h1,h2,fI eS,bp _ _ _⟩
end
end Pi
