/- The text PiUpd. -/
import Derived.Test.YtpiohccneeblhaaPiKOk3
namespace Pi
open Go
def iH(G:Nat->Value)(n:Nat)(g:Value):Nat->Value:=λm=>if m=n then g else G m
theorem aC(G:Nat->Value)(n:Nat)(g:Value):iH G n g n=g:=by simp[iH]
theorem da{G:Nat->Value}{n m:Nat}(g:Value)(h:m≠n):iH G n g m=G m:=by simp[iH,h]
theorem aK(G:Nat->Value)(n:Nat):iH G n (G n)=G:=by funext m;simp[iH];intro h;rw[h]
theorem fC.mono{F F':Nat->Prop}{w w':World}{cs:Array Value}{k:Nat}{es:List D}(hF: ∀b,F b->F' b)(hw: ∀b,F b->w'.heap[b]?=w.heap[b]?)(h:fC F w cs k es):fC F' w' cs k es:=
 λi x hx=>let ⟨h1,h2,h3⟩:=h i x hx;⟨h1,h2,λj c hc=>(h3 j c hc).mono hF hw⟩
theorem eO.mono{Q:Program}{F F':Nat->Prop}{w w':World}{G G':Nat->Value}{R R':List (Nat×En)}{n:Nat}{o:Obj}(h:eO Q F w G R n o)(hF: ∀b,F b->F' b)(hw: ∀b,F b->w'.heap[b]?=w.heap[b]?)(hn:Names G G' R R')
  (hG:G' n=G n) (hb: ∀b,ay (G n) o b->w'.heap[b]?=w.heap[b]?):eO Q F' w' G' R' n o:=by
 cases o with
 |gone=>trivial
 |box T ps=>obtain⟨b,cs,hg,hh,h1,h2,h3⟩:=h;exact⟨b,cs,hG.trans hg,(hb b (by simp[ay,hg,aj])).trans hh,h1,h2,λi p hp=>(h3 i p hp).mono hF hw hn⟩
 |arr ty fz es=>
  rcases h with⟨hg,he⟩| ⟨b,cap,cs,k,hg,hh,h1,h2,h3,h4,h5,h6,h7⟩
  ·exact .inl ⟨hG.trans hg,he⟩
  refine .inr ⟨b,cap,cs,k,hG.trans hg,?_,h1,h2,h3,h4,h5,λhf=>hF _ (h6 hf),h7.mono hF hw⟩;cases fz with
  |true=>exact(hw b (h6 rfl)).trans hh
  |false=>exact(hb b (by simp[ay,hg,aj])).trans hh
 |map kt get c fz=>
  obtain⟨b,es,clock,hg,hh,h1,h2⟩:=h;refine⟨b,es,clock,hG.trans hg,?_,h1.mono hF hw,λhf=>hF _ (h2 hf)⟩;cases fz with
  |true=>exact(hw b (h2 rfl)).trans hh
  |false=>exact(hb b (by simp[ay,hg,aj])).trans hh
 |fy=>trivial
 |bC ty es hd=>
  rcases h with⟨hg,he⟩| ⟨b,cap,cs,k,hg,hh,h1,h2,h3,h4,h5,h6⟩
  ·exact .inl ⟨hG.trans hg,he⟩
  exact .inr ⟨b,cap,cs,k,hG.trans hg,(hb b (by simp[ay,hg,aj])).trans hh,h1,h2,h3,h4,h5,h6.mono hF hw hn⟩
 |deep x p=>
  obtain⟨v,bs,hg,h0,h5⟩:=h;have hb: ∀b∈bs,w'.heap[b]?=w.heap[b]?:=λb h1=>hb b (by show b∈rj (G n);rw[hg,dM];exact h1);refine⟨v,bs,hG.trans hg,λb h1=> ?_,λOm h2=> ?_⟩
  ·have h3:=hb b h1;rw[zba (h0 b h1)] at h3;exact(zap.1 h3).1
  exact h5 Om λb h3=>h3.elim (λh3=>(h2 b (.inl h3)).trans (hb b h3)) λh3=>(h2 b (.inr (hF b h3))).trans (hw b h3)
 |fZ kt get c p kd=>obtain⟨b,es,clock,hg,hh,h1,i,e,h2,h3,h4⟩:=h;exact⟨b,es,clock,hG.trans hg,(hb b (by simp[ay,hg,aj])).trans hh,h1.mono hF hw,i,e,h2,h3.mono hF hw hn,h4⟩
 |bS kt vals c hand=>obtain⟨b,es,clock,hg,hh,h1⟩:=h;exact⟨b,es,clock,hG.trans hg,(hb b (by simp[ay,hg,aj])).trans hh,h1.mono hF hw hn⟩
 |iter kt vt left cur=>
  obtain⟨b,mo,since,seen,last,hg,hh,h1⟩:=h;refine⟨b,mo,since,seen,last,hG.trans hg,(hb b (by simp[ay,hg,aj])).trans hh,?_⟩;rcases h1 with⟨h1,h2⟩| ⟨m,es,h1,h2,h3,h4,h5,h6⟩
  ·exact .inl ⟨h1,h2⟩
  exact .inr ⟨m,es,h1,hF m h2,(hw m h2).trans h3,h4,h5.mono hF hw,λk v hc=>let ⟨e,a,b,c,d⟩:=h6 k v hc;⟨e,a,b,c,d.mono hF hw⟩⟩
section
variable{Q:Program}{T:Tg}{F:Nat->Prop}{G:Nat->Value}{w:World}{a:Act}{s:S}
def jJ(G:Nat->Value)(R:List (Nat×En))(n:Nat)(e1:En)(g1:Value):Prop:=
 ∀e,lk R n=some e->e.az<e1.az\/(e.az=e1.az/\(e1.obj.live=true->e.obj.live=true/\g1=G n))
theorem cI{R:List (Nat×En)}{n:Nat}{e1:En}{g1:Value}(h:jJ G R n e1 g1):Names G (iH G n g1) R (ins n e1 R):=by
 constructor
 ·intro m e he;by_cases hm:n=m
  ·subst hm;refine⟨e1,aH _ _ _,?_,?_⟩
   ·rcases h e he with h |h<;>omega
   intro hv hl;rcases h e he with h | ⟨_,h⟩
   ·omega
   exact(h hl).1
  exact⟨e,by rw[aV _ _ hm];exact he,zae _,λ_ h=>h⟩
 intro m e e' he bb hv hl;by_cases hm:n=m
 ·subst hm;rw[aH] at bb;cases bb;rw[aC];rcases h e he with h | ⟨_,h⟩
  ·omega
  exact .inl (h hl).2
 exact .inl (da _ (za5 hm))
theorem aq.iH(h:aq Q T F G w a s){n:Nat}{e1:En}{g1:Value}{w':World}(bX:jJ G s.rg n e1 g1)
  (bY: ∀b,b<w.heap.size-> ¬(∃e,lk s.rg n=some e/\ay (G n) e.obj b)->w'.heap[b]?=w.heap[b]?)
  (cJ:w.heap.size<=w'.heap.size) (EO:w'.os=w.os) (Cp:w'.tape=w.tape) (iG:w'.output=w.output)
  (lS: ∀b,ay g1 e1.obj b->w.heap.size<=b\/ ∃e,lk s.rg n=some e/\ay (G n) e.obj b)
  (ho:eO Q F w' (Pi.iH G n g1) (ins n e1 s.rg) n e1.obj)
  (Ha: ∀i,e1.tag=some i->e1.obj.live=true->ew g1 (T i)) (hdr:w.drawn<=w'.drawn:=by exact zae _):
  aq Q T F (Pi.iH G n g1) w' a {s with rg:=ins n e1 s.rg}/\Ext (Own G s.rg) (Own (Pi.iH G n g1) (ins n e1 s.rg)) F F w w':=by
 have hn:=cI bX;have hF: ∀b,F b->w'.heap[b]?=w.heap[b]?:=λb hb=>bY b (h.fw b hb) (λ⟨e,he,cb⟩=>h.gG n e b he cb hb);have kx: ∀m e b,n≠m->lk s.rg m=some e->ay (G m) e.obj b->w'.heap[b]?=w.heap[b]?:=λm e b hm he hb=>bY b ((h.rg m e he).lt hb) (λ⟨e',bb,cb⟩=>hm (h.own n m e' e b bb he cb hb));have jZ: ∀m e,lk (ins n e1 s.rg) m=some e->(m=n/\e=e1)\/(n≠m/\lk s.rg m=some e):=λm e he=>by
  by_cases hm:n=m
  ·subst hm;rw[aH] at he;cases he;exact .inl ⟨rfl,rfl⟩
  rw[aV _ _ hm] at he;exact .inr ⟨hm,he⟩
 have iS:Ext (Own G s.rg) (Own (Pi.iH G n g1) (ins n e1 s.rg)) F F w w':=by
  refine⟨λ_ h=>h,λ_ h=> .inl h,?_,?_,cJ,EO,Cp,iG⟩
  ·rintro b ⟨m,e,he,hb⟩;rcases jZ m e he with⟨rfl,rfl⟩| ⟨hm,he⟩
   ·rw[aC] at hb;rcases lS b hb with h1 | ⟨e0,EP,tO⟩
    ·exact .inr h1
    exact .inl ⟨_,e0,EP,tO⟩
   rw[da _ (za5 hm)] at hb;exact .inl ⟨m,e,he,hb⟩
  intro b hb bg;exact bY b hb (λ⟨e,he,cb⟩=>bg ⟨n,e,he,cb⟩)
 refine⟨⟨h.mf.go iS,h.size,λt p hp=>(h.tm t p hp).mono (λ_ h=>h) hF hn,?_,?_,?_,?_,?_,λb hb=>⟨(h.z b hb).1,(hF b (h.z b hb).1).trans (h.z b hb).2⟩,zaN h.dr hdr,zaN h.sz cJ⟩,iS⟩
 ·intro m e he;rcases jZ m e he with⟨rfl,rfl⟩| ⟨hm,he⟩
  ·exact ho
  exact(h.rg m e he).mono (λ_ h=>h) hF hn (da _ (za5 hm)) (λb hb=>kx m e b hm he hb)
 ·intro m1 m2 e e' b he bb hb cb;rcases jZ m1 e he with⟨rfl,rfl⟩| ⟨Ah,zd⟩<;>rcases jZ m2 e' bb with⟨rfl,rfl⟩| ⟨Ai,ze⟩
  ·rfl
  ·rw[aC] at hb;rw[da _ (za5 Ai)] at cb;rcases lS b hb with h1 | ⟨e0,EP,tO⟩
   ·have:=(h.rg m2 e' ze).lt cb;omega
   exact h.own _ _ _ _ b EP ze tO cb
  ·rw[aC] at cb;rw[da _ (za5 Ah)] at hb;rcases lS b cb with h1 | ⟨e0,EP,tO⟩
   ·have:=(h.rg m1 e zd).lt hb;omega
   exact h.own _ _ _ _ b zd EP hb tO
  rw[da _ (za5 Ah)] at hb;rw[da _ (za5 Ai)] at cb;exact h.own _ _ _ _ b zd ze hb cb
 ·intro m e b he hb rA;rcases jZ m e he with⟨rfl,rfl⟩| ⟨hm,he⟩
  ·rw[aC] at hb;rcases lS b hb with h1 | ⟨e0,EP,tO⟩
   ·have:=h.fw b rA;omega
   exact h.gG _ _ b EP tO rA
  rw[da _ (za5 hm)] at hb;exact h.gG m e b he hb rA
 ·intro b hb;have:=h.fw b hb;omega
 intro m e i he hi hl;rcases jZ m e he with⟨rfl,rfl⟩| ⟨hm,he⟩
 ·rw[aC];exact Ha i hi hl
 rw[da _ (za5 hm)];exact h.tag m e i he hi hl
theorem bc(h:aq Q T F G w a s){dst:Option Nat}{p:P}{s':S}(hs:s.put dst p=some s'){v:Value}(hp:bt F w G s.rg a.tmps v p):
  aq Q T F G w (a.put dst v) s'/\s'.rg=s.rg:=by
 cases dst with
 |none=>simp[S.put] at hs;subst hs;exact⟨h,rfl⟩
 |some d=>
  simp only[S.put] at hs;split at hs
  next hd=>
   simp at hs;subst hs;have hd:d<s.n:=by simp[Nat.blt] at hd;omega
   have Me:d<a.tmps.size:=zaK hd h.size;refine⟨⟨h.mf,by simp[Act.put];exact h.size,λt q hq=> ?_,h.rg,h.own,h.gG,h.fw,h.tag,h.z,h.dr,h.sz⟩,rfl⟩;simp only[Act.put];simp only at hq;by_cases ht:d=t
   ·subst ht;rw[aH] at hq;cases hq;have e:(a.tmps.setIfInBounds d v).getD d undef=v:=by simp[Array.getD,Me]
    rw[e];exact hp
   rw[aV _ _ ht] at hq;have e:(a.tmps.setIfInBounds d v).getD t undef=a.tmps.getD t undef:=by simp only[zav];rw[zaC ht]
   rw[e];exact h.tm t q hq
  cases hs
theorem S.gO{n v:Nat}{o:Obj}{s':S}(h:s.new n o=some (s',v)):s'={s with rg:=ins n ⟨v,none,o⟩ s.rg}/\ ∀e,lk s.rg n=some e->e.az<v:=by
 unfold S.new at h;split at h
 next hn=>simp at h;obtain⟨rfl,rfl⟩:=h;exact⟨rfl,λe he=>by rw[hn] at he;cases he⟩
 rename_i e he;split at h
 next hg=>simp at h;obtain⟨rfl,rfl⟩:=h;exact⟨rfl,λe' bb=>by rw[he] at bb;cases bb;omega⟩
 split at h
 ·simp at h;obtain⟨rfl,rfl⟩:=h;exact⟨rfl,λe' bb=>by rw[he] at bb;cases bb;omega⟩
 cases h
theorem gP(h:aq Q T F G w a s){n v:Nat}{o:Obj}{s':S}(hs:s.new n o=some (s',v)){g1:Value}{w':World}
  (bY: ∀b,b<w.heap.size->w'.heap[b]?=w.heap[b]?)
  (cJ:w.heap.size<=w'.heap.size) (EO:w'.os=w.os) (Cp:w'.tape=w.tape) (iG:w'.output=w.output)
  (lS: ∀b,ay g1 o b->w.heap.size<=b)
  (ho:eO Q F w' (Pi.iH G n g1) (ins n ⟨v,none,o⟩ s.rg) n o) (hdr:w.drawn<=w'.drawn:=by exact zae _):
  aq Q T F (Pi.iH G n g1) w' a s'/\Ext (Own G s.rg) (Own (Pi.iH G n g1) s'.rg) F F w w'/\Names G (Pi.iH G n g1) s.rg s'.rg/\lk s'.rg n=some ⟨v,none,o⟩:=by
 obtain⟨rfl,pO⟩:=S.gO hs;have bX:jJ G s.rg n ⟨v,none,o⟩ g1:=λe he=> .inl (pO e he);obtain⟨h1,h2⟩:=h.iH (e1:=⟨v,none,o⟩) bX (λb hb _=>bY b hb) cJ EO Cp iG (λb hb=> .inl (lS b hb)) ho (λi hi=>by cases hi) hdr;exact⟨h1,h2,cI bX,aH _ _ _⟩
end
end Pi
