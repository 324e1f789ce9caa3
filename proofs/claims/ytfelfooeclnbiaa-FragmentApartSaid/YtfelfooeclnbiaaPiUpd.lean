/- The text PiUpd. -/
import Derived.Test.YtfelfooeclnbiaaPiKOk3
namespace Pi
open Go
def gR(G:Nat->Value)(n:Nat)(g:Value):Nat->Value:=λm=>if m=n then g else G m
theorem av(G:Nat->Value)(n:Nat)(g:Value):gR G n g n=g:=by simp[gR]
theorem cb{G:Nat->Value}{n m:Nat}(g:Value)(h:m≠n):gR G n g m=G m:=by simp[gR,h]
theorem aM(G:Nat->Value)(n:Nat):gR G n (G n)=G:=by funext m;simp[gR];intro h;rw[h]
theorem iX.mono{F F':Nat->Prop}{w w':World}{cs:Array Value}{k:Nat}{es:List D}(hF: ∀b,F b->F' b)(hw: ∀b,F b->w'.heap[b]?=w.heap[b]?)(h:iX F w cs k es):iX F' w' cs k es:=
 λi x hx=>let ⟨h1,h2,h3⟩:=h i x hx;⟨h1,h2,λj c hc=>(h3 j c hc).mono hF hw⟩
theorem hZ.mono{Q:Program}{F F':Nat->Prop}{w w':World}{G G':Nat->Value}{R R':List (Nat×En)}{n:Nat}{o:Obj}(h:hZ Q F w G R n o)(hF: ∀b,F b->F' b)(hw: ∀b,F b->w'.heap[b]?=w.heap[b]?)(hn:Names G G' R R')
  (hG:G' n=G n) (hb: ∀b,aG (G n) o=some b->w'.heap[b]?=w.heap[b]?):hZ Q F' w' G' R' n o:=by
 cases o with
 |gone=>trivial
 |box T ps=>obtain⟨b,cs,hg,hh,h1,h2,h3⟩:=h;exact⟨b,cs,hG.trans hg,(hb b (by simp[aG,hg,ar])).trans hh,h1,h2,λi p hp=>(h3 i p hp).mono hF hw hn⟩
 |arr ty fz es=>
  rcases h with⟨hg,he⟩| ⟨b,cap,cs,k,hg,hh,h1,h2,h3,h4,h5,h6,h7⟩
  ·exact .inl ⟨hG.trans hg,he⟩
  refine .inr ⟨b,cap,cs,k,hG.trans hg,?_,h1,h2,h3,h4,h5,λhf=>hF _ (h6 hf),h7.mono hF hw⟩;cases fz with
  |true=>exact(hw b (h6 rfl)).trans hh
  |false=>exact(hb b (by simp[aG,hg,ar])).trans hh
 |map kt get c fz=>
  obtain⟨b,es,clock,hg,hh,h1,h2⟩:=h;refine⟨b,es,clock,hG.trans hg,?_,h1.mono hF hw,λhf=>hF _ (h2 hf)⟩;cases fz with
  |true=>exact(hw b (h2 rfl)).trans hh
  |false=>exact(hb b (by simp[aG,hg,ar])).trans hh
 |jh=>trivial
 |ei kt get c p kd=>obtain⟨b,es,clock,hg,hh,h1,i,e,h2,h3,h4⟩:=h;exact⟨b,es,clock,hG.trans hg,(hb b (by simp[aG,hg,ar])).trans hh,h1.mono hF hw,i,e,h2,h3.mono hF hw hn,h4⟩
 |aN kt ks=>obtain⟨b,es,clock,hg,hh,h1⟩:=h;exact⟨b,es,clock,hG.trans hg,(hb b (by simp[aG,hg,ar])).trans hh,h1.mono hF hw hn⟩
 |iter kt vt left cur=>
  obtain⟨b,mo,since,seen,last,hg,hh,h1⟩:=h;refine⟨b,mo,since,seen,last,hG.trans hg,(hb b (by simp[aG,hg,ar])).trans hh,?_⟩;rcases h1 with⟨h1,h2⟩| ⟨m,es,h1,h2,h3,h4,h5,h6⟩
  ·exact .inl ⟨h1,h2⟩
  exact .inr ⟨m,es,h1,hF m h2,(hw m h2).trans h3,h4,h5.mono hF hw,λk v hc=>let ⟨e,a,b,c,d⟩:=h6 k v hc;⟨e,a,b,c,d.mono hF hw⟩⟩
section
variable{Q:Program}{T:Tg}{F:Nat->Prop}{G:Nat->Value}{w:World}{a:Act}{s:S}
def gA(G:Nat->Value)(R:List (Nat×En))(n:Nat)(e1:En)(g1:Value):Prop:=
 ∀e,lk R n=some e->e.aw<e1.aw\/(e.aw=e1.aw/\(e1.obj.live=true->e.obj.live=true/\g1=G n))
theorem cw{R:List (Nat×En)}{n:Nat}{e1:En}{g1:Value}(h:gA G R n e1 g1):Names G (gR G n g1) R (ins n e1 R):=by
 constructor
 ·intro m e he;by_cases hm:n=m
  ·subst hm;refine⟨e1,aJ _ _ _,?_,?_⟩
   ·rcases h e he with h |h<;>omega
   intro hv hl;rcases h e he with h | ⟨_,h⟩
   ·omega
   exact(h hl).1
  exact⟨e,by rw[aR _ _ hm];exact he,zaf _,λ_ h=>h⟩
 intro m e e' he a7 hv hl;by_cases hm:n=m
 ·subst hm;rw[aJ] at a7;cases a7;rw[av];rcases h e he with h | ⟨_,h⟩
  ·omega
  exact(h hl).2
 exact cb _ (zaS hm)
theorem aq.gR(h:aq Q T F G w a s){n:Nat}{e1:En}{g1:Value}{w':World}(c6:gA G s.rg n e1 g1)
  (bZ: ∀b,b<w.heap.size-> ¬(∃e,lk s.rg n=some e/\aG (G n) e.obj=some b)->w'.heap[b]?=w.heap[b]?)
  (cz:w.heap.size<=w'.heap.size) (yX:w'.os=w.os) (wN:w'.tape=w.tape) (mE:w'.output=w.output)
  (kM: ∀b,aG g1 e1.obj=some b->w.heap.size<=b\/ ∃e,lk s.rg n=some e/\aG (G n) e.obj=some b)
  (ho:hZ Q F w' (Pi.gR G n g1) (ins n e1 s.rg) n e1.obj)
  (yY: ∀i,e1.tag=some i->e1.obj.live=true->g1=T i) (hdr:w.drawn<=w'.drawn:=by exact zaf _):
  aq Q T F (Pi.gR G n g1) w' a {s with rg:=ins n e1 s.rg}/\Ext (Own G s.rg) (Own (Pi.gR G n g1) (ins n e1 s.rg)) F F w w':=by
 have hn:=cw c6;have hF: ∀b,F b->w'.heap[b]?=w.heap[b]?:=λb hb=>bZ b (h.gQ b hb) (λ⟨e,he,bU⟩=>h.iY n e b he bU hb);have kN: ∀m e b,n≠m->lk s.rg m=some e->aG (G m) e.obj=some b->w'.heap[b]?=w.heap[b]?:=λm e b hm he hb=>bZ b ((h.rg m e he).lt hb) (λ⟨e',a7,bU⟩=>hm (h.own n m e' e b a7 he bU hb));have gS: ∀m e,lk (ins n e1 s.rg) m=some e->(m=n/\e=e1)\/(n≠m/\lk s.rg m=some e):=λm e he=>by
  by_cases hm:n=m
  ·subst hm;rw[aJ] at he;cases he;exact .inl ⟨rfl,rfl⟩
  rw[aR _ _ hm] at he;exact .inr ⟨hm,he⟩
 have fG:Ext (Own G s.rg) (Own (Pi.gR G n g1) (ins n e1 s.rg)) F F w w':=by
  refine⟨λ_ h=>h,λ_ h=> .inl h,?_,?_,cz,yX,wN,mE⟩
  ·rintro b ⟨m,e,he,hb⟩;rcases gS m e he with⟨rfl,rfl⟩| ⟨hm,he⟩
   ·rw[av] at hb;rcases kM b hb with h1 | ⟨e0,yZ,sB⟩
    ·exact .inr h1
    exact .inl ⟨_,e0,yZ,sB⟩
   rw[cb _ (zaS hm)] at hb;exact .inl ⟨m,e,he,hb⟩
  intro b hb eb;exact bZ b hb (λ⟨e,he,bU⟩=>eb ⟨n,e,he,bU⟩)
 refine⟨⟨h.si.go fG,h.size,λt p hp=>(h.tm t p hp).mono (λ_ h=>h) hF hn,?_,?_,?_,?_,?_,λb hb=>⟨(h.z b hb).1,(hF b (h.z b hb).1).trans (h.z b hb).2⟩,zaB h.dr hdr,zaB h.sz cz⟩,fG⟩
 ·intro m e he;rcases gS m e he with⟨rfl,rfl⟩| ⟨hm,he⟩
  ·exact ho
  exact(h.rg m e he).mono (λ_ h=>h) hF hn (cb _ (zaS hm)) (λb hb=>kN m e b hm he hb)
 ·intro m1 m2 e e' b he a7 hb bU;rcases gS m1 e he with⟨rfl,rfl⟩| ⟨rV,nT⟩<;>rcases gS m2 e' a7 with⟨rfl,rfl⟩| ⟨uG,yp⟩
  ·rfl
  ·rw[av] at hb;rw[cb _ (zaS uG)] at bU;rcases kM b hb with h1 | ⟨e0,yZ,sB⟩
   ·have:=(h.rg m2 e' yp).lt bU;omega
   exact h.own _ _ _ _ b yZ yp sB bU
  ·rw[av] at bU;rw[cb _ (zaS rV)] at hb;rcases kM b bU with h1 | ⟨e0,yZ,sB⟩
   ·have:=(h.rg m1 e nT).lt hb;omega
   exact h.own _ _ _ _ b nT yZ hb sB
  rw[cb _ (zaS rV)] at hb;rw[cb _ (zaS uG)] at bU;exact h.own _ _ _ _ b nT yp hb bU
 ·intro m e b he hb nU;rcases gS m e he with⟨rfl,rfl⟩| ⟨hm,he⟩
  ·rw[av] at hb;rcases kM b hb with h1 | ⟨e0,yZ,sB⟩
   ·have:=h.gQ b nU;omega
   exact h.iY _ _ b yZ sB nU
  rw[cb _ (zaS hm)] at hb;exact h.iY m e b he hb nU
 ·intro b hb;have:=h.gQ b hb;omega
 intro m e i he hi hl;rcases gS m e he with⟨rfl,rfl⟩| ⟨hm,he⟩
 ·rw[av];exact yY i hi hl
 rw[cb _ (zaS hm)];exact h.tag m e i he hi hl
theorem bg(h:aq Q T F G w a s){dst:Option Nat}{p:P}{s':S}(hs:s.put dst p=some s'){v:Value}(hp:bt F w G s.rg a.tmps v p):
  aq Q T F G w (a.put dst v) s'/\s'.rg=s.rg:=by
 cases dst with
 |none=>simp[S.put] at hs;subst hs;exact⟨h,rfl⟩
 |some d=>
  simp only[S.put] at hs;split at hs
  next hd=>
   simp at hs;subst hs;have hd:d<s.n:=by simp[Nat.blt] at hd;omega
   have Hu:d<a.tmps.size:=zbe hd h.size;refine⟨⟨h.si,by simp[Act.put];exact h.size,λt q hq=> ?_,h.rg,h.own,h.iY,h.gQ,h.tag,h.z,h.dr,h.sz⟩,rfl⟩;simp only[Act.put];simp only at hq;by_cases ht:d=t
   ·subst ht;rw[aJ] at hq;cases hq;have e:(a.tmps.setIfInBounds d v).getD d undef=v:=by simp[Array.getD,Hu]
    rw[e];exact hp
   rw[aR _ _ ht] at hq;have e:(a.tmps.setIfInBounds d v).getD t undef=a.tmps.getD t undef:=by simp only[zak];rw[zay ht]
   rw[e];exact h.tm t q hq
  cases hs
theorem S.eR{n v:Nat}{o:Obj}{s':S}(h:s.new n o=some (s',v)):s'={s with rg:=ins n ⟨v,none,o⟩ s.rg}/\ ∀e,lk s.rg n=some e->e.aw<v:=by
 unfold S.new at h;split at h
 next hn=>simp at h;obtain⟨rfl,rfl⟩:=h;exact⟨rfl,λe he=>by rw[hn] at he;cases he⟩
 rename_i e he;split at h
 next hg=>simp at h;obtain⟨rfl,rfl⟩:=h;exact⟨rfl,λe' a7=>by rw[he] at a7;cases a7;omega⟩
 split at h
 ·simp at h;obtain⟨rfl,rfl⟩:=h;exact⟨rfl,λe' a7=>by rw[he] at a7;cases a7;omega⟩
 cases h
theorem eS(h:aq Q T F G w a s){n v:Nat}{o:Obj}{s':S}(hs:s.new n o=some (s',v)){g1:Value}{w':World}
  (bZ: ∀b,b<w.heap.size->w'.heap[b]?=w.heap[b]?)
  (cz:w.heap.size<=w'.heap.size) (yX:w'.os=w.os) (wN:w'.tape=w.tape) (mE:w'.output=w.output)
  (kM: ∀b,aG g1 o=some b->w.heap.size<=b)
  (ho:hZ Q F w' (Pi.gR G n g1) (ins n ⟨v,none,o⟩ s.rg) n o) (hdr:w.drawn<=w'.drawn:=by exact zaf _):
  aq Q T F (Pi.gR G n g1) w' a s'/\Ext (Own G s.rg) (Own (Pi.gR G n g1) s'.rg) F F w w'/\Names G (Pi.gR G n g1) s.rg s'.rg/\lk s'.rg n=some ⟨v,none,o⟩:=by
 obtain⟨rfl,mF⟩:=S.eR hs;have c6:gA G s.rg n ⟨v,none,o⟩ g1:=λe he=> .inl (mF e he);obtain⟨h1,h2⟩:=h.gR (e1:=⟨v,none,o⟩) c6 (λb hb _=>bZ b hb) cz yX wN mE (λb hb=> .inl (kM b hb)) ho (λi hi=>by cases hi) hdr;exact⟨h1,h2,cw c6,aJ _ _ _⟩
end
end Pi
