/- The text PiUpd. -/
import Derived.Test.YtngoddkencoalaaGreatDoorPiKOk3
namespace Pi
open Go
def oe(G:Nat->Value)(n:Nat)(g:Value):Nat->Value:=λm=>if m=n then g else G m
theorem a7(G:Nat->Value)(n:Nat)(g:Value):oe G n g n=g:=by simp[oe]
theorem eZ{G:Nat->Value}{n m:Nat}(g:Value)(h:m≠n):oe G n g m=G m:=by simp[oe,h]
theorem ca(G:Nat->Value)(n:Nat):oe G n (G n)=G:=by funext m;simp[oe];intro h;rw[h]
theorem nB.mono{F F':Nat->Prop}{w w':World}{cs:Array Value}{k:Nat}{es:List D}(hF: ∀b,F b->F' b)(hw: ∀b,F b->w'.heap[b]?=w.heap[b]?)(h:nB F w cs k es):nB F' w' cs k es:=
 λi x hx=>let ⟨h1,h2,h3⟩:=h i x hx;⟨h1,h2,λj c hc=>(h3 j c hc).mono hF hw⟩
theorem pG.mono{Q:Program}{F F':Nat->Prop}{w w':World}{G G':Nat->Value}{R R':List (Nat×En)}{n:Nat}{o:Obj}(h:pG Q F w G R n o)(hF: ∀b,F b->F' b)(hw: ∀b,F b->w'.heap[b]?=w.heap[b]?)(hn:Names G G' R R')
  (hG:G' n=G n) (hb: ∀b,bF (G n) o=some b->w'.heap[b]?=w.heap[b]?):pG Q F' w' G' R' n o:=by
 cases o with
 |gone=>trivial
 |box T ps=>obtain⟨b,cs,hg,hh,h1,h2,h3⟩:=h;exact⟨b,cs,hG.trans hg,(hb b (by simp[bF,hg,aM])).trans hh,h1,h2,λi p hp=>(h3 i p hp).mono hF hw hn⟩
 |arr ty fz es=>
  rcases h with⟨hg,he⟩| ⟨b,cap,cs,k,hg,hh,h1,h2,h3,h4,h5,h6,h7⟩
  ·exact .inl ⟨hG.trans hg,he⟩
  refine .inr ⟨b,cap,cs,k,hG.trans hg,?_,h1,h2,h3,h4,h5,λhf=>hF _ (h6 hf),h7.mono hF hw⟩;cases fz with
  |true=>exact(hw b (h6 rfl)).trans hh
  |false=>exact(hb b (by simp[bF,hg,aM])).trans hh
 |map kt get c fz=>
  obtain⟨b,es,clock,hg,hh,h1,h2⟩:=h;refine⟨b,es,clock,hG.trans hg,?_,h1.mono hF hw,λhf=>hF _ (h2 hf)⟩;cases fz with
  |true=>exact(hw b (h2 rfl)).trans hh
  |false=>exact(hb b (by simp[bF,hg,aM])).trans hh
 |ey=>trivial
 |kD kt get c p kd=>obtain⟨b,es,clock,hg,hh,h1,i,e,h2,h3,h4⟩:=h;exact⟨b,es,clock,hG.trans hg,(hb b (by simp[bF,hg,aM])).trans hh,h1.mono hF hw,i,e,h2,h3.mono hF hw hn,h4⟩
 |iter kt vt left cur=>
  obtain⟨b,mo,since,seen,last,hg,hh,h1⟩:=h;refine⟨b,mo,since,seen,last,hG.trans hg,(hb b (by simp[bF,hg,aM])).trans hh,?_⟩;rcases h1 with⟨h1,h2⟩| ⟨m,es,h1,h2,h3,h4,h5,h6⟩
  ·exact .inl ⟨h1,h2⟩
  exact .inr ⟨m,es,h1,hF m h2,(hw m h2).trans h3,h4,h5.mono hF hw,λk v hc=>let ⟨e,a,b,c,d⟩:=h6 k v hc;⟨e,a,b,c,d.mono hF hw⟩⟩
section
variable{Q:Program}{T:Tg}{F:Nat->Prop}{G:Nat->Value}{w:World}{a:Act}{s:S}
def rS(G:Nat->Value)(R:List (Nat×En))(n:Nat)(e1:En)(g1:Value):Prop:=
 ∀e,lk R n=some e->e.aV<e1.aV\/(e.aV=e1.aV/\(e1.obj.live=true->e.obj.live=true/\g1=G n))
theorem gN{R:List (Nat×En)}{n:Nat}{e1:En}{g1:Value}(h:rS G R n e1 g1):Names G (oe G n g1) R (ins n e1 R):=by
 constructor
 ·intro m e he;by_cases hm:n=m
  ·subst hm;refine⟨e1,bC _ _ _,?_,?_⟩
   ·rcases h e he with h |h<;>omega
   intro hv hl;rcases h e he with h | ⟨_,h⟩
   ·omega
   exact(h hl).1
  exact⟨e,by rw[b8 _ _ hm];exact he,zak _,λ_ h=>h⟩
 intro m e e' he cS hv hl;by_cases hm:n=m
 ·subst hm;rw[bC] at cS;cases cS;rw[a7];rcases h e he with h | ⟨_,h⟩
  ·omega
  exact(h hl).2
 exact eZ _ (zbI hm)
theorem aG.oe(h:aG Q T F G w a s){n:Nat}{e1:En}{g1:Value}{w':World}(gl:rS G s.rg n e1 g1)
  (eQ: ∀b,b<w.heap.size-> ¬(∃e,lk s.rg n=some e/\bF (G n) e.obj=some b)->w'.heap[b]?=w.heap[b]?)
  (fT:w.heap.size<=w'.heap.size) (R7:w'.os=w.os) (R8:w'.tape=w.tape) (aT:w'.output=w.output)
  (hblk: ∀b,bF g1 e1.obj=some b->w.heap.size<=b\/ ∃e,lk s.rg n=some e/\bF (G n) e.obj=some b)
  (ho:pG Q F w' (Pi.oe G n g1) (ins n e1 s.rg) n e1.obj)
  (Y3: ∀i,e1.tag=some i->e1.obj.live=true->g1=T i) (hdr:w.drawn<=w'.drawn:=by exact zak _):
  aG Q T F (Pi.oe G n g1) w' a {s with rg:=ins n e1 s.rg}/\Ext (Own G s.rg) (Own (Pi.oe G n g1) (ins n e1 s.rg)) F F w w':=by
 have hn:=gN gl;have hF: ∀b,F b->w'.heap[b]?=w.heap[b]?:=λb hb=>eQ b (h.jE b hb) (λ⟨e,he,dm⟩=>h.nf n e b he dm hb);have qm: ∀m e b,n≠m->lk s.rg m=some e->bF (G m) e.obj=some b->w'.heap[b]?=w.heap[b]?:=λm e b hm he hb=>eQ b ((h.rg m e he).lt hb) (λ⟨e',cS,dm⟩=>hm (h.own n m e' e b cS he dm hb));have pS: ∀m e,lk (ins n e1 s.rg) m=some e->(m=n/\e=e1)\/(n≠m/\lk s.rg m=some e):=λm e he=>by
  by_cases hm:n=m
  ·subst hm;rw[bC] at he;cases he;exact .inl ⟨rfl,rfl⟩
  rw[b8 _ _ hm] at he;exact .inr ⟨hm,he⟩
 have nF:Ext (Own G s.rg) (Own (Pi.oe G n g1) (ins n e1 s.rg)) F F w w':=by
  refine⟨λ_ h=>h,λ_ h=> .inl h,?_,?_,fT,R7,R8,aT⟩
  ·rintro b ⟨m,e,he,hb⟩;rcases pS m e he with⟨rfl,rfl⟩| ⟨hm,he⟩
   ·rw[a7] at hb;rcases hblk b hb with h1 | ⟨e0,Mv,D3⟩
    ·exact .inr h1
    exact .inl ⟨_,e0,Mv,D3⟩
   rw[eZ _ (zbI hm)] at hb;exact .inl ⟨m,e,he,hb⟩
  intro b hb bS;exact eQ b hb (λ⟨e,he,dm⟩=>bS ⟨n,e,he,dm⟩)
 refine⟨⟨h.sg.go nF,h.size,λt p hp=>(h.tm t p hp).mono (λ_ h=>h) hF hn,?_,?_,?_,?_,?_,λb hb=>⟨(h.z b hb).1,(hF b (h.z b hb).1).trans (h.z b hb).2⟩,zaE h.dr hdr,zaE h.sz fT⟩,nF⟩
 ·intro m e he;rcases pS m e he with⟨rfl,rfl⟩| ⟨hm,he⟩
  ·exact ho
  exact(h.rg m e he).mono (λ_ h=>h) hF hn (eZ _ (zbI hm)) (λb hb=>qm m e b hm he hb)
 ·intro m1 m2 e e' b he cS hb dm;rcases pS m1 e he with⟨rfl,rfl⟩| ⟨Kb,FQ⟩<;>rcases pS m2 e' cS with⟨rfl,rfl⟩| ⟨D4,Ye⟩
  ·rfl
  ·rw[a7] at hb;rw[eZ _ (zbI D4)] at dm;rcases hblk b hb with h1 | ⟨e0,Mv,D3⟩
   ·have:=(h.rg m2 e' Ye).lt dm;omega
   exact h.own _ _ _ _ b Mv Ye D3 dm
  ·rw[a7] at dm;rw[eZ _ (zbI Kb)] at hb;rcases hblk b dm with h1 | ⟨e0,Mv,D3⟩
   ·have:=(h.rg m1 e FQ).lt hb;omega
   exact h.own _ _ _ _ b FQ Mv hb D3
  rw[eZ _ (zbI Kb)] at hb;rw[eZ _ (zbI D4)] at dm;exact h.own _ _ _ _ b FQ Ye hb dm
 ·intro m e b he hb BB;rcases pS m e he with⟨rfl,rfl⟩| ⟨hm,he⟩
  ·rw[a7] at hb;rcases hblk b hb with h1 | ⟨e0,Mv,D3⟩
   ·have:=h.jE b BB;omega
   exact h.nf _ _ b Mv D3 BB
  rw[eZ _ (zbI hm)] at hb;exact h.nf m e b he hb BB
 ·intro b hb;have:=h.jE b hb;omega
 intro m e i he hi hl;rcases pS m e he with⟨rfl,rfl⟩| ⟨hm,he⟩
 ·rw[a7];exact Y3 i hi hl
 rw[eZ _ (zbI hm)];exact h.tag m e i he hi hl
theorem cC(h:aG Q T F G w a s){dst:Option Nat}{p:P}{s':S}(hs:s.put dst p=some s'){v:Value}(hp:cA F w G s.rg a.tmps v p):
  aG Q T F G w (a.put dst v) s'/\s'.rg=s.rg:=by
 cases dst with
 |none=>simp[S.put] at hs;subst hs;exact⟨h,rfl⟩
 |some d=>
  simp only[S.put] at hs;split at hs
  next hd=>
   simp at hs;subst hs;have hd:d<s.n:=by simp[Nat.blt] at hd;omega
   have hds:d<a.tmps.size:=zbb hd h.size;refine⟨⟨h.sg,by simp[Act.put];exact h.size,λt q hq=> ?_,h.rg,h.own,h.nf,h.jE,h.tag,h.z,h.dr,h.sz⟩,rfl⟩;simp only[Act.put];simp only at hq;by_cases ht:d=t
   ·subst ht;rw[bC] at hq;cases hq;have e:(a.tmps.setIfInBounds d v).getD d undef=v:=by simp[Array.getD,hds]
    rw[e];exact hp
   rw[b8 _ _ ht] at hq;have e:(a.tmps.setIfInBounds d v).getD t undef=a.tmps.getD t undef:=by simp only[zaI];rw[za5 ht]
   rw[e];exact h.tm t q hq
  cases hs
theorem S.lE{n v:Nat}{o:Obj}{s':S}(h:s.new n o=some (s',v)):s'={s with rg:=ins n ⟨v,none,o⟩ s.rg}/\ ∀e,lk s.rg n=some e->e.aV<v:=by
 unfold S.new at h;split at h
 next hn=>simp at h;obtain⟨rfl,rfl⟩:=h;exact⟨rfl,λe he=>by rw[hn] at he;cases he⟩
 rename_i e he;split at h
 next hg=>simp at h;obtain⟨rfl,rfl⟩:=h;exact⟨rfl,λe' cS=>by rw[he] at cS;cases cS;omega⟩
 split at h
 ·simp at h;obtain⟨rfl,rfl⟩:=h;exact⟨rfl,λe' cS=>by rw[he] at cS;cases cS;omega⟩
 cases h
theorem mV(h:aG Q T F G w a s){n v:Nat}{o:Obj}{s':S}(hs:s.new n o=some (s',v)){g1:Value}{w':World}
  (eQ: ∀b,b<w.heap.size->w'.heap[b]?=w.heap[b]?)
  (fT:w.heap.size<=w'.heap.size) (R7:w'.os=w.os) (R8:w'.tape=w.tape) (aT:w'.output=w.output)
  (hblk: ∀b,bF g1 o=some b->w.heap.size<=b)
  (ho:pG Q F w' (Pi.oe G n g1) (ins n ⟨v,none,o⟩ s.rg) n o) (hdr:w.drawn<=w'.drawn:=by exact zak _):
  aG Q T F (Pi.oe G n g1) w' a s'/\Ext (Own G s.rg) (Own (Pi.oe G n g1) s'.rg) F F w w'/\Names G (Pi.oe G n g1) s.rg s'.rg/\lk s'.rg n=some ⟨v,none,o⟩:=by
 obtain⟨rfl,yP⟩:=S.lE hs;have gl:rS G s.rg n ⟨v,none,o⟩ g1:=λe he=> .inl (yP e he);obtain⟨h1,h2⟩:=h.oe (e1:=⟨v,none,o⟩) gl (λb hb _=>eQ b hb) fT R7 R8 aT (λb hb=> .inl (hblk b hb)) ho (λi hi=>by cases hi) hdr;exact⟨h1,h2,gN gl,bC _ _ _⟩
end
end Pi
