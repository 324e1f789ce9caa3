/- The text PiUpd. -/
import Derived.Test.YtfelfooeclnbiaaPiKOk3
namespace Pi
open Go
def gL(G:Nat->Value)(n:Nat)(g:Value):Nat->Value:=λm=>if m=n then g else G m
theorem ax(G:Nat->Value)(n:Nat)(g:Value):gL G n g n=g:=by simp[gL]
theorem cd{G:Nat->Value}{n m:Nat}(g:Value)(h:m≠n):gL G n g m=G m:=by simp[gL,h]
theorem aN(G:Nat->Value)(n:Nat):gL G n (G n)=G:=by funext m;simp[gL];intro h;rw[h]
theorem iN.mono{F F':Nat->Prop}{w w':World}{cs:Array Value}{k:Nat}{es:List D}(hF: ∀b,F b->F' b)(hw: ∀b,F b->w'.heap[b]?=w.heap[b]?)(h:iN F w cs k es):iN F' w' cs k es:=
 λi x hx=>let ⟨h1,h2,h3⟩:=h i x hx;⟨h1,h2,λj c hc=>(h3 j c hc).mono hF hw⟩
theorem gY.mono{Q:Program}{F F':Nat->Prop}{w w':World}{G G':Nat->Value}{R R':List (Nat×En)}{n:Nat}{o:Obj}(h:gY Q F w G R n o)(hF: ∀b,F b->F' b)(hw: ∀b,F b->w'.heap[b]?=w.heap[b]?)(hn:Names G G' R R')
  (hG:G' n=G n) (hb: ∀b,aH (G n) o=some b->w'.heap[b]?=w.heap[b]?):gY Q F' w' G' R' n o:=by
 cases o with
 |gone=>trivial
 |box T ps=>obtain⟨b,cs,hg,hh,h1,h2,h3⟩:=h;exact⟨b,cs,hG.trans hg,(hb b (by simp[aH,hg,au])).trans hh,h1,h2,λi p hp=>(h3 i p hp).mono hF hw hn⟩
 |arr ty fz es=>
  rcases h with⟨hg,he⟩| ⟨b,cap,cs,k,hg,hh,h1,h2,h3,h4,h5,h6,h7⟩
  ·exact .inl ⟨hG.trans hg,he⟩
  refine .inr ⟨b,cap,cs,k,hG.trans hg,?_,h1,h2,h3,h4,h5,λhf=>hF _ (h6 hf),h7.mono hF hw⟩;cases fz with
  |true=>exact(hw b (h6 rfl)).trans hh
  |false=>exact(hb b (by simp[aH,hg,au])).trans hh
 |map kt get c fz=>
  obtain⟨b,es,clock,hg,hh,h1,h2⟩:=h;refine⟨b,es,clock,hG.trans hg,?_,h1.mono hF hw,λhf=>hF _ (h2 hf)⟩;cases fz with
  |true=>exact(hw b (h2 rfl)).trans hh
  |false=>exact(hb b (by simp[aH,hg,au])).trans hh
 |iX=>trivial
 |eb kt get c p kd=>obtain⟨b,es,clock,hg,hh,h1,i,e,h2,h3,h4⟩:=h;exact⟨b,es,clock,hG.trans hg,(hb b (by simp[aH,hg,au])).trans hh,h1.mono hF hw,i,e,h2,h3.mono hF hw hn,h4⟩
 |a7 kt ks=>obtain⟨b,es,clock,hg,hh,h1⟩:=h;exact⟨b,es,clock,hG.trans hg,(hb b (by simp[aH,hg,au])).trans hh,h1.mono hF hw hn⟩
 |iter kt vt left cur=>
  obtain⟨b,mo,since,seen,last,hg,hh,h1⟩:=h;refine⟨b,mo,since,seen,last,hG.trans hg,(hb b (by simp[aH,hg,au])).trans hh,?_⟩;rcases h1 with⟨h1,h2⟩| ⟨m,es,h1,h2,h3,h4,h5,h6⟩
  ·exact .inl ⟨h1,h2⟩
  exact .inr ⟨m,es,h1,hF m h2,(hw m h2).trans h3,h4,h5.mono hF hw,λk v hc=>let ⟨e,a,b,c,d⟩:=h6 k v hc;⟨e,a,b,c,d.mono hF hw⟩⟩
section
variable{Q:Program}{T:Tg}{F:Nat->Prop}{G:Nat->Value}{w:World}{a:Act}{s:S}
def gx(G:Nat->Value)(R:List (Nat×En))(n:Nat)(e1:En)(g1:Value):Prop:=
 ∀e,lk R n=some e->e.ay<e1.ay\/(e.ay=e1.ay/\(e1.obj.live=true->e.obj.live=true/\g1=G n))
theorem cz{R:List (Nat×En)}{n:Nat}{e1:En}{g1:Value}(h:gx G R n e1 g1):Names G (gL G n g1) R (ins n e1 R):=by
 constructor
 ·intro m e he;by_cases hm:n=m
  ·subst hm;refine⟨e1,aK _ _ _,?_,?_⟩
   ·rcases h e he with h |h<;>omega
   intro hv hl;rcases h e he with h | ⟨_,h⟩
   ·omega
   exact(h hl).1
  exact⟨e,by rw[aS _ _ hm];exact he,zaf _,λ_ h=>h⟩
 intro m e e' he bb hv hl;by_cases hm:n=m
 ·subst hm;rw[aK] at bb;cases bb;rw[ax];rcases h e he with h | ⟨_,h⟩
  ·omega
  exact(h hl).2
 exact cd _ (za1 hm)
theorem ar.gL(h:ar Q T F G w a s){n:Nat}{e1:En}{g1:Value}{w':World}(df:gx G s.rg n e1 g1)
  (ca: ∀b,b<w.heap.size-> ¬(∃e,lk s.rg n=some e/\aH (G n) e.obj=some b)->w'.heap[b]?=w.heap[b]?)
  (cD:w.heap.size<=w'.heap.size) (yP:w'.os=w.os) (wM:w'.tape=w.tape) (mv:w'.output=w.output)
  (kC: ∀b,aH g1 e1.obj=some b->w.heap.size<=b\/ ∃e,lk s.rg n=some e/\aH (G n) e.obj=some b)
  (ho:gY Q F w' (Pi.gL G n g1) (ins n e1 s.rg) n e1.obj)
  (yQ: ∀i,e1.tag=some i->e1.obj.live=true->g1=T i) (hdr:w.drawn<=w'.drawn:=by exact zaf _):
  ar Q T F (Pi.gL G n g1) w' a {s with rg:=ins n e1 s.rg}/\Ext (Own G s.rg) (Own (Pi.gL G n g1) (ins n e1 s.rg)) F F w w':=by
 have hn:=cz df;have hF: ∀b,F b->w'.heap[b]?=w.heap[b]?:=λb hb=>ca b (h.gK b hb) (λ⟨e,he,bX⟩=>h.iO n e b he bX hb);have kD: ∀m e b,n≠m->lk s.rg m=some e->aH (G m) e.obj=some b->w'.heap[b]?=w.heap[b]?:=λm e b hm he hb=>ca b ((h.rg m e he).lt hb) (λ⟨e',bb,bX⟩=>hm (h.own n m e' e b bb he bX hb));have gM: ∀m e,lk (ins n e1 s.rg) m=some e->(m=n/\e=e1)\/(n≠m/\lk s.rg m=some e):=λm e he=>by
  by_cases hm:n=m
  ·subst hm;rw[aK] at he;cases he;exact .inl ⟨rfl,rfl⟩
  rw[aS _ _ hm] at he;exact .inr ⟨hm,he⟩
 have fF:Ext (Own G s.rg) (Own (Pi.gL G n g1) (ins n e1 s.rg)) F F w w':=by
  refine⟨λ_ h=>h,λ_ h=> .inl h,?_,?_,cD,yP,wM,mv⟩
  ·rintro b ⟨m,e,he,hb⟩;rcases gM m e he with⟨rfl,rfl⟩| ⟨hm,he⟩
   ·rw[ax] at hb;rcases kC b hb with h1 | ⟨e0,yR,sg⟩
    ·exact .inr h1
    exact .inl ⟨_,e0,yR,sg⟩
   rw[cd _ (za1 hm)] at hb;exact .inl ⟨m,e,he,hb⟩
  intro b hb dY;exact ca b hb (λ⟨e,he,bX⟩=>dY ⟨n,e,he,bX⟩)
 refine⟨⟨h.r4.go fF,h.size,λt p hp=>(h.tm t p hp).mono (λ_ h=>h) hF hn,?_,?_,?_,?_,?_,λb hb=>⟨(h.z b hb).1,(hF b (h.z b hb).1).trans (h.z b hb).2⟩,zaB h.dr hdr,zaB h.sz cD⟩,fF⟩
 ·intro m e he;rcases gM m e he with⟨rfl,rfl⟩| ⟨hm,he⟩
  ·exact ho
  exact(h.rg m e he).mono (λ_ h=>h) hF hn (cd _ (za1 hm)) (λb hb=>kD m e b hm he hb)
 ·intro m1 m2 e e' b he bb hb bX;rcases gM m1 e he with⟨rfl,rfl⟩| ⟨tH,nM⟩<;>rcases gM m2 e' bb with⟨rfl,rfl⟩| ⟨uE,yp⟩
  ·rfl
  ·rw[ax] at hb;rw[cd _ (za1 uE)] at bX;rcases kC b hb with h1 | ⟨e0,yR,sg⟩
   ·have:=(h.rg m2 e' yp).lt bX;omega
   exact h.own _ _ _ _ b yR yp sg bX
  ·rw[ax] at bX;rw[cd _ (za1 tH)] at hb;rcases kC b bX with h1 | ⟨e0,yR,sg⟩
   ·have:=(h.rg m1 e nM).lt hb;omega
   exact h.own _ _ _ _ b nM yR hb sg
  rw[cd _ (za1 tH)] at hb;rw[cd _ (za1 uE)] at bX;exact h.own _ _ _ _ b nM yp hb bX
 ·intro m e b he hb nN;rcases gM m e he with⟨rfl,rfl⟩| ⟨hm,he⟩
  ·rw[ax] at hb;rcases kC b hb with h1 | ⟨e0,yR,sg⟩
   ·have:=h.gK b nN;omega
   exact h.iO _ _ b yR sg nN
  rw[cd _ (za1 hm)] at hb;exact h.iO m e b he hb nN
 ·intro b hb;have:=h.gK b hb;omega
 intro m e i he hi hl;rcases gM m e he with⟨rfl,rfl⟩| ⟨hm,he⟩
 ·rw[ax];exact yQ i hi hl
 rw[cd _ (za1 hm)];exact h.tag m e i he hi hl
theorem bh(h:ar Q T F G w a s){dst:Option Nat}{p:P}{s':S}(hs:s.put dst p=some s'){v:Value}(hp:bx F w G s.rg a.tmps v p):
  ar Q T F G w (a.put dst v) s'/\s'.rg=s.rg:=by
 cases dst with
 |none=>simp[S.put] at hs;subst hs;exact⟨h,rfl⟩
 |some d=>
  simp only[S.put] at hs;split at hs
  next hd=>
   simp at hs;subst hs;have hd:d<s.n:=by simp[Nat.blt] at hd;omega
   have GO:d<a.tmps.size:=zbm hd h.size;refine⟨⟨h.r4,by simp[Act.put];exact h.size,λt q hq=> ?_,h.rg,h.own,h.iO,h.gK,h.tag,h.z,h.dr,h.sz⟩,rfl⟩;simp only[Act.put];simp only at hq;by_cases ht:d=t
   ·subst ht;rw[aK] at hq;cases hq;have e:(a.tmps.setIfInBounds d v).getD d undef=v:=by simp[Array.getD,GO]
    rw[e];exact hp
   rw[aS _ _ ht] at hq;have e:(a.tmps.setIfInBounds d v).getD t undef=a.tmps.getD t undef:=by simp only[zam];rw[zax ht]
   rw[e];exact h.tm t q hq
  cases hs
theorem S.eS{n v:Nat}{o:Obj}{s':S}(h:s.new n o=some (s',v)):s'={s with rg:=ins n ⟨v,none,o⟩ s.rg}/\ ∀e,lk s.rg n=some e->e.ay<v:=by
 unfold S.new at h;split at h
 next hn=>simp at h;obtain⟨rfl,rfl⟩:=h;exact⟨rfl,λe he=>by rw[hn] at he;cases he⟩
 rename_i e he;split at h
 next hg=>simp at h;obtain⟨rfl,rfl⟩:=h;exact⟨rfl,λe' bb=>by rw[he] at bb;cases bb;omega⟩
 split at h
 ·simp at h;obtain⟨rfl,rfl⟩:=h;exact⟨rfl,λe' bb=>by rw[he] at bb;cases bb;omega⟩
 cases h
theorem eT(h:ar Q T F G w a s){n v:Nat}{o:Obj}{s':S}(hs:s.new n o=some (s',v)){g1:Value}{w':World}
  (ca: ∀b,b<w.heap.size->w'.heap[b]?=w.heap[b]?)
  (cD:w.heap.size<=w'.heap.size) (yP:w'.os=w.os) (wM:w'.tape=w.tape) (mv:w'.output=w.output)
  (kC: ∀b,aH g1 o=some b->w.heap.size<=b)
  (ho:gY Q F w' (Pi.gL G n g1) (ins n ⟨v,none,o⟩ s.rg) n o) (hdr:w.drawn<=w'.drawn:=by exact zaf _):
  ar Q T F (Pi.gL G n g1) w' a s'/\Ext (Own G s.rg) (Own (Pi.gL G n g1) s'.rg) F F w w'/\Names G (Pi.gL G n g1) s.rg s'.rg/\lk s'.rg n=some ⟨v,none,o⟩:=by
 obtain⟨rfl,mw⟩:=S.eS hs;have df:gx G s.rg n ⟨v,none,o⟩ g1:=λe he=> .inl (mw e he);obtain⟨h1,h2⟩:=h.gL (e1:=⟨v,none,o⟩) df (λb hb _=>ca b hb) cD yP wM mv (λb hb=> .inl (kC b hb)) ho (λi hi=>by cases hi) hdr;exact⟨h1,h2,cz df,aK _ _ _⟩
end
end Pi
