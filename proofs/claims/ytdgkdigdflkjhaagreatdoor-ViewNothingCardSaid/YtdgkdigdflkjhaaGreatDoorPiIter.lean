/- The text PiIter. -/
import Derived.Test.YtdgkdigdflkjhaaGreatDoorPiMapW
namespace Pi
open Go
section
variable{Q:Program}{T:Tg}{F:Nat->Prop}{G:Nat->Value}{w:World}{a:Act}{s:S}
theorem aC.qaq(h:aC Q T F G w a s){n e o1}(he:lk s.rg n=some e)(hl0:e.obj.live=true)(ho1: ∀b,bB (G n) o1≠some b)
  (ya: ∀b,aO (G n)=some b->b<w.heap.size) (fB: ∀b,aO (G n)=some b->F b\/bB (G n) e.obj=some b)
  (hO:pZ Q (λb=>F b\/aO (G n)=some b) w G (ins n ⟨e.aV,e.tag,o1⟩ s.rg) n o1):
  ∃F',aC Q T F' G w a (s.setObj n o1)/\Ext (Own G s.rg) (Own G (s.setObj n o1).rg) F F' w w/\Names G G s.rg (s.setObj n o1).rg/\(∀b,aO (G n)=some b->F' b)/\(∀b,F b->F' b):=by
 rw[S.fA he];have hn:Names G G s.rg (ins n ⟨e.aV,e.tag,o1⟩ s.rg):=by have:=ib (G:=G) (g1:=G n) (R:=s.rg) (n:=n) (e1:=⟨e.aV,e.tag,o1⟩) (λe' cR=>by rw[he] at cR;cases cR;exact .inr ⟨rfl,λ_=>⟨hl0,rfl⟩⟩);rwa [bV] at this
 have qk: ∀m e1,lk (ins n ⟨e.aV,e.tag,o1⟩ s.rg) m=some e1->(m=n/\e1=⟨e.aV,e.tag,o1⟩)\/(n≠m/\lk s.rg m=some e1):=λm e1 h1=>by
  by_cases hm:n=m
  ·subst hm;rw[bE] at h1;cases h1;exact .inl ⟨rfl,rfl⟩
  rw[cc _ _ hm] at h1;exact .inr ⟨hm,h1⟩
 refine⟨λb=>F b\/aO (G n)=some b,⟨h.s7.Hc (λb hb=>hb.elim .inl λhb=>(fB b hb).imp id λh2=>⟨n,e,he,h2⟩) (λb hb=>by
  obtain⟨m,e1,h1,h2⟩:=hb;rcases qk m e1 h1 with⟨rfl,rfl⟩| ⟨_,h1⟩
  ·exact absurd h2 (ho1 b)
  exact⟨m,e1,h1,h2⟩),h.size,λt p hp=>(h.tm t p hp).mono (λ_ h=> .inl h) (λ_ _=>rfl) hn,?_,?_,?_,?_,?_,λb hb=>⟨.inl (h.z b hb).1,(h.z b hb).2⟩,h.dr,h.sz⟩,?_,hn,λb hb=> .inr hb,λb hb=> .inl hb⟩
 ·intro m e1 h1;rcases qk m e1 h1 with⟨rfl,rfl⟩| ⟨hm,h1⟩
  ·exact hO
  exact(h.rg m e1 h1).mono (λ_ h=> .inl h) (λ_ _=>rfl) hn rfl (λ_ _=>rfl)
 ·intro m1 m2 e1 e2 b h1 h2 la cP;rcases qk m1 e1 h1 with⟨rfl,rfl⟩| ⟨Qs,LC⟩
  ·exact absurd la (ho1 b)
  rcases qk m2 e2 h2 with⟨rfl,rfl⟩| ⟨H6,h2'⟩
  ·exact absurd cP (ho1 b)
  exact h.own _ _ _ _ b LC h2' la cP
 ·intro m e1 b h1 hb Ct;rcases qk m e1 h1 with⟨rfl,rfl⟩| ⟨hm,h1⟩
  ·exact absurd hb (ho1 b)
  rcases Ct with Ct |Ct
  ·exact h.nA m e1 b h1 hb Ct
  rcases fB b Ct with h2 |h2
  ·exact h.nA m e1 b h1 hb h2
  exact hm (h.own _ _ _ _ b he h1 h2 hb)
 ·intro b hb;rcases hb with hb |hb
  ·exact h.jE b hb
  exact ya b hb
 ·intro m e1 i h1 hi hl;rcases qk m e1 h1 with⟨rfl,rfl⟩| ⟨hm,h1⟩
  ·exact h.tag _ e i he hi hl0
  exact h.tag m e1 i h1 hi hl
 refine⟨λ_ h=> .inl h,?_,?_,λ_ _ _=>rfl,zal _,rfl,rfl,rfl⟩
 ·intro b hb;rcases hb with hb |hb
  ·exact .inl hb
  rcases fB b hb with h2 |h2
  ·exact .inl h2
  exact .inr (.inl ⟨n,e,he,h2⟩)
 rintro b ⟨m,e1,h1,hb⟩;rcases qk m e1 h1 with⟨rfl,rfl⟩| ⟨hm,h1⟩
 ·exact absurd hb (ho1 b)
 exact .inl ⟨m,e1,h1,hb⟩
theorem QA(h:aC Q T F G w a s){dst t p s'}{v}(hs:sY Q s dst t p=some s')(hv:aH F w G s.rg v p):
  ∃r w' F' G',(Instr.range t v).run Q w= .ok r w'/\aC Q T F' G' w' (a.put dst r) s'/\Ext (Own G s.rg) (Own G' s'.rg) F F' w w':=by
 unfold sY at hs;split at hs
 next kt vt n aV Hg=>
  have nC:=gX Hg;split at hs
  next zq get c fz ho=>
   split at hs
   ·rename_i Du;have Du:=zag Du;subst Du;split at hs
    ·rename_i s1 qfA hn;obtain⟨e,he,eb,b8,zG,b,es,clock,hG,hb,hM⟩:=Ds h hv ho;rw[hG] at zG;subst zG;have hO0:=h.rg n e he;rw[b8] at hO0;have hbb: ∀b',aO (G n)=some b'->b'=b:=λb' dq=>by rw[hG] at dq;simp[aO] at dq;exact dq.symm
     have ya:b<w.heap.size:=(zax.1 hb).1;obtain⟨F',f1,f2,f3,f4,f5⟩:=h.qaq (o1:= .map kt get c true) he (by rw[b8];rfl) (λb' dq=>by simp[bB] at dq) (λb' dq=>by rw[hbb b' dq];exact ya) (λb' dq=>by
      have:=hbb b' dq;subst this;rw[b8];cases fz with
      |false=>right;simp[bB,dq]
      |true=>left;obtain⟨b2,es2,qnj,hg2,_,_,hf2⟩:=hO0;rw[hG] at hg2;simp at hg2;subst hg2;exact hf2 rfl)
      ⟨b,es,clock,hG,hb,hM.mono (λ_ h=> .inl h) (λ_ _=>rfl),λ_=> .inr (by rw[hG];rfl)⟩
     have hFb:F' b:=f4 b (by rw[hG];rfl);have eU: ∀b',b'<w.heap.size->(w.alloc (.mapIter (some b) clock #[] clock)).heap[b']?=w.heap[b']?:=λb' dq=>heap_alloc_old w _ b' dq;obtain⟨b1,b2,b3,b4⟩:=nE f1 hn (g1:= .pointer (some ⟨w.heap.size,0,none⟩)) (w':=w.alloc (.mapIter (some b) clock #[] clock)) eU (by simp) rfl rfl rfl (λb' dq=>by simp[bB,aO] at dq;omega)
      ⟨w.heap.size,some b,clock, #[],clock,bc _ _ _,heap_alloc_new w _,.inr ⟨b,es,rfl,hFb,(eU b ya).trans hb,rfl,hM.iter.mono f5 (λb' dq=>eU b' (h.jE b' dq)),λk v hc=>by cases hc⟩⟩
     obtain⟨c1,c2⟩:=cy b1 hs (v:= .pointer (some ⟨w.heap.size,0,none⟩)) (cE.of (.ref (site dst) qfA 0 _ ⟨_,b4,zal _,λ_ _=>⟨w.heap.size,bc _ _ _,rfl⟩⟩ rfl));refine⟨.pointer (some ⟨w.heap.size,0,none⟩),_,F',_,?_,c1,?_⟩
     ·simp[Instr.range,run_underlying nC,MapKept.run_getObj_map hb]
     rw[c2];exact f2.trans b2
    cases hs
   cases hs
  cases hs
 next kt vt Hg=>
  have nC:=gX Hg;split at hs
  next s1 qfA hn=>
   have Qh:v= .map none:=hv.cD (p:= .d .ui) rfl;subst Qh;have eU: ∀b',b'<w.heap.size->(w.alloc (.mapIter none 0 #[] 0)).heap[b']?=w.heap[b']?:=λb' dq=>heap_alloc_old w _ b' dq;obtain⟨b1,b2,b3,b4⟩:=nE h hn (g1:= .pointer (some ⟨w.heap.size,0,none⟩)) (w':=w.alloc (.mapIter none 0 #[] 0)) eU (by simp) rfl rfl rfl (λb' dq=>by simp[bB,aO] at dq;omega)
    ⟨w.heap.size,none,0, #[],0,bc _ _ _,heap_alloc_new w _,.inl ⟨rfl,λ_=>rfl,rfl⟩⟩
   obtain⟨c1,c2⟩:=cy b1 hs (v:= .pointer (some ⟨w.heap.size,0,none⟩)) (cE.of (.ref (site dst) qfA 0 _ ⟨_,b4,zal _,λ_ _=>⟨w.heap.size,bc _ _ _,rfl⟩⟩ rfl));refine⟨.pointer (some ⟨w.heap.size,0,none⟩),_,F,_,?_,c1,?_⟩
   ·simp[Instr.range,run_underlying nC]
   rw[c2];exact b2
  cases hs
 cases hs
theorem yG{k k'} get (h:k≠k'):jg k get k'=get k':=by
 unfold jg;cases hb:D.gH k k' with
 |false=>rfl
 |true=>exact absurd ((D.bS k k').1 hb) h
theorem rA k get:jg k get k=none:=by unfold jg;rw[(D.bS k k).2 rfl];rfl
theorem Ck.next{kt left es clock}{seen}(h:Ck Q F w kt left es clock seen){e}(he:e∈es)(hs:seen.contains e.born=false):
  ∃k v,left k=some v/\k.cD=some e.key/\aY F w e.val v/\Ck Q F w kt (jg k left) es clock (seen.push e.born):=by
 obtain⟨ks,h1,h3,h4,h5,h6,h7⟩:=h;obtain⟨i,hi⟩:=zaV he;have bJ:i<ks.length:=by have:=(zae.1 hi).1;omega
 obtain⟨⟨k,v⟩,hp⟩: ∃p,ks[i]?=some p:=⟨ks[i],zad bJ⟩
 obtain⟨a1,a2,a3⟩:=h3 i _ e hp hi;refine⟨k,v,(h7 k v).2 ⟨i,e,hp,hi,hs⟩,a2,a3,ks,h1,h3,h4,h5,h6,λk' v'=> ?_⟩;have born: ∀j e',es[j]?=some e'->e'.born=e.born->j=i:=λj e' hj hb=>by
  have hn:=zbb.1 h6;obtain⟨l1,e1⟩:=zae.1 hi;obtain⟨l2,e2⟩:=zae.1 hj;refine zaZ λcO=> ?_;rcases zcw cO with bK |bK
  ·exact hn j i (by simpa using l2) (by simpa using l1) bK (by simp[e1,e2,hb])
  exact hn i j (by simpa using l1) (by simpa using l2) bK (by simp[e1,e2,hb])
 by_cases hk:k=k'
 ·subst hk;rw[rA];constructor
  ·intro h;cases h
  rintro⟨j,e',hj,hje,hc⟩;have:=vZ h4 hp hj rfl;subst this;rw[hi] at hje;cases hje;simp at hc
 rw[yG _ hk,h7];constructor
 ·rintro⟨j,e',hj,hje,hc⟩;refine⟨j,e',hj,hje,?_⟩;have cO:e'.born≠e.born:=λhb=>by have:=born j e' hje hb;subst this;rw[hp] at hj;cases hj;exact hk rfl
  simp at hc⊢;exact⟨hc,cO⟩
 rintro⟨j,e',hj,hje,hc⟩;refine⟨j,e',hj,hje,?_⟩;simp at hc⊢;exact hc.1
theorem Ck.over{kt left es clock}{seen}(h:Ck Q F w kt left es clock seen)(hs: ∀e∈es,seen.contains e.born=true): ∀k,left k=none:=by
 obtain⟨ks,h1,h3,h4,h5,h6,h7⟩:=h;intro k;cases hk:left k with
 |none=>rfl
 |some v=>obtain⟨i,e,_,hi,hc⟩:=(h7 k v).1 hk;rw[hs e (zaA hi)] at hc;cases hc
end
end Pi
