/- The text PiIter. -/
import Derived.Test.YtfelfooeclnbiaaGreatDoorPiMapW
namespace Pi
open Go
section
variable{Q:Program}{T:Tg}{F:Nat->Prop}{G:Nat->Value}{w:World}{a:Act}{s:S}
theorem aB.Wh(h:aB Q T F G w a s){n:Nat}{e:En}{o1:Obj}(he:lk s.rg n=some e)(Kj:e.obj.live=true)(ho1: ∀b,bm (G n) o1≠some b)
  (sB: ∀b,aI (G n)=some b->b<w.heap.size) (fV: ∀b,aI (G n)=some b->F b\/bm (G n) e.obj=some b)
  (hO:oJ Q (λb=>F b\/aI (G n)=some b) w G (ins n ⟨e.aR,e.tag,o1⟩ s.rg) n o1):
  ∃F',aB Q T F' G w a (s.setObj n o1)/\Ext (Own G s.rg) (Own G (s.setObj n o1).rg) F F' w w/\Names G G s.rg (s.setObj n o1).rg/\(∀b,aI (G n)=some b->F' b)/\(∀b,F b->F' b):=by
 rw[S.fg he];have hn:Names G G s.rg (ins n ⟨e.aR,e.tag,o1⟩ s.rg):=by have:=fI (G:=G) (g1:=G n) (R:=s.rg) (n:=n) (e1:=⟨e.aR,e.tag,o1⟩) (λe' cx=>by rw[he] at cx;cases cx;exact .inr ⟨rfl,λ_=>⟨Kj,rfl⟩⟩);rwa [bx] at this
 have oU: ∀m e1,lk (ins n ⟨e.aR,e.tag,o1⟩ s.rg) m=some e1->(m=n/\e1=⟨e.aR,e.tag,o1⟩)\/(n≠m/\lk s.rg m=some e1):=λm e1 h1=>by
  by_cases hm:n=m
  ·subst hm;rw[bp] at h1;cases h1;exact .inl ⟨rfl,rfl⟩
  rw[bT _ _ hm] at h1;exact .inr ⟨hm,h1⟩
 refine⟨λb=>F b\/aI (G n)=some b,⟨h.r0.DM (λb hb=>hb.elim .inl λhb=>(fV b hb).imp id λh2=>⟨n,e,he,h2⟩) (λb hb=>by
  obtain⟨m,e1,h1,h2⟩:=hb;rcases oU m e1 h1 with⟨rfl,rfl⟩| ⟨_,h1⟩
  ·exact absurd h2 (ho1 b)
  exact⟨m,e1,h1,h2⟩),h.size,λt p hp=>(h.tm t p hp).mono (λ_ h=> .inl h) (λ_ _=>rfl) hn,?_,?_,?_,?_,?_,λb hb=>⟨.inl (h.z b hb).1,(h.z b hb).2⟩,h.dr,h.sz⟩,?_,hn,λb hb=> .inr hb,λb hb=> .inl hb⟩
 ·intro m e1 h1;rcases oU m e1 h1 with⟨rfl,rfl⟩| ⟨hm,h1⟩
  ·exact hO
  exact(h.rg m e1 h1).mono (λ_ h=> .inl h) (λ_ _=>rfl) hn rfl (λ_ _=>rfl)
 ·intro m1 m2 e1 e2 b h1 h2 ji dM;rcases oU m1 e1 h1 with⟨rfl,rfl⟩| ⟨Mf,Me⟩
  ·exact absurd ji (ho1 b)
  rcases oU m2 e2 h2 with⟨rfl,rfl⟩| ⟨Ch,h2'⟩
  ·exact absurd dM (ho1 b)
  exact h.own _ _ _ _ b Me h2' ji dM
 ·intro m e1 b h1 hb zK;rcases oU m e1 h1 with⟨rfl,rfl⟩| ⟨hm,h1⟩
  ·exact absurd hb (ho1 b)
  rcases zK with zK |zK
  ·exact h.mg m e1 b h1 hb zK
  rcases fV b zK with h2 |h2
  ·exact h.mg m e1 b h1 hb h2
  exact hm (h.own _ _ _ _ b he h1 h2 hb)
 ·intro b hb;rcases hb with hb |hb
  ·exact h.ja b hb
  exact sB b hb
 ·intro m e1 i h1 hi hl;rcases oU m e1 h1 with⟨rfl,rfl⟩| ⟨hm,h1⟩
  ·exact h.tag _ e i he hi Kj
  exact h.tag m e1 i h1 hi hl
 refine⟨λ_ h=> .inl h,?_,?_,λ_ _ _=>rfl,zai _,rfl,rfl,rfl⟩
 ·intro b hb;rcases hb with hb |hb
  ·exact .inl hb
  rcases fV b hb with h2 |h2
  ·exact .inl h2
  exact .inr (.inl ⟨n,e,he,h2⟩)
 rintro b ⟨m,e1,h1,hb⟩;rcases oU m e1 h1 with⟨rfl,rfl⟩| ⟨hm,h1⟩
 ·exact absurd hb (ho1 b)
 exact .inl ⟨m,e1,h1,hb⟩
theorem Mp(h:aB Q T F G w a s){dst:Option Nat}{t:TypeId}{p:P}{s':S}{v:Value}(hs:rb Q s dst t p=some s')(hv:aF F w G s.rg v p):
  ∃r w' F' G',(Instr.range t v).run Q w= .ok r w'/\aB Q T F' G' w' (a.put dst r) s'/\Ext (Own G s.rg) (Own G' s'.rg) F F' w w':=by
 unfold rb at hs;split at hs
 next kt vt n aR Hl=>
  have oh:=iF Hl;split at hs
  next zB get c fz ho=>
   split at hs
   ·rename_i DN;have DN:=zah DN;subst DN;split at hs
    ·rename_i s1 qbV hn;obtain⟨e,he,dw,bH,AI,b,es,clock,hG,hb,hM⟩:=Ex h hv ho;rw[hG] at AI;subst AI;have hO0:=h.rg n e he;rw[bH] at hO0;have hbb: ∀b',aI (G n)=some b'->b'=b:=λb' cV=>by rw[hG] at cV;simp[aI] at cV;exact cV.symm
     have sB:b<w.heap.size:=(zau.1 hb).1;obtain⟨F',f1,f2,f3,f4,f5⟩:=h.Wh (o1:= .map kt get c true) he (by rw[bH];rfl) (λb' cV=>by simp[bm] at cV) (λb' cV=>by rw[hbb b' cV];exact sB) (λb' cV=>by
      have:=hbb b' cV;subst this;rw[bH];cases fz with
      |false=>right;simp[bm,cV]
      |true=>left;obtain⟨b2,es2,qhK,hg2,_,_,hf2⟩:=hO0;rw[hG] at hg2;simp at hg2;subst hg2;exact hf2 rfl)
      ⟨b,es,clock,hG,hb,hM.mono (λ_ h=> .inl h) (λ_ _=>rfl),λ_=> .inr (by rw[hG];rfl)⟩
     have hFb:F' b:=f4 b (by rw[hG];rfl);have eF: ∀b',b'<w.heap.size->(w.alloc (.mapIter (some b) clock #[] clock)).heap[b']?=w.heap[b']?:=λb' cV=>heap_alloc_old w _ b' cV;obtain⟨b1,b2,b3,b4⟩:=l5 f1 hn (g1:= .pointer (some ⟨w.heap.size,0,none⟩)) (w':=w.alloc (.mapIter (some b) clock #[] clock)) eF (by simp) rfl rfl rfl (λb' cV=>by simp[bm,aI] at cV;omega)
      ⟨w.heap.size,some b,clock, #[],clock,aV _ _ _,heap_alloc_new w _,.inr ⟨b,es,rfl,hFb,(eF b sB).trans hb,rfl,hM.iter.mono f5 (λb' cV=>eF b' (h.ja b' cV)),λk v hc=>by cases hc⟩⟩
     obtain⟨c1,c2⟩:=cr b1 hs (v:= .pointer (some ⟨w.heap.size,0,none⟩)) (cy.of (.ref (site dst) qbV 0 _ ⟨_,b4,zai _,λ_ _=>⟨w.heap.size,aV _ _ _,rfl⟩⟩ rfl));refine⟨.pointer (some ⟨w.heap.size,0,none⟩),_,F',_,?_,c1,?_⟩
     ·simp[Instr.range,run_underlying oh,MapKept.run_getObj_map hb]
     rw[c2];exact f2.trans b2
    cases hs
   cases hs
  cases hs
 next kt vt Hl=>
  have oh:=iF Hl;split at hs
  next s1 qbV hn=>
   have Em:v= .map none:=hv.cp (p:= .d .se) rfl;subst Em;have eF: ∀b',b'<w.heap.size->(w.alloc (.mapIter none 0 #[] 0)).heap[b']?=w.heap[b']?:=λb' cV=>heap_alloc_old w _ b' cV;obtain⟨b1,b2,b3,b4⟩:=l5 h hn (g1:= .pointer (some ⟨w.heap.size,0,none⟩)) (w':=w.alloc (.mapIter none 0 #[] 0)) eF (by simp) rfl rfl rfl (λb' cV=>by simp[bm,aI] at cV;omega)
    ⟨w.heap.size,none,0, #[],0,aV _ _ _,heap_alloc_new w _,.inl ⟨rfl,λ_=>rfl,rfl⟩⟩
   obtain⟨c1,c2⟩:=cr b1 hs (v:= .pointer (some ⟨w.heap.size,0,none⟩)) (cy.of (.ref (site dst) qbV 0 _ ⟨_,b4,zai _,λ_ _=>⟨w.heap.size,aV _ _ _,rfl⟩⟩ rfl));refine⟨.pointer (some ⟨w.heap.size,0,none⟩),_,F,_,?_,c1,?_⟩
   ·simp[Instr.range,run_underlying oh]
   rw[c2];exact b2
  cases hs
 cases hs
theorem Wi{k k':D}(get:D->Option D)(h:k≠k'):Ef k get k'=get k':=by
 unfold Ef;cases hb:D.tY k k' with
 |false=>rfl
 |true=>exact absurd ((D.jY k k').1 hb) h
theorem Mq(k:D)(get:D->Option D):Ef k get k=none:=by unfold Ef;rw[(D.jY k k).2 rfl];rfl
theorem zD.next{kt:TypeId}{left:D->Option D}{es:List MapEntry}{clock:Nat}{seen:Array Nat}(h:zD Q F w kt left es clock seen){e:MapEntry}(he:e∈es)(hs:seen.contains e.born=false):
  ∃k v,left k=some v/\k.cp=some e.key/\aU F w e.val v/\zD Q F w kt (Ef k left) es clock (seen.push e.born):=by
 obtain⟨ks,h1,h3,h4,h5,h6,h7⟩:=h;obtain⟨i,hi⟩:=zaP he;have cj:i<ks.length:=by have:=(zae.1 hi).1;omega
 obtain⟨⟨k,v⟩,hp⟩: ∃p,ks[i]?=some p:=⟨ks[i],zac cj⟩
 obtain⟨a1,a2,a3⟩:=h3 i _ e hp hi;refine⟨k,v,(h7 k v).2 ⟨i,e,hp,hi,hs⟩,a2,a3,ks,h1,h3,h4,h5,h6,λk' v'=> ?_⟩;have born: ∀j e',es[j]?=some e'->e'.born=e.born->j=i:=λj e' hj hb=>by
  have hn:=zba.1 h6;obtain⟨l1,e1⟩:=zae.1 hi;obtain⟨l2,e2⟩:=zae.1 hj;refine zaK λcU=> ?_;rcases zcq cU with bz |bz
  ·exact hn j i (by simpa using l2) (by simpa using l1) bz (by simp[e1,e2,hb])
  exact hn i j (by simpa using l1) (by simpa using l2) bz (by simp[e1,e2,hb])
 by_cases hk:k=k'
 ·subst hk;rw[Mq];constructor
  ·intro h;cases h
  rintro⟨j,e',hj,Wf,hc⟩;have:=AR h4 hp hj rfl;subst this;rw[hi] at Wf;cases Wf;simp at hc
 rw[Wi _ hk,h7];constructor
 ·rintro⟨j,e',hj,Wf,hc⟩;refine⟨j,e',hj,Wf,?_⟩;have cU:e'.born≠e.born:=λhb=>by have:=born j e' Wf hb;subst this;rw[hp] at hj;cases hj;exact hk rfl
  simp at hc⊢;exact⟨hc,cU⟩
 rintro⟨j,e',hj,Wf,hc⟩;refine⟨j,e',hj,Wf,?_⟩;simp at hc⊢;exact hc.1
theorem zD.over{kt:TypeId}{left:D->Option D}{es:List MapEntry}{clock:Nat}{seen:Array Nat}(h:zD Q F w kt left es clock seen)(hs: ∀e∈es,seen.contains e.born=true): ∀k,left k=none:=by
 obtain⟨ks,h1,h3,h4,h5,h6,h7⟩:=h;intro k;cases hk:left k with
 |none=>rfl
 |some v=>obtain⟨i,e,_,hi,hc⟩:=(h7 k v).1 hk;rw[hs e (zaz hi)] at hc;cases hc
end
end Pi
