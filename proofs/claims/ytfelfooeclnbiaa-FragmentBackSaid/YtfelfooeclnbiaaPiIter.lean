/- The text PiIter. -/
import Derived.Test.YtfelfooeclnbiaaPiMapW
namespace Pi
open Go
section
variable{Q:Program}{T:Tg}{F:Nat->Prop}{G:Nat->Value}{w:World}{a:Act}{s:S}
theorem ar.y7(h:ar Q T F G w a s){n:Nat}{e:En}{o1:Obj}(he:lk s.rg n=some e)(yi:e.obj.live=true)(AW: ∀b,aH (G n) o1≠some b)
  (qz: ∀b,au (G n)=some b->b<w.heap.size) (cA: ∀b,au (G n)=some b->F b\/aH (G n) e.obj=some b)
  (hO:gY Q (λb=>F b\/au (G n)=some b) w G (ins n ⟨e.ay,e.tag,o1⟩ s.rg) n o1):
  ∃F',ar Q T F' G w a (s.setObj n o1)/\Ext (Own G s.rg) (Own G (s.setObj n o1).rg) F F' w w/\Names G G s.rg (s.setObj n o1).rg/\(∀b,au (G n)=some b->F' b)/\(∀b,F b->F' b):=by
 rw[S.cT he];have hn:Names G G s.rg (ins n ⟨e.ay,e.tag,o1⟩ s.rg):=by have:=cz (G:=G) (g1:=G n) (R:=s.rg) (n:=n) (e1:=⟨e.ay,e.tag,o1⟩) (λe' bb=>by rw[he] at bb;cases bb;exact .inr ⟨rfl,λ_=>⟨yi,rfl⟩⟩);rwa [aN] at this
 have gM: ∀m e1,lk (ins n ⟨e.ay,e.tag,o1⟩ s.rg) m=some e1->(m=n/\e1=⟨e.ay,e.tag,o1⟩)\/(n≠m/\lk s.rg m=some e1):=λm e1 h1=>by
  by_cases hm:n=m
  ·subst hm;rw[aK] at h1;cases h1;exact .inl ⟨rfl,rfl⟩
  rw[aS _ _ hm] at h1;exact .inr ⟨hm,h1⟩
 refine⟨λb=>F b\/au (G n)=some b,⟨h.r4.qc (λb hb=>hb.elim .inl λhb=>(cA b hb).imp id λh2=>⟨n,e,he,h2⟩) (λb hb=>by
  obtain⟨m,e1,h1,h2⟩:=hb;rcases gM m e1 h1 with⟨rfl,rfl⟩| ⟨_,h1⟩
  ·exact absurd h2 (AW b)
  exact⟨m,e1,h1,h2⟩),h.size,λt p hp=>(h.tm t p hp).mono (λ_ h=> .inl h) (λ_ _=>rfl) hn,?_,?_,?_,?_,?_,λb hb=>⟨.inl (h.z b hb).1,(h.z b hb).2⟩,h.dr,h.sz⟩,?_,hn,λb hb=> .inr hb,λb hb=> .inl hb⟩
 ·intro m e1 h1;rcases gM m e1 h1 with⟨rfl,rfl⟩| ⟨hm,h1⟩
  ·exact hO
  exact(h.rg m e1 h1).mono (λ_ h=> .inl h) (λ_ _=>rfl) hn rfl (λ_ _=>rfl)
 ·intro m1 m2 e1 e2 b h1 h2 k7 js;rcases gM m1 e1 h1 with⟨rfl,rfl⟩| ⟨tH,BQ⟩
  ·exact absurd k7 (AW b)
  rcases gM m2 e2 h2 with⟨rfl,rfl⟩| ⟨uE,Ew⟩
  ·exact absurd js (AW b)
  exact h.own _ _ _ _ b BQ Ew k7 js
 ·intro m e1 b h1 hb nN;rcases gM m e1 h1 with⟨rfl,rfl⟩| ⟨hm,h1⟩
  ·exact absurd hb (AW b)
  rcases nN with nN |nN
  ·exact h.iO m e1 b h1 hb nN
  rcases cA b nN with h2 |h2
  ·exact h.iO m e1 b h1 hb h2
  exact hm (h.own _ _ _ _ b he h1 h2 hb)
 ·intro b hb;rcases hb with hb |hb
  ·exact h.gK b hb
  exact qz b hb
 ·intro m e1 i h1 hi hl;rcases gM m e1 h1 with⟨rfl,rfl⟩| ⟨hm,h1⟩
  ·exact h.tag _ e i he hi yi
  exact h.tag m e1 i h1 hi hl
 refine⟨λ_ h=> .inl h,?_,?_,λ_ _ _=>rfl,zaf _,rfl,rfl,rfl⟩
 ·intro b hb;rcases hb with hb |hb
  ·exact .inl hb
  rcases cA b hb with h2 |h2
  ·exact .inl h2
  exact .inr (.inl ⟨n,e,he,h2⟩)
 rintro b ⟨m,e1,h1,hb⟩;rcases gM m e1 h1 with⟨rfl,rfl⟩| ⟨hm,h1⟩
 ·exact absurd hb (AW b)
 exact .inl ⟨m,e1,h1,hb⟩
theorem uM(h:ar Q T F G w a s){dst:Option Nat}{t:TypeId}{p:P}{s':S}{v:Value}(hs:jk Q s dst t p=some s')(hv:ao F w G s.rg v p):
  ∃r w' F' G',(Instr.range t v).run Q w= .ok r w'/\ar Q T F' G' w' (a.put dst r) s'/\Ext (Own G s.rg) (Own G' s'.rg) F F' w w':=by
 unfold jk at hs;split at hs
 next kt vt n ay nK=>
  have eo:=ct nK;split at hs
  next gJ get c fz ho=>
   split at hs
   ·rename_i kX;have kX:=zab kX;subst kX;split at hs
    ·rename_i s1 AX hn;obtain⟨e,he,bP,aO,jc,b,es,clock,hG,hb,hM⟩:=qu h hv ho;rw[hG] at jc;subst jc;have Ge:=h.rg n e he;rw[aO] at Ge;have Gf: ∀b',au (G n)=some b'->b'=b:=λb' bX=>by rw[hG] at bX;simp[au] at bX;exact bX.symm
     have qz:b<w.heap.size:=(zan.1 hb).1;obtain⟨F',f1,f2,f3,f4,f5⟩:=h.y7 (o1:= .map kt get c true) he (by rw[aO];rfl) (λb' bX=>by simp[aH] at bX) (λb' bX=>by rw[Gf b' bX];exact qz) (λb' bX=>by
      have:=Gf b' bX;subst this;rw[aO];cases fz with
      |false=>right;simp[aH,bX]
      |true=>left;obtain⟨b2,Ia,EM,EN,_,_,He⟩:=Ge;rw[hG] at EN;simp at EN;subst EN;exact He rfl)
      ⟨b,es,clock,hG,hb,hM.mono (λ_ h=> .inl h) (λ_ _=>rfl),λ_=> .inr (by rw[hG];rfl)⟩
     have Hf:F' b:=f4 b (by rw[hG];rfl);have ca: ∀b',b'<w.heap.size->(w.alloc (.mapIter (some b) clock #[] clock)).heap[b']?=w.heap[b']?:=λb' bX=>heap_alloc_old w _ b' bX;obtain⟨b1,b2,b3,b4⟩:=eT f1 hn (g1:= .pointer (some ⟨w.heap.size,0,none⟩)) (w':=w.alloc (.mapIter (some b) clock #[] clock)) ca (by simp) rfl rfl rfl (λb' bX=>by simp[aH,au] at bX;omega)
      ⟨w.heap.size,some b,clock, #[],clock,ax _ _ _,heap_alloc_new w _,.inr ⟨b,es,rfl,Hf,(ca b qz).trans hb,rfl,hM.iter.mono f5 (λb' bX=>ca b' (h.gK b' bX)),λk v hc=>by cases hc⟩⟩
     obtain⟨c1,c2⟩:=bh b1 hs (v:= .pointer (some ⟨w.heap.size,0,none⟩)) (bx.of (.ref (site dst) AX 0 _ ⟨_,b4,zaf _,λ_ _=>⟨w.heap.size,ax _ _ _,rfl⟩⟩ rfl));refine⟨.pointer (some ⟨w.heap.size,0,none⟩),_,F',_,?_,c1,?_⟩
     ·simp[Instr.range,run_underlying eo,MapKept.run_getObj_map hb]
     rw[c2];exact f2.trans b2
    cases hs
   cases hs
  cases hs
 next kt vt nK=>
  have eo:=ct nK;split at hs
  next s1 AX hn=>
   have tl:v= .map none:=hv.aX (p:= .d .jJ) rfl;subst tl;have ca: ∀b',b'<w.heap.size->(w.alloc (.mapIter none 0 #[] 0)).heap[b']?=w.heap[b']?:=λb' bX=>heap_alloc_old w _ b' bX;obtain⟨b1,b2,b3,b4⟩:=eT h hn (g1:= .pointer (some ⟨w.heap.size,0,none⟩)) (w':=w.alloc (.mapIter none 0 #[] 0)) ca (by simp) rfl rfl rfl (λb' bX=>by simp[aH,au] at bX;omega)
    ⟨w.heap.size,none,0, #[],0,ax _ _ _,heap_alloc_new w _,.inl ⟨rfl,λ_=>rfl,rfl⟩⟩
   obtain⟨c1,c2⟩:=bh b1 hs (v:= .pointer (some ⟨w.heap.size,0,none⟩)) (bx.of (.ref (site dst) AX 0 _ ⟨_,b4,zaf _,λ_ _=>⟨w.heap.size,ax _ _ _,rfl⟩⟩ rfl));refine⟨.pointer (some ⟨w.heap.size,0,none⟩),_,F,_,?_,c1,?_⟩
   ·simp[Instr.range,run_underlying eo]
   rw[c2];exact b2
  cases hs
 cases hs
theorem y8{k k':D}(get:D->Option D)(h:k≠k'):vU k get k'=get k':=by
 unfold vU;cases hb:D.fy k k' with
 |false=>rfl
 |true=>exact absurd ((D.b7 k k').1 hb) h
theorem uN(k:D)(get:D->Option D):vU k get k=none:=by unfold vU;rw[(D.b7 k k).2 rfl];rfl
theorem nG.next{kt:TypeId}{left:D->Option D}{es:List MapEntry}{clock:Nat}{seen:Array Nat}(h:nG Q F w kt left es clock seen){e:MapEntry}(he:e∈es)(hs:seen.contains e.born=false):
  ∃k v,left k=some v/\k.aX=some e.key/\az F w e.val v/\nG Q F w kt (vU k left) es clock (seen.push e.born):=by
 obtain⟨ks,h1,h3,h4,h5,h6,h7⟩:=h;obtain⟨i,hi⟩:=zas he;have y4:i<ks.length:=by have:=(zaa.1 hi).1;omega
 obtain⟨⟨k,v⟩,hp⟩: ∃p,ks[i]?=some p:=⟨ks[i],zad y4⟩
 obtain⟨a1,a2,a3⟩:=h3 i _ e hp hi;refine⟨k,v,(h7 k v).2 ⟨i,e,hp,hi,hs⟩,a2,a3,ks,h1,h3,h4,h5,h6,λk' v'=> ?_⟩;have born: ∀j e',es[j]?=some e'->e'.born=e.born->j=i:=λj e' hj hb=>by
  have hn:=zbg.1 h6;obtain⟨l1,e1⟩:=zaa.1 hi;obtain⟨l2,e2⟩:=zaa.1 hj;refine zcc λcc=> ?_;rcases zbx cc with bA |bA
  ·exact hn j i (by simpa using l2) (by simpa using l1) bA (by simp[e1,e2,hb])
  exact hn i j (by simpa using l1) (by simpa using l2) bA (by simp[e1,e2,hb])
 by_cases hk:k=k'
 ·subst hk;rw[uN];constructor
  ·intro h;cases h
  rintro⟨j,e',hj,y5,hc⟩;have:=oA h4 hp hj rfl;subst this;rw[hi] at y5;cases y5;simp at hc
 rw[y8 _ hk,h7];constructor
 ·rintro⟨j,e',hj,y5,hc⟩;refine⟨j,e',hj,y5,?_⟩;have cc:e'.born≠e.born:=λhb=>by have:=born j e' y5 hb;subst this;rw[hp] at hj;cases hj;exact hk rfl
  simp at hc⊢;exact⟨hc,cc⟩
 rintro⟨j,e',hj,y5,hc⟩;refine⟨j,e',hj,y5,?_⟩;simp at hc⊢;exact hc.1
theorem nG.over{kt:TypeId}{left:D->Option D}{es:List MapEntry}{clock:Nat}{seen:Array Nat}(h:nG Q F w kt left es clock seen)(hs: ∀e∈es,seen.contains e.born=true): ∀k,left k=none:=by
 obtain⟨ks,h1,h3,h4,h5,h6,h7⟩:=h;intro k;cases hk:left k with
 |none=>rfl
 |some v=>obtain⟨i,e,_,hi,hc⟩:=(h7 k v).1 hk;rw[hs e (zaq hi)] at hc;cases hc
end
end Pi
