/- The text PiIter. -/
import Derived.Test.YtfelfooeclnbiaaPiMapW
namespace Pi
open Go
section
variable{Q:Program}{T:Tg}{F:Nat->Prop}{G:Nat->Value}{w:World}{a:Act}{s:S}
theorem ar.xp(h:ar Q T F G w a s){n:Nat}{e:En}{o1:Obj}(he:lk s.rg n=some e)(wL:e.obj.live=true)(yT: ∀b,aD (G n) o1≠some b)
  (lO: ∀b,au (G n)=some b->b<w.heap.size) (cg: ∀b,au (G n)=some b->F b\/aD (G n) e.obj=some b)
  (hO:gi Q (λb=>F b\/au (G n)=some b) w G (ins n ⟨e.aw,e.tag,o1⟩ s.rg) n o1):
  ∃F',ar Q T F' G w a (s.setObj n o1)/\Ext (Own G s.rg) (Own G (s.setObj n o1).rg) F F' w w/\Names G G s.rg (s.setObj n o1).rg/\(∀b,au (G n)=some b->F' b)/\(∀b,F b->F' b):=by
 rw[S.cH he];have hn:Names G G s.rg (ins n ⟨e.aw,e.tag,o1⟩ s.rg):=by have:=cd (G:=G) (g1:=G n) (R:=s.rg) (n:=n) (e1:=⟨e.aw,e.tag,o1⟩) (λe' aW=>by rw[he] at aW;cases aW;exact .inr ⟨rfl,λ_=>⟨wL,rfl⟩⟩);rwa [aH] at this
 have gp: ∀m e1,lk (ins n ⟨e.aw,e.tag,o1⟩ s.rg) m=some e1->(m=n/\e1=⟨e.aw,e.tag,o1⟩)\/(n≠m/\lk s.rg m=some e1):=λm e1 h1=>by
  by_cases hm:n=m
  ·subst hm;rw[aK] at h1;cases h1;exact .inl ⟨rfl,rfl⟩
  rw[aQ _ _ hm] at h1;exact .inr ⟨hm,h1⟩
 refine⟨λb=>F b\/au (G n)=some b,⟨h.qX.pe (λb hb=>hb.elim .inl λhb=>(cg b hb).imp id λh2=>⟨n,e,he,h2⟩) (λb hb=>by
  obtain⟨m,e1,h1,h2⟩:=hb;rcases gp m e1 h1 with⟨rfl,rfl⟩| ⟨_,h1⟩
  ·exact absurd h2 (yT b)
  exact⟨m,e1,h1,h2⟩),h.size,λt p hp=>(h.tm t p hp).mono (λ_ h=> .inl h) (λ_ _=>rfl) hn,?_,?_,?_,?_,?_,λb hb=>⟨.inl (h.z b hb).1,(h.z b hb).2⟩,h.dr,h.sz⟩,?_,hn,λb hb=> .inr hb,λb hb=> .inl hb⟩
 ·intro m e1 h1;rcases gp m e1 h1 with⟨rfl,rfl⟩| ⟨hm,h1⟩
  ·exact hO
  exact(h.rg m e1 h1).mono (λ_ h=> .inl h) (λ_ _=>rfl) hn rfl (λ_ _=>rfl)
 ·intro m1 m2 e1 e2 b h1 h2 ko iS;rcases gp m1 e1 h1 with⟨rfl,rfl⟩| ⟨s9,zQ⟩
  ·exact absurd ko (yT b)
  rcases gp m2 e2 h2 with⟨rfl,rfl⟩| ⟨ta,Al⟩
  ·exact absurd iS (yT b)
  exact h.own _ _ _ _ b zQ Al ko iS
 ·intro m e1 b h1 hb mT;rcases gp m e1 h1 with⟨rfl,rfl⟩| ⟨hm,h1⟩
  ·exact absurd hb (yT b)
  rcases mT with mT |mT
  ·exact h.hS m e1 b h1 hb mT
  rcases cg b mT with h2 |h2
  ·exact h.hS m e1 b h1 hb h2
  exact hm (h.own _ _ _ _ b he h1 h2 hb)
 ·intro b hb;rcases hb with hb |hb
  ·exact h.fL b hb
  exact lO b hb
 ·intro m e1 i h1 hi hl;rcases gp m e1 h1 with⟨rfl,rfl⟩| ⟨hm,h1⟩
  ·exact h.tag _ e i he hi wL
  exact h.tag m e1 i h1 hi hl
 refine⟨λ_ h=> .inl h,?_,?_,λ_ _ _=>rfl,zag _,rfl,rfl,rfl⟩
 ·intro b hb;rcases hb with hb |hb
  ·exact .inl hb
  rcases cg b hb with h2 |h2
  ·exact .inl h2
  exact .inr (.inl ⟨n,e,he,h2⟩)
 rintro b ⟨m,e1,h1,hb⟩;rcases gp m e1 h1 with⟨rfl,rfl⟩| ⟨hm,h1⟩
 ·exact absurd hb (yT b)
 exact .inl ⟨m,e1,h1,hb⟩
theorem tq(h:ar Q T F G w a s){dst:Option Nat}{t:TypeId}{p:P}{s':S}{v:Value}(hs:iK Q s dst t p=some s')(hv:ao F w G s.rg v p):
  ∃r w' F' G',(Instr.range t v).run Q w= .ok r w'/\ar Q T F' G' w' (a.put dst r) s'/\Ext (Own G s.rg) (Own G' s'.rg) F F' w w':=by
 unfold iK at hs;split at hs
 next kt vt n aw mR=>
  have dW:=bZ mR;split at hs
  next gn get c fz ho=>
   split at hs
   ·rename_i ki;have ki:=zac ki;subst ki;split at hs
    ·rename_i s1 yU hn;obtain⟨e,he,bE,aN,iy,b,es,clock,hG,hb,hM⟩:=pF h hv ho;rw[hG] at iy;subst iy;have C0:=h.rg n e he;rw[aN] at C0;have C1: ∀b',au (G n)=some b'->b'=b:=λb' bM=>by rw[hG] at bM;simp[au] at bM;exact bM.symm
     have lO:b<w.heap.size:=(zal.1 hb).1;obtain⟨F',f1,f2,f3,f4,f5⟩:=h.xp (o1:= .map kt get c true) he (by rw[aN];rfl) (λb' bM=>by simp[aD] at bM) (λb' bM=>by rw[C1 b' bM];exact lO) (λb' bM=>by
      have:=C1 b' bM;subst this;rw[aN];cases fz with
      |false=>right;simp[aD,bM]
      |true=>left;obtain⟨b2,EW,B7,B8,_,_,DX⟩:=C0;rw[hG] at B8;simp at B8;subst B8;exact DX rfl)
      ⟨b,es,clock,hG,hb,hM.mono (λ_ h=> .inl h) (λ_ _=>rfl),λ_=> .inr (by rw[hG];rfl)⟩
     have DY:F' b:=f4 b (by rw[hG];rfl);have bH: ∀b',b'<w.heap.size->(w.alloc (.mapIter (some b) clock #[] clock)).heap[b']?=w.heap[b']?:=λb' bM=>heap_alloc_old w _ b' bM;obtain⟨b1,b2,b3,b4⟩:=eE f1 hn (g1:= .pointer (some ⟨w.heap.size,0,none⟩)) (w':=w.alloc (.mapIter (some b) clock #[] clock)) bH (by simp) rfl rfl rfl (λb' bM=>by simp[aD,au] at bM;omega)
      ⟨w.heap.size,some b,clock, #[],clock,ax _ _ _,heap_alloc_new w _,.inr ⟨b,es,rfl,DY,(bH b lO).trans hb,rfl,hM.iter.mono f5 (λb' bM=>bH b' (h.fL b' bM)),λk v hc=>by cases hc⟩⟩
     obtain⟨c1,c2⟩:=a7 b1 hs (v:= .pointer (some ⟨w.heap.size,0,none⟩)) (bj.of (.ref (site dst) yU 0 _ ⟨_,b4,zag _,λ_ _=>⟨w.heap.size,ax _ _ _,rfl⟩⟩ rfl));refine⟨.pointer (some ⟨w.heap.size,0,none⟩),_,F',_,?_,c1,?_⟩
     ·simp[Instr.range,run_underlying dW,MapKept.run_getObj_map hb]
     rw[c2];exact f2.trans b2
    cases hs
   cases hs
  cases hs
 next kt vt mR=>
  have dW:=bZ mR;split at hs
  next s1 yU hn=>
   have r7:v= .map none:=hv.aV (p:= .d .jg) rfl;subst r7;have bH: ∀b',b'<w.heap.size->(w.alloc (.mapIter none 0 #[] 0)).heap[b']?=w.heap[b']?:=λb' bM=>heap_alloc_old w _ b' bM;obtain⟨b1,b2,b3,b4⟩:=eE h hn (g1:= .pointer (some ⟨w.heap.size,0,none⟩)) (w':=w.alloc (.mapIter none 0 #[] 0)) bH (by simp) rfl rfl rfl (λb' bM=>by simp[aD,au] at bM;omega)
    ⟨w.heap.size,none,0, #[],0,ax _ _ _,heap_alloc_new w _,.inl ⟨rfl,λ_=>rfl,rfl⟩⟩
   obtain⟨c1,c2⟩:=a7 b1 hs (v:= .pointer (some ⟨w.heap.size,0,none⟩)) (bj.of (.ref (site dst) yU 0 _ ⟨_,b4,zag _,λ_ _=>⟨w.heap.size,ax _ _ _,rfl⟩⟩ rfl));refine⟨.pointer (some ⟨w.heap.size,0,none⟩),_,F,_,?_,c1,?_⟩
   ·simp[Instr.range,run_underlying dW]
   rw[c2];exact b2
  cases hs
 cases hs
theorem xq{k k':D}(get:D->Option D)(h:k≠k'):uw k get k'=get k':=by
 unfold uw;cases hb:D.iH k k' with
 |false=>rfl
 |true=>exact absurd ((D.dB k k').1 hb) h
theorem tu(k:D)(get:D->Option D):uw k get k=none:=by unfold uw;rw[(D.dB k k).2 rfl];rfl
theorem mN.next{kt:TypeId}{left:D->Option D}{es:List MapEntry}{clock:Nat}{seen:Array Nat}(h:mN Q F w kt left es clock seen){e:MapEntry}(he:e∈es)(hs:seen.contains e.born=false):
  ∃k v,left k=some v/\k.aV=some e.key/\ay F w e.val v/\mN Q F w kt (uw k left) es clock (seen.push e.born):=by
 obtain⟨ks,h1,h3,h4,h5,h6,h7⟩:=h;obtain⟨i,hi⟩:=zar he;have vF:i<ks.length:=by have:=(zaa.1 hi).1;omega
 obtain⟨⟨k,v⟩,hp⟩: ∃p,ks[i]?=some p:=⟨ks[i],zab vF⟩
 obtain⟨a1,a2,a3⟩:=h3 i _ e hp hi;refine⟨k,v,(h7 k v).2 ⟨i,e,hp,hi,hs⟩,a2,a3,ks,h1,h3,h4,h5,h6,λk' v'=> ?_⟩;have born: ∀j e',es[j]?=some e'->e'.born=e.born->j=i:=λj e' hj hb=>by
  have hn:=za8.1 h6;obtain⟨l1,e1⟩:=zaa.1 hi;obtain⟨l2,e2⟩:=zaa.1 hj;refine zb6 λbz=> ?_;rcases zbp bz with bm |bm
  ·exact hn j i (by simpa using l2) (by simpa using l1) bm (by simp[e1,e2,hb])
  exact hn i j (by simpa using l1) (by simpa using l2) bm (by simp[e1,e2,hb])
 by_cases hk:k=k'
 ·subst hk;rw[tu];constructor
  ·intro h;cases h
  rintro⟨j,e',hj,xn,hc⟩;have:=nG h4 hp hj rfl;subst this;rw[hi] at xn;cases xn;simp at hc
 rw[xq _ hk,h7];constructor
 ·rintro⟨j,e',hj,xn,hc⟩;refine⟨j,e',hj,xn,?_⟩;have bz:e'.born≠e.born:=λhb=>by have:=born j e' xn hb;subst this;rw[hp] at hj;cases hj;exact hk rfl
  simp at hc⊢;exact⟨hc,bz⟩
 rintro⟨j,e',hj,xn,hc⟩;refine⟨j,e',hj,xn,?_⟩;simp at hc⊢;exact hc.1
theorem mN.over{kt:TypeId}{left:D->Option D}{es:List MapEntry}{clock:Nat}{seen:Array Nat}(h:mN Q F w kt left es clock seen)(hs: ∀e∈es,seen.contains e.born=true): ∀k,left k=none:=by
 obtain⟨ks,h1,h3,h4,h5,h6,h7⟩:=h;intro k;cases hk:left k with
 |none=>rfl
 |some v=>obtain⟨i,e,_,hi,hc⟩:=(h7 k v).1 hk;rw[hs e (zao hi)] at hc;cases hc
end
end Pi
