/- The text PiIter. -/
import Derived.Test.YtngoddkencoalaaGreatDoorPiMapW
namespace Pi
open Go
section
variable{Q:Program}{T:Tg}{F:Nat->Prop}{G:Nat->Value}{w:World}{a:Act}{s:S}
theorem aD.Wh(h:aD Q T F G w a s){n:Nat}{e:En}{o1:Obj}(he:lk s.rg n=some e)(V5:e.obj.live=true)(ho1: ∀b,bH (G n) o1≠some b)
  (vM: ∀b,aR (G n)=some b->b<w.heap.size) (fT: ∀b,aR (G n)=some b->F b\/bH (G n) e.obj=some b)
  (hO:oB Q (λb=>F b\/aR (G n)=some b) w G (ins n ⟨e.aY,e.tag,o1⟩ s.rg) n o1):
  ∃F',aD Q T F' G w a (s.setObj n o1)/\Ext (Own G s.rg) (Own G (s.setObj n o1).rg) F F' w w/\Names G G s.rg (s.setObj n o1).rg/\(∀b,aR (G n)=some b->F' b)/\(∀b,F b->F' b):=by
 rw[S.fj he];have hn:Names G G s.rg (ins n ⟨e.aY,e.tag,o1⟩ s.rg):=by have:=gG (G:=G) (g1:=G n) (R:=s.rg) (n:=n) (e1:=⟨e.aY,e.tag,o1⟩) (λe' cK=>by rw[he] at cK;cases cK;exact .inr ⟨rfl,λ_=>⟨V5,rfl⟩⟩);rwa [bW] at this
 have oM: ∀m e1,lk (ins n ⟨e.aY,e.tag,o1⟩ s.rg) m=some e1->(m=n/\e1=⟨e.aY,e.tag,o1⟩)\/(n≠m/\lk s.rg m=some e1):=λm e1 h1=>by
  by_cases hm:n=m
  ·subst hm;rw[bC] at h1;cases h1;exact .inl ⟨rfl,rfl⟩
  rw[bU _ _ hm] at h1;exact .inr ⟨hm,h1⟩
 refine⟨λb=>F b\/aR (G n)=some b,⟨h.rp.DV (λb hb=>hb.elim .inl λhb=>(fT b hb).imp id λh2=>⟨n,e,he,h2⟩) (λb hb=>by
  obtain⟨m,e1,h1,h2⟩:=hb;rcases oM m e1 h1 with⟨rfl,rfl⟩| ⟨_,h1⟩
  ·exact absurd h2 (ho1 b)
  exact⟨m,e1,h1,h2⟩),h.size,λt p hp=>(h.tm t p hp).mono (λ_ h=> .inl h) (λ_ _=>rfl) hn,?_,?_,?_,?_,?_,λb hb=>⟨.inl (h.z b hb).1,(h.z b hb).2⟩,h.dr,h.sz⟩,?_,hn,λb hb=> .inr hb,λb hb=> .inl hb⟩
 ·intro m e1 h1;rcases oM m e1 h1 with⟨rfl,rfl⟩| ⟨hm,h1⟩
  ·exact hO
  exact(h.rg m e1 h1).mono (λ_ h=> .inl h) (λ_ _=>rfl) hn rfl (λ_ _=>rfl)
 ·intro m1 m2 e1 e2 b h1 h2 jL cr;rcases oM m1 e1 h1 with⟨rfl,rfl⟩| ⟨Mc,Oi⟩
  ·exact absurd jL (ho1 b)
  rcases oM m2 e2 h2 with⟨rfl,rfl⟩| ⟨EH,h2'⟩
  ·exact absurd cr (ho1 b)
  exact h.own _ _ _ _ b Oi h2' jL cr
 ·intro m e1 b h1 hb zR;rcases oM m e1 h1 with⟨rfl,rfl⟩| ⟨hm,h1⟩
  ·exact absurd hb (ho1 b)
  rcases zR with zR |zR
  ·exact h.my m e1 b h1 hb zR
  rcases fT b zR with h2 |h2
  ·exact h.my m e1 b h1 hb h2
  exact hm (h.own _ _ _ _ b he h1 h2 hb)
 ·intro b hb;rcases hb with hb |hb
  ·exact h.ji b hb
  exact vM b hb
 ·intro m e1 i h1 hi hl;rcases oM m e1 h1 with⟨rfl,rfl⟩| ⟨hm,h1⟩
  ·exact h.tag _ e i he hi V5
  exact h.tag m e1 i h1 hi hl
 refine⟨λ_ h=> .inl h,?_,?_,λ_ _ _=>rfl,zaj _,rfl,rfl,rfl⟩
 ·intro b hb;rcases hb with hb |hb
  ·exact .inl hb
  rcases fT b hb with h2 |h2
  ·exact .inl h2
  exact .inr (.inl ⟨n,e,he,h2⟩)
 rintro b ⟨m,e1,h1,hb⟩;rcases oM m e1 h1 with⟨rfl,rfl⟩| ⟨hm,h1⟩
 ·exact absurd hb (ho1 b)
 exact .inl ⟨m,e1,h1,hb⟩
theorem Ml(h:aD Q T F G w a s){dst:Option Nat}{t:TypeId}{p:P}{s':S}{v:Value}(hs:rk Q s dst t p=some s')(hv:aF F w G s.rg v p):
  ∃r w' F' G',(Instr.range t v).run Q w= .ok r w'/\aD Q T F' G' w' (a.put dst r) s'/\Ext (Own G s.rg) (Own G' s'.rg) F F' w w':=by
 unfold rk at hs;split at hs
 next kt vt n aY Cj=>
  have od:=iL Cj;split at hs
  next zK get c fz ho=>
   split at hs
   ·rename_i DW;have DW:=zaf DW;subst DW;split at hs
    ·rename_i s1 qbJ hn;obtain⟨e,he,dR,bV,AQ,b,es,clock,hG,hb,hM⟩:=EA h hv ho;rw[hG] at AQ;subst AQ;have hO0:=h.rg n e he;rw[bV] at hO0;have hbb: ∀b',aR (G n)=some b'->b'=b:=λb' dj=>by rw[hG] at dj;simp[aR] at dj;exact dj.symm
     have vM:b<w.heap.size:=(zar.1 hb).1;obtain⟨F',f1,f2,f3,f4,f5⟩:=h.Wh (o1:= .map kt get c true) he (by rw[bV];rfl) (λb' dj=>by simp[bH] at dj) (λb' dj=>by rw[hbb b' dj];exact vM) (λb' dj=>by
      have:=hbb b' dj;subst this;rw[bV];cases fz with
      |false=>right;simp[bH,dj]
      |true=>left;obtain⟨b2,es2,qhO,hg2,_,_,hf2⟩:=hO0;rw[hG] at hg2;simp at hg2;subst hg2;exact hf2 rfl)
      ⟨b,es,clock,hG,hb,hM.mono (λ_ h=> .inl h) (λ_ _=>rfl),λ_=> .inr (by rw[hG];rfl)⟩
     have hFb:F' b:=f4 b (by rw[hG];rfl);have eK: ∀b',b'<w.heap.size->(w.alloc (.mapIter (some b) clock #[] clock)).heap[b']?=w.heap[b']?:=λb' dj=>heap_alloc_old w _ b' dj;obtain⟨b1,b2,b3,b4⟩:=mc f1 hn (g1:= .pointer (some ⟨w.heap.size,0,none⟩)) (w':=w.alloc (.mapIter (some b) clock #[] clock)) eK (by simp) rfl rfl rfl (λb' dj=>by simp[bH,aR] at dj;omega)
      ⟨w.heap.size,some b,clock, #[],clock,bb _ _ _,heap_alloc_new w _,.inr ⟨b,es,rfl,hFb,(eK b vM).trans hb,rfl,hM.iter.mono f5 (λb' dj=>eK b' (h.ji b' dj)),λk v hc=>by cases hc⟩⟩
     obtain⟨c1,c2⟩:=cz b1 hs (v:= .pointer (some ⟨w.heap.size,0,none⟩)) (cx.of (.ref (site dst) qbJ 0 _ ⟨_,b4,zaj _,λ_ _=>⟨w.heap.size,bb _ _ _,rfl⟩⟩ rfl));refine⟨.pointer (some ⟨w.heap.size,0,none⟩),_,F',_,?_,c1,?_⟩
     ·simp[Instr.range,run_underlying od,MapKept.run_getObj_map hb]
     rw[c2];exact f2.trans b2
    cases hs
   cases hs
  cases hs
 next kt vt Cj=>
  have od:=iL Cj;split at hs
  next s1 qbJ hn=>
   have Kb:v= .map none:=hv.cA (p:= .d .sg) rfl;subst Kb;have eK: ∀b',b'<w.heap.size->(w.alloc (.mapIter none 0 #[] 0)).heap[b']?=w.heap[b']?:=λb' dj=>heap_alloc_old w _ b' dj;obtain⟨b1,b2,b3,b4⟩:=mc h hn (g1:= .pointer (some ⟨w.heap.size,0,none⟩)) (w':=w.alloc (.mapIter none 0 #[] 0)) eK (by simp) rfl rfl rfl (λb' dj=>by simp[bH,aR] at dj;omega)
    ⟨w.heap.size,none,0, #[],0,bb _ _ _,heap_alloc_new w _,.inl ⟨rfl,λ_=>rfl,rfl⟩⟩
   obtain⟨c1,c2⟩:=cz b1 hs (v:= .pointer (some ⟨w.heap.size,0,none⟩)) (cx.of (.ref (site dst) qbJ 0 _ ⟨_,b4,zaj _,λ_ _=>⟨w.heap.size,bb _ _ _,rfl⟩⟩ rfl));refine⟨.pointer (some ⟨w.heap.size,0,none⟩),_,F,_,?_,c1,?_⟩
   ·simp[Instr.range,run_underlying od]
   rw[c2];exact b2
  cases hs
 cases hs
theorem Wi{k k':D}(get:D->Option D)(h:k≠k'):Ej k get k'=get k':=by
 unfold Ej;cases hb:D.ob k k' with
 |false=>rfl
 |true=>exact absurd ((D.gV k k').1 hb) h
theorem Mm(k:D)(get:D->Option D):Ej k get k=none:=by unfold Ej;rw[(D.gV k k).2 rfl];rfl
theorem zL.next{kt:TypeId}{left:D->Option D}{es:List MapEntry}{clock:Nat}{seen:Array Nat}(h:zL Q F w kt left es clock seen){e:MapEntry}(he:e∈es)(hs:seen.contains e.born=false):
  ∃k v,left k=some v/\k.cA=some e.key/\a8 F w e.val v/\zL Q F w kt (Ej k left) es clock (seen.push e.born):=by
 obtain⟨ks,h1,h3,h4,h5,h6,h7⟩:=h;obtain⟨i,hi⟩:=zaS he;have bQ:i<ks.length:=by have:=(zad.1 hi).1;omega
 obtain⟨⟨k,v⟩,hp⟩: ∃p,ks[i]?=some p:=⟨ks[i],zae bQ⟩
 obtain⟨a1,a2,a3⟩:=h3 i _ e hp hi;refine⟨k,v,(h7 k v).2 ⟨i,e,hp,hi,hs⟩,a2,a3,ks,h1,h3,h4,h5,h6,λk' v'=> ?_⟩;have born: ∀j e',es[j]?=some e'->e'.born=e.born->j=i:=λj e' hj hb=>by
  have hn:=zbh.1 h6;obtain⟨l1,e1⟩:=zad.1 hi;obtain⟨l2,e2⟩:=zad.1 hj;refine zaN λdI=> ?_;rcases zci dI with bI |bI
  ·exact hn j i (by simpa using l2) (by simpa using l1) bI (by simp[e1,e2,hb])
  exact hn i j (by simpa using l1) (by simpa using l2) bI (by simp[e1,e2,hb])
 by_cases hk:k=k'
 ·subst hk;rw[Mm];constructor
  ·intro h;cases h
  rintro⟨j,e',hj,Wf,hc⟩;have:=AV h4 hp hj rfl;subst this;rw[hi] at Wf;cases Wf;simp at hc
 rw[Wi _ hk,h7];constructor
 ·rintro⟨j,e',hj,Wf,hc⟩;refine⟨j,e',hj,Wf,?_⟩;have dI:e'.born≠e.born:=λhb=>by have:=born j e' Wf hb;subst this;rw[hp] at hj;cases hj;exact hk rfl
  simp at hc⊢;exact⟨hc,dI⟩
 rintro⟨j,e',hj,Wf,hc⟩;refine⟨j,e',hj,Wf,?_⟩;simp at hc⊢;exact hc.1
theorem zL.over{kt:TypeId}{left:D->Option D}{es:List MapEntry}{clock:Nat}{seen:Array Nat}(h:zL Q F w kt left es clock seen)(hs: ∀e∈es,seen.contains e.born=true): ∀k,left k=none:=by
 obtain⟨ks,h1,h3,h4,h5,h6,h7⟩:=h;intro k;cases hk:left k with
 |none=>rfl
 |some v=>obtain⟨i,e,_,hi,hc⟩:=(h7 k v).1 hk;rw[hs e (zaC hi)] at hc;cases hc
end
end Pi
