/- The text PiIter. -/
import Derived.Test.YtngoddkencoalaaGreatDoorPiMapW
namespace Pi
open Go
section
variable{Q:Program}{T:Tg}{F:Nat->Prop}{G:Nat->Value}{w:World}{a:Act}{s:S}
theorem aG.WZ(h:aG Q T F G w a s){n:Nat}{e:En}{o1:Obj}(he:lk s.rg n=some e)(WO:e.obj.live=true)(ho1: ∀b,bL (G n) o1≠some b)
  (wO: ∀b,aR (G n)=some b->b<w.heap.size) (gb: ∀b,aR (G n)=some b->F b\/bL (G n) e.obj=some b)
  (hO:o6 Q (λb=>F b\/aR (G n)=some b) w G (ins n ⟨e.aZ,e.tag,o1⟩ s.rg) n o1):
  ∃F',aG Q T F' G w a (s.setObj n o1)/\Ext (Own G s.rg) (Own G (s.setObj n o1).rg) F F' w w/\Names G G s.rg (s.setObj n o1).rg/\(∀b,aR (G n)=some b->F' b)/\(∀b,F b->F' b):=by
 rw[S.ft he];have hn:Names G G s.rg (ins n ⟨e.aZ,e.tag,o1⟩ s.rg):=by have:=gN (G:=G) (g1:=G n) (R:=s.rg) (n:=n) (e1:=⟨e.aZ,e.tag,o1⟩) (λe' cR=>by rw[he] at cR;cases cR;exact .inr ⟨rfl,λ_=>⟨WO,rfl⟩⟩);rwa [cb] at this
 have pj: ∀m e1,lk (ins n ⟨e.aZ,e.tag,o1⟩ s.rg) m=some e1->(m=n/\e1=⟨e.aZ,e.tag,o1⟩)\/(n≠m/\lk s.rg m=some e1):=λm e1 h1=>by
  by_cases hm:n=m
  ·subst hm;rw[bF] at h1;cases h1;exact .inl ⟨rfl,rfl⟩
  rw[b9 _ _ hm] at h1;exact .inr ⟨hm,h1⟩
 refine⟨λb=>F b\/aR (G n)=some b,⟨h.r9.EB (λb hb=>hb.elim .inl λhb=>(gb b hb).imp id λh2=>⟨n,e,he,h2⟩) (λb hb=>by
  obtain⟨m,e1,h1,h2⟩:=hb;rcases pj m e1 h1 with⟨rfl,rfl⟩| ⟨_,h1⟩
  ·exact absurd h2 (ho1 b)
  exact⟨m,e1,h1,h2⟩),h.size,λt p hp=>(h.tm t p hp).mono (λ_ h=> .inl h) (λ_ _=>rfl) hn,?_,?_,?_,?_,?_,λb hb=>⟨.inl (h.z b hb).1,(h.z b hb).2⟩,h.dr,h.sz⟩,?_,hn,λb hb=> .inr hb,λb hb=> .inl hb⟩
 ·intro m e1 h1;rcases pj m e1 h1 with⟨rfl,rfl⟩| ⟨hm,h1⟩
  ·exact hO
  exact(h.rg m e1 h1).mono (λ_ h=> .inl h) (λ_ _=>rfl) hn rfl (λ_ _=>rfl)
 ·intro m1 m2 e1 e2 b h1 h2 jX cm;rcases pj m1 e1 h1 with⟨rfl,rfl⟩| ⟨ML,O1⟩
  ·exact absurd jX (ho1 b)
  rcases pj m2 e2 h2 with⟨rfl,rfl⟩| ⟨Fl,h2'⟩
  ·exact absurd cm (ho1 b)
  exact h.own _ _ _ _ b O1 h2' jX cm
 ·intro m e1 b h1 hb AB;rcases pj m e1 h1 with⟨rfl,rfl⟩| ⟨hm,h1⟩
  ·exact absurd hb (ho1 b)
  rcases AB with AB |AB
  ·exact h.mU m e1 b h1 hb AB
  rcases gb b AB with h2 |h2
  ·exact h.mU m e1 b h1 hb h2
  exact hm (h.own _ _ _ _ b he h1 h2 hb)
 ·intro b hb;rcases hb with hb |hb
  ·exact h.jz b hb
  exact wO b hb
 ·intro m e1 i h1 hi hl;rcases pj m e1 h1 with⟨rfl,rfl⟩| ⟨hm,h1⟩
  ·exact h.tag _ e i he hi WO
  exact h.tag m e1 i h1 hi hl
 refine⟨λ_ h=> .inl h,?_,?_,λ_ _ _=>rfl,zak _,rfl,rfl,rfl⟩
 ·intro b hb;rcases hb with hb |hb
  ·exact .inl hb
  rcases gb b hb with h2 |h2
  ·exact .inl h2
  exact .inr (.inl ⟨n,e,he,h2⟩)
 rintro b ⟨m,e1,h1,hb⟩;rcases pj m e1 h1 with⟨rfl,rfl⟩| ⟨hm,h1⟩
 ·exact absurd hb (ho1 b)
 exact .inl ⟨m,e1,h1,hb⟩
theorem MV(h:aG Q T F G w a s){dst:Option Nat}{t:TypeId}{p:P}{s':S}{v:Value}(hs:r6 Q s dst t p=some s')(hv:aH F w G s.rg v p):
  ∃r w' F' G',(Instr.range t v).run Q w= .ok r w'/\aG Q T F' G' w' (a.put dst r) s'/\Ext (Own G s.rg) (Own G' s'.rg) F F' w w':=by
 unfold r6 at hs;split at hs
 next kt vt n aZ zZ=>
  have oQ:=iW zZ;split at hs
  next Au get c fz ho=>
   split at hs
   ·rename_i EC;have EC:=zaf EC;subst EC;split at hs
    ·rename_i s1 qcu hn;obtain⟨e,he,dY,ca,Bv,b,es,clock,hG,hb,hM⟩:=Fc h hv ho;rw[hG] at Bv;subst Bv;have hO0:=h.rg n e he;rw[ca] at hO0;have hbb: ∀b',aR (G n)=some b'->b'=b:=λb' du=>by rw[hG] at du;simp[aR] at du;exact du.symm
     have wO:b<w.heap.size:=(zar.1 hb).1;obtain⟨F',f1,f2,f3,f4,f5⟩:=h.WZ (o1:= .map kt get c true) he (by rw[ca];rfl) (λb' du=>by simp[bL] at du) (λb' du=>by rw[hbb b' du];exact wO) (λb' du=>by
      have:=hbb b' du;subst this;rw[ca];cases fz with
      |false=>right;simp[bL,du]
      |true=>left;obtain⟨b2,es2,qiS,hg2,_,_,hf2⟩:=hO0;rw[hG] at hg2;simp at hg2;subst hg2;exact hf2 rfl)
      ⟨b,es,clock,hG,hb,hM.mono (λ_ h=> .inl h) (λ_ _=>rfl),λ_=> .inr (by rw[hG];rfl)⟩
     have hFb:F' b:=f4 b (by rw[hG];rfl);have eP: ∀b',b'<w.heap.size->(w.alloc (.mapIter (some b) clock #[] clock)).heap[b']?=w.heap[b']?:=λb' du=>heap_alloc_old w _ b' du;obtain⟨b1,b2,b3,b4⟩:=mJ f1 hn (g1:= .pointer (some ⟨w.heap.size,0,none⟩)) (w':=w.alloc (.mapIter (some b) clock #[] clock)) eP (by simp) rfl rfl rfl (λb' du=>by simp[bL,aR] at du;omega)
      ⟨w.heap.size,some b,clock, #[],clock,bf _ _ _,heap_alloc_new w _,.inr ⟨b,es,rfl,hFb,(eP b wO).trans hb,rfl,hM.iter.mono f5 (λb' du=>eP b' (h.jz b' du)),λk v hc=>by cases hc⟩⟩
     obtain⟨c1,c2⟩:=cD b1 hs (v:= .pointer (some ⟨w.heap.size,0,none⟩)) (cB.of (.ref (site dst) qcu 0 _ ⟨_,b4,zak _,λ_ _=>⟨w.heap.size,bf _ _ _,rfl⟩⟩ rfl));refine⟨.pointer (some ⟨w.heap.size,0,none⟩),_,F',_,?_,c1,?_⟩
     ·simp[Instr.range,run_underlying oQ,MapKept.run_getObj_map hb]
     rw[c2];exact f2.trans b2
    cases hs
   cases hs
  cases hs
 next kt vt zZ=>
  have oQ:=iW zZ;split at hs
  next s1 qcu hn=>
   have KK:v= .map none:=hv.cG (p:= .d .tf) rfl;subst KK;have eP: ∀b',b'<w.heap.size->(w.alloc (.mapIter none 0 #[] 0)).heap[b']?=w.heap[b']?:=λb' du=>heap_alloc_old w _ b' du;obtain⟨b1,b2,b3,b4⟩:=mJ h hn (g1:= .pointer (some ⟨w.heap.size,0,none⟩)) (w':=w.alloc (.mapIter none 0 #[] 0)) eP (by simp) rfl rfl rfl (λb' du=>by simp[bL,aR] at du;omega)
    ⟨w.heap.size,none,0, #[],0,bf _ _ _,heap_alloc_new w _,.inl ⟨rfl,λ_=>rfl,rfl⟩⟩
   obtain⟨c1,c2⟩:=cD b1 hs (v:= .pointer (some ⟨w.heap.size,0,none⟩)) (cB.of (.ref (site dst) qcu 0 _ ⟨_,b4,zak _,λ_ _=>⟨w.heap.size,bf _ _ _,rfl⟩⟩ rfl));refine⟨.pointer (some ⟨w.heap.size,0,none⟩),_,F,_,?_,c1,?_⟩
   ·simp[Instr.range,run_underlying oQ]
   rw[c2];exact b2
  cases hs
 cases hs
theorem W2{k k':D}(get:D->Option D)(h:k≠k'):EY k get k'=get k':=by
 unfold EY;cases hb:D.oO k k' with
 |false=>rfl
 |true=>exact absurd ((D.hQ k k').1 hb) h
theorem MW(k:D)(get:D->Option D):EY k get k=none:=by unfold EY;rw[(D.hQ k k).2 rfl];rfl
theorem Av.next{kt:TypeId}{left:D->Option D}{es:List MapEntry}{clock:Nat}{seen:Array Nat}(h:Av Q F w kt left es clock seen){e:MapEntry}(he:e∈es)(hs:seen.contains e.born=false):
  ∃k v,left k=some v/\k.cG=some e.key/\bc F w e.val v/\Av Q F w kt (EY k left) es clock (seen.push e.born):=by
 obtain⟨ks,h1,h3,h4,h5,h6,h7⟩:=h;obtain⟨i,hi⟩:=zaQ he;have bR:i<ks.length:=by have:=(zad.1 hi).1;omega
 obtain⟨⟨k,v⟩,hp⟩: ∃p,ks[i]?=some p:=⟨ks[i],zae bR⟩
 obtain⟨a1,a2,a3⟩:=h3 i _ e hp hi;refine⟨k,v,(h7 k v).2 ⟨i,e,hp,hi,hs⟩,a2,a3,ks,h1,h3,h4,h5,h6,λk' v'=> ?_⟩;have born: ∀j e',es[j]?=some e'->e'.born=e.born->j=i:=λj e' hj hb=>by
  have hn:=zbj.1 h6;obtain⟨l1,e1⟩:=zad.1 hi;obtain⟨l2,e2⟩:=zad.1 hj;refine zaM λdP=> ?_;rcases zcm dP with bG |bG
  ·exact hn j i (by simpa using l2) (by simpa using l1) bG (by simp[e1,e2,hb])
  exact hn i j (by simpa using l1) (by simpa using l2) bG (by simp[e1,e2,hb])
 by_cases hk:k=k'
 ·subst hk;rw[MW];constructor
  ·intro h;cases h
  rintro⟨j,e',hj,WX,hc⟩;have:=BA h4 hp hj rfl;subst this;rw[hi] at WX;cases WX;simp at hc
 rw[W2 _ hk,h7];constructor
 ·rintro⟨j,e',hj,WX,hc⟩;refine⟨j,e',hj,WX,?_⟩;have dP:e'.born≠e.born:=λhb=>by have:=born j e' WX hb;subst this;rw[hp] at hj;cases hj;exact hk rfl
  simp at hc⊢;exact⟨hc,dP⟩
 rintro⟨j,e',hj,WX,hc⟩;refine⟨j,e',hj,WX,?_⟩;simp at hc⊢;exact hc.1
theorem Av.over{kt:TypeId}{left:D->Option D}{es:List MapEntry}{clock:Nat}{seen:Array Nat}(h:Av Q F w kt left es clock seen)(hs: ∀e∈es,seen.contains e.born=true): ∀k,left k=none:=by
 obtain⟨ks,h1,h3,h4,h5,h6,h7⟩:=h;intro k;cases hk:left k with
 |none=>rfl
 |some v=>obtain⟨i,e,_,hi,hc⟩:=(h7 k v).1 hk;rw[hs e (zaC hi)] at hc;cases hc
end
end Pi
