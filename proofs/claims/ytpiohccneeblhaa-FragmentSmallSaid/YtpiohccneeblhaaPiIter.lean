/- The text PiIter. -/
import Derived.Test.YtpiohccneeblhaaPiMapW
namespace Pi
open Go
section
variable{Q:Program}{T:Tg}{F:Nat->Prop}{G:Nat->Value}{w:World}{a:Act}{s:S}
theorem aq.EY(h:aq Q T F G w a s){n:Nat}{e:En}{o1:Obj}(he:lk s.rg n=some e)(Cm:e.obj.live=true)(zb: ∀b,¬ay (G n) o1 b)
  (tP: ∀b,aj (G n)=some b->b<w.heap.size) (cA: ∀b,aj (G n)=some b->F b\/ay (G n) e.obj b)
  (hO:eO Q (λb=>F b\/aj (G n)=some b) w G (ins n ⟨e.az,e.tag,o1⟩ s.rg) n o1):
  ∃F',aq Q T F' G w a (s.setObj n o1)/\Ext (Own G s.rg) (Own G (s.setObj n o1).rg) F F' w w/\Names G G s.rg (s.setObj n o1).rg/\(∀b,aj (G n)=some b->F' b)/\(∀b,F b->F' b):=by
 rw[S.a8 he];have hn:Names G G s.rg (ins n ⟨e.az,e.tag,o1⟩ s.rg):=by have:=cI (G:=G) (g1:=G n) (R:=s.rg) (n:=n) (e1:=⟨e.az,e.tag,o1⟩) (λe' bb=>by rw[he] at bb;cases bb;exact .inr ⟨rfl,λ_=>⟨Cm,rfl⟩⟩);rwa [aK] at this
 have jZ: ∀m e1,lk (ins n ⟨e.az,e.tag,o1⟩ s.rg) m=some e1->(m=n/\e1=⟨e.az,e.tag,o1⟩)\/(n≠m/\lk s.rg m=some e1):=λm e1 h1=>by
  by_cases hm:n=m
  ·subst hm;rw[aH] at h1;cases h1;exact .inl ⟨rfl,rfl⟩
  rw[aV _ _ hm] at h1;exact .inr ⟨hm,h1⟩
 refine⟨λb=>F b\/aj (G n)=some b,⟨h.mf.uR (λb hb=>hb.elim .inl λhb=>(cA b hb).imp id λh2=>⟨n,e,he,h2⟩) (λb hb=>by
  obtain⟨m,e1,h1,h2⟩:=hb;rcases jZ m e1 h1 with⟨rfl,rfl⟩| ⟨_,h1⟩
  ·exact absurd h2 (zb b)
  exact⟨m,e1,h1,h2⟩),h.size,λt p hp=>(h.tm t p hp).mono (λ_ h=> .inl h) (λ_ _=>rfl) hn,?_,?_,?_,?_,?_,λb hb=>⟨.inl (h.z b hb).1,(h.z b hb).2⟩,h.dr,h.sz⟩,?_,hn,λb hb=> .inr hb,λb hb=> .inl hb⟩
 ·intro m e1 h1;rcases jZ m e1 h1 with⟨rfl,rfl⟩| ⟨hm,h1⟩
  ·exact hO
  exact(h.rg m e1 h1).mono (λ_ h=> .inl h) (λ_ _=>rfl) hn rfl (λ_ _=>rfl)
 ·intro m1 m2 e1 e2 b h1 h2 nf jT;rcases jZ m1 e1 h1 with⟨rfl,rfl⟩| ⟨Ah,Iu⟩
  ·exact absurd nf (zb b)
  rcases jZ m2 e2 h2 with⟨rfl,rfl⟩| ⟨Ai,JF⟩
  ·exact absurd jT (zb b)
  exact h.own _ _ _ _ b Iu JF nf jT
 ·intro m e1 b h1 hb rA;rcases jZ m e1 h1 with⟨rfl,rfl⟩| ⟨hm,h1⟩
  ·exact absurd hb (zb b)
  rcases rA with rA |rA
  ·exact h.gG m e1 b h1 hb rA
  rcases cA b rA with h2 |h2
  ·exact h.gG m e1 b h1 hb h2
  exact hm (h.own _ _ _ _ b he h1 h2 hb)
 ·intro b hb;rcases hb with hb |hb
  ·exact h.fw b hb
  exact tP b hb
 ·intro m e1 i h1 hi hl;rcases jZ m e1 h1 with⟨rfl,rfl⟩| ⟨hm,h1⟩
  ·exact h.tag _ e i he hi Cm
  exact h.tag m e1 i h1 hi hl
 refine⟨λ_ h=> .inl h,?_,?_,λ_ _ _=>rfl,zae _,rfl,rfl,rfl⟩
 ·intro b hb;rcases hb with hb |hb
  ·exact .inl hb
  rcases cA b hb with h2 |h2
  ·exact .inl h2
  exact .inr (.inl ⟨n,e,he,h2⟩)
 rintro b ⟨m,e1,h1,hb⟩;rcases jZ m e1 h1 with⟨rfl,rfl⟩| ⟨hm,h1⟩
 ·exact absurd hb (zb b)
 exact .inl ⟨m,e1,h1,hb⟩
theorem Au(h:aq Q T F G w a s){dst:Option Nat}{t:TypeId}{p:P}{s':S}{v:Value}(hs:lM Q s dst t p=some s')(hv:ao F w G s.rg v p):
  ∃r w' F' G',(Instr.range t v).run Q w= .ok r w'/\aq Q T F' G' w' (a.put dst r) s'/\Ext (Own G s.rg) (Own G' s'.rg) F F' w w':=by
 unfold lM at hs;split at hs
 next kt vt n az ru=>
  have gf:=dp ru;split at hs
  next jY get c fz ho=>
   split at hs
   ·rename_i nI;have nI:=zab nI;subst nI;split at hs
    ·rename_i s1 Hj hn;obtain⟨e,he,bN,aP,lF,b,es,clock,hG,hb,hM⟩:=vB h hv ho;rw[hG] at lF;subst lF;have Ov:=h.rg n e he;rw[aP] at Ov;have oN: ∀b',aj (G n)=some b'->b'=b:=λb' cb=>by rw[hG] at cb;simp[aj] at cb;exact cb.symm
     have tP:b<w.heap.size:=(zap.1 hb).1;obtain⟨F',f1,f2,f3,f4,f5⟩:=h.EY (o1:= .map kt get c true) he (by rw[aP];rfl) (λb' cb=>by simp[ay] at cb) (λb' cb=>by rw[oN b' cb];exact tP) (λb' cb=>by
      have:=oN b' cb;subst this;rw[aP];cases fz with
      |false=>right;simp[ay,cb]
      |true=>left;obtain⟨b2,Bu,Mz,MA,_,_,Pv⟩:=Ov;rw[hG] at MA;simp at MA;subst MA;exact Pv rfl)
      ⟨b,es,clock,hG,hb,hM.mono (λ_ h=> .inl h) (λ_ _=>rfl),λ_=> .inr (by rw[hG];rfl)⟩
     have Pw:F' b:=f4 b (by rw[hG];rfl);have bY: ∀b',b'<w.heap.size->(w.alloc (.mapIter (some b) clock #[] clock)).heap[b']?=w.heap[b']?:=λb' cb=>heap_alloc_old w _ b' cb;obtain⟨b1,b2,b3,b4⟩:=gP f1 hn (g1:= .pointer (some ⟨w.heap.size,0,none⟩)) (w':=w.alloc (.mapIter (some b) clock #[] clock)) bY (by simp) rfl rfl rfl (λb' cb=>by simp[ay,aj] at cb;omega)
      ⟨w.heap.size,some b,clock, #[],clock,aC _ _ _,heap_alloc_new w _,.inr ⟨b,es,rfl,Pw,(bY b tP).trans hb,rfl,hM.iter.mono f5 (λb' cb=>bY b' (h.fw b' cb)),λk v hc=>by cases hc⟩⟩
     obtain⟨c1,c2⟩:=bc b1 hs (v:= .pointer (some ⟨w.heap.size,0,none⟩)) (bt.of (.ref (site dst) Hj 0 _ ⟨_,b4,zae _,λ_ _=>⟨w.heap.size,aC _ _ _,rfl⟩⟩ rfl));refine⟨.pointer (some ⟨w.heap.size,0,none⟩),_,F',_,?_,c1,?_⟩
     ·simp[Instr.range,run_underlying gf,MapKept.run_getObj_map hb]
     rw[c2];exact f2.trans b2
    cases hs
   cases hs
  cases hs
 next kt vt ru=>
  have gf:=dp ru;split at hs
  next s1 Hj hn=>
   have B7:v= .map none:=hv.br (p:= .d .mh) rfl;subst B7;have bY: ∀b',b'<w.heap.size->(w.alloc (.mapIter none 0 #[] 0)).heap[b']?=w.heap[b']?:=λb' cb=>heap_alloc_old w _ b' cb;obtain⟨b1,b2,b3,b4⟩:=gP h hn (g1:= .pointer (some ⟨w.heap.size,0,none⟩)) (w':=w.alloc (.mapIter none 0 #[] 0)) bY (by simp) rfl rfl rfl (λb' cb=>by simp[ay,aj] at cb;omega)
    ⟨w.heap.size,none,0, #[],0,aC _ _ _,heap_alloc_new w _,.inl ⟨rfl,λ_=>rfl,rfl⟩⟩
   obtain⟨c1,c2⟩:=bc b1 hs (v:= .pointer (some ⟨w.heap.size,0,none⟩)) (bt.of (.ref (site dst) Hj 0 _ ⟨_,b4,zae _,λ_ _=>⟨w.heap.size,aC _ _ _,rfl⟩⟩ rfl));refine⟨.pointer (some ⟨w.heap.size,0,none⟩),_,F,_,?_,c1,?_⟩
   ·simp[Instr.range,run_underlying gf]
   rw[c2];exact b2
  cases hs
 cases hs
theorem EZ{k k':D}(get:D->Option D)(h:k≠k'):vd k get k'=get k':=by
 unfold vd;cases hb:D.cP k k' with
 |false=>rfl
 |true=>exact absurd ((D.aY k k').1 hb) h
theorem Av(k:D)(get:D->Option D):vd k get k=none:=by unfold vd;rw[(D.aY k k).2 rfl];rfl
theorem rk.next{kt:TypeId}{left:D->Option D}{es:List MapEntry}{clock:Nat}{seen:Array Nat}(h:rk Q F w kt left es clock seen){e:MapEntry}(he:e∈es)(hs:seen.contains e.born=false):
  ∃k v,left k=some v/\k.br=some e.key/\aA F w e.val v/\rk Q F w kt (vd k left) es clock (seen.push e.born):=by
 obtain⟨ks,h1,h3,h4,h5,h6,h7⟩:=h;obtain⟨i,hi⟩:=zao he;have il:i<ks.length:=by have:=(zaa.1 hi).1;omega
 obtain⟨⟨k,v⟩,hp⟩: ∃p,ks[i]?=some p:=⟨ks[i],zac il⟩
 obtain⟨a1,a2,a3⟩:=h3 i _ e hp hi;refine⟨k,v,(h7 k v).2 ⟨i,e,hp,hi,hs⟩,a2,a3,ks,h1,h3,h4,h5,h6,λk' v'=> ?_⟩;have born: ∀j e',es[j]?=some e'->e'.born=e.born->j=i:=λj e' hj hb=>by
  have hn:=zbz.1 h6;obtain⟨l1,e1⟩:=zaa.1 hi;obtain⟨l2,e2⟩:=zaa.1 hj;refine zcw λca=> ?_;rcases zbC ca with bj |bj
  ·exact hn j i (by simpa using l2) (by simpa using l1) bj (by simp[e1,e2,hb])
  exact hn i j (by simpa using l1) (by simpa using l2) bj (by simp[e1,e2,hb])
 by_cases hk:k=k'
 ·subst hk;rw[Av];constructor
  ·intro h;cases h
  rintro⟨j,e',hj,EX,hc⟩;have:=su h4 hp hj rfl;subst this;rw[hi] at EX;cases EX;simp at hc
 rw[EZ _ hk,h7];constructor
 ·rintro⟨j,e',hj,EX,hc⟩;refine⟨j,e',hj,EX,?_⟩;have ca:e'.born≠e.born:=λhb=>by have:=born j e' EX hb;subst this;rw[hp] at hj;cases hj;exact hk rfl
  simp at hc⊢;exact⟨hc,ca⟩
 rintro⟨j,e',hj,EX,hc⟩;refine⟨j,e',hj,EX,?_⟩;simp at hc⊢;exact hc.1
theorem rk.over{kt:TypeId}{left:D->Option D}{es:List MapEntry}{clock:Nat}{seen:Array Nat}(h:rk Q F w kt left es clock seen)(hs: ∀e∈es,seen.contains e.born=true): ∀k,left k=none:=by
 obtain⟨ks,h1,h3,h4,h5,h6,h7⟩:=h;intro k;cases hk:left k with
 |none=>rfl
 |some v=>obtain⟨i,e,_,hi,hc⟩:=(h7 k v).1 hk;rw[hs e (zak hi)] at hc;cases hc
end
end Pi
