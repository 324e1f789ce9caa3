/- The text PiIter. -/
import Derived.Test.YtpiohccneeblhaaPiMapW
namespace Pi
open Go
section
variable{Q:Program}{T:Tg}{F:Nat->Prop}{G:Nat->Value}{w:World}{a:Act}{s:S}
theorem aq.EH(h:aq Q T F G w a s){n:Nat}{e:En}{o1:Obj}(he:lk s.rg n=some e)(B6:e.obj.live=true)(yP: ∀b,¬ax (G n) o1 b)
  (tI: ∀b,aj (G n)=some b->b<w.heap.size) (cz: ∀b,aj (G n)=some b->F b\/ax (G n) e.obj b)
  (hO:eN Q (λb=>F b\/aj (G n)=some b) w G (ins n ⟨e.ay,e.tag,o1⟩ s.rg) n o1):
  ∃F',aq Q T F' G w a (s.setObj n o1)/\Ext (Own G s.rg) (Own G (s.setObj n o1).rg) F F' w w/\Names G G s.rg (s.setObj n o1).rg/\(∀b,aj (G n)=some b->F' b)/\(∀b,F b->F' b):=by
 rw[S.bb he];have hn:Names G G s.rg (ins n ⟨e.ay,e.tag,o1⟩ s.rg):=by have:=cI (G:=G) (g1:=G n) (R:=s.rg) (n:=n) (e1:=⟨e.ay,e.tag,o1⟩) (λe' bc=>by rw[he] at bc;cases bc;exact .inr ⟨rfl,λ_=>⟨B6,rfl⟩⟩);rwa [aJ] at this
 have jZ: ∀m e1,lk (ins n ⟨e.ay,e.tag,o1⟩ s.rg) m=some e1->(m=n/\e1=⟨e.ay,e.tag,o1⟩)\/(n≠m/\lk s.rg m=some e1):=λm e1 h1=>by
  by_cases hm:n=m
  ·subst hm;rw[aH] at h1;cases h1;exact .inl ⟨rfl,rfl⟩
  rw[aV _ _ hm] at h1;exact .inr ⟨hm,h1⟩
 refine⟨λb=>F b\/aj (G n)=some b,⟨h.ma.uJ (λb hb=>hb.elim .inl λhb=>(cz b hb).imp id λh2=>⟨n,e,he,h2⟩) (λb hb=>by
  obtain⟨m,e1,h1,h2⟩:=hb;rcases jZ m e1 h1 with⟨rfl,rfl⟩| ⟨_,h1⟩
  ·exact absurd h2 (yP b)
  exact⟨m,e1,h1,h2⟩),h.size,λt p hp=>(h.tm t p hp).mono (λ_ h=> .inl h) (λ_ _=>rfl) hn,?_,?_,?_,?_,?_,λb hb=>⟨.inl (h.z b hb).1,(h.z b hb).2⟩,h.dr,h.sz⟩,?_,hn,λb hb=> .inr hb,λb hb=> .inl hb⟩
 ·intro m e1 h1;rcases jZ m e1 h1 with⟨rfl,rfl⟩| ⟨hm,h1⟩
  ·exact hO
  exact(h.rg m e1 h1).mono (λ_ h=> .inl h) (λ_ _=>rfl) hn rfl (λ_ _=>rfl)
 ·intro m1 m2 e1 e2 b h1 h2 na jT;rcases jZ m1 e1 h1 with⟨rfl,rfl⟩| ⟨zV,Ia⟩
  ·exact absurd na (yP b)
  rcases jZ m2 e2 h2 with⟨rfl,rfl⟩| ⟨zW,Jb⟩
  ·exact absurd jT (yP b)
  exact h.own _ _ _ _ b Ia Jb na jT
 ·intro m e1 b h1 hb rr;rcases jZ m e1 h1 with⟨rfl,rfl⟩| ⟨hm,h1⟩
  ·exact absurd hb (yP b)
  rcases rr with rr |rr
  ·exact h.gG m e1 b h1 hb rr
  rcases cz b rr with h2 |h2
  ·exact h.gG m e1 b h1 hb h2
  exact hm (h.own _ _ _ _ b he h1 h2 hb)
 ·intro b hb;rcases hb with hb |hb
  ·exact h.fw b hb
  exact tI b hb
 ·intro m e1 i h1 hi hl;rcases jZ m e1 h1 with⟨rfl,rfl⟩| ⟨hm,h1⟩
  ·exact h.tag _ e i he hi B6
  exact h.tag m e1 i h1 hi hl
 refine⟨λ_ h=> .inl h,?_,?_,λ_ _ _=>rfl,zae _,rfl,rfl,rfl⟩
 ·intro b hb;rcases hb with hb |hb
  ·exact .inl hb
  rcases cz b hb with h2 |h2
  ·exact .inl h2
  exact .inr (.inl ⟨n,e,he,h2⟩)
 rintro b ⟨m,e1,h1,hb⟩;rcases jZ m e1 h1 with⟨rfl,rfl⟩| ⟨hm,h1⟩
 ·exact absurd hb (yP b)
 exact .inl ⟨m,e1,h1,hb⟩
theorem Ag(h:aq Q T F G w a s){dst:Option Nat}{t:TypeId}{p:P}{s':S}{v:Value}(hs:lK Q s dst t p=some s')(hv:ao F w G s.rg v p):
  ∃r w' F' G',(Instr.range t v).run Q w= .ok r w'/\aq Q T F' G' w' (a.put dst r) s'/\Ext (Own G s.rg) (Own G' s'.rg) F F' w w':=by
 unfold lK at hs;split at hs
 next kt vt n ay rn=>
  have gb:=dp rn;split at hs
  next jY get c fz ho=>
   split at hs
   ·rename_i nG;have nG:=zab nG;subst nG;split at hs
    ·rename_i s1 GY hn;obtain⟨e,he,bL,aP,lD,b,es,clock,hG,hb,hM⟩:=vn h hv ho;rw[hG] at lD;subst lD;have NU:=h.rg n e he;rw[aP] at NU;have oM: ∀b',aj (G n)=some b'->b'=b:=λb' ca=>by rw[hG] at ca;simp[aj] at ca;exact ca.symm
     have tI:b<w.heap.size:=(zap.1 hb).1;obtain⟨F',f1,f2,f3,f4,f5⟩:=h.EH (o1:= .map kt get c true) he (by rw[aP];rfl) (λb' ca=>by simp[ax] at ca) (λb' ca=>by rw[oM b' ca];exact tI) (λb' ca=>by
      have:=oM b' ca;subst this;rw[aP];cases fz with
      |false=>right;simp[ax,ca]
      |true=>left;obtain⟨b2,Be,L7,L8,_,_,OW⟩:=NU;rw[hG] at L8;simp at L8;subst L8;exact OW rfl)
      ⟨b,es,clock,hG,hb,hM.mono (λ_ h=> .inl h) (λ_ _=>rfl),λ_=> .inr (by rw[hG];rfl)⟩
     have OX:F' b:=f4 b (by rw[hG];rfl);have bW: ∀b',b'<w.heap.size->(w.alloc (.mapIter (some b) clock #[] clock)).heap[b']?=w.heap[b']?:=λb' ca=>heap_alloc_old w _ b' ca;obtain⟨b1,b2,b3,b4⟩:=gP f1 hn (g1:= .pointer (some ⟨w.heap.size,0,none⟩)) (w':=w.alloc (.mapIter (some b) clock #[] clock)) bW (by simp) rfl rfl rfl (λb' ca=>by simp[ax,aj] at ca;omega)
      ⟨w.heap.size,some b,clock, #[],clock,aB _ _ _,heap_alloc_new w _,.inr ⟨b,es,rfl,OX,(bW b tI).trans hb,rfl,hM.iter.mono f5 (λb' ca=>bW b' (h.fw b' ca)),λk v hc=>by cases hc⟩⟩
     obtain⟨c1,c2⟩:=bf b1 hs (v:= .pointer (some ⟨w.heap.size,0,none⟩)) (br.of (.ref (site dst) GY 0 _ ⟨_,b4,zae _,λ_ _=>⟨w.heap.size,aB _ _ _,rfl⟩⟩ rfl));refine⟨.pointer (some ⟨w.heap.size,0,none⟩),_,F',_,?_,c1,?_⟩
     ·simp[Instr.range,run_underlying gb,MapKept.run_getObj_map hb]
     rw[c2];exact f2.trans b2
    cases hs
   cases hs
  cases hs
 next kt vt rn=>
  have gb:=dp rn;split at hs
  next s1 GY hn=>
   have BR:v= .map none:=hv.bq (p:= .d .mc) rfl;subst BR;have bW: ∀b',b'<w.heap.size->(w.alloc (.mapIter none 0 #[] 0)).heap[b']?=w.heap[b']?:=λb' ca=>heap_alloc_old w _ b' ca;obtain⟨b1,b2,b3,b4⟩:=gP h hn (g1:= .pointer (some ⟨w.heap.size,0,none⟩)) (w':=w.alloc (.mapIter none 0 #[] 0)) bW (by simp) rfl rfl rfl (λb' ca=>by simp[ax,aj] at ca;omega)
    ⟨w.heap.size,none,0, #[],0,aB _ _ _,heap_alloc_new w _,.inl ⟨rfl,λ_=>rfl,rfl⟩⟩
   obtain⟨c1,c2⟩:=bf b1 hs (v:= .pointer (some ⟨w.heap.size,0,none⟩)) (br.of (.ref (site dst) GY 0 _ ⟨_,b4,zae _,λ_ _=>⟨w.heap.size,aB _ _ _,rfl⟩⟩ rfl));refine⟨.pointer (some ⟨w.heap.size,0,none⟩),_,F,_,?_,c1,?_⟩
   ·simp[Instr.range,run_underlying gb]
   rw[c2];exact b2
  cases hs
 cases hs
theorem EI{k k':D}(get:D->Option D)(h:k≠k'):uU k get k'=get k':=by
 unfold uU;cases hb:D.cP k k' with
 |false=>rfl
 |true=>exact absurd ((D.aZ k k').1 hb) h
theorem Ah(k:D)(get:D->Option D):uU k get k=none:=by unfold uU;rw[(D.aZ k k).2 rfl];rfl
theorem rf.next{kt:TypeId}{left:D->Option D}{es:List MapEntry}{clock:Nat}{seen:Array Nat}(h:rf Q F w kt left es clock seen){e:MapEntry}(he:e∈es)(hs:seen.contains e.born=false):
  ∃k v,left k=some v/\k.bq=some e.key/\az F w e.val v/\rf Q F w kt (uU k left) es clock (seen.push e.born):=by
 obtain⟨ks,h1,h3,h4,h5,h6,h7⟩:=h;obtain⟨i,hi⟩:=zao he;have ik:i<ks.length:=by have:=(zaa.1 hi).1;omega
 obtain⟨⟨k,v⟩,hp⟩: ∃p,ks[i]?=some p:=⟨ks[i],zac ik⟩
 obtain⟨a1,a2,a3⟩:=h3 i _ e hp hi;refine⟨k,v,(h7 k v).2 ⟨i,e,hp,hi,hs⟩,a2,a3,ks,h1,h3,h4,h5,h6,λk' v'=> ?_⟩;have born: ∀j e',es[j]?=some e'->e'.born=e.born->j=i:=λj e' hj hb=>by
  have hn:=zbz.1 h6;obtain⟨l1,e1⟩:=zaa.1 hi;obtain⟨l2,e2⟩:=zaa.1 hj;refine zcw λb9=> ?_;rcases zbB b9 with bj |bj
  ·exact hn j i (by simpa using l2) (by simpa using l1) bj (by simp[e1,e2,hb])
  exact hn i j (by simpa using l1) (by simpa using l2) bj (by simp[e1,e2,hb])
 by_cases hk:k=k'
 ·subst hk;rw[Ah];constructor
  ·intro h;cases h
  rintro⟨j,e',hj,EG,hc⟩;have:=sj h4 hp hj rfl;subst this;rw[hi] at EG;cases EG;simp at hc
 rw[EI _ hk,h7];constructor
 ·rintro⟨j,e',hj,EG,hc⟩;refine⟨j,e',hj,EG,?_⟩;have b9:e'.born≠e.born:=λhb=>by have:=born j e' EG hb;subst this;rw[hp] at hj;cases hj;exact hk rfl
  simp at hc⊢;exact⟨hc,b9⟩
 rintro⟨j,e',hj,EG,hc⟩;refine⟨j,e',hj,EG,?_⟩;simp at hc⊢;exact hc.1
theorem rf.over{kt:TypeId}{left:D->Option D}{es:List MapEntry}{clock:Nat}{seen:Array Nat}(h:rf Q F w kt left es clock seen)(hs: ∀e∈es,seen.contains e.born=true): ∀k,left k=none:=by
 obtain⟨ks,h1,h3,h4,h5,h6,h7⟩:=h;intro k;cases hk:left k with
 |none=>rfl
 |some v=>obtain⟨i,e,_,hi,hc⟩:=(h7 k v).1 hk;rw[hs e (zak hi)] at hc;cases hc
end
end Pi
