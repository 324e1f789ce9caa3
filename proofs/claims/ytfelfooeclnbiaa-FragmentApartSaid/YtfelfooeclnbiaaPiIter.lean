/- The text PiIter. -/
import Derived.Test.YtfelfooeclnbiaaPiMapW
namespace Pi
open Go
section
variable{Q:Program}{T:Tg}{F:Nat->Prop}{G:Nat->Value}{w:World}{a:Act}{s:S}
theorem aq.zg(h:aq Q T F G w a s){n:Nat}{e:En}{o1:Obj}(he:lk s.rg n=some e)(yi:e.obj.live=true)(Bd: ∀b,aG (G n) o1≠some b)
  (qQ: ∀b,ar (G n)=some b->b<w.heap.size) (cx: ∀b,ar (G n)=some b->F b\/aG (G n) e.obj=some b)
  (hO:hZ Q (λb=>F b\/ar (G n)=some b) w G (ins n ⟨e.aw,e.tag,o1⟩ s.rg) n o1):
  ∃F',aq Q T F' G w a (s.setObj n o1)/\Ext (Own G s.rg) (Own G (s.setObj n o1).rg) F F' w w/\Names G G s.rg (s.setObj n o1).rg/\(∀b,ar (G n)=some b->F' b)/\(∀b,F b->F' b):=by
 rw[S.cP he];have hn:Names G G s.rg (ins n ⟨e.aw,e.tag,o1⟩ s.rg):=by have:=cw (G:=G) (g1:=G n) (R:=s.rg) (n:=n) (e1:=⟨e.aw,e.tag,o1⟩) (λe' a7=>by rw[he] at a7;cases a7;exact .inr ⟨rfl,λ_=>⟨yi,rfl⟩⟩);rwa [aM] at this
 have gS: ∀m e1,lk (ins n ⟨e.aw,e.tag,o1⟩ s.rg) m=some e1->(m=n/\e1=⟨e.aw,e.tag,o1⟩)\/(n≠m/\lk s.rg m=some e1):=λm e1 h1=>by
  by_cases hm:n=m
  ·subst hm;rw[aJ] at h1;cases h1;exact .inl ⟨rfl,rfl⟩
  rw[aR _ _ hm] at h1;exact .inr ⟨hm,h1⟩
 refine⟨λb=>F b\/ar (G n)=some b,⟨h.si.qj (λb hb=>hb.elim .inl λhb=>(cx b hb).imp id λh2=>⟨n,e,he,h2⟩) (λb hb=>by
  obtain⟨m,e1,h1,h2⟩:=hb;rcases gS m e1 h1 with⟨rfl,rfl⟩| ⟨_,h1⟩
  ·exact absurd h2 (Bd b)
  exact⟨m,e1,h1,h2⟩),h.size,λt p hp=>(h.tm t p hp).mono (λ_ h=> .inl h) (λ_ _=>rfl) hn,?_,?_,?_,?_,?_,λb hb=>⟨.inl (h.z b hb).1,(h.z b hb).2⟩,h.dr,h.sz⟩,?_,hn,λb hb=> .inr hb,λb hb=> .inl hb⟩
 ·intro m e1 h1;rcases gS m e1 h1 with⟨rfl,rfl⟩| ⟨hm,h1⟩
  ·exact hO
  exact(h.rg m e1 h1).mono (λ_ h=> .inl h) (λ_ _=>rfl) hn rfl (λ_ _=>rfl)
 ·intro m1 m2 e1 e2 b h1 h2 lh ja;rcases gS m1 e1 h1 with⟨rfl,rfl⟩| ⟨rV,Ce⟩
  ·exact absurd lh (Bd b)
  rcases gS m2 e2 h2 with⟨rfl,rfl⟩| ⟨uG,Fa⟩
  ·exact absurd ja (Bd b)
  exact h.own _ _ _ _ b Ce Fa lh ja
 ·intro m e1 b h1 hb nU;rcases gS m e1 h1 with⟨rfl,rfl⟩| ⟨hm,h1⟩
  ·exact absurd hb (Bd b)
  rcases nU with nU |nU
  ·exact h.iY m e1 b h1 hb nU
  rcases cx b nU with h2 |h2
  ·exact h.iY m e1 b h1 hb h2
  exact hm (h.own _ _ _ _ b he h1 h2 hb)
 ·intro b hb;rcases hb with hb |hb
  ·exact h.gQ b hb
  exact qQ b hb
 ·intro m e1 i h1 hi hl;rcases gS m e1 h1 with⟨rfl,rfl⟩| ⟨hm,h1⟩
  ·exact h.tag _ e i he hi yi
  exact h.tag m e1 i h1 hi hl
 refine⟨λ_ h=> .inl h,?_,?_,λ_ _ _=>rfl,zaf _,rfl,rfl,rfl⟩
 ·intro b hb;rcases hb with hb |hb
  ·exact .inl hb
  rcases cx b hb with h2 |h2
  ·exact .inl h2
  exact .inr (.inl ⟨n,e,he,h2⟩)
 rintro b ⟨m,e1,h1,hb⟩;rcases gS m e1 h1 with⟨rfl,rfl⟩| ⟨hm,h1⟩
 ·exact absurd hb (Bd b)
 exact .inl ⟨m,e1,h1,hb⟩
theorem uO(h:aq Q T F G w a s){dst:Option Nat}{t:TypeId}{p:P}{s':S}{v:Value}(hs:jx Q s dst t p=some s')(hv:ak F w G s.rg v p):
  ∃r w' F' G',(Instr.range t v).run Q w= .ok r w'/\aq Q T F' G' w' (a.put dst r) s'/\Ext (Own G s.rg) (Own G' s'.rg) F F' w w':=by
 unfold jx at hs;split at hs
 next kt vt n aw nR=>
  have ew:=cp nR;split at hs
  next gP get c fz ho=>
   split at hs
   ·rename_i k9;have k9:=zab k9;subst k9;split at hs
    ·rename_i s1 Be hn;obtain⟨e,he,bM,aO,jm,b,es,clock,hG,hb,hM⟩:=qL h hv ho;rw[hG] at jm;subst jm;have GP:=h.rg n e he;rw[aO] at GP;have GQ: ∀b',ar (G n)=some b'->b'=b:=λb' bU=>by rw[hG] at bU;simp[ar] at bU;exact bU.symm
     have qQ:b<w.heap.size:=(zal.1 hb).1;obtain⟨F',f1,f2,f3,f4,f5⟩:=h.zg (o1:= .map kt get c true) he (by rw[aO];rfl) (λb' bU=>by simp[aG] at bU) (λb' bU=>by rw[GQ b' bU];exact qQ) (λb' bU=>by
      have:=GQ b' bU;subst this;rw[aO];cases fz with
      |false=>right;simp[aG,bU]
      |true=>left;obtain⟨b2,IX,Ft,Fu,_,_,HS⟩:=GP;rw[hG] at Fu;simp at Fu;subst Fu;exact HS rfl)
      ⟨b,es,clock,hG,hb,hM.mono (λ_ h=> .inl h) (λ_ _=>rfl),λ_=> .inr (by rw[hG];rfl)⟩
     have HT:F' b:=f4 b (by rw[hG];rfl);have bZ: ∀b',b'<w.heap.size->(w.alloc (.mapIter (some b) clock #[] clock)).heap[b']?=w.heap[b']?:=λb' bU=>heap_alloc_old w _ b' bU;obtain⟨b1,b2,b3,b4⟩:=eS f1 hn (g1:= .pointer (some ⟨w.heap.size,0,none⟩)) (w':=w.alloc (.mapIter (some b) clock #[] clock)) bZ (by simp) rfl rfl rfl (λb' bU=>by simp[aG,ar] at bU;omega)
      ⟨w.heap.size,some b,clock, #[],clock,av _ _ _,heap_alloc_new w _,.inr ⟨b,es,rfl,HT,(bZ b qQ).trans hb,rfl,hM.iter.mono f5 (λb' bU=>bZ b' (h.gQ b' bU)),λk v hc=>by cases hc⟩⟩
     obtain⟨c1,c2⟩:=bg b1 hs (v:= .pointer (some ⟨w.heap.size,0,none⟩)) (bt.of (.ref (site dst) Be 0 _ ⟨_,b4,zaf _,λ_ _=>⟨w.heap.size,av _ _ _,rfl⟩⟩ rfl));refine⟨.pointer (some ⟨w.heap.size,0,none⟩),_,F',_,?_,c1,?_⟩
     ·simp[Instr.range,run_underlying ew,MapKept.run_getObj_map hb]
     rw[c2];exact f2.trans b2
    cases hs
   cases hs
  cases hs
 next kt vt nR=>
  have ew:=cp nR;split at hs
  next s1 Be hn=>
   have tD:v= .map none:=hv.aW (p:= .d .jS) rfl;subst tD;have bZ: ∀b',b'<w.heap.size->(w.alloc (.mapIter none 0 #[] 0)).heap[b']?=w.heap[b']?:=λb' bU=>heap_alloc_old w _ b' bU;obtain⟨b1,b2,b3,b4⟩:=eS h hn (g1:= .pointer (some ⟨w.heap.size,0,none⟩)) (w':=w.alloc (.mapIter none 0 #[] 0)) bZ (by simp) rfl rfl rfl (λb' bU=>by simp[aG,ar] at bU;omega)
    ⟨w.heap.size,none,0, #[],0,av _ _ _,heap_alloc_new w _,.inl ⟨rfl,λ_=>rfl,rfl⟩⟩
   obtain⟨c1,c2⟩:=bg b1 hs (v:= .pointer (some ⟨w.heap.size,0,none⟩)) (bt.of (.ref (site dst) Be 0 _ ⟨_,b4,zaf _,λ_ _=>⟨w.heap.size,av _ _ _,rfl⟩⟩ rfl));refine⟨.pointer (some ⟨w.heap.size,0,none⟩),_,F,_,?_,c1,?_⟩
   ·simp[Instr.range,run_underlying ew]
   rw[c2];exact b2
  cases hs
 cases hs
theorem zh{k k':D}(get:D->Option D)(h:k≠k'):vV k get k'=get k':=by
 unfold vV;cases hb:D.dh k k' with
 |false=>rfl
 |true=>exact absurd ((D.cH k k').1 hb) h
theorem uP(k:D)(get:D->Option D):vV k get k=none:=by unfold vV;rw[(D.cH k k).2 rfl];rfl
theorem nN.next{kt:TypeId}{left:D->Option D}{es:List MapEntry}{clock:Nat}{seen:Array Nat}(h:nN Q F w kt left es clock seen){e:MapEntry}(he:e∈es)(hs:seen.contains e.born=false):
  ∃k v,left k=some v/\k.aW=some e.key/\ax F w e.val v/\nN Q F w kt (vV k left) es clock (seen.push e.born):=by
 obtain⟨ks,h1,h3,h4,h5,h6,h7⟩:=h;obtain⟨i,hi⟩:=zaq he;have zd:i<ks.length:=by have:=(zaa.1 hi).1;omega
 obtain⟨⟨k,v⟩,hp⟩: ∃p,ks[i]?=some p:=⟨ks[i],zad zd⟩
 obtain⟨a1,a2,a3⟩:=h3 i _ e hp hi;refine⟨k,v,(h7 k v).2 ⟨i,e,hp,hi,hs⟩,a2,a3,ks,h1,h3,h4,h5,h6,λk' v'=> ?_⟩;have born: ∀j e',es[j]?=some e'->e'.born=e.born->j=i:=λj e' hj hb=>by
  have hn:=za9.1 h6;obtain⟨l1,e1⟩:=zaa.1 hi;obtain⟨l2,e2⟩:=zaa.1 hj;refine zb1 λbY=> ?_;rcases zbo bY with bu |bu
  ·exact hn j i (by simpa using l2) (by simpa using l1) bu (by simp[e1,e2,hb])
  exact hn i j (by simpa using l1) (by simpa using l2) bu (by simp[e1,e2,hb])
 by_cases hk:k=k'
 ·subst hk;rw[uP];constructor
  ·intro h;cases h
  rintro⟨j,e',hj,ze,hc⟩;have:=oE h4 hp hj rfl;subst this;rw[hi] at ze;cases ze;simp at hc
 rw[zh _ hk,h7];constructor
 ·rintro⟨j,e',hj,ze,hc⟩;refine⟨j,e',hj,ze,?_⟩;have bY:e'.born≠e.born:=λhb=>by have:=born j e' ze hb;subst this;rw[hp] at hj;cases hj;exact hk rfl
  simp at hc⊢;exact⟨hc,bY⟩
 rintro⟨j,e',hj,ze,hc⟩;refine⟨j,e',hj,ze,?_⟩;simp at hc⊢;exact hc.1
theorem nN.over{kt:TypeId}{left:D->Option D}{es:List MapEntry}{clock:Nat}{seen:Array Nat}(h:nN Q F w kt left es clock seen)(hs: ∀e∈es,seen.contains e.born=true): ∀k,left k=none:=by
 obtain⟨ks,h1,h3,h4,h5,h6,h7⟩:=h;intro k;cases hk:left k with
 |none=>rfl
 |some v=>obtain⟨i,e,_,hi,hc⟩:=(h7 k v).1 hk;rw[hs e (zan hi)] at hc;cases hc
end
end Pi
