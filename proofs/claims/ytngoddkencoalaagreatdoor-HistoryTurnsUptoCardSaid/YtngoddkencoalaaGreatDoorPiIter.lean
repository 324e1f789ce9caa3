/- The text PiIter. -/
import Derived.Test.YtngoddkencoalaaGreatDoorPiMapW
namespace Pi
open Go
section
variable{Q:Program}{T:Tg}{F:Nat->Prop}{G:Nat->Value}{w:World}{a:Act}{s:S}
theorem aG.Zd(h:aG Q T F G w a s){n:Nat}{e:En}{o1:Obj}(he:lk s.rg n=some e)(RY:e.obj.live=true)(ho1: ∀b,bF (G n) o1≠some b)
  (xn: ∀b,aM (G n)=some b->b<w.heap.size) (ga: ∀b,aM (G n)=some b->F b\/bF (G n) e.obj=some b)
  (hO:pG Q (λb=>F b\/aM (G n)=some b) w G (ins n ⟨e.aV,e.tag,o1⟩ s.rg) n o1):
  ∃F',aG Q T F' G w a (s.setObj n o1)/\Ext (Own G s.rg) (Own G (s.setObj n o1).rg) F F' w w/\Names G G s.rg (s.setObj n o1).rg/\(∀b,aM (G n)=some b->F' b)/\(∀b,F b->F' b):=by
 rw[S.fu he];have hn:Names G G s.rg (ins n ⟨e.aV,e.tag,o1⟩ s.rg):=by have:=gN (G:=G) (g1:=G n) (R:=s.rg) (n:=n) (e1:=⟨e.aV,e.tag,o1⟩) (λe' cS=>by rw[he] at cS;cases cS;exact .inr ⟨rfl,λ_=>⟨RY,rfl⟩⟩);rwa [ca] at this
 have pS: ∀m e1,lk (ins n ⟨e.aV,e.tag,o1⟩ s.rg) m=some e1->(m=n/\e1=⟨e.aV,e.tag,o1⟩)\/(n≠m/\lk s.rg m=some e1):=λm e1 h1=>by
  by_cases hm:n=m
  ·subst hm;rw[bC] at h1;cases h1;exact .inl ⟨rfl,rfl⟩
  rw[b8 _ _ hm] at h1;exact .inr ⟨hm,h1⟩
 refine⟨λb=>F b\/aM (G n)=some b,⟨h.sg.FK (λb hb=>hb.elim .inl λhb=>(ga b hb).imp id λh2=>⟨n,e,he,h2⟩) (λb hb=>by
  obtain⟨m,e1,h1,h2⟩:=hb;rcases pS m e1 h1 with⟨rfl,rfl⟩| ⟨_,h1⟩
  ·exact absurd h2 (ho1 b)
  exact⟨m,e1,h1,h2⟩),h.size,λt p hp=>(h.tm t p hp).mono (λ_ h=> .inl h) (λ_ _=>rfl) hn,?_,?_,?_,?_,?_,λb hb=>⟨.inl (h.z b hb).1,(h.z b hb).2⟩,h.dr,h.sz⟩,?_,hn,λb hb=> .inr hb,λb hb=> .inl hb⟩
 ·intro m e1 h1;rcases pS m e1 h1 with⟨rfl,rfl⟩| ⟨hm,h1⟩
  ·exact hO
  exact(h.rg m e1 h1).mono (λ_ h=> .inl h) (λ_ _=>rfl) hn rfl (λ_ _=>rfl)
 ·intro m1 m2 e1 e2 b h1 h2 j7 cu;rcases pS m1 e1 h1 with⟨rfl,rfl⟩| ⟨Kb,QL⟩
  ·exact absurd j7 (ho1 b)
  rcases pS m2 e2 h2 with⟨rfl,rfl⟩| ⟨D4,h2'⟩
  ·exact absurd cu (ho1 b)
  exact h.own _ _ _ _ b QL h2' j7 cu
 ·intro m e1 b h1 hb BB;rcases pS m e1 h1 with⟨rfl,rfl⟩| ⟨hm,h1⟩
  ·exact absurd hb (ho1 b)
  rcases BB with BB |BB
  ·exact h.nf m e1 b h1 hb BB
  rcases ga b BB with h2 |h2
  ·exact h.nf m e1 b h1 hb h2
  exact hm (h.own _ _ _ _ b he h1 h2 hb)
 ·intro b hb;rcases hb with hb |hb
  ·exact h.jE b hb
  exact xn b hb
 ·intro m e1 i h1 hi hl;rcases pS m e1 h1 with⟨rfl,rfl⟩| ⟨hm,h1⟩
  ·exact h.tag _ e i he hi RY
  exact h.tag m e1 i h1 hi hl
 refine⟨λ_ h=> .inl h,?_,?_,λ_ _ _=>rfl,zak _,rfl,rfl,rfl⟩
 ·intro b hb;rcases hb with hb |hb
  ·exact .inl hb
  rcases ga b hb with h2 |h2
  ·exact .inl h2
  exact .inr (.inl ⟨n,e,he,h2⟩)
 rintro b ⟨m,e1,h1,hb⟩;rcases pS m e1 h1 with⟨rfl,rfl⟩| ⟨hm,h1⟩
 ·exact absurd hb (ho1 b)
 exact .inl ⟨m,e1,h1,hb⟩
theorem OQ(h:aG Q T F G w a s){dst:Option Nat}{t:TypeId}{p:P}{s':S}{v:Value}(hs:sd Q s dst t p=some s')(hv:aH F w G s.rg v p):
  ∃r w' F' G',(Instr.range t v).run Q w= .ok r w'/\aG Q T F' G' w' (a.put dst r) s'/\Ext (Own G s.rg) (Own G' s'.rg) F F' w w':=by
 unfold sd at hs;split at hs
 next kt vt n aV DY=>
  have pj:=iY DY;split at hs
  next Bu get c fz ho=>
   split at hs
   ·rename_i FO;have FO:=zag FO;subst FO;split at hs
    ·rename_i s1 qeq hn;obtain⟨e,he,dT,b9,Ct,b,es,clock,hG,hb,hM⟩:=GD h hv ho;rw[hG] at Ct;subst Ct;have hO0:=h.rg n e he;rw[b9] at hO0;have hbb: ∀b',aM (G n)=some b'->b'=b:=λb' dm=>by rw[hG] at dm;simp[aM] at dm;exact dm.symm
     have xn:b<w.heap.size:=(zaz.1 hb).1;obtain⟨F',f1,f2,f3,f4,f5⟩:=h.Zd (o1:= .map kt get c true) he (by rw[b9];rfl) (λb' dm=>by simp[bF] at dm) (λb' dm=>by rw[hbb b' dm];exact xn) (λb' dm=>by
      have:=hbb b' dm;subst this;rw[b9];cases fz with
      |false=>right;simp[bF,dm]
      |true=>left;obtain⟨b2,es2,qkT,hg2,_,_,hf2⟩:=hO0;rw[hG] at hg2;simp at hg2;subst hg2;exact hf2 rfl)
      ⟨b,es,clock,hG,hb,hM.mono (λ_ h=> .inl h) (λ_ _=>rfl),λ_=> .inr (by rw[hG];rfl)⟩
     have hFb:F' b:=f4 b (by rw[hG];rfl);have eQ: ∀b',b'<w.heap.size->(w.alloc (.mapIter (some b) clock #[] clock)).heap[b']?=w.heap[b']?:=λb' dm=>heap_alloc_old w _ b' dm;obtain⟨b1,b2,b3,b4⟩:=mV f1 hn (g1:= .pointer (some ⟨w.heap.size,0,none⟩)) (w':=w.alloc (.mapIter (some b) clock #[] clock)) eQ (by simp) rfl rfl rfl (λb' dm=>by simp[bF,aM] at dm;omega)
      ⟨w.heap.size,some b,clock, #[],clock,a7 _ _ _,heap_alloc_new w _,.inr ⟨b,es,rfl,hFb,(eQ b xn).trans hb,rfl,hM.iter.mono f5 (λb' dm=>eQ b' (h.jE b' dm)),λk v hc=>by cases hc⟩⟩
     obtain⟨c1,c2⟩:=cC b1 hs (v:= .pointer (some ⟨w.heap.size,0,none⟩)) (cA.of (.ref (site dst) qeq 0 _ ⟨_,b4,zak _,λ_ _=>⟨w.heap.size,a7 _ _ _,rfl⟩⟩ rfl));refine⟨.pointer (some ⟨w.heap.size,0,none⟩),_,F',_,?_,c1,?_⟩
     ·simp[Instr.range,run_underlying pj,MapKept.run_getObj_map hb]
     rw[c2];exact f2.trans b2
    cases hs
   cases hs
  cases hs
 next kt vt DY=>
  have pj:=iY DY;split at hs
  next s1 qeq hn=>
   have Ou:v= .map none:=hv.cF (p:= .d .rp) rfl;subst Ou;have eQ: ∀b',b'<w.heap.size->(w.alloc (.mapIter none 0 #[] 0)).heap[b']?=w.heap[b']?:=λb' dm=>heap_alloc_old w _ b' dm;obtain⟨b1,b2,b3,b4⟩:=mV h hn (g1:= .pointer (some ⟨w.heap.size,0,none⟩)) (w':=w.alloc (.mapIter none 0 #[] 0)) eQ (by simp) rfl rfl rfl (λb' dm=>by simp[bF,aM] at dm;omega)
    ⟨w.heap.size,none,0, #[],0,a7 _ _ _,heap_alloc_new w _,.inl ⟨rfl,λ_=>rfl,rfl⟩⟩
   obtain⟨c1,c2⟩:=cC b1 hs (v:= .pointer (some ⟨w.heap.size,0,none⟩)) (cA.of (.ref (site dst) qeq 0 _ ⟨_,b4,zak _,λ_ _=>⟨w.heap.size,a7 _ _ _,rfl⟩⟩ rfl));refine⟨.pointer (some ⟨w.heap.size,0,none⟩),_,F,_,?_,c1,?_⟩
   ·simp[Instr.range,run_underlying pj]
   rw[c2];exact b2
  cases hs
 cases hs
theorem ZI{k k':D}(get:D->Option D)(h:k≠k'):Gp k get k'=get k':=by
 unfold Gp;cases hb:D.pg k k' with
 |false=>rfl
 |true=>exact absurd ((D.hQ k k').1 hb) h
theorem OR(k:D)(get:D->Option D):Gp k get k=none:=by unfold Gp;rw[(D.hQ k k).2 rfl];rfl
theorem Bv.next{kt:TypeId}{left:D->Option D}{es:List MapEntry}{clock:Nat}{seen:Array Nat}(h:Bv Q F w kt left es clock seen){e:MapEntry}(he:e∈es)(hs:seen.contains e.born=false):
  ∃k v,left k=some v/\k.cF=some e.key/\aS F w e.val v/\Bv Q F w kt (Gp k left) es clock (seen.push e.born):=by
 obtain⟨ks,h1,h3,h4,h5,h6,h7⟩:=h;obtain⟨i,hi⟩:=zaX he;have bK:i<ks.length:=by have:=(zaf.1 hi).1;omega
 obtain⟨⟨k,v⟩,hp⟩: ∃p,ks[i]?=some p:=⟨ks[i],zac bK⟩
 obtain⟨a1,a2,a3⟩:=h3 i _ e hp hi;refine⟨k,v,(h7 k v).2 ⟨i,e,hp,hi,hs⟩,a2,a3,ks,h1,h3,h4,h5,h6,λk' v'=> ?_⟩;have born: ∀j e',es[j]?=some e'->e'.born=e.born->j=i:=λj e' hj hb=>by
  have hn:=zbf.1 h6;obtain⟨l1,e1⟩:=zaf.1 hi;obtain⟨l2,e2⟩:=zaf.1 hj;refine zaN λdQ=> ?_;rcases zcw dQ with bJ |bJ
  ·exact hn j i (by simpa using l2) (by simpa using l1) bJ (by simp[e1,e2,hb])
  exact hn i j (by simpa using l1) (by simpa using l2) bJ (by simp[e1,e2,hb])
 by_cases hk:k=k'
 ·subst hk;rw[OR];constructor
  ·intro h;cases h
  rintro⟨j,e',hj,Y8,hc⟩;have:=Cx h4 hp hj rfl;subst this;rw[hi] at Y8;cases Y8;simp at hc
 rw[ZI _ hk,h7];constructor
 ·rintro⟨j,e',hj,Y8,hc⟩;refine⟨j,e',hj,Y8,?_⟩;have dQ:e'.born≠e.born:=λhb=>by have:=born j e' Y8 hb;subst this;rw[hp] at hj;cases hj;exact hk rfl
  simp at hc⊢;exact⟨hc,dQ⟩
 rintro⟨j,e',hj,Y8,hc⟩;refine⟨j,e',hj,Y8,?_⟩;simp at hc⊢;exact hc.1
theorem Bv.over{kt:TypeId}{left:D->Option D}{es:List MapEntry}{clock:Nat}{seen:Array Nat}(h:Bv Q F w kt left es clock seen)(hs: ∀e∈es,seen.contains e.born=true): ∀k,left k=none:=by
 obtain⟨ks,h1,h3,h4,h5,h6,h7⟩:=h;intro k;cases hk:left k with
 |none=>rfl
 |some v=>obtain⟨i,e,_,hi,hc⟩:=(h7 k v).1 hk;rw[hs e (zaC hi)] at hc;cases hc
end
end Pi
