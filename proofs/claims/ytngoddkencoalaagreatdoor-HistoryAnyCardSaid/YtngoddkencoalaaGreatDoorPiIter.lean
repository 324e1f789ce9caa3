/- The text PiIter. -/
import Derived.Test.YtngoddkencoalaaGreatDoorPiMapW
namespace Pi
open Go
section
variable {Q:Program} {T:Tg} {F:Nat->Prop} {G:Nat->Value} {w:World} {a:Act} {s:S}
theorem aB.Ts (h:aB Q T F G w a s) {n:Nat} {e:En} {o1:Obj} (he:lk s.rg n=some e) (Tb:e.obj.live=true) (Y2: ∀b,bu (G n) o1≠some b)
  (uT: ∀b,aL (G n)=some b->b<w.heap.size) (ep: ∀b,aL (G n)=some b->F b\/bu (G n) e.obj=some b)
  (hO:nR Q (fun b=>F b\/aL (G n)=some b) w G (ins n ⟨e.aU,e.tag,o1⟩ s.rg) n o1):
  ∃F',aB Q T F' G w a (s.setObj n o1)/\Ext (Own G s.rg) (Own G (s.setObj n o1).rg) F F' w w/\Names G G s.rg (s.setObj n o1).rg/\(∀b,aL (G n)=some b->F' b)/\(∀b,F b->F' b):=by
 rw[S.e9 he]
 have hn:Names G G s.rg (ins n ⟨e.aU,e.tag,o1⟩ s.rg):=by
  have:=gi (G:=G) (g1:=G n) (R:=s.rg) (n:=n) (e1:=⟨e.aU,e.tag,o1⟩) (fun e' cF=>by rw[he] at cF;cases cF;exact .inr ⟨rfl,fun _=>⟨Tb,rfl⟩⟩)
  rwa [bU] at this
 have n0: ∀m e1,lk (ins n ⟨e.aU,e.tag,o1⟩ s.rg) m=some e1->(m=n/\e1=⟨e.aU,e.tag,o1⟩)\/(n≠m/\lk s.rg m=some e1):=fun m e1 h1=>by
  by_cases hm:n=m
  ·subst hm;rw[bA] at h1;cases h1;exact .inl ⟨rfl,rfl⟩
  ·rw[bG _ _ hm] at h1;exact .inr ⟨hm,h1⟩
 refine⟨fun b=>F b\/aL (G n)=some b,⟨h.qV.C1 (fun b hb=>hb.elim .inl fun hb=>(ep b hb).imp id fun h2=>⟨n,e,he,h2⟩) (fun b hb=>by
  obtain⟨m,e1,h1,h2⟩:=hb
  rcases n0 m e1 h1 with⟨rfl,rfl⟩| ⟨_,h1⟩
  ·exact absurd h2 (Y2 b)
  ·exact⟨m,e1,h1,h2⟩),h.size,fun t p hp=>(h.tm t p hp).mono (fun _ h=> .inl h) (fun _ _=>rfl) hn,?_,?_,?_,?_,?_,fun b hb=>⟨.inl (h.z b hb).1,(h.z b hb).2⟩,h.dr,h.sz⟩,?_,hn,fun b hb=> .inr hb,fun b hb=> .inl hb⟩
 ·intro m e1 h1
  rcases n0 m e1 h1 with⟨rfl,rfl⟩| ⟨hm,h1⟩
  ·exact hO
  ·exact(h.rg m e1 h1).mono (fun _ h=> .inl h) (fun _ _=>rfl) hn rfl (fun _ _=>rfl)
 ·intro m1 m2 e1 e2 b h1 h2 jk cu
  rcases n0 m1 e1 h1 with⟨rfl,rfl⟩| ⟨Ke,Mp⟩
  ·exact absurd jk (Y2 b)
  ·rcases n0 m2 e2 h2 with⟨rfl,rfl⟩| ⟨Kf,YU⟩
   ·exact absurd cu (Y2 b)
   ·exact h.own _ _ _ _ b Mp YU jk cu
 ·intro m e1 b h1 hb yM
  rcases n0 m e1 h1 with⟨rfl,rfl⟩| ⟨hm,h1⟩
  ·exact absurd hb (Y2 b)
  ·rcases yM with yM |yM
   ·exact h.lr m e1 b h1 hb yM
   ·rcases ep b yM with h2 |h2
    ·exact h.lr m e1 b h1 hb h2
    ·exact hm (h.own _ _ _ _ b he h1 h2 hb)
 ·intro b hb
  rcases hb with hb |hb
  ·exact h.iR b hb
  ·exact uT b hb
 ·intro m e1 i h1 hi hl
  rcases n0 m e1 h1 with⟨rfl,rfl⟩| ⟨hm,h1⟩
  ·exact h.tag _ e i he hi Tb
  ·exact h.tag m e1 i h1 hi hl
 ·refine⟨fun _ h=> .inl h,?_,?_,fun _ _ _=>rfl,Nat.le_refl _,rfl,rfl,rfl⟩
  ·intro b hb
   rcases hb with hb |hb
   ·exact .inl hb
   ·rcases ep b hb with h2 |h2
    ·exact .inl h2
    ·exact .inr (.inl ⟨n,e,he,h2⟩)
  ·rintro b ⟨m,e1,h1,hb⟩
   rcases n0 m e1 h1 with⟨rfl,rfl⟩| ⟨hm,h1⟩
   ·exact absurd hb (Y2 b)
   ·exact .inl ⟨m,e1,h1,hb⟩
theorem Kq (h:aB Q T F G w a s) {dst:Option Nat} {t:TypeId} {p:P} {s':S} {v:Value} (hs:qR Q s dst t p=some s') (hv:aD F w G s.rg v p):
  ∃r w' F' G',(Instr.range t v).run Q w= .ok r w'/\aB Q T F' G' w' (a.put dst r) s'/\Ext (Own G s.rg) (Own G' s'.rg) F F' w w':=by
 unfold qR at hs
 split at hs
 ·rename_i kt vt n aU wh
  have nF:=iq wh
  split at hs
  ·rename_i yE get c fz ho
   split at hs
   ·rename_i Bb
    have Bb:=Nat.eq_of_beq_eq_true Bb
    subst Bb
    split at hs
    ·rename_i s1 Y3 hn
     obtain⟨e,he,dI,bR,zJ,b,es,clock,hG,hb,hM⟩:=Dx h hv ho
     rw[hG] at zJ
     subst zJ
     have hO0:=h.rg n e he
     rw[bR] at hO0
     have hbb: ∀b',aL (G n)=some b'->b'=b:=fun b' cU=>by rw[hG] at cU;simp[aL] at cU;exact cU.symm
     have uT:b<w.heap.size:=(Array.getElem?_eq_some_iff.1 hb).1
     obtain⟨F',f1,f2,f3,f4,f5⟩:=h.Ts (o1:= .map kt get c true) he (by rw[bR];rfl) (fun b' cU=>by simp[bu] at cU) (fun b' cU=>by rw[hbb b' cU];exact uT) (fun b' cU=>by
      have:=hbb b' cU
      subst this
      rw[bR]
      cases fz with
      |false=>right;simp[bu,cU]
      |true=>
       left
       obtain⟨b2,es2,qfY,hg2,_,_,hf2⟩:=hO0
       rw[hG] at hg2
       simp at hg2
       subst hg2
       exact hf2 rfl)
      ⟨b,es,clock,hG,hb,hM.mono (fun _ h=> .inl h) (fun _ _=>rfl),fun _=> .inr (by rw[hG];rfl)⟩
     have hFb:F' b:=f4 b (by rw[hG];rfl)
     have eA: ∀b',b'<w.heap.size->(w.alloc (.mapIter (some b) clock #[] clock)).heap[b']?=w.heap[b']?:=fun b' cU=>heap_alloc_old w _ b' cU
     obtain⟨b1,b2,b3,b4⟩:=lv f1 hn (g1:= .pointer (some ⟨w.heap.size,0,none⟩)) (w':=w.alloc (.mapIter (some b) clock #[] clock)) eA (by simp) rfl rfl rfl (fun b' cU=>by simp[bu,aL] at cU;omega)
      ⟨w.heap.size,some b,clock, #[],clock,aZ _ _ _,heap_alloc_new w _,.inr ⟨b,es,rfl,hFb,(eA b uT).trans hb,rfl,hM.iter.mono f5 (fun b' cU=>eA b' (h.iR b' cU)),fun k v hc=>by cases hc⟩⟩
     obtain⟨c1,c2⟩:=ct b1 hs (v:= .pointer (some ⟨w.heap.size,0,none⟩)) (cr.of (.ref (site dst) Y3 0 _ ⟨_,b4,Nat.le_refl _,fun _ _=>⟨w.heap.size,aZ _ _ _,rfl⟩⟩ rfl))
     refine⟨.pointer (some ⟨w.heap.size,0,none⟩),_,F',_,?_,c1,?_⟩
     ·simp[Instr.range,run_underlying nF,MapKept.run_getObj_map hb]
     ·rw[c2];exact f2.trans b2
    ·cases hs
   ·cases hs
  ·cases hs
 ·rename_i kt vt wh
  have nF:=iq wh
  split at hs
  ·rename_i s1 Y3 hn
   have Ga:v= .map none:=hv.cw (p:= .d .rR) rfl
   subst Ga
   have eA: ∀b',b'<w.heap.size->(w.alloc (.mapIter none 0 #[] 0)).heap[b']?=w.heap[b']?:=fun b' cU=>heap_alloc_old w _ b' cU
   obtain⟨b1,b2,b3,b4⟩:=lv h hn (g1:= .pointer (some ⟨w.heap.size,0,none⟩)) (w':=w.alloc (.mapIter none 0 #[] 0)) eA (by simp) rfl rfl rfl (fun b' cU=>by simp[bu,aL] at cU;omega)
    ⟨w.heap.size,none,0, #[],0,aZ _ _ _,heap_alloc_new w _,.inl ⟨rfl,fun _=>rfl,rfl⟩⟩
   obtain⟨c1,c2⟩:=ct b1 hs (v:= .pointer (some ⟨w.heap.size,0,none⟩)) (cr.of (.ref (site dst) Y3 0 _ ⟨_,b4,Nat.le_refl _,fun _ _=>⟨w.heap.size,aZ _ _ _,rfl⟩⟩ rfl))
   refine⟨.pointer (some ⟨w.heap.size,0,none⟩),_,F,_,?_,c1,?_⟩
   ·simp[Instr.range,run_underlying nF]
   ·rw[c2];exact b2
  ·cases hs
 ·cases hs
theorem Tt {k k':D} (get:D->Option D) (h:k≠k'):Di k get k'=get k':=by
 unfold Di
 cases hb:D.nD k k' with
 |false=>rfl
 |true=>exact absurd ((D.gA k k').1 hb) h
theorem Kr (k:D) (get:D->Option D):Di k get k=none:=by
 unfold Di;rw[(D.gA k k).2 rfl];rfl
theorem yF.next {kt:TypeId} {left:D->Option D} {es:List MapEntry} {clock:Nat} {seen:Array Nat} (h:yF Q F w kt left es clock seen) {e:MapEntry} (he:e∈es) (hs:seen.contains e.born=false):
  ∃k v,left k=some v/\k.cw=some e.key/\aW F w e.val v/\yF Q F w kt (Di k left) es clock (seen.push e.born):=by
 obtain⟨ks,h1,h3,h4,h5,h6,h7⟩:=h
 obtain⟨i,hi⟩:=List.getElem?_of_mem he
 have bS:i<ks.length:=by have:=(List.getElem?_eq_some_iff.1 hi).1;omega
 obtain⟨⟨k,v⟩,hp⟩: ∃p,ks[i]?=some p:=⟨ks[i],List.getElem?_eq_getElem bS⟩
 obtain⟨a1,a2,a3⟩:=h3 i _ e hp hi
 refine⟨k,v,(h7 k v).2 ⟨i,e,hp,hi,hs⟩,a2,a3,ks,h1,h3,h4,h5,h6,fun k' v'=> ?_⟩
 have born: ∀j e',es[j]?=some e'->e'.born=e.born->j=i:=fun j e' hj hb=>by
  have hn:=List.pairwise_iff_getElem.1 h6
  obtain⟨l1,e1⟩:=List.getElem?_eq_some_iff.1 hi
  obtain⟨l2,e2⟩:=List.getElem?_eq_some_iff.1 hj
  refine Classical.byContradiction fun dz=> ?_
  rcases Nat.lt_or_gt_of_ne dz with bk |bk
  ·exact hn j i (by simpa using l2) (by simpa using l1) bk (by simp[e1,e2,hb])
  ·exact hn i j (by simpa using l1) (by simpa using l2) bk (by simp[e1,e2,hb])
 by_cases hk:k=k'
 ·subst hk
  rw[Kr]
  constructor
  ·intro h;cases h
  ·rintro⟨j,e',hj,Tr,hc⟩
   have:=zP h4 hp hj rfl
   subst this
   rw[hi] at Tr
   cases Tr
   simp at hc
 ·rw[Tt _ hk,h7]
  constructor
  ·rintro⟨j,e',hj,Tr,hc⟩
   refine⟨j,e',hj,Tr,?_⟩
   have dz:e'.born≠e.born:=fun hb=>by
    have:=born j e' Tr hb
    subst this
    rw[hp] at hj
    cases hj
    exact hk rfl
   simp at hc⊢
   exact⟨hc,dz⟩
  ·rintro⟨j,e',hj,Tr,hc⟩
   refine⟨j,e',hj,Tr,?_⟩
   simp at hc⊢
   exact hc.1
theorem yF.over {kt:TypeId} {left:D->Option D} {es:List MapEntry} {clock:Nat} {seen:Array Nat} (h:yF Q F w kt left es clock seen) (hs: ∀e∈es,seen.contains e.born=true): ∀k,left k=none:=by
 obtain⟨ks,h1,h3,h4,h5,h6,h7⟩:=h
 intro k
 cases hk:left k with
 |none=>rfl
 |some v=>
  obtain⟨i,e,_,hi,hc⟩:=(h7 k v).1 hk
  rw[hs e (List.mem_of_getElem? hi)] at hc
  cases hc
end
end Pi
