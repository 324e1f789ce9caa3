/- The text PiIter. -/
import Derived.Test.YtngoddkencoalaaGreatDoorPiMapW
namespace Pi
open Go
section
variable {Q:Program} {T:Tg} {F:Nat->Prop} {G:Nat->Value} {w:World} {a:Act} {s:S}
theorem aC.V3 (h:aC Q T F G w a s) {n:Nat} {e:En} {o1:Obj} (he:lk s.rg n=some e) (VR:e.obj.live=true) (ho1: ∀b,bF (G n) o1≠some b)
  (vB: ∀b,aQ (G n)=some b->b<w.heap.size) (fU: ∀b,aQ (G n)=some b->F b\/bF (G n) e.obj=some b)
  (hO:ot Q (fun b=>F b\/aQ (G n)=some b) w G (ins n ⟨e.aX,e.tag,o1⟩ s.rg) n o1):
  ∃F',aC Q T F' G w a (s.setObj n o1)/\Ext (Own G s.rg) (Own G (s.setObj n o1).rg) F F' w w/\Names G G s.rg (s.setObj n o1).rg/\(∀b,aQ (G n)=some b->F' b)/\(∀b,F b->F' b):=by
 rw[S.fg he]
 have hn:Names G G s.rg (ins n ⟨e.aX,e.tag,o1⟩ s.rg):=by
  have:=gF (G:=G) (g1:=G n) (R:=s.rg) (n:=n) (e1:=⟨e.aX,e.tag,o1⟩) (fun e' cI=>by rw[he] at cI;cases cI;exact .inr ⟨rfl,fun _=>⟨VR,rfl⟩⟩)
  rwa [bW] at this
 have oL: ∀m e1,lk (ins n ⟨e.aX,e.tag,o1⟩ s.rg) m=some e1->(m=n/\e1=⟨e.aX,e.tag,o1⟩)\/(n≠m/\lk s.rg m=some e1):=fun m e1 h1=>by
  by_cases hm:n=m
  ·subst hm;rw[bA] at h1;cases h1;exact .inl ⟨rfl,rfl⟩
  ·rw[bU _ _ hm] at h1;exact .inr ⟨hm,h1⟩
 refine⟨fun b=>F b\/aQ (G n)=some b,⟨h.rf.DP (fun b hb=>hb.elim .inl fun hb=>(fU b hb).imp id fun h2=>⟨n,e,he,h2⟩) (fun b hb=>by
  obtain⟨m,e1,h1,h2⟩:=hb
  rcases oL m e1 h1 with⟨rfl,rfl⟩| ⟨_,h1⟩
  ·exact absurd h2 (ho1 b)
  ·exact⟨m,e1,h1,h2⟩),h.size,fun t p hp=>(h.tm t p hp).mono (fun _ h=> .inl h) (fun _ _=>rfl) hn,?_,?_,?_,?_,?_,fun b hb=>⟨.inl (h.z b hb).1,(h.z b hb).2⟩,h.dr,h.sz⟩,?_,hn,fun b hb=> .inr hb,fun b hb=> .inl hb⟩
 ·intro m e1 h1
  rcases oL m e1 h1 with⟨rfl,rfl⟩| ⟨hm,h1⟩
  ·exact hO
  ·exact(h.rg m e1 h1).mono (fun _ h=> .inl h) (fun _ _=>rfl) hn rfl (fun _ _=>rfl)
 ·intro m1 m2 e1 e2 b h1 h2 jJ cm
  rcases oL m1 e1 h1 with⟨rfl,rfl⟩| ⟨L2,N6⟩
  ·exact absurd jJ (ho1 b)
  ·rcases oL m2 e2 h2 with⟨rfl,rfl⟩| ⟨EC,h2'⟩
   ·exact absurd cm (ho1 b)
   ·exact h.own _ _ _ _ b N6 h2' jJ cm
 ·intro m e1 b h1 hb zI
  rcases oL m e1 h1 with⟨rfl,rfl⟩| ⟨hm,h1⟩
  ·exact absurd hb (ho1 b)
  ·rcases zI with zI |zI
   ·exact h.mq m e1 b h1 hb zI
   ·rcases fU b zI with h2 |h2
    ·exact h.mq m e1 b h1 hb h2
    ·exact hm (h.own _ _ _ _ b he h1 h2 hb)
 ·intro b hb
  rcases hb with hb |hb
  ·exact h.jm b hb
  ·exact vB b hb
 ·intro m e1 i h1 hi hl
  rcases oL m e1 h1 with⟨rfl,rfl⟩| ⟨hm,h1⟩
  ·exact h.tag _ e i he hi VR
  ·exact h.tag m e1 i h1 hi hl
 ·refine⟨fun _ h=> .inl h,?_,?_,fun _ _ _=>rfl,zaj _,rfl,rfl,rfl⟩
  ·intro b hb
   rcases hb with hb |hb
   ·exact .inl hb
   ·rcases fU b hb with h2 |h2
    ·exact .inl h2
    ·exact .inr (.inl ⟨n,e,he,h2⟩)
  ·rintro b ⟨m,e1,h1,hb⟩
   rcases oL m e1 h1 with⟨rfl,rfl⟩| ⟨hm,h1⟩
   ·exact absurd hb (ho1 b)
   ·exact .inl ⟨m,e1,h1,hb⟩
theorem Mb (h:aC Q T F G w a s) {dst:Option Nat} {t:TypeId} {p:P} {s':S} {v:Value} (hs:ra Q s dst t p=some s') (hv:aF F w G s.rg v p):
  ∃r w' F' G',(Instr.range t v).run Q w= .ok r w'/\aC Q T F' G' w' (a.put dst r) s'/\Ext (Own G s.rg) (Own G' s'.rg) F F' w w':=by
 unfold ra at hs
 split at hs
 ·rename_i kt vt n aX Cg
  have n5:=iK Cg
  split at hs
  ·rename_i zA get c fz ho
   split at hs
   ·rename_i DQ
    have DQ:=zaf DQ
    subst DQ
    split at hs
    ·rename_i s1 qbE hn
     obtain⟨e,he,dP,bV,AJ,b,es,clock,hG,hb,hM⟩:=Eu h hv ho
     rw[hG] at AJ
     subst AJ
     have hO0:=h.rg n e he
     rw[bV] at hO0
     have hbb: ∀b',aQ (G n)=some b'->b'=b:=fun b' dj=>by rw[hG] at dj;simp[aQ] at dj;exact dj.symm
     have vB:b<w.heap.size:=(zar.1 hb).1
     obtain⟨F',f1,f2,f3,f4,f5⟩:=h.V3 (o1:= .map kt get c true) he (by rw[bV];rfl) (fun b' dj=>by simp[bF] at dj) (fun b' dj=>by rw[hbb b' dj];exact vB) (fun b' dj=>by
      have:=hbb b' dj
      subst this
      rw[bV]
      cases fz with
      |false=>right;simp[bF,dj]
      |true=>
       left
       obtain⟨b2,es2,qhJ,hg2,_,_,hf2⟩:=hO0
       rw[hG] at hg2
       simp at hg2
       subst hg2
       exact hf2 rfl)
      ⟨b,es,clock,hG,hb,hM.mono (fun _ h=> .inl h) (fun _ _=>rfl),fun _=> .inr (by rw[hG];rfl)⟩
     have hFb:F' b:=f4 b (by rw[hG];rfl)
     have eJ: ∀b',b'<w.heap.size->(w.alloc (.mapIter (some b) clock #[] clock)).heap[b']?=w.heap[b']?:=fun b' dj=>heap_alloc_old w _ b' dj
     obtain⟨b1,b2,b3,b4⟩:=mb f1 hn (g1:= .pointer (some ⟨w.heap.size,0,none⟩)) (w':=w.alloc (.mapIter (some b) clock #[] clock)) eJ (by simp) rfl rfl rfl (fun b' dj=>by simp[bF,aQ] at dj;omega)
      ⟨w.heap.size,some b,clock, #[],clock,a8 _ _ _,heap_alloc_new w _,.inr ⟨b,es,rfl,hFb,(eJ b vB).trans hb,rfl,hM.iter.mono f5 (fun b' dj=>eJ b' (h.jm b' dj)),fun k v hc=>by cases hc⟩⟩
     obtain⟨c1,c2⟩:=cv b1 hs (v:= .pointer (some ⟨w.heap.size,0,none⟩)) (ct.of (.ref (site dst) qbE 0 _ ⟨_,b4,zaj _,fun _ _=>⟨w.heap.size,a8 _ _ _,rfl⟩⟩ rfl))
     refine⟨.pointer (some ⟨w.heap.size,0,none⟩),_,F',_,?_,c1,?_⟩
     ·simp[Instr.range,run_underlying n5,MapKept.run_getObj_map hb]
     ·rw[c2];exact f2.trans b2
    ·cases hs
   ·cases hs
  ·cases hs
 ·rename_i kt vt Cg
  have n5:=iK Cg
  split at hs
  ·rename_i s1 qbE hn
   have J6:v= .map none:=hv.cy (p:= .d .sa) rfl
   subst J6
   have eJ: ∀b',b'<w.heap.size->(w.alloc (.mapIter none 0 #[] 0)).heap[b']?=w.heap[b']?:=fun b' dj=>heap_alloc_old w _ b' dj
   obtain⟨b1,b2,b3,b4⟩:=mb h hn (g1:= .pointer (some ⟨w.heap.size,0,none⟩)) (w':=w.alloc (.mapIter none 0 #[] 0)) eJ (by simp) rfl rfl rfl (fun b' dj=>by simp[bF,aQ] at dj;omega)
    ⟨w.heap.size,none,0, #[],0,a8 _ _ _,heap_alloc_new w _,.inl ⟨rfl,fun _=>rfl,rfl⟩⟩
   obtain⟨c1,c2⟩:=cv b1 hs (v:= .pointer (some ⟨w.heap.size,0,none⟩)) (ct.of (.ref (site dst) qbE 0 _ ⟨_,b4,zaj _,fun _ _=>⟨w.heap.size,a8 _ _ _,rfl⟩⟩ rfl))
   refine⟨.pointer (some ⟨w.heap.size,0,none⟩),_,F,_,?_,c1,?_⟩
   ·simp[Instr.range,run_underlying n5]
   ·rw[c2];exact b2
  ·cases hs
 ·cases hs
theorem V4 {k k':D} (get:D->Option D) (h:k≠k'):Ee k get k'=get k':=by
 unfold Ee
 cases hb:D.nZ k k' with
 |false=>rfl
 |true=>exact absurd ((D.gU k k').1 hb) h
theorem Mc (k:D) (get:D->Option D):Ee k get k=none:=by
 unfold Ee;rw[(D.gU k k).2 rfl];rfl
theorem zB.next {kt:TypeId} {left:D->Option D} {es:List MapEntry} {clock:Nat} {seen:Array Nat} (h:zB Q F w kt left es clock seen) {e:MapEntry} (he:e∈es) (hs:seen.contains e.born=false):
  ∃k v,left k=some v/\k.cy=some e.key/\a7 F w e.val v/\zB Q F w kt (Ee k left) es clock (seen.push e.born):=by
 obtain⟨ks,h1,h3,h4,h5,h6,h7⟩:=h
 obtain⟨i,hi⟩:=zaP he
 have bN:i<ks.length:=by have:=(zad.1 hi).1;omega
 obtain⟨⟨k,v⟩,hp⟩: ∃p,ks[i]?=some p:=⟨ks[i],zae bN⟩
 obtain⟨a1,a2,a3⟩:=h3 i _ e hp hi
 refine⟨k,v,(h7 k v).2 ⟨i,e,hp,hi,hs⟩,a2,a3,ks,h1,h3,h4,h5,h6,fun k' v'=> ?_⟩
 have born: ∀j e',es[j]?=some e'->e'.born=e.born->j=i:=fun j e' hj hb=>by
  have hn:=zbi.1 h6
  obtain⟨l1,e1⟩:=zad.1 hi
  obtain⟨l2,e2⟩:=zad.1 hj
  refine zaN fun dG=> ?_
  rcases zch dG with bG |bG
  ·exact hn j i (by simpa using l2) (by simpa using l1) bG (by simp[e1,e2,hb])
  ·exact hn i j (by simpa using l1) (by simpa using l2) bG (by simp[e1,e2,hb])
 by_cases hk:k=k'
 ·subst hk
  rw[Mc]
  constructor
  ·intro h;cases h
  ·rintro⟨j,e',hj,V1,hc⟩
   have:=AO h4 hp hj rfl
   subst this
   rw[hi] at V1
   cases V1
   simp at hc
 ·rw[V4 _ hk,h7]
  constructor
  ·rintro⟨j,e',hj,V1,hc⟩
   refine⟨j,e',hj,V1,?_⟩
   have dG:e'.born≠e.born:=fun hb=>by
    have:=born j e' V1 hb
    subst this
    rw[hp] at hj
    cases hj
    exact hk rfl
   simp at hc⊢
   exact⟨hc,dG⟩
  ·rintro⟨j,e',hj,V1,hc⟩
   refine⟨j,e',hj,V1,?_⟩
   simp at hc⊢
   exact hc.1
theorem zB.over {kt:TypeId} {left:D->Option D} {es:List MapEntry} {clock:Nat} {seen:Array Nat} (h:zB Q F w kt left es clock seen) (hs: ∀e∈es,seen.contains e.born=true): ∀k,left k=none:=by
 obtain⟨ks,h1,h3,h4,h5,h6,h7⟩:=h
 intro k
 cases hk:left k with
 |none=>rfl
 |some v=>
  obtain⟨i,e,_,hi,hc⟩:=(h7 k v).1 hk
  rw[hs e (zaC hi)] at hc
  cases hc
end
end Pi
