/- The text PiMapW. -/
import Derived.Test.YtngoddkencoalaaGreatDoorPiMk
namespace Pi
open Go
section
variable {Q:Program} {T:Tg} {F:Nat->Prop} {G:Nat->Value} {w:World} {a:Act} {s:S}
theorem DG (h:aB Q T F G w a s) {dst:Option Nat} {t:TypeId} {s':S} (hs:jT Q s dst t=some s'):
  ∃v w' G',(Instr.makeMap t none).run Q w= .ok v w'/\aB Q T F G' w' (a.put dst v) s'/\Ext (Own G s.rg) (Own G' s'.rg) F F w w':=by
 unfold jT at hs
 split at hs
 ·rename_i kt e wh
  split at hs
  ·rename_i s1 v hn
   have eA: ∀b,b<w.heap.size->(w.alloc (.map #[] 0)).heap[b]?=w.heap[b]?:=fun b hb=>heap_alloc_old w _ b hb
   obtain⟨b1,b2,b3,b4⟩:=lv h hn (g1:= .map (some w.heap.size)) (w':=w.alloc (.map #[] 0)) eA (by simp) rfl rfl rfl (fun b hb=>by simp[bu,aL] at hb;omega)
    ⟨w.heap.size, #[],0,aZ _ _ _,heap_alloc_new w _,⟨[],rfl,rfl,by simp,by simp,by simp,by simp,by simp⟩,fun hl=>by cases hl⟩
   obtain⟨c1,c2⟩:=ct b1 hs (v:= .map (some w.heap.size)) (cr.of (.mp (site dst) v _ rfl ⟨_,b4,Nat.le_refl _,fun _ _=>(aZ _ _ _).symm⟩))
   refine⟨.map (some w.heap.size),_,_,by simp[Instr.makeMap],c1,?_⟩
   rw[c2]
   exact b2
  ·cases hs
 ·cases hs
theorem zP {ks:List (D×D)} (hd:(ks.map (·.1)).Nodup) {i j:Nat} {p q:D×D} (hi:ks[i]?=some p) (hj:ks[j]?=some q) (h:p.1=q.1):i=j:=by
 obtain⟨l1,e1⟩:=List.getElem?_eq_some_iff.1 hi
 obtain⟨l2,e2⟩:=List.getElem?_eq_some_iff.1 hj
 have hp:=List.pairwise_iff_getElem.1 hd
 refine Classical.byContradiction fun dz=> ?_
 rcases Nat.lt_or_gt_of_ne dz with bk |bk
 ·exact hp i j (by simpa using l1) (by simpa using l2) bk (by simp[e1,e2,h])
 ·exact hp j i (by simpa using l2) (by simpa using l1) bk (by simp[e1,e2,h])
theorem nQ.set {kt:TypeId} {get:D->Option D} {n:Int} {es:List MapEntry} {clock:Nat} (h:nQ Q F w kt get n es clock) {k y:D} {v:Value} (hk:fB Q kt k=true) (hv:k.cw=some v) {x:Value} (hx:aW F w x y):
  (get k=none->nQ Q F w kt (cO k y get) (n+1) (es++[{key:=v,val:=x,born:=clock}]) (clock+1))/\
  (∀i e,es[i]?=some e->e.key=v->get k≠none->nQ Q F w kt (cO k y get) n (es.set i {e with key:=v,val:=x}) clock):=by
 obtain⟨ks,h1,h2,h3,h4,h5,h6,h7⟩:=h
 constructor
 ·intro hg
  have hnk: ∀p∈ks,p.1≠k:=fun p hp e=>by
   have:=(h5 p.1 p.2).2 hp
   rw[e,hg] at this
   cases this
  refine⟨ks++[(k,y)],by simp[h1],by simp[h2],fun i p e hp he=> ?_,?_,fun k' v'=> ?_,fun e he=> ?_,?_⟩
  ·by_cases hi:i<ks.length
   ·rw[List.getElem?_append_left hi] at hp
    rw[List.getElem?_append_left (by omega)] at he
    exact h3 i p e hp he
   ·have Fx:i=ks.length:=by
     have:=(List.getElem?_eq_some_iff.1 hp).1
     simp at this
     omega
    subst Fx
    rw[List.getElem?_append_right (by omega)] at hp
    rw[List.getElem?_append_right (by omega),h1] at he
    simp at hp he
    subst hp he
    exact⟨hk,hv,hx⟩
  ·rw[List.map_append,List.nodup_append]
   refine⟨h4,by simp,fun a ha b hb e=> ?_⟩
   simp at hb
   subst hb
   obtain⟨p,hp,rfl⟩:=List.mem_map.1 ha
   exact hnk p hp e
  ·by_cases e:k=k'
   ·subst e
    rw[zG]
    simp only[Option.some.injEq,List.mem_append,List.mem_singleton,Prod.mk.injEq,true_and]
    constructor
    ·intro e;exact .inr e.symm
    ·rintro(hm |e)
     ·exact absurd rfl (hnk _ hm)
     ·exact e.symm
   ·rw[Ij _ _ e,h5]
    simp only[List.mem_append,List.mem_singleton,Prod.mk.injEq]
    constructor
    ·exact .inl
    ·rintro(hm | ⟨e',_⟩)
     ·exact hm
     ·exact absurd e'.symm e
  ·rcases List.mem_append.1 he with he |he
   ·have:=h6 e he;omega
   ·simp at he;subst he;simp
  ·rw[List.map_append,List.nodup_append]
   refine⟨h7,by simp,fun a ha b hb e=> ?_⟩
   simp at hb
   subst hb
   obtain⟨p,hp,rfl⟩:=List.mem_map.1 ha
   have:=h6 p hp
   omega
 ·intro i e he Y1 hg
  have hi:i<es.length:=(List.getElem?_eq_some_iff.1 he).1
  have Fx:i<ks.length:=by omega
  obtain⟨p,hp⟩: ∃p,ks[i]?=some p:=⟨ks[i],List.getElem?_eq_getElem Fx⟩
  obtain⟨a1,a2,a3⟩:=h3 i p e hp he
  have hpk:p.1=k:=by
   obtain⟨y0,hy0⟩: ∃y0,get k=some y0:=by
    cases hgk:get k with
    |none=>exact absurd hgk hg
    |some y0=>exact⟨y0,rfl⟩
   have hm:=(h5 k y0).1 hy0
   obtain⟨j,hj,Tr⟩:=List.getElem_of_mem hm
   obtain⟨ej,hej⟩: ∃ej,es[j]?=some ej:=⟨es[j]'(by omega),List.getElem?_eq_getElem (by omega)⟩
   obtain⟨_,b2,_⟩:=h3 j (k,y0) ej (by rw[List.getElem?_eq_getElem hj,Tr]) hej
   obtain⟨r,hr,Fq⟩:=wa (cc hk).1 hv h1 (fun i p e hp he=>⟨(cc (h3 i p e hp he).1).1,(h3 i p e hp he).2.1⟩) w
   obtain⟨c,hc,iQ⟩:=pA 20 kt p.1 k (cc a1).1 (cc hk).1
   obtain⟨c',qt,qfS⟩:=pA 20 kt k k (cc hk).1 (cc hk).1
   have e1:=fk 20 10000 kt p.1 k c v v (by omega) hc (by rw[a2,Y1]) hv
   have e2:=fk 20 10000 kt k k c' v v (by omega) qt hv hv
   rw[e1] at e2
   cases e2
   exact iQ.1 (qfS.2 rfl)
  refine⟨ks.set i (k,y),by simp[h1],by simpa using h2,fun j q f hq hf=> ?_,?_,fun k' v'=> ?_,fun f hf=> ?_,?_⟩
  ·by_cases gn:i=j
   ·subst gn
    rw[List.getElem?_set_self Fx] at hq
    rw[List.getElem?_set_self hi] at hf
    cases hq
    cases hf
    exact⟨hk,hv,hx⟩
   ·rw[List.getElem?_set_ne gn] at hq hf
    exact h3 j q f hq hf
  ·have:(ks.set i (k,y)).map (·.1)=ks.map (·.1):=by
    apply List.ext_getElem?
    intro j
    by_cases gn:i=j
    ·subst gn
     simp[Fx,<-hpk]
     have:=List.getElem?_eq_getElem Fx
     rw[hp] at this
     cases this
     rfl
    ·simp[List.getElem?_set_ne gn]
   rw[this]
   exact h4
  ·by_cases e:k=k'
   ·subst e
    rw[zG]
    constructor
    ·intro e
     cases e
     exact List.mem_of_getElem? (i:=i) (by rw[List.getElem?_set_self Fx])
    ·intro hm
     obtain⟨j,hj⟩:=List.getElem?_of_mem hm
     by_cases gn:i=j
     ·subst gn
      rw[List.getElem?_set_self Fx] at hj
      cases hj
      rfl
     ·rw[List.getElem?_set_ne gn] at hj
      exact absurd (zP h4 hp hj hpk) gn
   ·rw[Ij _ _ e,h5]
    constructor
    ·intro hm
     obtain⟨j,hj⟩:=List.getElem?_of_mem hm
     have gn:i≠j:=fun gn=>by
      subst gn
      rw[hp] at hj
      cases hj
      exact e hpk.symm
     exact List.mem_of_getElem? (i:=j) (by rw[List.getElem?_set_ne gn];exact hj)
    ·intro hm
     obtain⟨j,hj⟩:=List.getElem?_of_mem hm
     by_cases gn:i=j
     ·subst gn
      rw[List.getElem?_set_self Fx] at hj
      cases hj
      exact absurd rfl e
     ·rw[List.getElem?_set_ne gn] at hj
      exact List.mem_of_getElem? hj
  ·rcases List.mem_or_eq_of_mem_set hf with hf |rfl
   ·exact h6 f hf
   ·exact h6 e (List.mem_of_getElem? he)
  ·have:(es.set i {e with key:=v,val:=x}).map (·.born)=es.map (·.born):=by
    apply List.ext_getElem?
    intro j
    by_cases gn:i=j
    ·subst gn
     simp[hi]
     have:=List.getElem?_eq_getElem hi
     rw[he] at this
     cases this
     rfl
    ·simp[List.getElem?_set_ne gn]
   rw[this]
   exact h7
theorem wx (h:aB Q T F G w a s) {dst:Option Nat} {t:TypeId} {p k x:P} {s':S} (hs:iF Q s dst t p k x=some s') {vm vk vx:Value} (hm:aD F w G s.rg vm p) (hk:aD F w G s.rg vk k) (hx:aD F w G s.rg vx x):
  ∃w' F' G',(Instr.mapUpdate t vm vk vx).run Q w= .ok () w'/\aB Q T F' G' w' (a.put dst undef) s'/\Ext (Own G s.rg) (Own G' s'.rg) F F' w w':=by
 unfold iF at hs
 split at hs
 ·rename_i kt e n aU kd wh
  have nF:=iq wh
  split at hs
  ·rename_i s1 y yN
   obtain⟨F',b1,b2,b3,b4,b5⟩:=vo h yN hx
   split at hs
   ·rename_i kt2 get c ho
    split at hs
    ·rename_i hc
     simp only[Bool.and_eq_true] at hc
     have Bb:=Nat.eq_of_beq_eq_true hc.1
     subst Bb
     obtain⟨S9,Ge,⟨kv,wb,Bc⟩⟩:=cc hc.2
     have lK:vk=kv:=hk.cw (p:= .d kd) wb
     subst lK
     have Ke:aD F' w G s1.rg vm (.mp n aU):=hm.mono b4 (fun _ _=>rfl) b3
     obtain⟨en,jC,WY,bR,zJ,b,es,clock,hG,hb,hM⟩:=Dx b1 Ke ho
     rw[hG] at zJ
     subst zJ
     obtain⟨ck,nG⟩:=Bc false
     have nG:=du nG w
     obtain⟨r,hr,Fq⟩:=hM.look hc.2 wb
     have gU:=hM.set hc.2 wb b5
     have ep:bu (G n) en.obj=some b:=by rw[bR,hG];rfl
     have bk:b<w.heap.size:=(Array.getElem?_eq_some_iff.1 hb).1
     have fin: ∀(fh:Array MapEntry) (er:Nat),nQ Q F' w kt (cO kd y get) (bif (get kd).isSome then c else c+1) fh.toList er->
       ∃F'' G',aB Q T F'' G' {w with heap:=w.heap.setIfInBounds b (.map fh er)} (a.put dst undef) s'/\Ext (Own G s.rg) (Own G' s'.rg) F F'' w {w with heap:=w.heap.setIfInBounds b (.map fh er)}:=by
      intro fh er hM'
      have fJ: ∀b0,b0≠b->(w.heap.setIfInBounds b (.map fh er))[b0]?=w.heap[b0]?:=fun b0 dz=>Array.getElem?_setIfInBounds_ne (Ne.symm dz)
      have wz:(w.heap.setIfInBounds b (.map fh er))[b]?=some (.map fh er):=by rw[Array.getElem?_setIfInBounds_self_of_lt bk]
      have pX:s1.setObj n (.map kt (cO kd y get) (bif (get kd).isSome then c else c+1) false)={s1 with rg:=ins n ⟨en.aU,en.tag,.map kt (cO kd y get) (bif (get kd).isSome then c else c+1) false⟩ s1.rg}:=by
       unfold S.setObj
       rw[jC]
      rw[pX] at hs
      have gF:qo G s1.rg n ⟨en.aU,en.tag,.map kt (cO kd y get) (bif (get kd).isSome then c else c+1) false⟩ (G n):=fun e' cF=>by
       rw[jC] at cF
       cases cF
       exact .inr ⟨rfl,fun _=>⟨by rw[bR];rfl,rfl⟩⟩
      have Bu: ∀b0,F' b0->b0≠b:=fun b0 hf e=>by
       subst e
       exact b1.lr n en b0 jC ep hf
      obtain⟨d1,d2⟩:=b1.mn (n:=n) (e1:=⟨en.aU,en.tag,.map kt (cO kd y get) (bif (get kd).isSome then c else c+1) false⟩) (g1:=G n) (w':={w with heap:=w.heap.setIfInBounds b (.map fh er)}) gF
       (fun b0 _ b9=>fJ b0 fun e=>by
        subst e
        exact b9 ⟨en,jC,ep⟩) (by simp) rfl rfl rfl
       (fun b0 Bp=> .inr ⟨en,jC,by
        have:bu (G n) (.map kt (cO kd y get) (bif (get kd).isSome then c else c+1) false)=some b0:=Bp
        rw[bR]
        exact this⟩)
       ⟨b,fh,er,by rw[bU];exact hG,wz,hM'.mono (fun _ h=>h) (fun b0 hf=>fJ b0 (Bu b0 hf)),fun hl=>by cases hl⟩
       (fun i hi _=>b1.tag n en i jC hi (by rw[bR];rfl))
      rw[bU] at d1 d2
      obtain⟨c1,c2⟩:=ct d1 hs (v:=undef) (cr.of (.bad _))
      refine⟨F',G,c1,?_⟩
      rw[c2]
      exact b2.trans d2
     rcases Fq with⟨rfl,hg⟩| ⟨i,Sk,y0,rfl,hi,Y1,hg,_⟩
     ·have:=gU.1 hg
      obtain⟨F'',G',e1,e2⟩:=fin (es.push {key:=vk,val:=vx,born:=clock}) (clock+1) (by rw[hg];simpa using this)
      refine⟨_,F'',G',?_,e1,e2⟩
      simp[Instr.mapUpdate,run_underlying nF,MapKept.run_getObj_map hb,nG,hr,MapKept.run_setObj_map _ hb]
     ·have:=gU.2 i Sk hi Y1 (by rw[hg];simp)
      have sW:es[i]?=some Sk:=by simpa using hi
      have bS:i<es.size:=(Array.getElem?_eq_some_iff.1 sW).1
      have NN:es.modify i (fun e=>{e with key:=vk,val:=vx})=es.setIfInBounds i {Sk with key:=vk,val:=vx}:=by
       apply Array.ext_getElem?
       intro j
       by_cases gn:i=j
       ·subst gn
        rw[Array.getElem?_modify,Array.getElem?_setIfInBounds_self_of_lt bS]
        simp[sW]
       ·rw[Array.getElem?_modify,Array.getElem?_setIfInBounds_ne gn]
        simp[gn]
      obtain⟨F'',G',e1,e2⟩:=fin (es.modify i fun e=>{e with key:=vk,val:=vx}) clock (by
       rw[hg,NN]
       simpa using this)
      refine⟨_,F'',G',?_,e1,e2⟩
      have jj:(Instr.keyThatStays vk vk).run Q w= .ok vk w:=by simp[Instr.keyThatStays,zH kd vk Ge wb]
      simp[Instr.mapUpdate,run_underlying nF,MapKept.run_getObj_map hb,nG,hr,sW,Y1,jj,MapKept.run_setObj_map _ hb]
    ·cases hs
   ·cases hs
  ·cases hs
 ·cases hs
theorem Gm (h:aB Q T F G w a s) {dst:Option Nat} {t:TypeId} {p k:P} {s':S} (hs:iG Q s dst t p k=some s') {vm vk:Value} (hm:aD F w G s.rg vm p) (hk:aD F w G s.rg vk k):
  ∃v w' F' G',(Instr.mapEntry t vm vk).run Q w= .ok v w'/\aB Q T F' G' w' (a.put dst v) s'/\Ext (Own G s.rg) (Own G' s'.rg) F F' w w':=by
 unfold iG at hs
 split at hs
 ·rename_i kt e n aU kd wh
  have nF:=iq wh
  split at hs
  ·rename_i z hz
   obtain⟨zv,zI,Ft⟩:=oz (F:=F) hz w
   split at hs
   ·rename_i kt2 get c ho
    split at hs
    ·rename_i hc
     simp only[Bool.and_eq_true,Bool.not_eq_true'] at hc
     obtain⟨⟨Bb,Nl⟩,Bn⟩:=hc
     have Bb:=Nat.eq_of_beq_eq_true Bb
     subst Bb
     have Bn:n≠site dst:=fun e=>by rw[e,Nat.beq_refl] at Bn;cases Bn
     split at hs
     ·rename_i s1 v1 hn
      obtain⟨S9,Ge,⟨kv,wb,Bc⟩⟩:=cc Nl
      have lK:vk=kv:=hk.cw (p:= .d kd) wb
      subst lK
      obtain⟨en,jC,WY,bR,zJ,b,es,clock,hG,hb,hM⟩:=Dx h hm ho
      rw[hG] at zJ
      subst zJ
      obtain⟨ck,nG⟩:=Bc false
      have nG:=du nG w
      obtain⟨r,hr,Fq⟩:=hM.look Nl wb
      have ep:bu (G n) en.obj=some b:=by rw[bR,hG];rfl
      have bk:b<w.heap.size:=(Array.getElem?_eq_some_iff.1 hb).1
      have fin: ∀(fh:Array MapEntry) (er:Nat) (i0:Nat) (e0:MapEntry) (val:Value),nQ Q F w kt (cO kd (cm (get kd) z) get) (bif (get kd).isSome then c else c+1) fh.toList er->fh[i0]?=some e0->e0.key=vk->aW F w val (cm (get kd) z)->
        ∃F' G',aB Q T F' G' {w with heap:=w.heap.setIfInBounds b (.map fh er)} (a.put dst (.tuple #[val,.int .i64 (e0.born:Int)])) s'/\Ext (Own G s.rg) (Own G' s'.rg) F F' w {w with heap:=w.heap.setIfInBounds b (.map fh er)}:=by
       intro fh er i0 e0 val hM' sX qfT hval
       obtain⟨b1,b2,b3,b4⟩:=lv h hn (g1:= .int .i64 (e0.born:Int)) (w':=w) (fun _ _=>rfl) (Nat.le_refl _) rfl rfl rfl (fun b hb=>by simp[bu] at hb) trivial
       obtain⟨pX,_⟩:=S.ki hn
       have hG1:mn G (site dst) (.int .i64 (e0.born:Int)) n=G n:=eI _ Bn
       have yQ:lk s1.rg n=some en:=by rw[pX];exact(bG _ _ (Ne.symm Bn)).trans jC
       have hN1:mn G (site dst) (.int .i64 (e0.born:Int)) (site dst)= .int .i64 (e0.born:Int):=aZ _ _ _
       generalize mn G (site dst) (.int .i64 (e0.born:Int))=G1 at b1 b2 b3 hG1 hN1
       have jk:G1 n= .map (some b):=hG1.trans hG
       have WZ:bu (G1 n) en.obj=some b:=by rw[bR,jk];rfl
       have fJ: ∀b0,b0≠b->(w.heap.setIfInBounds b (.map fh er))[b0]?=w.heap[b0]?:=fun b0 dz=>Array.getElem?_setIfInBounds_ne (Ne.symm dz)
       have wz:(w.heap.setIfInBounds b (.map fh er))[b]?=some (.map fh er):=by rw[Array.getElem?_setIfInBounds_self_of_lt bk]
       have gU:s1.setObj n (.jA kt (cO kd (cm (get kd) z) get) (bif (get kd).isSome then c else c+1) (.mp (site dst) v1) kd)={s1 with rg:=ins n ⟨en.aU,en.tag,.jA kt (cO kd (cm (get kd) z) get) (bif (get kd).isSome then c else c+1) (.mp (site dst) v1) kd⟩ s1.rg}:=by
        unfold S.setObj
        rw[yQ]
       rw[gU] at hs
       have Bu: ∀b0,F b0->b0≠b:=fun b0 hf e=>by
        subst e
        exact b1.lr n en b0 yQ WZ hf
       have jj: ∀(w1:World),aD F w1 G1 (ins n ⟨en.aU,en.tag,.jA kt (cO kd (cm (get kd) z) get) (bif (get kd).isSome then c else c+1) (.mp (site dst) v1) kd⟩ s1.rg) (.int .i64 (e0.born:Int)) (.mp (site dst) v1):=fun w1=>
        .mp _ _ _ rfl ⟨_,(bG _ _ Bn).trans b4,Nat.le_refl _,fun _ _=>hN1.symm⟩
       obtain⟨d1,d2⟩:=b1.mn (n:=n) (e1:=⟨en.aU,en.tag,.jA kt (cO kd (cm (get kd) z) get) (bif (get kd).isSome then c else c+1) (.mp (site dst) v1) kd⟩) (g1:=G1 n) (w':={w with heap:=w.heap.setIfInBounds b (.map fh er)}) (fun e' cF=>by
         rw[yQ] at cF
         cases cF
         exact .inr ⟨rfl,fun _=>⟨by rw[bR];rfl,rfl⟩⟩)
        (fun b0 _ b9=>fJ b0 fun e=>by
         subst e
         exact b9 ⟨en,yQ,WZ⟩) (by simp) rfl rfl rfl
        (fun b0 Bp=> .inr ⟨en,yQ,by
         have:bu (G1 n) (.jA kt (cO kd (cm (get kd) z) get) (bif (get kd).isSome then c else c+1) (.mp (site dst) v1) kd)=some b0:=Bp
         rw[bR]
         exact this⟩)
        ⟨b,fh,er,by rw[bU];exact jk,wz,hM'.mono (fun _ h=>h) (fun b0 hf=>fJ b0 (Bu b0 hf)),i0,e0,sX,by rw[bU];exact jj _,by rw[qfT];exact wb,by unfold cO;rw[(D.gA kd kd).2 rfl];rfl⟩
        (fun i hi _=>b1.tag n en i yQ hi (by rw[bR];rfl))
       rw[bU] at d1 d2
       obtain⟨c1,c2⟩:=ct d1 hs (v:= .tuple #[val,.int .i64 (e0.born:Int)]) (cr.of (.da [val,.int .i64 (e0.born:Int)] _ rfl (fun j v c hv hc=>by
        match j with
        |0=>simp at hv hc;subst hv;subst hc;exact .bad _
        |1=>simp at hv hc;subst hv;subst hc;exact jj _
        |j+2=>simp at hv)))
       refine⟨F,G1,c1,?_⟩
       rw[c2]
       exact b2.trans d2
      rcases Fq with⟨rfl,hg⟩| ⟨i,Sk,y0,rfl,hi,Y1,hg,hy0⟩
      ·have:=(hM.set Nl wb Ft).1 hg
       obtain⟨F',G',e1,e2⟩:=fin (es.push {key:=vk,val:=zv,born:=clock}) (clock+1) es.size _ zv (by rw[hg];simpa [cm] using this) (by simp;rfl) rfl (by rw[hg];exact Ft)
       refine⟨_,_,F',G',?_,e1,e2⟩
       simp[Instr.mapEntry,run_underlying nF,MapKept.run_getObj_map hb,nG,hr,zI,MapKept.run_setObj_map _ hb,goInt]
      ·have sW:es[i]?=some Sk:=by simpa using hi
       have bS:i<es.size:=(Array.getElem?_eq_some_iff.1 sW).1
       have:=(hM.set Nl wb hy0).2 i Sk hi Y1 (by rw[hg];simp)
       have NN:es.modify i (fun e=>{e with key:=vk})=es.setIfInBounds i {Sk with key:=vk,val:=Sk.val}:=by
        apply Array.ext_getElem?
        intro j
        by_cases gn:i=j
        ·subst gn
         rw[Array.getElem?_modify,Array.getElem?_setIfInBounds_self_of_lt bS]
         simp[sW]
        ·rw[Array.getElem?_modify,Array.getElem?_setIfInBounds_ne gn]
         simp[gn]
       obtain⟨F',G',e1,e2⟩:=fin (es.modify i fun e=>{e with key:=vk}) clock i {Sk with key:=vk} Sk.val (by
        rw[hg,NN]
        simpa [cm] using this) (by rw[Array.getElem?_modify];simp[sW]) rfl (by rw[hg];exact hy0)
       refine⟨_,_,F',G',?_,e1,e2⟩
       have jj:(Instr.keyThatStays vk vk).run Q w= .ok vk w:=by simp[Instr.keyThatStays,zH kd vk Ge wb]
       simp[Instr.mapEntry,run_underlying nF,MapKept.run_getObj_map hb,nG,hr,sW,Y1,jj,MapKept.run_setObj_map _ hb,goInt]
     ·cases hs
    ·cases hs
   ·cases hs
  ·cases hs
 ·cases hs
theorem Kp (h:aB Q T F G w a s) {dst:Option Nat} {t:TypeId} {p st x:P} {s':S} (hs:oh Q s dst p st x=some s') {vm vs vx:Value} (hm:aD F w G s.rg vm p) (jj:aD F w G s.rg vs st) (hx:aD F w G s.rg vx x):
  ∃w' F' G',(Instr.entryStore t vm vs vx).run Q w= .ok () w'/\aB Q T F' G' w' (a.put dst undef) s'/\Ext (Own G s.rg) (Own G' s'.rg) F F' w w':=by
 unfold oh at hs
 split at hs
 ·rename_i n aU m vm'
  split at hs
  ·rename_i s1 y yN
   obtain⟨F',b1,b2,b3,b4,b5⟩:=Nx h yN hx
   split at hs
   ·rename_i kt get c m2 vm2 kd ho Nu
    split at hs
    ·rename_i hc
     simp only[Bool.and_eq_true] at hc
     obtain⟨⟨e1,e2⟩,Nl⟩:=hc
     have e1:=Nat.eq_of_beq_eq_true e1
     have e2:=Nat.eq_of_beq_eq_true e2
     subst e1
     subst e2
     have Ke:aD F' w G s1.rg vm (.mp n aU):=hm.mono b4 (fun _ _=>rfl) b3
     have qfU:aD F' w G s1.rg vs (.mp m vm'):=jj.mono b4 (fun _ _=>rfl) b3
     obtain⟨en,jC,WY,bR,zJ,b,es,clock,hG,hb,hM,i,e0,hi,qde,hkd,W2⟩:=Nk b1 Ke ho
     rw[hG] at zJ
     subst zJ
     obtain⟨es0,qfV,qfW,qfX⟩:=S.bF Nu
     have num: ∀v,aD F' w G s1.rg v (.mp m vm')->v=G m:=fun v hv=>by
      cases hv with
      |mp _ _ _ _ hr=>
       obtain⟨e',cF,hle,hc⟩:=hr
       rw[qfV] at cF
       cases cF
       exact hc qfW.symm (by rw[qfX];rfl)
     have Ii:vs= .int .i64 (e0.born:Int):=(num _ qfU).trans (num _ qde).symm
     subst Ii
     have bS:i<es.size:=(Array.getElem?_eq_some_iff.1 hi).1
     obtain⟨_,Ge,_⟩:=cc Nl
     obtain⟨ks,h1,h2,h3,h4,h5,h6,h7⟩:=id hM
     have qdf:es.findIdx? (fun e=>(e.born:Int)==(e0.born:Int))=some i:=by
      rw[Array.findIdx?_eq_some_iff_getElem]
      have hei:es[i]=e0:=(Array.getElem?_eq_some_iff.1 hi).2
      refine⟨bS,by rw[hei];simp,fun j hj=> ?_⟩
      simp only[beq_iff_eq,Int.natCast_inj]
      intro hbj
      have Fv:j<es.size:=by omega
      have:=List.pairwise_iff_getElem.1 h7 j i (by simpa using Fv) (by simpa using bS) hj
      simp only[List.getElem_map,Array.getElem_toList] at this
      exact this (by rw[hei];exact hbj)
     have gU:=hM.set Nl hkd b5
     have hgs:get kd≠none:=fun e=>by rw[e] at W2;cases W2
     have hM':=gU.2 i e0 (by simpa using hi) rfl hgs
     have ep:bu (G n) en.obj=some b:=by rw[bR,hG];rfl
     have bk:b<w.heap.size:=(Array.getElem?_eq_some_iff.1 hb).1
     have NN:es.modify i (fun e=>{e with val:=vx})=es.setIfInBounds i {e0 with key:=e0.key,val:=vx}:=by
      apply Array.ext_getElem?
      intro j
      by_cases gn:i=j
      ·subst gn
       rw[Array.getElem?_modify,Array.getElem?_setIfInBounds_self_of_lt bS]
       simp[hi]
      ·rw[Array.getElem?_modify,Array.getElem?_setIfInBounds_ne gn]
       simp[gn]
     have hM2:nQ Q F' w kt (cO kd y get) c (es.modify i fun e=>{e with val:=vx}).toList clock:=by
      rw[NN]
      simpa using hM'
     have fJ: ∀b0,b0≠b->(w.heap.setIfInBounds b (.map (es.modify i fun e=>{e with val:=vx}) clock))[b0]?=w.heap[b0]?:=fun b0 dz=>Array.getElem?_setIfInBounds_ne (Ne.symm dz)
     have wz:(w.heap.setIfInBounds b (.map (es.modify i fun e=>{e with val:=vx}) clock))[b]?=some (.map (es.modify i fun e=>{e with val:=vx}) clock):=by rw[Array.getElem?_setIfInBounds_self_of_lt bk]
     have pX:s1.setObj n (.map kt (cO kd y get) c false)={s1 with rg:=ins n ⟨en.aU,en.tag,.map kt (cO kd y get) c false⟩ s1.rg}:=by
      unfold S.setObj
      rw[jC]
     rw[pX] at hs
     have Bu: ∀b0,F' b0->b0≠b:=fun b0 hf e=>by
      subst e
      exact b1.lr n en b0 jC ep hf
     obtain⟨d1,d2⟩:=b1.mn (n:=n) (e1:=⟨en.aU,en.tag,.map kt (cO kd y get) c false⟩) (g1:=G n) (w':={w with heap:=w.heap.setIfInBounds b (.map (es.modify i fun e=>{e with val:=vx}) clock)}) (fun e' cF=>by
       rw[jC] at cF
       cases cF
       exact .inr ⟨rfl,fun _=>⟨by rw[bR];rfl,rfl⟩⟩)
      (fun b0 _ b9=>fJ b0 fun e=>by
       subst e
       exact b9 ⟨en,jC,ep⟩) (by simp) rfl rfl rfl
      (fun b0 Bp=> .inr ⟨en,jC,by
       have:bu (G n) (.map kt (cO kd y get) c false)=some b0:=Bp
       rw[bR]
       exact this⟩)
      ⟨b,_,clock,by rw[bU];exact hG,wz,hM2.mono (fun _ h=>h) (fun b0 hf=>fJ b0 (Bu b0 hf)),fun hl=>by cases hl⟩
      (fun i hi _=>b1.tag n en i jC hi (by rw[bR];rfl))
     rw[bU] at d1 d2
     obtain⟨c1,c2⟩:=ct d1 hs (v:=undef) (cr.of (.bad _))
     refine⟨_,F',G,?_,c1,?_⟩
     ·simp[Instr.entryStore,MapKept.run_getObj_map hb,asInt,asIntOf,qdf,MapKept.run_setObj_map _ hb]
     ·rw[c2]
      exact b2.trans d2
    ·cases hs
   ·cases hs
  ·cases hs
 ·cases hs
end
end Pi
