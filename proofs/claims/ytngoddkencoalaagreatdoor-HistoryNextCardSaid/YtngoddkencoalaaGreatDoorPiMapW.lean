/- The text PiMapW. -/
import Derived.Test.YtngoddkencoalaaGreatDoorPiMk
namespace Pi
open Go
section
variable {Q:Program} {T:Tg} {F:Nat->Prop} {G:Nat->Value} {w:World} {a:Act} {s:S}
theorem EI (h:aC Q T F G w a s) {dst:Option Nat} {t:TypeId} {s':S} (hs:kG Q s dst t=some s'):
  ∃v w' G',(Instr.makeMap t none).run Q w= .ok v w'/\aC Q T F G' w' (a.put dst v) s'/\Ext (Own G s.rg) (Own G' s'.rg) F F w w':=by
 unfold kG at hs
 split at hs
 ·rename_i kt e Cg
  split at hs
  ·rename_i s1 v hn
   have eJ: ∀b,b<w.heap.size->(w.alloc (.map #[] 0)).heap[b]?=w.heap[b]?:=fun b hb=>heap_alloc_old w _ b hb
   obtain⟨b1,b2,b3,b4⟩:=mb h hn (g1:= .map (some w.heap.size)) (w':=w.alloc (.map #[] 0)) eJ (by simp) rfl rfl rfl (fun b hb=>by simp[bF,aQ] at hb;omega)
    ⟨w.heap.size, #[],0,a8 _ _ _,heap_alloc_new w _,⟨[],rfl,rfl,by simp,by simp,by simp,by simp,by simp⟩,fun hl=>by cases hl⟩
   obtain⟨c1,c2⟩:=cv b1 hs (v:= .map (some w.heap.size)) (ct.of (.mp (site dst) v _ rfl ⟨_,b4,zaj _,fun _ _=>(a8 _ _ _).symm⟩))
   refine⟨.map (some w.heap.size),_,_,by rfl,c1,?_⟩
   rw[c2]
   exact b2
  ·cases hs
 ·cases hs
theorem AO {ks:List (D×D)} (hd:(ks.map (·.1)).Nodup) {i j:Nat} {p q:D×D} (hi:ks[i]?=some p) (hj:ks[j]?=some q) (h:p.1=q.1):i=j:=by
 have hp:=zbi.1 hd
 grind
theorem oq.set {kt:TypeId} {get:D->Option D} {n:Int} {es:List MapEntry} {clock:Nat} (h:oq Q F w kt get n es clock) {k y:D} {v:Value} (hk:fR Q kt k=true) (hv:k.cy=some v) {x:Value} (hx:a7 F w x y):
  (get k=none->oq Q F w kt (cY k y get) (n+1) (es++[{key:=v,val:=x,born:=clock}]) (clock+1))/\
  (∀i e,es[i]?=some e->e.key=v->get k≠none->oq Q F w kt (cY k y get) n (es.set i {e with key:=v,val:=x}) clock):=by
 obtain⟨ks,h1,h2,h3,h4,h5,h6,h7⟩:=h
 constructor
 ·intro hg
  have hnk: ∀p∈ks,p.1≠k:=fun p hp e=>by
   have:=(h5 p.1 p.2).2 hp
   rw[e,hg] at this
   cases this
  refine⟨ks++[(k,y)],by simp[h1],by simp[h2],fun i p e hp he=> ?_,?_,fun k' v'=> ?_,fun e he=> ?_,?_⟩
  ·grind
  ·rw[zaB,za0]
   grind
  ·grind [AG,J7]
  ·grind
  grind
 ·intro i e he hek hg
  have hi:i<es.length:=(zad.1 he).1
  have hik:i<ks.length:=by omega
  obtain⟨p,hp⟩: ∃p,ks[i]?=some p:=⟨ks[i],zae hik⟩
  obtain⟨a1,a2,a3⟩:=h3 i p e hp he
  have hpk:p.1=k:=by
   obtain⟨y0,hy0⟩: ∃y0,get k=some y0:=by
    cases hgk:get k with
    |none=>grind
    |some y0=>simp
   have hm:=(h5 k y0).1 hy0
   obtain⟨j,hj,V1⟩:=zaU hm
   obtain⟨ej,hej⟩: ∃ej,es[j]?=some ej:=⟨es[j]'(by omega),zae (by omega)⟩
   obtain⟨_,b2,_⟩:=h3 j (k,y0) ej (by rw[zae hj,V1]) hej
   obtain⟨r,hr,uC⟩:=w6 (cu hk).1 hv h1 (fun i p e hp he=>⟨(cu (h3 i p e hp he).1).1,(h3 i p e hp he).2.1⟩) w
   obtain⟨c,hc,jG⟩:=p8 20 kt p.1 k (cu a1).1 (cu hk).1
   obtain⟨c',qP,qjb⟩:=p8 20 kt k k (cu hk).1 (cu hk).1
   have e1:=fE 20 10000 kt p.1 k c v v (by omega) hc (by rw[a2,hek]) hv
   have e2:=fE 20 10000 kt k k c' v v (by omega) qP hv hv
   rw[e1] at e2
   grind
  refine⟨ks.set i (k,y),by simp[h1],by grind,fun j q f hq hf=> ?_,?_,fun k' v'=> ?_,fun f hf=> ?_,?_⟩
  ·grind
  ·have:(ks.set i (k,y)).map (·.1)=ks.map (·.1):=by
    apply zco
    grind
   rw[this]
   exact h4
  ·by_cases e:k=k'
   ·subst e
    rw[AG]
    constructor
    ·intro e
     cases e
     exact zaC (i:=i) (by rw[zbO hik])
    ·intro hm
     obtain⟨j,hj⟩:=zaP hm
     by_cases qq:i=j
     ·subst qq
      rw[zbO hik] at hj
      cases hj
      rfl
     ·rw[zaW qq] at hj
      exact absurd (AO h4 hp hj hpk) qq
   ·rw[J7 _ _ e,h5]
    constructor
    ·intro hm
     obtain⟨j,hj⟩:=zaP hm
     have qq:i≠j:=fun qq=>by
      grind
     exact zaC (i:=j) (by rw[zaW qq];exact hj)
    grind
  ·grind
  ·have:(es.set i {e with key:=v,val:=x}).map (·.born)=es.map (·.born):=by
    apply zco
    grind
   rw[this]
   exact h7
theorem xi (h:aC Q T F G w a s) {dst:Option Nat} {t:TypeId} {p k x:P} {s':S} (hs:ja Q s dst t p k x=some s') {vm vk vx:Value} (hm:aF F w G s.rg vm p) (hk:aF F w G s.rg vk k) (hx:aF F w G s.rg vx x):
  ∃w' F' G',(Instr.mapUpdate t vm vk vx).run Q w= .ok () w'/\aC Q T F' G' w' (a.put dst undef) s'/\Ext (Own G s.rg) (Own G' s'.rg) F F' w w':=by
 unfold ja at hs
 split at hs
 ·rename_i kt e n aX kd Cg
  have n5:=iK Cg
  split at hs
  ·rename_i s1 y EE
   obtain⟨F',b1,b2,b3,b4,b5⟩:=wg h EE hx
   split at hs
   ·rename_i kt2 get c ho
    split at hs
    ·rename_i hc
     simp only[zab] at hc
     have DQ:=zaf hc.1
     subst DQ
     obtain⟨VO,LR,⟨kv,w7,Cb⟩⟩:=cu hc.2
     have mr:vk=kv:=hk.cy (p:= .d kd) w7
     subst mr
     have L2:aF F' w G s1.rg vm (.mp n aX):=hm.mono b4 (fun _ _=>rfl) b3
     obtain⟨en,mF,qay,bV,AJ,b,es,clock,hG,hb,hM⟩:=Eu b1 L2 ho
     rw[hG] at AJ
     subst AJ
     obtain⟨ck,n9⟩:=Cb false
     have n9:=dB n9 w
     obtain⟨r,hr,uC⟩:=hM.look hc.2 w7
     have jK:=hM.set hc.2 w7 b5
     have fU:bF (G n) en.obj=some b:=by rw[bV,hG];rfl
     have bG:b<w.heap.size:=(zar.1 hb).1
     have fin: ∀(fA:Array MapEntry) (eD:Nat),oq Q F' w kt (cY kd y get) (bif (get kd).isSome then c else c+1) fA.toList eD->
       ∃F'' G',aC Q T F'' G' {w with heap:=w.heap.setIfInBounds b (.map fA eD)} (a.put dst undef) s'/\Ext (Own G s.rg) (Own G' s'.rg) F F'' w {w with heap:=w.heap.setIfInBounds b (.map fA eD)}:=by
      intro fA eD hM'
      have gm: ∀b0,b0≠b->(w.heap.setIfInBounds b (.map fA eD))[b0]?=w.heap[b0]?:=fun b0 dG=>zaX (zbC dG)
      have xj:(w.heap.setIfInBounds b (.map fA eD))[b]?=some (.map fA eD):=by rw[zbv bG]
      have r0:s1.setObj n (.map kt (cY kd y get) (bif (get kd).isSome then c else c+1) false)={s1 with rg:=ins n ⟨en.aX,en.tag,.map kt (cY kd y get) (bif (get kd).isSome then c else c+1) false⟩ s1.rg}:=by
       unfold S.setObj
       rw[mF]
      rw[r0] at hs
      have fZ:qN G s1.rg n ⟨en.aX,en.tag,.map kt (cY kd y get) (bif (get kd).isSome then c else c+1) false⟩ (G n):=fun e' cI=>by
       rw[mF] at cI
       cases cI
       exact .inr ⟨rfl,fun _=>⟨by rw[bV];rfl,rfl⟩⟩
      have Cp: ∀b0,F' b0->b0≠b:=fun b0 hf e=>by
       subst e
       exact b1.mq n en b0 mF fU hf
      obtain⟨d1,d2⟩:=b1.mY (n:=n) (e1:=⟨en.aX,en.tag,.map kt (cY kd y get) (bif (get kd).isSome then c else c+1) false⟩) (g1:=G n) (w':={w with heap:=w.heap.setIfInBounds b (.map fA eD)}) fZ
       (fun b0 _ bZ=>gm b0 fun e=>by
        grind) (by simp) rfl rfl rfl
       (fun b0 Cl=> .inr ⟨en,mF,by
        have:bF (G n) (.map kt (cY kd y get) (bif (get kd).isSome then c else c+1) false)=some b0:=Cl
        rw[bV]
        exact this⟩)
       ⟨b,fA,eD,by rw[bW];exact hG,xj,hM'.mono (fun _ h=>h) (fun b0 hf=>gm b0 (Cp b0 hf)),fun hl=>by cases hl⟩
       (fun i hi _=>b1.tag n en i mF hi (by rw[bV];rfl))
      rw[bW] at d1 d2
      obtain⟨c1,c2⟩:=cv d1 hs (v:=undef) (ct.of (.bad _))
      refine⟨F',G,c1,?_⟩
      rw[c2]
      exact b2.trans d2
     rcases uC with⟨rfl,hg⟩| ⟨i,V2,y0,rfl,hi,hek,hg,_⟩
     ·skip
      obtain⟨F'',G',e1,e2⟩:=fin (es.push {key:=vk,val:=vx,born:=clock}) (clock+1) (by grind)
      refine⟨_,F'',G',?_,e1,e2⟩
      simp[Instr.mapUpdate,run_underlying n5,MapKept.run_getObj_map hb,n9,hr,MapKept.run_setObj_map _ hb]
     ·skip
      have xh:es[i]?=some V2:=by grind
      have qbD:es.modify i (fun e=>{e with key:=vk,val:=vx})=es.setIfInBounds i {V2 with key:=vk,val:=vx}:=by
       grind
      obtain⟨F'',G',e1,e2⟩:=fin (es.modify i fun e=>{e with key:=vk,val:=vx}) clock (by
       grind)
      refine⟨_,F'',G',?_,e1,e2⟩
      have kO:(Instr.keyThatStays vk vk).run Q w= .ok vk w:=by simp[Instr.keyThatStays,AH kd vk LR w7]
      simp[Instr.mapUpdate,run_underlying n5,MapKept.run_getObj_map hb,n9,hr,xh,hek,kO,MapKept.run_setObj_map _ hb]
    ·cases hs
   ·cases hs
  ·cases hs
 ·cases hs
theorem HT (h:aC Q T F G w a s) {dst:Option Nat} {t:TypeId} {p k:P} {s':S} (hs:jb Q s dst t p k=some s') {vm vk:Value} (hm:aF F w G s.rg vm p) (hk:aF F w G s.rg vk k):
  ∃v w' F' G',(Instr.mapEntry t vm vk).run Q w= .ok v w'/\aC Q T F' G' w' (a.put dst v) s'/\Ext (Own G s.rg) (Own G' s'.rg) F F' w w':=by
 unfold jb at hs
 split at hs
 ·rename_i kt e n aX kd Cg
  have n5:=iK Cg
  split at hs
  ·rename_i z hz
   obtain⟨zv,AI,GQ⟩:=o9 (F:=F) hz w
   split at hs
   ·rename_i kt2 get c ho
    split at hs
    ·rename_i hc
     simp only[zab,zbs] at hc
     obtain⟨⟨DQ,UX⟩,EB⟩:=hc
     have DQ:=zaf DQ
     subst DQ
     have EB:n≠site dst:=fun e=>by rw[e,Nat.beq_refl] at EB;cases EB
     split at hs
     ·rename_i s1 v1 hn
      obtain⟨VO,LR,⟨kv,w7,Cb⟩⟩:=cu UX
      have mr:vk=kv:=hk.cy (p:= .d kd) w7
      subst mr
      obtain⟨en,mF,qay,bV,AJ,b,es,clock,hG,hb,hM⟩:=Eu h hm ho
      rw[hG] at AJ
      subst AJ
      obtain⟨ck,n9⟩:=Cb false
      have n9:=dB n9 w
      obtain⟨r,hr,uC⟩:=hM.look UX w7
      have bG:b<w.heap.size:=(zar.1 hb).1
      have fin: ∀(fA:Array MapEntry) (eD:Nat) (i0:Nat) (e0:MapEntry) (val:Value),oq Q F w kt (cY kd (cD (get kd) z) get) (bif (get kd).isSome then c else c+1) fA.toList eD->fA[i0]?=some e0->e0.key=vk->a7 F w val (cD (get kd) z)->
        ∃F' G',aC Q T F' G' {w with heap:=w.heap.setIfInBounds b (.map fA eD)} (a.put dst (.tuple #[val,.int .i64 (e0.born:Int)])) s'/\Ext (Own G s.rg) (Own G' s'.rg) F F' w {w with heap:=w.heap.setIfInBounds b (.map fA eD)}:=by
       intro fA eD i0 e0 val hM' oM qhE hval
       obtain⟨b1,b2,b3,b4⟩:=mb h hn (g1:= .int .i64 (e0.born:Int)) (w':=w) (fun _ _=>rfl) (zaj _) rfl rfl rfl (fun b hb=>by simp[bF] at hb) trivial
       obtain⟨r0,_⟩:=S.kV hn
       have hG1:mY G (site dst) (.int .i64 (e0.born:Int)) n=G n:=eS _ EB
       have Cq:lk s1.rg n=some en:=by grind [bU]
       have hN1:mY G (site dst) (.int .i64 (e0.born:Int)) (site dst)= .int .i64 (e0.born:Int):=a8 _ _ _
       generalize mY G (site dst) (.int .i64 (e0.born:Int))=G1 at b1 b2 b3 hG1 hN1
       have jJ:G1 n= .map (some b):=hG1.trans hG
       have qe1:bF (G1 n) en.obj=some b:=by rw[bV,jJ];rfl
       have gm: ∀b0,b0≠b->(w.heap.setIfInBounds b (.map fA eD))[b0]?=w.heap[b0]?:=fun b0 dG=>zaX (zbC dG)
       have xj:(w.heap.setIfInBounds b (.map fA eD))[b]?=some (.map fA eD):=by rw[zbv bG]
       have jK:s1.setObj n (.jZ kt (cY kd (cD (get kd) z) get) (bif (get kd).isSome then c else c+1) (.mp (site dst) v1) kd)={s1 with rg:=ins n ⟨en.aX,en.tag,.jZ kt (cY kd (cD (get kd) z) get) (bif (get kd).isSome then c else c+1) (.mp (site dst) v1) kd⟩ s1.rg}:=by
        unfold S.setObj
        rw[Cq]
       rw[jK] at hs
       have Cp: ∀b0,F b0->b0≠b:=fun b0 hf e=>by
        subst e
        exact b1.mq n en b0 Cq qe1 hf
       have kO: ∀(w1:World),aF F w1 G1 (ins n ⟨en.aX,en.tag,.jZ kt (cY kd (cD (get kd) z) get) (bif (get kd).isSome then c else c+1) (.mp (site dst) v1) kd⟩ s1.rg) (.int .i64 (e0.born:Int)) (.mp (site dst) v1):=fun w1=>
        .mp _ _ _ rfl ⟨_,(bU _ _ EB).trans b4,zaj _,fun _ _=>hN1.symm⟩
       obtain⟨d1,d2⟩:=b1.mY (n:=n) (e1:=⟨en.aX,en.tag,.jZ kt (cY kd (cD (get kd) z) get) (bif (get kd).isSome then c else c+1) (.mp (site dst) v1) kd⟩) (g1:=G1 n) (w':={w with heap:=w.heap.setIfInBounds b (.map fA eD)}) (fun e' cI=>by
         rw[Cq] at cI
         cases cI
         exact .inr ⟨rfl,fun _=>⟨by rw[bV];rfl,rfl⟩⟩)
        (fun b0 _ bZ=>gm b0 fun e=>by
         grind) (by simp) rfl rfl rfl
        (fun b0 Cl=> .inr ⟨en,Cq,by
         have:bF (G1 n) (.jZ kt (cY kd (cD (get kd) z) get) (bif (get kd).isSome then c else c+1) (.mp (site dst) v1) kd)=some b0:=Cl
         rw[bV]
         exact this⟩)
        ⟨b,fA,eD,by rw[bW];exact jJ,xj,hM'.mono (fun _ h=>h) (fun b0 hf=>gm b0 (Cp b0 hf)),i0,e0,oM,by rw[bW];exact kO _,by rw[qhE];exact w7,by grind [cY,D.gU]⟩
        (fun i hi _=>b1.tag n en i Cq hi (by rw[bV];rfl))
       rw[bW] at d1 d2
       obtain⟨c1,c2⟩:=cv d1 hs (v:= .tuple #[val,.int .i64 (e0.born:Int)]) (ct.of (.cV [val,.int .i64 (e0.born:Int)] _ rfl (fun j v c hv hc=>by
        match j with
        |0=>simp at hv hc;subst hc;exact .bad _
        |1=>grind
        |j+2=>simp at hv)))
       refine⟨F,G1,c1,?_⟩
       rw[c2]
       exact b2.trans d2
      rcases uC with⟨rfl,hg⟩| ⟨i,V2,y0,rfl,hi,hek,hg,hy0⟩
      ·have:=(hM.set UX w7 GQ).1 hg
       obtain⟨F',G',e1,e2⟩:=fin (es.push {key:=vk,val:=zv,born:=clock}) (clock+1) es.size _ zv (by rw[hg];simpa [cD] using this) (by simp;rfl) rfl (by rw[hg];exact GQ)
       refine⟨_,_,F',G',?_,e1,e2⟩
       simp[Instr.mapEntry,run_underlying n5,MapKept.run_getObj_map hb,n9,hr,AI,MapKept.run_setObj_map _ hb,goInt]
      ·have xh:es[i]?=some V2:=by grind
       have:=(hM.set UX w7 hy0).2 i V2 hi hek (by rw[hg];simp)
       have qbD:es.modify i (fun e=>{e with key:=vk})=es.setIfInBounds i {V2 with key:=vk,val:=V2.val}:=by
        grind
       obtain⟨F',G',e1,e2⟩:=fin (es.modify i fun e=>{e with key:=vk}) clock i {V2 with key:=vk} V2.val (by
        rw[hg,qbD]
        simpa [cD] using this) (by rw[zcC];simp[xh]) rfl (by rw[hg];exact hy0)
       refine⟨_,_,F',G',?_,e1,e2⟩
       have kO:(Instr.keyThatStays vk vk).run Q w= .ok vk w:=by simp[Instr.keyThatStays,AH kd vk LR w7]
       simp[Instr.mapEntry,run_underlying n5,MapKept.run_getObj_map hb,n9,hr,xh,hek,kO,MapKept.run_setObj_map _ hb,goInt]
     ·cases hs
    ·cases hs
   ·cases hs
  ·cases hs
 ·cases hs
theorem Ma (h:aC Q T F G w a s) {dst:Option Nat} {t:TypeId} {p st x:P} {s':S} (hs:oY Q s dst p st x=some s') {vm vs vx:Value} (hm:aF F w G s.rg vm p) (kO:aF F w G s.rg vs st) (hx:aF F w G s.rg vx x):
  ∃w' F' G',(Instr.entryStore t vm vs vx).run Q w= .ok () w'/\aC Q T F' G' w' (a.put dst undef) s'/\Ext (Own G s.rg) (Own G' s'.rg) F F' w w':=by
 unfold oY at hs
 split at hs
 ·rename_i n aX m vm'
  split at hs
  ·rename_i s1 y EE
   obtain⟨F',b1,b2,b3,b4,b5⟩:=Pk h EE hx
   split at hs
   ·rename_i kt get c m2 vm2 kd ho Pg
    split at hs
    ·rename_i hc
     simp only[zab] at hc
     obtain⟨⟨e1,e2⟩,UX⟩:=hc
     have e1:=zaf e1
     have e2:=zaf e2
     subst e1
     subst e2
     have L2:aF F' w G s1.rg vm (.mp n aX):=hm.mono b4 (fun _ _=>rfl) b3
     have qhF:aF F' w G s1.rg vs (.mp m vm'):=kO.mono b4 (fun _ _=>rfl) b3
     obtain⟨en,mF,qay,bV,AJ,b,es,clock,hG,hb,hM,i,e0,hi,qe2,hkd,qaz⟩:=O8 b1 L2 ho
     rw[hG] at AJ
     subst AJ
     obtain⟨es0,qhG,qhH,qhI⟩:=S.bH Pg
     have num: ∀v,aF F' w G s1.rg v (.mp m vm')->v=G m:=fun v hv=>by
      cases hv with
      |mp _ _ _ _ hr=>
       obtain⟨e',cI,hle,hc⟩:=hr
       rw[qhG] at cI
       cases cI
       exact hc qhH.symm (by rw[qhI];rfl)
     have LQ:vs= .int .i64 (e0.born:Int):=(num _ qhF).trans (num _ qe2).symm
     subst LQ
     have bN:i<es.size:=(zar.1 hi).1
     obtain⟨ks,h1,h2,h3,h4,h5,h6,h7⟩:=id hM
     have qe3:es.findIdx? (fun e=>(e.born:Int)==(e0.born:Int))=some i:=by
      rw[Array.findIdx?_eq_some_iff_getElem]
      have hei:es[i]=e0:=(zar.1 hi).2
      refine⟨bN,by rw[hei];simp,fun j hj=> ?_⟩
      grind [List.pairwise_iff_getElem]
     have jK:=hM.set UX hkd b5
     have hgs:get kd≠none:=fun e=>by rw[e] at qaz;cases qaz
     have hM':=jK.2 i e0 (by grind) rfl hgs
     have fU:bF (G n) en.obj=some b:=by rw[bV,hG];rfl
     have bG:b<w.heap.size:=(zar.1 hb).1
     have qbD:es.modify i (fun e=>{e with val:=vx})=es.setIfInBounds i {e0 with key:=e0.key,val:=vx}:=by
      grind
     have hM2:oq Q F' w kt (cY kd y get) c (es.modify i fun e=>{e with val:=vx}).toList clock:=by
      grind
     have gm: ∀b0,b0≠b->(w.heap.setIfInBounds b (.map (es.modify i fun e=>{e with val:=vx}) clock))[b0]?=w.heap[b0]?:=fun b0 dG=>zaX (zbC dG)
     have xj:(w.heap.setIfInBounds b (.map (es.modify i fun e=>{e with val:=vx}) clock))[b]?=some (.map (es.modify i fun e=>{e with val:=vx}) clock):=by rw[zbv bG]
     have r0:s1.setObj n (.map kt (cY kd y get) c false)={s1 with rg:=ins n ⟨en.aX,en.tag,.map kt (cY kd y get) c false⟩ s1.rg}:=by
      unfold S.setObj
      rw[mF]
     rw[r0] at hs
     have Cp: ∀b0,F' b0->b0≠b:=fun b0 hf e=>by
      subst e
      exact b1.mq n en b0 mF fU hf
     obtain⟨d1,d2⟩:=b1.mY (n:=n) (e1:=⟨en.aX,en.tag,.map kt (cY kd y get) c false⟩) (g1:=G n) (w':={w with heap:=w.heap.setIfInBounds b (.map (es.modify i fun e=>{e with val:=vx}) clock)}) (fun e' cI=>by
       rw[mF] at cI
       cases cI
       exact .inr ⟨rfl,fun _=>⟨by rw[bV];rfl,rfl⟩⟩)
      (fun b0 _ bZ=>gm b0 fun e=>by
       grind) (by simp) rfl rfl rfl
      (fun b0 Cl=> .inr ⟨en,mF,by
       have:bF (G n) (.map kt (cY kd y get) c false)=some b0:=Cl
       rw[bV]
       exact this⟩)
      ⟨b,_,clock,by rw[bW];exact hG,xj,hM2.mono (fun _ h=>h) (fun b0 hf=>gm b0 (Cp b0 hf)),fun hl=>by cases hl⟩
      (fun i hi _=>b1.tag n en i mF hi (by rw[bV];rfl))
     rw[bW] at d1 d2
     obtain⟨c1,c2⟩:=cv d1 hs (v:=undef) (ct.of (.bad _))
     refine⟨_,F',G,?_,c1,?_⟩
     ·simp[Instr.entryStore,MapKept.run_getObj_map hb,asInt,asIntOf,qe3,MapKept.run_setObj_map _ hb]
     ·rw[c2]
      exact b2.trans d2
    ·cases hs
   ·cases hs
  ·cases hs
 ·cases hs
end
end Pi
