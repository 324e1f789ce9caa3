/- The text PiMapW. -/
import Derived.Test.YtfelfooeclnbiaaGreatDoorPiMk
namespace Pi
open Go
section
variable{Q:Program}{T:Tg}{F:Nat->Prop}{G:Nat->Value}{w:World}{a:Act}{s:S}
theorem EH(h:aB Q T F G w a s){dst:Option Nat}{t:TypeId}{s':S}(hs:kB Q s dst t=some s'):
  ∃v w' G',(Instr.makeMap t none).run Q w= .ok v w'/\aB Q T F G' w' (a.put dst v) s'/\Ext (Own G s.rg) (Own G' s'.rg) F F w w':=by
 unfold kB at hs;split at hs
 next kt e Hl=>
  split at hs
  next s1 v hn=>
   have eF: ∀b,b<w.heap.size->(w.alloc (.map #[] 0)).heap[b]?=w.heap[b]?:=λb hb=>heap_alloc_old w _ b hb;obtain⟨b1,b2,b3,b4⟩:=l5 h hn (g1:= .map (some w.heap.size)) (w':=w.alloc (.map #[] 0)) eF (by simp) rfl rfl rfl (λb hb=>by simp[bm,aI] at hb;omega)
    ⟨w.heap.size, #[],0,aV _ _ _,heap_alloc_new w _,⟨[],rfl,rfl,by simp,by simp,by simp,by simp,by simp⟩,λhl=>by cases hl⟩
   obtain⟨c1,c2⟩:=cr b1 hs (v:= .map (some w.heap.size)) (cy.of (.mp (site dst) v _ rfl ⟨_,b4,zai _,λ_ _=>(aV _ _ _).symm⟩));refine⟨.map (some w.heap.size),_,_,by rfl,c1,?_⟩;rw[c2];exact b2
  cases hs
 cases hs
theorem AR{ks:List (D×D)}(hd:(ks.map (·.1)).Nodup){i j:Nat}{p q:D×D}(hi:ks[i]?=some p)(hj:ks[j]?=some q)(h:p.1=q.1):i=j:=by have hp:=zba.1 hd;grind
theorem oI.set{kt:TypeId}{get:D->Option D}{n:Int}{es:List MapEntry}{clock:Nat}(h:oI Q F w kt get n es clock){k y:D}{v:Value}(hk:fS Q kt k=true)(hv:k.cp=some v){x:Value}(hx:aU F w x y):
  (get k=none->oI Q F w kt (gu k y get) (n+1) (es++[{key:=v,val:=x,born:=clock}]) (clock+1))/\
  (∀i e,es[i]?=some e->e.key=v->get k≠none->oI Q F w kt (gu k y get) n (es.set i {e with key:=v,val:=x}) clock):=by
 obtain⟨ks,h1,h2,h3,h4,h5,h6,h7⟩:=h;constructor
 ·intro hg;have hnk: ∀p∈ks,p.1≠k:=λp hp e=>by have:=(h5 p.1 p.2).2 hp;rw[e,hg] at this;cases this
  refine⟨ks++[(k,y)],by simp[h1],by simp[h2],λi p e hp he=> ?_,?_,λk' v'=> ?_,λe he=> ?_,?_⟩
  ·grind
  ·rw[zaG,zbb];grind
  ·grind [AF,Ke]
  ·grind
  grind
 intro i e he hek hg;have hi:i<es.length:=(zae.1 he).1;have hik:i<ks.length:=by omega
 obtain⟨p,hp⟩: ∃p,ks[i]?=some p:=⟨ks[i],zac hik⟩
 obtain⟨a1,a2,a3⟩:=h3 i p e hp he;have hpk:p.1=k:=by
  obtain⟨y0,hy0⟩: ∃y0,get k=some y0:=by
   cases hgk:get k with
   |none=>grind
   |some y0=>simp
  have hm:=(h5 k y0).1 hy0;obtain⟨j,hj,Wf⟩:=zaN hm;obtain⟨ej,hej⟩: ∃ej,es[j]?=some ej:=⟨es[j]'(by omega),zac (by omega)⟩
  obtain⟨_,b2,_⟩:=h3 j (k,y0) ej (by rw[zac hj,Wf]) hej;obtain⟨r,hr,vd⟩:=xf (cq hk).1 hv h1 (λi p e hp he=>⟨(cq (h3 i p e hp he).1).1,(h3 i p e hp he).2.1⟩) w;obtain⟨c,hc,ln⟩:=p0 20 kt p.1 k (cq a1).1 (cq hk).1;obtain⟨c',zm,qiT⟩:=p0 20 kt k k (cq hk).1 (cq hk).1;have e1:=fH 20 10000 kt p.1 k c v v (by omega) hc (by rw[a2,hek]) hv;have e2:=fH 20 10000 kt k k c' v v (by omega) zm hv hv;rw[e1] at e2;grind
 refine⟨ks.set i (k,y),by simp[h1],by grind,λj q f hq hf=> ?_,?_,λk' v'=> ?_,λf hf=> ?_,?_⟩
 ·grind
 ·have:(ks.set i (k,y)).map (·.1)=ks.map (·.1):=by apply zct;grind
  rw[this];exact h4
 ·by_cases e:k=k'
  ·subst e;rw[AF];constructor
   ·intro e;cases e;exact zaz (i:=i) (by rw[zch hik])
   intro hm;obtain⟨j,hj⟩:=zaP hm;by_cases sF:i=j
   ·subst sF;rw[zch hik] at hj;cases hj;rfl
   rw[zaY sF] at hj;exact absurd (AR h4 hp hj hpk) sF
  rw[Ke _ _ e,h5];constructor
  ·intro hm;obtain⟨j,hj⟩:=zaP hm;have sF:i≠j:=λsF=>by grind
   exact zaz (i:=j) (by rw[zaY sF];exact hj)
  grind
 ·grind
 have:(es.set i {e with key:=v,val:=x}).map (·.born)=es.map (·.born):=by apply zct;grind
 rw[this];exact h7
theorem xt(h:aB Q T F G w a s){dst:Option Nat}{t:TypeId}{p k x:P}{s':S}(hs:iV Q s dst t p k x=some s'){vm vk vx:Value}(hm:aF F w G s.rg vm p)(hk:aF F w G s.rg vk k)(hx:aF F w G s.rg vx x):
  ∃w' F' G',(Instr.mapUpdate t vm vk vx).run Q w= .ok () w'/\aB Q T F' G' w' (a.put dst undef) s'/\Ext (Own G s.rg) (Own G' s'.rg) F F' w w':=by
 unfold iV at hs;split at hs
 next kt e n aR kd Hl=>
  have oh:=iF Hl;split at hs
  next s1 y DP=>
   obtain⟨F',b1,b2,b3,b4,b5⟩:=wF h DP hx;split at hs
   ·rename_i kt2 get c ho;split at hs
    ·rename_i hc;simp only[zad] at hc;have DN:=zah hc.1;subst DN;obtain⟨Og,L6,⟨kv,xg,B9⟩⟩:=cq hc.2;have mY:vk=kv:=hk.cp (p:= .d kd) xg;subst mY;have Mf:aF F' w G s1.rg vm (.mp n aR):=hm.mono b4 (λ_ _=>rfl) b3;obtain⟨en,mC,qaT,bH,AI,b,es,clock,hG,hb,hM⟩:=Ex b1 Mf ho;rw[hG] at AI;subst AI;obtain⟨ck,oT⟩:=B9 false;have oT:=dn oT w;obtain⟨r,hr,vd⟩:=hM.look hc.2 xg;have nC:=hM.set hc.2 xg b5;have fV:bm (G n) en.obj=some b:=by rw[bH,hG];rfl
     have bz:b<w.heap.size:=(zau.1 hb).1;have fin: ∀(jI:Array MapEntry) (eu:Nat),oI Q F' w kt (gu kd y get) (bif (get kd).isSome then c else c+1) jI.toList eu->
       ∃F'' G',aB Q T F'' G' {w with heap:=w.heap.setIfInBounds b (.map jI eu)} (a.put dst undef) s'/\Ext (Own G s.rg) (Own G' s'.rg) F F'' w {w with heap:=w.heap.setIfInBounds b (.map jI eu)}:=by
      intro jI eu hM';have kq: ∀b0,b0≠b->(w.heap.setIfInBounds b (.map jI eu))[b0]?=w.heap[b0]?:=λb0 cU=>zaV (zbs cU);have xu:(w.heap.setIfInBounds b (.map jI eu))[b]?=some (.map jI eu):=by rw[zbD bz]
      have oK:s1.setObj n (.map kt (gu kd y get) (bif (get kd).isSome then c else c+1) false)={s1 with rg:=ins n ⟨en.aR,en.tag,.map kt (gu kd y get) (bif (get kd).isSome then c else c+1) false⟩ s1.rg}:=by unfold S.setObj;rw[mC]
      rw[oK] at hs;have eS:oo G s1.rg n ⟨en.aR,en.tag,.map kt (gu kd y get) (bif (get kd).isSome then c else c+1) false⟩ (G n):=λe' cx=>by rw[mC] at cx;cases cx;exact .inr ⟨rfl,λ_=>⟨by rw[bH];rfl,rfl⟩⟩
      have Cm: ∀b0,F' b0->b0≠b:=λb0 hf e=>by subst e;exact b1.mg n en b0 mC fV hf
      obtain⟨d1,d2⟩:=b1.mh (n:=n) (e1:=⟨en.aR,en.tag,.map kt (gu kd y get) (bif (get kd).isSome then c else c+1) false⟩) (g1:=G n) (w':={w with heap:=w.heap.setIfInBounds b (.map jI eu)}) eS
       (λb0 _ bk=>kq b0 λe=>by grind) (by simp) rfl rfl rfl
       (λb0 wC=> .inr ⟨en,mC,by have:bm (G n) (.map kt (gu kd y get) (bif (get kd).isSome then c else c+1) false)=some b0:=wC;rw[bH];exact this⟩)
       ⟨b,jI,eu,by rw[bx];exact hG,xu,hM'.mono (λ_ h=>h) (λb0 hf=>kq b0 (Cm b0 hf)),λhl=>by cases hl⟩
       (λi hi _=>b1.tag n en i mC hi (by rw[bH];rfl))
      rw[bx] at d1 d2;obtain⟨c1,c2⟩:=cr d1 hs (v:=undef) (cy.of (.bad _));refine⟨F',G,c1,?_⟩;rw[c2];exact b2.trans d2
     rcases vd with⟨rfl,hg⟩| ⟨i,Wg,y0,rfl,hi,hek,hg,_⟩
     ·skip
      obtain⟨F'',G',e1,e2⟩:=fin (es.push {key:=vk,val:=vx,born:=clock}) (clock+1) (by grind);refine⟨_,F'',G',?_,e1,e2⟩;simp[Instr.mapUpdate,run_underlying oh,MapKept.run_getObj_map hb,oT,hr,MapKept.run_setObj_map _ hb]
     skip
     have zl:es[i]?=some Wg:=by grind
     have qbU:es.modify i (λe=>{e with key:=vk,val:=vx})=es.setIfInBounds i {Wg with key:=vk,val:=vx}:=by grind
     obtain⟨F'',G',e1,e2⟩:=fin (es.modify i λe=>{e with key:=vk,val:=vx}) clock (by grind);refine⟨_,F'',G',?_,e1,e2⟩;have jy:(Instr.keyThatStays vk vk).run Q w= .ok vk w:=by simp[Instr.keyThatStays,AG kd vk L6 xg]
     simp[Instr.mapUpdate,run_underlying oh,MapKept.run_getObj_map hb,oT,hr,zl,hek,jy,MapKept.run_setObj_map _ hb]
    cases hs
   cases hs
  cases hs
 cases hs
theorem Ib(h:aB Q T F G w a s){dst:Option Nat}{t:TypeId}{p k:P}{s':S}(hs:iW Q s dst t p k=some s'){vm vk:Value}(hm:aF F w G s.rg vm p)(hk:aF F w G s.rg vk k):
  ∃v w' F' G',(Instr.mapEntry t vm vk).run Q w= .ok v w'/\aB Q T F' G' w' (a.put dst v) s'/\Ext (Own G s.rg) (Own G' s'.rg) F F' w w':=by
 unfold iW at hs;split at hs
 next kt e n aR kd Hl=>
  have oh:=iF Hl;split at hs
  next z hz=>
   obtain⟨zv,AH,Hi⟩:=ph (F:=F) hz w;split at hs
   ·rename_i kt2 get c ho;split at hs
    ·rename_i hc;simp only[zad,zbA] at hc;obtain⟨⟨DN,Vn⟩,ED⟩:=hc;have DN:=zah DN;subst DN;have ED:n≠site dst:=λe=>by rw[e,Nat.beq_refl] at ED;cases ED
     split at hs
     ·rename_i s1 v1 hn;obtain⟨Og,L6,⟨kv,xg,B9⟩⟩:=cq Vn;have mY:vk=kv:=hk.cp (p:= .d kd) xg;subst mY;obtain⟨en,mC,qaT,bH,AI,b,es,clock,hG,hb,hM⟩:=Ex h hm ho;rw[hG] at AI;subst AI;obtain⟨ck,oT⟩:=B9 false;have oT:=dn oT w;obtain⟨r,hr,vd⟩:=hM.look Vn xg;have bz:b<w.heap.size:=(zau.1 hb).1;have fin: ∀(jI:Array MapEntry) (eu:Nat) (i0:Nat) (e0:MapEntry) (val:Value),oI Q F w kt (gu kd (oH (get kd) z) get) (bif (get kd).isSome then c else c+1) jI.toList eu->jI[i0]?=some e0->e0.key=vk->aU F w val (oH (get kd) z)->
        ∃F' G',aB Q T F' G' {w with heap:=w.heap.setIfInBounds b (.map jI eu)} (a.put dst (.tuple #[val,.int .i64 (e0.born:Int)])) s'/\Ext (Own G s.rg) (Own G' s'.rg) F F' w {w with heap:=w.heap.setIfInBounds b (.map jI eu)}:=by
       intro jI eu i0 e0 val hM' lx qhF hval;obtain⟨b1,b2,b3,b4⟩:=l5 h hn (g1:= .int .i64 (e0.born:Int)) (w':=w) (λ_ _=>rfl) (zai _) rfl rfl rfl (λb hb=>by simp[bm] at hb) trivial;obtain⟨oK,_⟩:=S.kR hn;have hG1:mh G (site dst) (.int .i64 (e0.born:Int)) n=G n:=eR _ ED;have Cn:lk s1.rg n=some en:=by grind [bT]
       have hN1:mh G (site dst) (.int .i64 (e0.born:Int)) (site dst)= .int .i64 (e0.born:Int):=aV _ _ _;generalize mh G (site dst) (.int .i64 (e0.born:Int))=G1 at b1 b2 b3 hG1 hN1;have ji:G1 n= .map (some b):=hG1.trans hG;have qfk:bm (G1 n) en.obj=some b:=by rw[bH,ji];rfl
       have kq: ∀b0,b0≠b->(w.heap.setIfInBounds b (.map jI eu))[b0]?=w.heap[b0]?:=λb0 cU=>zaV (zbs cU);have xu:(w.heap.setIfInBounds b (.map jI eu))[b]?=some (.map jI eu):=by rw[zbD bz]
       have nC:s1.setObj n (.jV kt (gu kd (oH (get kd) z) get) (bif (get kd).isSome then c else c+1) (.mp (site dst) v1) kd)={s1 with rg:=ins n ⟨en.aR,en.tag,.jV kt (gu kd (oH (get kd) z) get) (bif (get kd).isSome then c else c+1) (.mp (site dst) v1) kd⟩ s1.rg}:=by unfold S.setObj;rw[Cn]
       rw[nC] at hs;have Cm: ∀b0,F b0->b0≠b:=λb0 hf e=>by subst e;exact b1.mg n en b0 Cn qfk hf
       have jy: ∀(w1:World),aF F w1 G1 (ins n ⟨en.aR,en.tag,.jV kt (gu kd (oH (get kd) z) get) (bif (get kd).isSome then c else c+1) (.mp (site dst) v1) kd⟩ s1.rg) (.int .i64 (e0.born:Int)) (.mp (site dst) v1):=λw1=>
        .mp _ _ _ rfl ⟨_,(bT _ _ ED).trans b4,zai _,λ_ _=>hN1.symm⟩
       obtain⟨d1,d2⟩:=b1.mh (n:=n) (e1:=⟨en.aR,en.tag,.jV kt (gu kd (oH (get kd) z) get) (bif (get kd).isSome then c else c+1) (.mp (site dst) v1) kd⟩) (g1:=G1 n) (w':={w with heap:=w.heap.setIfInBounds b (.map jI eu)}) (λe' cx=>by
         rw[Cn] at cx;cases cx;exact .inr ⟨rfl,λ_=>⟨by rw[bH];rfl,rfl⟩⟩)
        (λb0 _ bk=>kq b0 λe=>by grind) (by simp) rfl rfl rfl
        (λb0 wC=> .inr ⟨en,Cn,by have:bm (G1 n) (.jV kt (gu kd (oH (get kd) z) get) (bif (get kd).isSome then c else c+1) (.mp (site dst) v1) kd)=some b0:=wC;rw[bH];exact this⟩)
        ⟨b,jI,eu,by rw[bx];exact ji,xu,hM'.mono (λ_ h=>h) (λb0 hf=>kq b0 (Cm b0 hf)),i0,e0,lx,by rw[bx];exact jy _,by rw[qhF];exact xg,by grind [gu,D.jY]⟩
        (λi hi _=>b1.tag n en i Cn hi (by rw[bH];rfl))
       rw[bx] at d1 d2;obtain⟨c1,c2⟩:=cr d1 hs (v:= .tuple #[val,.int .i64 (e0.born:Int)]) (cy.of (.bI [val,.int .i64 (e0.born:Int)] _ rfl (λj v c hv hc=>by
        match j with
        |0=>simp at hv hc;subst hc;exact .bad _
        |1=>grind
        |j+2=>simp at hv)))
       refine⟨F,G1,c1,?_⟩;rw[c2];exact b2.trans d2
      rcases vd with⟨rfl,hg⟩| ⟨i,Wg,y0,rfl,hi,hek,hg,hy0⟩
      ·have:=(hM.set Vn xg Hi).1 hg;obtain⟨F',G',e1,e2⟩:=fin (es.push {key:=vk,val:=zv,born:=clock}) (clock+1) es.size _ zv (by rw[hg];simpa [oH] using this) (by simp;rfl) rfl (by rw[hg];exact Hi);refine⟨_,_,F',G',?_,e1,e2⟩;simp[Instr.mapEntry,run_underlying oh,MapKept.run_getObj_map hb,oT,hr,AH,MapKept.run_setObj_map _ hb,goInt]
      have zl:es[i]?=some Wg:=by grind
      have:=(hM.set Vn xg hy0).2 i Wg hi hek (by rw[hg];simp);have qbU:es.modify i (λe=>{e with key:=vk})=es.setIfInBounds i {Wg with key:=vk,val:=Wg.val}:=by grind
      obtain⟨F',G',e1,e2⟩:=fin (es.modify i λe=>{e with key:=vk}) clock i {Wg with key:=vk} Wg.val (by rw[hg,qbU];simpa [oH] using this) (by rw[zbE];simp[zl]) rfl (by rw[hg];exact hy0);refine⟨_,_,F',G',?_,e1,e2⟩;have jy:(Instr.keyThatStays vk vk).run Q w= .ok vk w:=by simp[Instr.keyThatStays,AG kd vk L6 xg]
      simp[Instr.mapEntry,run_underlying oh,MapKept.run_getObj_map hb,oT,hr,zl,hek,jy,MapKept.run_setObj_map _ hb,goInt]
     cases hs
    cases hs
   cases hs
  cases hs
 cases hs
theorem Mn(h:aB Q T F G w a s){dst:Option Nat}{t:TypeId}{p st x:P}{s':S}(hs:o7 Q s dst p st x=some s'){vm vs vx:Value}(hm:aF F w G s.rg vm p)(jy:aF F w G s.rg vs st)(hx:aF F w G s.rg vx x):
  ∃w' F' G',(Instr.entryStore t vm vs vx).run Q w= .ok () w'/\aB Q T F' G' w' (a.put dst undef) s'/\Ext (Own G s.rg) (Own G' s'.rg) F F' w w':=by
 unfold o7 at hs;split at hs
 next n aR m vm'=>
  split at hs
  next s1 y DP=>
   obtain⟨F',b1,b2,b3,b4,b5⟩:=Py h DP hx;split at hs
   ·rename_i kt get c m2 vm2 kd ho Pw;split at hs
    ·rename_i hc;simp only[zad] at hc;obtain⟨⟨e1,e2⟩,Vn⟩:=hc;have e1:=zah e1;have e2:=zah e2;subst e1;subst e2;have Mf:aF F' w G s1.rg vm (.mp n aR):=hm.mono b4 (λ_ _=>rfl) b3;have qhG:aF F' w G s1.rg vs (.mp m vm'):=jy.mono b4 (λ_ _=>rfl) b3;obtain⟨en,mC,qaT,bH,AI,b,es,clock,hG,hb,hM,i,e0,hi,qfl,hkd,qaU⟩:=Pq b1 Mf ho;rw[hG] at AI;subst AI;obtain⟨es0,qhH,qhI,qhJ⟩:=S.bw Pw;have num: ∀v,aF F' w G s1.rg v (.mp m vm')->v=G m:=λv hv=>by
      cases hv with
      |mp _ _ _ _ hr=>obtain⟨e',cx,hle,hc⟩:=hr;rw[qhH] at cx;cases cx;exact hc qhI.symm (by rw[qhJ];rfl)
     have L5:vs= .int .i64 (e0.born:Int):=(num _ qhG).trans (num _ qfl).symm;subst L5;have cj:i<es.size:=(zau.1 hi).1;obtain⟨ks,h1,h2,h3,h4,h5,h6,h7⟩:=id hM;have qfm:es.findIdx? (λe=>(e.born:Int)==(e0.born:Int))=some i:=by rw[Array.findIdx?_eq_some_iff_getElem];have hei:es[i]=e0:=(zau.1 hi).2;refine⟨cj,by rw[hei];simp,λj hj=> ?_⟩;grind [List.pairwise_iff_getElem]
     have nC:=hM.set Vn hkd b5;have hgs:get kd≠none:=λe=>by rw[e] at qaU;cases qaU
     have hM':=nC.2 i e0 (by grind) rfl hgs;have fV:bm (G n) en.obj=some b:=by rw[bH,hG];rfl
     have bz:b<w.heap.size:=(zau.1 hb).1;have qbU:es.modify i (λe=>{e with val:=vx})=es.setIfInBounds i {e0 with key:=e0.key,val:=vx}:=by grind
     have hM2:oI Q F' w kt (gu kd y get) c (es.modify i λe=>{e with val:=vx}).toList clock:=by grind
     have kq: ∀b0,b0≠b->(w.heap.setIfInBounds b (.map (es.modify i λe=>{e with val:=vx}) clock))[b0]?=w.heap[b0]?:=λb0 cU=>zaV (zbs cU);have xu:(w.heap.setIfInBounds b (.map (es.modify i λe=>{e with val:=vx}) clock))[b]?=some (.map (es.modify i λe=>{e with val:=vx}) clock):=by rw[zbD bz]
     have oK:s1.setObj n (.map kt (gu kd y get) c false)={s1 with rg:=ins n ⟨en.aR,en.tag,.map kt (gu kd y get) c false⟩ s1.rg}:=by unfold S.setObj;rw[mC]
     rw[oK] at hs;have Cm: ∀b0,F' b0->b0≠b:=λb0 hf e=>by subst e;exact b1.mg n en b0 mC fV hf
     obtain⟨d1,d2⟩:=b1.mh (n:=n) (e1:=⟨en.aR,en.tag,.map kt (gu kd y get) c false⟩) (g1:=G n) (w':={w with heap:=w.heap.setIfInBounds b (.map (es.modify i λe=>{e with val:=vx}) clock)}) (λe' cx=>by
       rw[mC] at cx;cases cx;exact .inr ⟨rfl,λ_=>⟨by rw[bH];rfl,rfl⟩⟩)
      (λb0 _ bk=>kq b0 λe=>by grind) (by simp) rfl rfl rfl
      (λb0 wC=> .inr ⟨en,mC,by have:bm (G n) (.map kt (gu kd y get) c false)=some b0:=wC;rw[bH];exact this⟩)
      ⟨b,_,clock,by rw[bx];exact hG,xu,hM2.mono (λ_ h=>h) (λb0 hf=>kq b0 (Cm b0 hf)),λhl=>by cases hl⟩
      (λi hi _=>b1.tag n en i mC hi (by rw[bH];rfl))
     rw[bx] at d1 d2;obtain⟨c1,c2⟩:=cr d1 hs (v:=undef) (cy.of (.bad _));refine⟨_,F',G,?_,c1,?_⟩
     ·simp[Instr.entryStore,MapKept.run_getObj_map hb,asInt,asIntOf,qfm,MapKept.run_setObj_map _ hb]
     rw[c2];exact b2.trans d2
    cases hs
   cases hs
  cases hs
 cases hs
end
end Pi
