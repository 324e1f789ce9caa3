/- The text PiMapW. -/
import Derived.Test.YtngoddkencoalaaGreatDoorPiMk
namespace Pi
open Go
section
variable{Q:Program}{T:Tg}{F:Nat->Prop}{G:Nat->Value}{w:World}{a:Act}{s:S}
theorem EN(h:aD Q T F G w a s){dst:Option Nat}{t:TypeId}{s':S}(hs:kG Q s dst t=some s'):
  ∃v w' G',(Instr.makeMap t none).run Q w= .ok v w'/\aD Q T F G' w' (a.put dst v) s'/\Ext (Own G s.rg) (Own G' s'.rg) F F w w':=by
 unfold kG at hs;split at hs
 next kt e Cj=>
  split at hs
  next s1 v hn=>
   have eK: ∀b,b<w.heap.size->(w.alloc (.map #[] 0)).heap[b]?=w.heap[b]?:=λb hb=>heap_alloc_old w _ b hb;obtain⟨b1,b2,b3,b4⟩:=mc h hn (g1:= .map (some w.heap.size)) (w':=w.alloc (.map #[] 0)) eK (by simp) rfl rfl rfl (λb hb=>by simp[bH,aR] at hb;omega)
    ⟨w.heap.size, #[],0,bb _ _ _,heap_alloc_new w _,⟨[],rfl,rfl,by simp,by simp,by simp,by simp,by simp⟩,λhl=>by cases hl⟩
   obtain⟨c1,c2⟩:=cz b1 hs (v:= .map (some w.heap.size)) (cx.of (.mp (site dst) v _ rfl ⟨_,b4,zaj _,λ_ _=>(bb _ _ _).symm⟩));refine⟨.map (some w.heap.size),_,_,by rfl,c1,?_⟩;rw[c2];exact b2
  cases hs
 cases hs
theorem AV{ks:List (D×D)}(hd:(ks.map (·.1)).Nodup){i j:Nat}{p q:D×D}(hi:ks[i]?=some p)(hj:ks[j]?=some q)(h:p.1=q.1):i=j:=by have hp:=zbh.1 hd;grind
theorem oA.set{kt:TypeId}{get:D->Option D}{n:Int}{es:List MapEntry}{clock:Nat}(h:oA Q F w kt get n es clock){k y:D}{v:Value}(hk:fQ Q kt k=true)(hv:k.cA=some v){x:Value}(hx:a8 F w x y):
  (get k=none->oA Q F w kt (cZ k y get) (n+1) (es++[{key:=v,val:=x,born:=clock}]) (clock+1))/\
  (∀i e,es[i]?=some e->e.key=v->get k≠none->oA Q F w kt (cZ k y get) n (es.set i {e with key:=v,val:=x}) clock):=by
 obtain⟨ks,h1,h2,h3,h4,h5,h6,h7⟩:=h;constructor
 ·intro hg;have hnk: ∀p∈ks,p.1≠k:=λp hp e=>by have:=(h5 p.1 p.2).2 hp;rw[e,hg] at this;cases this
  refine⟨ks++[(k,y)],by simp[h1],by simp[h2],λi p e hp he=> ?_,?_,λk' v'=> ?_,λe he=> ?_,?_⟩
  ·grind
  ·rw[zaz,zaU];grind
  ·grind [AN,Kc]
  ·grind
  grind
 intro i e he hek hg;have hi:i<es.length:=(zad.1 he).1;have hik:i<ks.length:=by omega
 obtain⟨p,hp⟩: ∃p,ks[i]?=some p:=⟨ks[i],zae hik⟩
 obtain⟨a1,a2,a3⟩:=h3 i p e hp he;have hpk:p.1=k:=by
  obtain⟨y0,hy0⟩: ∃y0,get k=some y0:=by
   cases hgk:get k with
   |none=>grind
   |some y0=>simp
  have hm:=(h5 k y0).1 hy0;obtain⟨j,hj,Wf⟩:=zaW hm;obtain⟨ej,hej⟩: ∃ej,es[j]?=some ej:=⟨es[j]'(by omega),zae (by omega)⟩
  obtain⟨_,b2,_⟩:=h3 j (k,y0) ej (by rw[zae hj,Wf]) hej;obtain⟨r,hr,uI⟩:=xe (cy hk).1 hv h1 (λi p e hp he=>⟨(cy (h3 i p e hp he).1).1,(h3 i p e hp he).2.1⟩) w;obtain⟨c,hc,jI⟩:=p8 20 kt p.1 k (cy a1).1 (cy hk).1;obtain⟨c',qV,qjg⟩:=p8 20 kt k k (cy hk).1 (cy hk).1;have e1:=fC 20 10000 kt p.1 k c v v (by omega) hc (by rw[a2,hek]) hv;have e2:=fC 20 10000 kt k k c' v v (by omega) qV hv hv;rw[e1] at e2;grind
 refine⟨ks.set i (k,y),by simp[h1],by grind,λj q f hq hf=> ?_,?_,λk' v'=> ?_,λf hf=> ?_,?_⟩
 ·grind
 ·have:(ks.set i (k,y)).map (·.1)=ks.map (·.1):=by apply zcp;grind
  rw[this];exact h4
 ·by_cases e:k=k'
  ·subst e;rw[AN];constructor
   ·intro e;cases e;exact zaC (i:=i) (by rw[zbO hik])
   intro hm;obtain⟨j,hj⟩:=zaS hm;by_cases qw:i=j
   ·subst qw;rw[zbO hik] at hj;cases hj;rfl
   rw[zaX qw] at hj;exact absurd (AV h4 hp hj hpk) qw
  rw[Kc _ _ e,h5];constructor
  ·intro hm;obtain⟨j,hj⟩:=zaS hm;have qw:i≠j:=λqw=>by grind
   exact zaC (i:=j) (by rw[zaX qw];exact hj)
  grind
 ·grind
 have:(es.set i {e with key:=v,val:=x}).map (·.born)=es.map (·.born):=by apply zcp;grind
 rw[this];exact h7
theorem xt(h:aD Q T F G w a s){dst:Option Nat}{t:TypeId}{p k x:P}{s':S}(hs:iZ Q s dst t p k x=some s'){vm vk vx:Value}(hm:aF F w G s.rg vm p)(hk:aF F w G s.rg vk k)(hx:aF F w G s.rg vx x):
  ∃w' F' G',(Instr.mapUpdate t vm vk vx).run Q w= .ok () w'/\aD Q T F' G' w' (a.put dst undef) s'/\Ext (Own G s.rg) (Own G' s'.rg) F F' w w':=by
 unfold iZ at hs;split at hs
 next kt e n aY kd Cj=>
  have od:=iL Cj;split at hs
  next s1 y EJ=>
   obtain⟨F',b1,b2,b3,b4,b5⟩:=wv h EJ hx;split at hs
   ·rename_i kt2 get c ho;split at hs
    ·rename_i hc;simp only[zab] at hc;have DW:=zaf hc.1;subst DW;obtain⟨V2,L3,⟨kv,xf,Ce⟩⟩:=cy hc.2;have mz:vk=kv:=hk.cA (p:= .d kd) xf;subst mz;have Mc:aF F' w G s1.rg vm (.mp n aY):=hm.mono b4 (λ_ _=>rfl) b3;obtain⟨en,mJ,qaE,bV,AQ,b,es,clock,hG,hb,hM⟩:=EA b1 Mc ho;rw[hG] at AQ;subst AQ;obtain⟨ck,oe⟩:=Ce false;have oe:=dD oe w;obtain⟨r,hr,uI⟩:=hM.look hc.2 xf;have jM:=hM.set hc.2 xf b5;have fT:bH (G n) en.obj=some b:=by rw[bV,hG];rfl
     have bI:b<w.heap.size:=(zar.1 hb).1;have fin: ∀(fA:Array MapEntry) (eD:Nat),oA Q F' w kt (cZ kd y get) (bif (get kd).isSome then c else c+1) fA.toList eD->
       ∃F'' G',aD Q T F'' G' {w with heap:=w.heap.setIfInBounds b (.map fA eD)} (a.put dst undef) s'/\Ext (Own G s.rg) (Own G' s'.rg) F F'' w {w with heap:=w.heap.setIfInBounds b (.map fA eD)}:=by
      intro fA eD hM';have gn: ∀b0,b0≠b->(w.heap.setIfInBounds b (.map fA eD))[b0]?=w.heap[b0]?:=λb0 dI=>zaY (zbD dI);have xu:(w.heap.setIfInBounds b (.map fA eD))[b]?=some (.map fA eD):=by rw[zbx bI]
      have r8:s1.setObj n (.map kt (cZ kd y get) (bif (get kd).isSome then c else c+1) false)={s1 with rg:=ins n ⟨en.aY,en.tag,.map kt (cZ kd y get) (bif (get kd).isSome then c else c+1) false⟩ s1.rg}:=by unfold S.setObj;rw[mJ]
      rw[r8] at hs;have fY:qT G s1.rg n ⟨en.aY,en.tag,.map kt (cZ kd y get) (bif (get kd).isSome then c else c+1) false⟩ (G n):=λe' cK=>by rw[mJ] at cK;cases cK;exact .inr ⟨rfl,λ_=>⟨by rw[bV];rfl,rfl⟩⟩
      have Ct: ∀b0,F' b0->b0≠b:=λb0 hf e=>by subst e;exact b1.my n en b0 mJ fT hf
      obtain⟨d1,d2⟩:=b1.ni (n:=n) (e1:=⟨en.aY,en.tag,.map kt (cZ kd y get) (bif (get kd).isSome then c else c+1) false⟩) (g1:=G n) (w':={w with heap:=w.heap.setIfInBounds b (.map fA eD)}) fY
       (λb0 _ b7=>gn b0 λe=>by grind) (by simp) rfl rfl rfl
       (λb0 Co=> .inr ⟨en,mJ,by have:bH (G n) (.map kt (cZ kd y get) (bif (get kd).isSome then c else c+1) false)=some b0:=Co;rw[bV];exact this⟩)
       ⟨b,fA,eD,by rw[bW];exact hG,xu,hM'.mono (λ_ h=>h) (λb0 hf=>gn b0 (Ct b0 hf)),λhl=>by cases hl⟩
       (λi hi _=>b1.tag n en i mJ hi (by rw[bV];rfl))
      rw[bW] at d1 d2;obtain⟨c1,c2⟩:=cz d1 hs (v:=undef) (cx.of (.bad _));refine⟨F',G,c1,?_⟩;rw[c2];exact b2.trans d2
     rcases uI with⟨rfl,hg⟩| ⟨i,Wg,y0,rfl,hi,hek,hg,_⟩
     ·skip
      obtain⟨F'',G',e1,e2⟩:=fin (es.push {key:=vk,val:=vx,born:=clock}) (clock+1) (by grind);refine⟨_,F'',G',?_,e1,e2⟩;simp[Instr.mapUpdate,run_underlying od,MapKept.run_getObj_map hb,oe,hr,MapKept.run_setObj_map _ hb]
     skip
     have xr:es[i]?=some Wg:=by grind
     have qbI:es.modify i (λe=>{e with key:=vk,val:=vx})=es.setIfInBounds i {Wg with key:=vk,val:=vx}:=by grind
     obtain⟨F'',G',e1,e2⟩:=fin (es.modify i λe=>{e with key:=vk,val:=vx}) clock (by grind);refine⟨_,F'',G',?_,e1,e2⟩;have kO:(Instr.keyThatStays vk vk).run Q w= .ok vk w:=by simp[Instr.keyThatStays,AO kd vk L3 xf]
     simp[Instr.mapUpdate,run_underlying od,MapKept.run_getObj_map hb,oe,hr,xr,hek,kO,MapKept.run_setObj_map _ hb]
    cases hs
   cases hs
  cases hs
 cases hs
theorem H3(h:aD Q T F G w a s){dst:Option Nat}{t:TypeId}{p k:P}{s':S}(hs:ja Q s dst t p k=some s'){vm vk:Value}(hm:aF F w G s.rg vm p)(hk:aF F w G s.rg vk k):
  ∃v w' F' G',(Instr.mapEntry t vm vk).run Q w= .ok v w'/\aD Q T F' G' w' (a.put dst v) s'/\Ext (Own G s.rg) (Own G' s'.rg) F F' w w':=by
 unfold ja at hs;split at hs
 next kt e n aY kd Cj=>
  have od:=iL Cj;split at hs
  next z hz=>
   obtain⟨zv,AP,GY⟩:=o8 (F:=F) hz w;split at hs
   ·rename_i kt2 get c ho;split at hs
    ·rename_i hc;simp only[zab,zbu] at hc;obtain⟨⟨DW,Vb⟩,EG⟩:=hc;have DW:=zaf DW;subst DW;have EG:n≠site dst:=λe=>by rw[e,Nat.beq_refl] at EG;cases EG
     split at hs
     ·rename_i s1 v1 hn;obtain⟨V2,L3,⟨kv,xf,Ce⟩⟩:=cy Vb;have mz:vk=kv:=hk.cA (p:= .d kd) xf;subst mz;obtain⟨en,mJ,qaE,bV,AQ,b,es,clock,hG,hb,hM⟩:=EA h hm ho;rw[hG] at AQ;subst AQ;obtain⟨ck,oe⟩:=Ce false;have oe:=dD oe w;obtain⟨r,hr,uI⟩:=hM.look Vb xf;have bI:b<w.heap.size:=(zar.1 hb).1;have fin: ∀(fA:Array MapEntry) (eD:Nat) (i0:Nat) (e0:MapEntry) (val:Value),oA Q F w kt (cZ kd (cF (get kd) z) get) (bif (get kd).isSome then c else c+1) fA.toList eD->fA[i0]?=some e0->e0.key=vk->a8 F w val (cF (get kd) z)->
        ∃F' G',aD Q T F' G' {w with heap:=w.heap.setIfInBounds b (.map fA eD)} (a.put dst (.tuple #[val,.int .i64 (e0.born:Int)])) s'/\Ext (Own G s.rg) (Own G' s'.rg) F F' w {w with heap:=w.heap.setIfInBounds b (.map fA eD)}:=by
       intro fA eD i0 e0 val hM' oN qhJ hval;obtain⟨b1,b2,b3,b4⟩:=mc h hn (g1:= .int .i64 (e0.born:Int)) (w':=w) (λ_ _=>rfl) (zaj _) rfl rfl rfl (λb hb=>by simp[bH] at hb) trivial;obtain⟨r8,_⟩:=S.kV hn;have hG1:ni G (site dst) (.int .i64 (e0.born:Int)) n=G n:=eT _ EG;have Cu:lk s1.rg n=some en:=by grind [bU]
       have hN1:ni G (site dst) (.int .i64 (e0.born:Int)) (site dst)= .int .i64 (e0.born:Int):=bb _ _ _;generalize ni G (site dst) (.int .i64 (e0.born:Int))=G1 at b1 b2 b3 hG1 hN1;have jL:G1 n= .map (some b):=hG1.trans hG;have qe6:bH (G1 n) en.obj=some b:=by rw[bV,jL];rfl
       have gn: ∀b0,b0≠b->(w.heap.setIfInBounds b (.map fA eD))[b0]?=w.heap[b0]?:=λb0 dI=>zaY (zbD dI);have xu:(w.heap.setIfInBounds b (.map fA eD))[b]?=some (.map fA eD):=by rw[zbx bI]
       have jM:s1.setObj n (.j7 kt (cZ kd (cF (get kd) z) get) (bif (get kd).isSome then c else c+1) (.mp (site dst) v1) kd)={s1 with rg:=ins n ⟨en.aY,en.tag,.j7 kt (cZ kd (cF (get kd) z) get) (bif (get kd).isSome then c else c+1) (.mp (site dst) v1) kd⟩ s1.rg}:=by unfold S.setObj;rw[Cu]
       rw[jM] at hs;have Ct: ∀b0,F b0->b0≠b:=λb0 hf e=>by subst e;exact b1.my n en b0 Cu qe6 hf
       have kO: ∀(w1:World),aF F w1 G1 (ins n ⟨en.aY,en.tag,.j7 kt (cZ kd (cF (get kd) z) get) (bif (get kd).isSome then c else c+1) (.mp (site dst) v1) kd⟩ s1.rg) (.int .i64 (e0.born:Int)) (.mp (site dst) v1):=λw1=>
        .mp _ _ _ rfl ⟨_,(bU _ _ EG).trans b4,zaj _,λ_ _=>hN1.symm⟩
       obtain⟨d1,d2⟩:=b1.ni (n:=n) (e1:=⟨en.aY,en.tag,.j7 kt (cZ kd (cF (get kd) z) get) (bif (get kd).isSome then c else c+1) (.mp (site dst) v1) kd⟩) (g1:=G1 n) (w':={w with heap:=w.heap.setIfInBounds b (.map fA eD)}) (λe' cK=>by
         rw[Cu] at cK;cases cK;exact .inr ⟨rfl,λ_=>⟨by rw[bV];rfl,rfl⟩⟩)
        (λb0 _ b7=>gn b0 λe=>by grind) (by simp) rfl rfl rfl
        (λb0 Co=> .inr ⟨en,Cu,by have:bH (G1 n) (.j7 kt (cZ kd (cF (get kd) z) get) (bif (get kd).isSome then c else c+1) (.mp (site dst) v1) kd)=some b0:=Co;rw[bV];exact this⟩)
        ⟨b,fA,eD,by rw[bW];exact jL,xu,hM'.mono (λ_ h=>h) (λb0 hf=>gn b0 (Ct b0 hf)),i0,e0,oN,by rw[bW];exact kO _,by rw[qhJ];exact xf,by grind [cZ,D.gV]⟩
        (λi hi _=>b1.tag n en i Cu hi (by rw[bV];rfl))
       rw[bW] at d1 d2;obtain⟨c1,c2⟩:=cz d1 hs (v:= .tuple #[val,.int .i64 (e0.born:Int)]) (cx.of (.cX [val,.int .i64 (e0.born:Int)] _ rfl (λj v c hv hc=>by
        match j with
        |0=>simp at hv hc;subst hc;exact .bad _
        |1=>grind
        |j+2=>simp at hv)))
       refine⟨F,G1,c1,?_⟩;rw[c2];exact b2.trans d2
      rcases uI with⟨rfl,hg⟩| ⟨i,Wg,y0,rfl,hi,hek,hg,hy0⟩
      ·have:=(hM.set Vb xf GY).1 hg;obtain⟨F',G',e1,e2⟩:=fin (es.push {key:=vk,val:=zv,born:=clock}) (clock+1) es.size _ zv (by rw[hg];simpa [cF] using this) (by simp;rfl) rfl (by rw[hg];exact GY);refine⟨_,_,F',G',?_,e1,e2⟩;simp[Instr.mapEntry,run_underlying od,MapKept.run_getObj_map hb,oe,hr,AP,MapKept.run_setObj_map _ hb,goInt]
      have xr:es[i]?=some Wg:=by grind
      have:=(hM.set Vb xf hy0).2 i Wg hi hek (by rw[hg];simp);have qbI:es.modify i (λe=>{e with key:=vk})=es.setIfInBounds i {Wg with key:=vk,val:=Wg.val}:=by grind
      obtain⟨F',G',e1,e2⟩:=fin (es.modify i λe=>{e with key:=vk}) clock i {Wg with key:=vk} Wg.val (by rw[hg,qbI];simpa [cF] using this) (by rw[zcD];simp[xr]) rfl (by rw[hg];exact hy0);refine⟨_,_,F',G',?_,e1,e2⟩;have kO:(Instr.keyThatStays vk vk).run Q w= .ok vk w:=by simp[Instr.keyThatStays,AO kd vk L3 xf]
      simp[Instr.mapEntry,run_underlying od,MapKept.run_getObj_map hb,oe,hr,xr,hek,kO,MapKept.run_setObj_map _ hb,goInt]
     cases hs
    cases hs
   cases hs
  cases hs
 cases hs
theorem Mk(h:aD Q T F G w a s){dst:Option Nat}{t:TypeId}{p st x:P}{s':S}(hs:oX Q s dst p st x=some s'){vm vs vx:Value}(hm:aF F w G s.rg vm p)(kO:aF F w G s.rg vs st)(hx:aF F w G s.rg vx x):
  ∃w' F' G',(Instr.entryStore t vm vs vx).run Q w= .ok () w'/\aD Q T F' G' w' (a.put dst undef) s'/\Ext (Own G s.rg) (Own G' s'.rg) F F' w w':=by
 unfold oX at hs;split at hs
 next n aY m vm'=>
  split at hs
  next s1 y EJ=>
   obtain⟨F',b1,b2,b3,b4,b5⟩:=Pt h EJ hx;split at hs
   ·rename_i kt get c m2 vm2 kd ho Pq;split at hs
    ·rename_i hc;simp only[zab] at hc;obtain⟨⟨e1,e2⟩,Vb⟩:=hc;have e1:=zaf e1;have e2:=zaf e2;subst e1;subst e2;have Mc:aF F' w G s1.rg vm (.mp n aY):=hm.mono b4 (λ_ _=>rfl) b3;have qhK:aF F' w G s1.rg vs (.mp m vm'):=kO.mono b4 (λ_ _=>rfl) b3;obtain⟨en,mJ,qaE,bV,AQ,b,es,clock,hG,hb,hM,i,e0,hi,qe7,hkd,qaF⟩:=Pg b1 Mc ho;rw[hG] at AQ;subst AQ;obtain⟨es0,qhL,qhM,qhN⟩:=S.bJ Pq;have num: ∀v,aF F' w G s1.rg v (.mp m vm')->v=G m:=λv hv=>by
      cases hv with
      |mp _ _ _ _ hr=>obtain⟨e',cK,hle,hc⟩:=hr;rw[qhL] at cK;cases cK;exact hc qhM.symm (by rw[qhN];rfl)
     have L2:vs= .int .i64 (e0.born:Int):=(num _ qhK).trans (num _ qe7).symm;subst L2;have bQ:i<es.size:=(zar.1 hi).1;obtain⟨ks,h1,h2,h3,h4,h5,h6,h7⟩:=id hM;have qe8:es.findIdx? (λe=>(e.born:Int)==(e0.born:Int))=some i:=by rw[Array.findIdx?_eq_some_iff_getElem];have hei:es[i]=e0:=(zar.1 hi).2;refine⟨bQ,by rw[hei];simp,λj hj=> ?_⟩;grind [List.pairwise_iff_getElem]
     have jM:=hM.set Vb hkd b5;have hgs:get kd≠none:=λe=>by rw[e] at qaF;cases qaF
     have hM':=jM.2 i e0 (by grind) rfl hgs;have fT:bH (G n) en.obj=some b:=by rw[bV,hG];rfl
     have bI:b<w.heap.size:=(zar.1 hb).1;have qbI:es.modify i (λe=>{e with val:=vx})=es.setIfInBounds i {e0 with key:=e0.key,val:=vx}:=by grind
     have hM2:oA Q F' w kt (cZ kd y get) c (es.modify i λe=>{e with val:=vx}).toList clock:=by grind
     have gn: ∀b0,b0≠b->(w.heap.setIfInBounds b (.map (es.modify i λe=>{e with val:=vx}) clock))[b0]?=w.heap[b0]?:=λb0 dI=>zaY (zbD dI);have xu:(w.heap.setIfInBounds b (.map (es.modify i λe=>{e with val:=vx}) clock))[b]?=some (.map (es.modify i λe=>{e with val:=vx}) clock):=by rw[zbx bI]
     have r8:s1.setObj n (.map kt (cZ kd y get) c false)={s1 with rg:=ins n ⟨en.aY,en.tag,.map kt (cZ kd y get) c false⟩ s1.rg}:=by unfold S.setObj;rw[mJ]
     rw[r8] at hs;have Ct: ∀b0,F' b0->b0≠b:=λb0 hf e=>by subst e;exact b1.my n en b0 mJ fT hf
     obtain⟨d1,d2⟩:=b1.ni (n:=n) (e1:=⟨en.aY,en.tag,.map kt (cZ kd y get) c false⟩) (g1:=G n) (w':={w with heap:=w.heap.setIfInBounds b (.map (es.modify i λe=>{e with val:=vx}) clock)}) (λe' cK=>by
       rw[mJ] at cK;cases cK;exact .inr ⟨rfl,λ_=>⟨by rw[bV];rfl,rfl⟩⟩)
      (λb0 _ b7=>gn b0 λe=>by grind) (by simp) rfl rfl rfl
      (λb0 Co=> .inr ⟨en,mJ,by have:bH (G n) (.map kt (cZ kd y get) c false)=some b0:=Co;rw[bV];exact this⟩)
      ⟨b,_,clock,by rw[bW];exact hG,xu,hM2.mono (λ_ h=>h) (λb0 hf=>gn b0 (Ct b0 hf)),λhl=>by cases hl⟩
      (λi hi _=>b1.tag n en i mJ hi (by rw[bV];rfl))
     rw[bW] at d1 d2;obtain⟨c1,c2⟩:=cz d1 hs (v:=undef) (cx.of (.bad _));refine⟨_,F',G,?_,c1,?_⟩
     ·simp[Instr.entryStore,MapKept.run_getObj_map hb,asInt,asIntOf,qe8,MapKept.run_setObj_map _ hb]
     rw[c2];exact b2.trans d2
    cases hs
   cases hs
  cases hs
 cases hs
end
end Pi
