/- The text PiMapW. -/
import Derived.Test.YtngoddkencoalaaGreatDoorPiMk
namespace Pi
open Go
section
variable{Q:Program}{T:Tg}{F:Nat->Prop}{G:Nat->Value}{w:World}{a:Act}{s:S}
theorem GS(h:aG Q T F G w a s){dst:Option Nat}{t:TypeId}{s':S}(hs:lj Q s dst t=some s'):
  ∃v w' G',(Instr.makeMap t none).run Q w= .ok v w'/\aG Q T F G' w' (a.put dst v) s'/\Ext (Own G s.rg) (Own G' s'.rg) F F w w':=by
 unfold lj at hs;split at hs
 next kt e DY=>
  split at hs
  next s1 v hn=>
   have eQ: ∀b,b<w.heap.size->(w.alloc (.map #[] 0)).heap[b]?=w.heap[b]?:=λb hb=>heap_alloc_old w _ b hb;obtain⟨b1,b2,b3,b4⟩:=mV h hn (g1:= .map (some w.heap.size)) (w':=w.alloc (.map #[] 0)) eQ (by simp) rfl rfl rfl (λb hb=>by simp[bF,aM] at hb;omega)
    ⟨w.heap.size, #[],0,a7 _ _ _,heap_alloc_new w _,⟨[],rfl,rfl,by simp,by simp,by simp,by simp,by simp⟩,λhl=>by cases hl⟩
   obtain⟨c1,c2⟩:=cC b1 hs (v:= .map (some w.heap.size)) (cA.of (.mp (site dst) v _ rfl ⟨_,b4,zak _,λ_ _=>(a7 _ _ _).symm⟩));refine⟨.map (some w.heap.size),_,_,by rfl,c1,?_⟩;rw[c2];exact b2
  cases hs
 cases hs
theorem Cx{ks:List (D×D)}(hd:(ks.map (·.1)).Nodup){i j:Nat}{p q:D×D}(hi:ks[i]?=some p)(hj:ks[j]?=some q)(h:p.1=q.1):i=j:=by have hp:=zbf.1 hd;grind
theorem pF.set{kt:TypeId}{get:D->Option D}{n:Int}{es:List MapEntry}{clock:Nat}(h:pF Q F w kt get n es clock){k y:D}{v:Value}(hk:fY Q kt k=true)(hv:k.cF=some v){x:Value}(hx:aS F w x y):
  (get k=none->pF Q F w kt (da k y get) (n+1) (es++[{key:=v,val:=x,born:=clock}]) (clock+1))/\
  (∀i e,es[i]?=some e->e.key=v->get k≠none->pF Q F w kt (da k y get) n (es.set i {e with key:=v,val:=x}) clock):=by
 obtain⟨ks,h1,h2,h3,h4,h5,h6,h7⟩:=h;constructor
 ·intro hg;have hnk: ∀p∈ks,p.1≠k:=λp hp e=>by have:=(h5 p.1 p.2).2 hp;rw[e,hg] at this;cases this
  refine⟨ks++[(k,y)],by simp[h1],by simp[h2],λi p e hp he=> ?_,?_,λk' v'=> ?_,λe he=> ?_,?_⟩
  ·grind
  ·rw[zau,za6];grind
  ·grind [Cp,Mm]
  ·grind
  grind
 intro i e he hek hg;have hi:i<es.length:=(zaf.1 he).1;have hik:i<ks.length:=by omega
 obtain⟨p,hp⟩: ∃p,ks[i]?=some p:=⟨ks[i],zac hik⟩
 obtain⟨a1,a2,a3⟩:=h3 i p e hp he;have hpk:p.1=k:=by
  obtain⟨y0,hy0⟩: ∃y0,get k=some y0:=by
   cases hgk:get k with
   |none=>grind
   |some y0=>simp
  have hm:=(h5 k y0).1 hy0;obtain⟨j,hj,Y8⟩:=zaT hm;obtain⟨ej,hej⟩: ∃ej,es[j]?=some ej:=⟨es[j]'(by omega),zac (by omega)⟩
  obtain⟨_,b2,_⟩:=h3 j (k,y0) ej (by rw[zac hj,Y8]) hej;obtain⟨r,hr,uW⟩:=yH (cB hk).1 hv h1 (λi p e hp he=>⟨(cB (h3 i p e hp he).1).1,(h3 i p e hp he).2.1⟩) w;obtain⟨c,hc,l7⟩:=qZ 20 kt p.1 k (cB a1).1 (cB hk).1;obtain⟨c',rU,qms⟩:=qZ 20 kt k k (cB hk).1 (cB hk).1;have e1:=fK 20 10000 kt p.1 k c v v (by omega) hc (by rw[a2,hek]) hv;have e2:=fK 20 10000 kt k k c' v v (by omega) rU hv hv;rw[e1] at e2;grind
 refine⟨ks.set i (k,y),by simp[h1],by grind,λj q f hq hf=> ?_,?_,λk' v'=> ?_,λf hf=> ?_,?_⟩
 ·grind
 ·have:(ks.set i (k,y)).map (·.1)=ks.map (·.1):=by apply zcC;grind
  rw[this];exact h4
 ·by_cases e:k=k'
  ·subst e;rw[Cp];constructor
   ·intro e;cases e;exact zaC (i:=i) (by rw[zbX hik])
   intro hm;obtain⟨j,hj⟩:=zaX hm;by_cases pH:i=j
   ·subst pH;rw[zbX hik] at hj;cases hj;rfl
   rw[za3 pH] at hj;exact absurd (Cx h4 hp hj hpk) pH
  rw[Mm _ _ e,h5];constructor
  ·intro hm;obtain⟨j,hj⟩:=zaX hm;have pH:i≠j:=λpH=>by grind
   exact zaC (i:=j) (by rw[za3 pH];exact hj)
  grind
 ·grind
 have:(es.set i {e with key:=v,val:=x}).map (·.born)=es.map (·.born):=by apply zcC;grind
 rw[this];exact h7
theorem yU(h:aG Q T F G w a s){dst:Option Nat}{t:TypeId}{p k x:P}{s':S}(hs:jo Q s dst t p k x=some s'){vm vk vx:Value}(hm:aH F w G s.rg vm p)(hk:aH F w G s.rg vk k)(hx:aH F w G s.rg vx x):
  ∃w' F' G',(Instr.mapUpdate t vm vk vx).run Q w= .ok () w'/\aG Q T F' G' w' (a.put dst undef) s'/\Ext (Own G s.rg) (Own G' s'.rg) F F' w w':=by
 unfold jo at hs;split at hs
 next kt e n aV kd DY=>
  have pj:=iY DY;split at hs
  next s1 y GN=>
   obtain⟨F',b1,b2,b3,b4,b5⟩:=xO h GN hx;split at hs
   ·rename_i kt2 get c ho;split at hs
    ·rename_i hc;simp only[zab] at hc;have FO:=zag hc.1;subst FO;obtain⟨YY,Oy,⟨kv,yI,DS⟩⟩:=cB hc.2;have nj:vk=kv:=hk.cF (p:= .d kd) yI;subst nj;have Kb:aH F' w G s1.rg vm (.mp n aV):=hm.mono b4 (λ_ _=>rfl) b3;obtain⟨en,nE,qdb,b9,Ct,b,es,clock,hG,hb,hM⟩:=GD b1 Kb ho;rw[hG] at Ct;subst Ct;obtain⟨ck,nq⟩:=DS false;have nq:=dH nq w;obtain⟨r,hr,uW⟩:=hM.look hc.2 yI;have j8:=hM.set hc.2 yI b5;have ga:bF (G n) en.obj=some b:=by rw[b9,hG];rfl
     have bJ:b<w.heap.size:=(zaz.1 hb).1;have fin: ∀(fG:Array MapEntry) (eH:Nat),pF Q F' w kt (da kd y get) (bif (get kd).isSome then c else c+1) fG.toList eH->
       ∃F'' G',aG Q T F'' G' {w with heap:=w.heap.setIfInBounds b (.map fG eH)} (a.put dst undef) s'/\Ext (Own G s.rg) (Own G' s'.rg) F F'' w {w with heap:=w.heap.setIfInBounds b (.map fG eH)}:=by
      intro fG eH hM';have gy: ∀b0,b0≠b->(w.heap.setIfInBounds b (.map fG eH))[b0]?=w.heap[b0]?:=λb0 dQ=>za5 (zbI dQ);have yV:(w.heap.setIfInBounds b (.map fG eH))[b]?=some (.map fG eH):=by rw[zbC bJ]
      have rV:s1.setObj n (.map kt (da kd y get) (bif (get kd).isSome then c else c+1) false)={s1 with rg:=ins n ⟨en.aV,en.tag,.map kt (da kd y get) (bif (get kd).isSome then c else c+1) false⟩ s1.rg}:=by unfold S.setObj;rw[nE]
      rw[rV] at hs;have gl:rS G s1.rg n ⟨en.aV,en.tag,.map kt (da kd y get) (bif (get kd).isSome then c else c+1) false⟩ (G n):=λe' cS=>by rw[nE] at cS;cases cS;exact .inr ⟨rfl,λ_=>⟨by rw[b9];rfl,rfl⟩⟩
      have D8: ∀b0,F' b0->b0≠b:=λb0 hf e=>by subst e;exact b1.nf n en b0 nE ga hf
      obtain⟨d1,d2⟩:=b1.oe (n:=n) (e1:=⟨en.aV,en.tag,.map kt (da kd y get) (bif (get kd).isSome then c else c+1) false⟩) (g1:=G n) (w':={w with heap:=w.heap.setIfInBounds b (.map fG eH)}) gl
       (λb0 _ bS=>gy b0 λe=>by grind) (by simp) rfl rfl rfl
       (λb0 D3=> .inr ⟨en,nE,by have:bF (G n) (.map kt (da kd y get) (bif (get kd).isSome then c else c+1) false)=some b0:=D3;rw[b9];exact this⟩)
       ⟨b,fG,eH,by rw[ca];exact hG,yV,hM'.mono (λ_ h=>h) (λb0 hf=>gy b0 (D8 b0 hf)),λhl=>by cases hl⟩
       (λi hi _=>b1.tag n en i nE hi (by rw[b9];rfl))
      rw[ca] at d1 d2;obtain⟨c1,c2⟩:=cC d1 hs (v:=undef) (cA.of (.bad _));refine⟨F',G,c1,?_⟩;rw[c2];exact b2.trans d2
     rcases uW with⟨rfl,hg⟩| ⟨i,Y9,y0,rfl,hi,hek,hg,_⟩
     ·skip
      obtain⟨F'',G',e1,e2⟩:=fin (es.push {key:=vk,val:=vx,born:=clock}) (clock+1) (by grind);refine⟨_,F'',G',?_,e1,e2⟩;simp[Instr.mapUpdate,run_underlying pj,MapKept.run_getObj_map hb,nq,hr,MapKept.run_setObj_map _ hb]
     skip
     have yT:es[i]?=some Y9:=by grind
     have qep:es.modify i (λe=>{e with key:=vk,val:=vx})=es.setIfInBounds i {Y9 with key:=vk,val:=vx}:=by grind
     obtain⟨F'',G',e1,e2⟩:=fin (es.modify i λe=>{e with key:=vk,val:=vx}) clock (by grind);refine⟨_,F'',G',?_,e1,e2⟩;have jv:(Instr.keyThatStays vk vk).run Q w= .ok vk w:=by simp[Instr.keyThatStays,Cq kd vk Oy yI]
     simp[Instr.mapUpdate,run_underlying pj,MapKept.run_getObj_map hb,nq,hr,yT,hek,jv,MapKept.run_setObj_map _ hb]
    cases hs
   cases hs
  cases hs
 cases hs
theorem Kg(h:aG Q T F G w a s){dst:Option Nat}{t:TypeId}{p k:P}{s':S}(hs:jq Q s dst t p k=some s'){vm vk:Value}(hm:aH F w G s.rg vm p)(hk:aH F w G s.rg vk k):
  ∃v w' F' G',(Instr.mapEntry t vm vk).run Q w= .ok v w'/\aG Q T F' G' w' (a.put dst v) s'/\Ext (Own G s.rg) (Own G' s'.rg) F F' w w':=by
 unfold jq at hs;split at hs
 next kt e n aV kd DY=>
  have pj:=iY DY;split at hs
  next z hz=>
   obtain⟨zv,Cr,Jq⟩:=qk (F:=F) hz w;split at hs
   ·rename_i kt2 get c ho;split at hs
    ·rename_i hc;simp only[zab,zbz] at hc;obtain⟨⟨FO,X9⟩,GL⟩:=hc;have FO:=zag FO;subst FO;have GL:n≠site dst:=λe=>by rw[e,Nat.beq_refl] at GL;cases GL
     split at hs
     ·rename_i s1 v1 hn;obtain⟨YY,Oy,⟨kv,yI,DS⟩⟩:=cB X9;have nj:vk=kv:=hk.cF (p:= .d kd) yI;subst nj;obtain⟨en,nE,qdb,b9,Ct,b,es,clock,hG,hb,hM⟩:=GD h hm ho;rw[hG] at Ct;subst Ct;obtain⟨ck,nq⟩:=DS false;have nq:=dH nq w;obtain⟨r,hr,uW⟩:=hM.look X9 yI;have bJ:b<w.heap.size:=(zaz.1 hb).1;have fin: ∀(fG:Array MapEntry) (eH:Nat) (i0:Nat) (e0:MapEntry) (val:Value),pF Q F w kt (da kd (cJ (get kd) z) get) (bif (get kd).isSome then c else c+1) fG.toList eH->fG[i0]?=some e0->e0.key=vk->aS F w val (cJ (get kd) z)->
        ∃F' G',aG Q T F' G' {w with heap:=w.heap.setIfInBounds b (.map fG eH)} (a.put dst (.tuple #[val,.int .i64 (e0.born:Int)])) s'/\Ext (Own G s.rg) (Own G' s'.rg) F F' w {w with heap:=w.heap.setIfInBounds b (.map fG eH)}:=by
       intro fG eH i0 e0 val hM' pT qkO hval;obtain⟨b1,b2,b3,b4⟩:=mV h hn (g1:= .int .i64 (e0.born:Int)) (w':=w) (λ_ _=>rfl) (zak _) rfl rfl rfl (λb hb=>by simp[bF] at hb) trivial;obtain⟨rV,_⟩:=S.lE hn;have hG1:oe G (site dst) (.int .i64 (e0.born:Int)) n=G n:=eZ _ GL;have D9:lk s1.rg n=some en:=by grind [b8]
       have hN1:oe G (site dst) (.int .i64 (e0.born:Int)) (site dst)= .int .i64 (e0.born:Int):=a7 _ _ _;generalize oe G (site dst) (.int .i64 (e0.born:Int))=G1 at b1 b2 b3 hG1 hN1;have j7:G1 n= .map (some b):=hG1.trans hG;have qh8:bF (G1 n) en.obj=some b:=by rw[b9,j7];rfl
       have gy: ∀b0,b0≠b->(w.heap.setIfInBounds b (.map fG eH))[b0]?=w.heap[b0]?:=λb0 dQ=>za5 (zbI dQ);have yV:(w.heap.setIfInBounds b (.map fG eH))[b]?=some (.map fG eH):=by rw[zbC bJ]
       have j8:s1.setObj n (.kD kt (da kd (cJ (get kd) z) get) (bif (get kd).isSome then c else c+1) (.mp (site dst) v1) kd)={s1 with rg:=ins n ⟨en.aV,en.tag,.kD kt (da kd (cJ (get kd) z) get) (bif (get kd).isSome then c else c+1) (.mp (site dst) v1) kd⟩ s1.rg}:=by unfold S.setObj;rw[D9]
       rw[j8] at hs;have D8: ∀b0,F b0->b0≠b:=λb0 hf e=>by subst e;exact b1.nf n en b0 D9 qh8 hf
       have jv: ∀(w1:World),aH F w1 G1 (ins n ⟨en.aV,en.tag,.kD kt (da kd (cJ (get kd) z) get) (bif (get kd).isSome then c else c+1) (.mp (site dst) v1) kd⟩ s1.rg) (.int .i64 (e0.born:Int)) (.mp (site dst) v1):=λw1=>
        .mp _ _ _ rfl ⟨_,(b8 _ _ GL).trans b4,zak _,λ_ _=>hN1.symm⟩
       obtain⟨d1,d2⟩:=b1.oe (n:=n) (e1:=⟨en.aV,en.tag,.kD kt (da kd (cJ (get kd) z) get) (bif (get kd).isSome then c else c+1) (.mp (site dst) v1) kd⟩) (g1:=G1 n) (w':={w with heap:=w.heap.setIfInBounds b (.map fG eH)}) (λe' cS=>by
         rw[D9] at cS;cases cS;exact .inr ⟨rfl,λ_=>⟨by rw[b9];rfl,rfl⟩⟩)
        (λb0 _ bS=>gy b0 λe=>by grind) (by simp) rfl rfl rfl
        (λb0 D3=> .inr ⟨en,D9,by have:bF (G1 n) (.kD kt (da kd (cJ (get kd) z) get) (bif (get kd).isSome then c else c+1) (.mp (site dst) v1) kd)=some b0:=D3;rw[b9];exact this⟩)
        ⟨b,fG,eH,by rw[ca];exact j7,yV,hM'.mono (λ_ h=>h) (λb0 hf=>gy b0 (D8 b0 hf)),i0,e0,pT,by rw[ca];exact jv _,by rw[qkO];exact yI,by grind [da,D.hQ]⟩
        (λi hi _=>b1.tag n en i D9 hi (by rw[b9];rfl))
       rw[ca] at d1 d2;obtain⟨c1,c2⟩:=cC d1 hs (v:= .tuple #[val,.int .i64 (e0.born:Int)]) (cA.of (.cH [val,.int .i64 (e0.born:Int)] _ rfl (λj v c hv hc=>by
        match j with
        |0=>simp at hv hc;subst hc;exact .bad _
        |1=>grind
        |j+2=>simp at hv)))
       refine⟨F,G1,c1,?_⟩;rw[c2];exact b2.trans d2
      rcases uW with⟨rfl,hg⟩| ⟨i,Y9,y0,rfl,hi,hek,hg,hy0⟩
      ·have:=(hM.set X9 yI Jq).1 hg;obtain⟨F',G',e1,e2⟩:=fin (es.push {key:=vk,val:=zv,born:=clock}) (clock+1) es.size _ zv (by rw[hg];simpa [cJ] using this) (by simp;rfl) rfl (by rw[hg];exact Jq);refine⟨_,_,F',G',?_,e1,e2⟩;simp[Instr.mapEntry,run_underlying pj,MapKept.run_getObj_map hb,nq,hr,Cr,MapKept.run_setObj_map _ hb,goInt]
      have yT:es[i]?=some Y9:=by grind
      have:=(hM.set X9 yI hy0).2 i Y9 hi hek (by rw[hg];simp);have qep:es.modify i (λe=>{e with key:=vk})=es.setIfInBounds i {Y9 with key:=vk,val:=Y9.val}:=by grind
      obtain⟨F',G',e1,e2⟩:=fin (es.modify i λe=>{e with key:=vk}) clock i {Y9 with key:=vk} Y9.val (by rw[hg,qep];simpa [cJ] using this) (by rw[zcR];simp[yT]) rfl (by rw[hg];exact hy0);refine⟨_,_,F',G',?_,e1,e2⟩;have jv:(Instr.keyThatStays vk vk).run Q w= .ok vk w:=by simp[Instr.keyThatStays,Cq kd vk Oy yI]
      simp[Instr.mapEntry,run_underlying pj,MapKept.run_getObj_map hb,nq,hr,yT,hek,jv,MapKept.run_setObj_map _ hb,goInt]
     cases hs
    cases hs
   cases hs
  cases hs
 cases hs
theorem OP(h:aG Q T F G w a s){dst:Option Nat}{t:TypeId}{p st x:P}{s':S}(hs:qd Q s dst p st x=some s'){vm vs vx:Value}(hm:aH F w G s.rg vm p)(jv:aH F w G s.rg vs st)(hx:aH F w G s.rg vx x):
  ∃w' F' G',(Instr.entryStore t vm vs vx).run Q w= .ok () w'/\aG Q T F' G' w' (a.put dst undef) s'/\Ext (Own G s.rg) (Own G' s'.rg) F F' w w':=by
 unfold qd at hs;split at hs
 next n aV m vm'=>
  split at hs
  next s1 y GN=>
   obtain⟨F',b1,b2,b3,b4,b5⟩:=Sb h GN hx;split at hs
   ·rename_i kt get c m2 vm2 kd ho R7;split at hs
    ·rename_i hc;simp only[zab] at hc;obtain⟨⟨e1,e2⟩,X9⟩:=hc;have e1:=zag e1;have e2:=zag e2;subst e1;subst e2;have Kb:aH F' w G s1.rg vm (.mp n aV):=hm.mono b4 (λ_ _=>rfl) b3;have qkP:aH F' w G s1.rg vs (.mp m vm'):=jv.mono b4 (λ_ _=>rfl) b3;obtain⟨en,nE,qdb,b9,Ct,b,es,clock,hG,hb,hM,i,e0,hi,qh9,hkd,qdc⟩:=RU b1 Kb ho;rw[hG] at Ct;subst Ct;obtain⟨es0,qkQ,qkR,qkS⟩:=S.bI R7;have num: ∀v,aH F' w G s1.rg v (.mp m vm')->v=G m:=λv hv=>by
      cases hv with
      |mp _ _ _ _ hr=>obtain⟨e',cS,hle,hc⟩:=hr;rw[qkQ] at cS;cases cS;exact hc qkR.symm (by rw[qkS];rfl)
     have Ow:vs= .int .i64 (e0.born:Int):=(num _ qkP).trans (num _ qh9).symm;subst Ow;have bK:i<es.size:=(zaz.1 hi).1;obtain⟨ks,h1,h2,h3,h4,h5,h6,h7⟩:=id hM;have qia:es.findIdx? (λe=>(e.born:Int)==(e0.born:Int))=some i:=by rw[Array.findIdx?_eq_some_iff_getElem];have hei:es[i]=e0:=(zaz.1 hi).2;refine⟨bK,by rw[hei];simp,λj hj=> ?_⟩;grind [List.pairwise_iff_getElem]
     have j8:=hM.set X9 hkd b5;have hgs:get kd≠none:=λe=>by rw[e] at qdc;cases qdc
     have hM':=j8.2 i e0 (by grind) rfl hgs;have ga:bF (G n) en.obj=some b:=by rw[b9,hG];rfl
     have bJ:b<w.heap.size:=(zaz.1 hb).1;have qep:es.modify i (λe=>{e with val:=vx})=es.setIfInBounds i {e0 with key:=e0.key,val:=vx}:=by grind
     have hM2:pF Q F' w kt (da kd y get) c (es.modify i λe=>{e with val:=vx}).toList clock:=by grind
     have gy: ∀b0,b0≠b->(w.heap.setIfInBounds b (.map (es.modify i λe=>{e with val:=vx}) clock))[b0]?=w.heap[b0]?:=λb0 dQ=>za5 (zbI dQ);have yV:(w.heap.setIfInBounds b (.map (es.modify i λe=>{e with val:=vx}) clock))[b]?=some (.map (es.modify i λe=>{e with val:=vx}) clock):=by rw[zbC bJ]
     have rV:s1.setObj n (.map kt (da kd y get) c false)={s1 with rg:=ins n ⟨en.aV,en.tag,.map kt (da kd y get) c false⟩ s1.rg}:=by unfold S.setObj;rw[nE]
     rw[rV] at hs;have D8: ∀b0,F' b0->b0≠b:=λb0 hf e=>by subst e;exact b1.nf n en b0 nE ga hf
     obtain⟨d1,d2⟩:=b1.oe (n:=n) (e1:=⟨en.aV,en.tag,.map kt (da kd y get) c false⟩) (g1:=G n) (w':={w with heap:=w.heap.setIfInBounds b (.map (es.modify i λe=>{e with val:=vx}) clock)}) (λe' cS=>by
       rw[nE] at cS;cases cS;exact .inr ⟨rfl,λ_=>⟨by rw[b9];rfl,rfl⟩⟩)
      (λb0 _ bS=>gy b0 λe=>by grind) (by simp) rfl rfl rfl
      (λb0 D3=> .inr ⟨en,nE,by have:bF (G n) (.map kt (da kd y get) c false)=some b0:=D3;rw[b9];exact this⟩)
      ⟨b,_,clock,by rw[ca];exact hG,yV,hM2.mono (λ_ h=>h) (λb0 hf=>gy b0 (D8 b0 hf)),λhl=>by cases hl⟩
      (λi hi _=>b1.tag n en i nE hi (by rw[b9];rfl))
     rw[ca] at d1 d2;obtain⟨c1,c2⟩:=cC d1 hs (v:=undef) (cA.of (.bad _));refine⟨_,F',G,?_,c1,?_⟩
     ·simp[Instr.entryStore,MapKept.run_getObj_map hb,asInt,asIntOf,qia,MapKept.run_setObj_map _ hb]
     rw[c2];exact b2.trans d2
    cases hs
   cases hs
  cases hs
 cases hs
end
end Pi
