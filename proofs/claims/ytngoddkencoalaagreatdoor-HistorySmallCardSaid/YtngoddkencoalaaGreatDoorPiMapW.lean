/- The text PiMapW. -/
import Derived.Test.YtngoddkencoalaaGreatDoorPiMk
namespace Pi
open Go
section
variable{Q:Program}{T:Tg}{F:Nat->Prop}{G:Nat->Value}{w:World}{a:Act}{s:S}
theorem Ft(h:aG Q T F G w a s){dst:Option Nat}{t:TypeId}{s':S}(hs:k8 Q s dst t=some s'):
  ∃v w' G',(Instr.makeMap t none).run Q w= .ok v w'/\aG Q T F G' w' (a.put dst v) s'/\Ext (Own G s.rg) (Own G' s'.rg) F F w w':=by
 unfold k8 at hs;split at hs
 next kt e zZ=>
  split at hs
  next s1 v hn=>
   have eP: ∀b,b<w.heap.size->(w.alloc (.map #[] 0)).heap[b]?=w.heap[b]?:=λb hb=>heap_alloc_old w _ b hb;obtain⟨b1,b2,b3,b4⟩:=mJ h hn (g1:= .map (some w.heap.size)) (w':=w.alloc (.map #[] 0)) eP (by simp) rfl rfl rfl (λb hb=>by simp[bL,aR] at hb;omega)
    ⟨w.heap.size, #[],0,bf _ _ _,heap_alloc_new w _,⟨[],rfl,rfl,by simp,by simp,by simp,by simp,by simp⟩,λhl=>by cases hl⟩
   obtain⟨c1,c2⟩:=cD b1 hs (v:= .map (some w.heap.size)) (cB.of (.mp (site dst) v _ rfl ⟨_,b4,zak _,λ_ _=>(bf _ _ _).symm⟩));refine⟨.map (some w.heap.size),_,_,by rfl,c1,?_⟩;rw[c2];exact b2
  cases hs
 cases hs
theorem BA{ks:List (D×D)}(hd:(ks.map (·.1)).Nodup){i j:Nat}{p q:D×D}(hi:ks[i]?=some p)(hj:ks[j]?=some q)(h:p.1=q.1):i=j:=by have hp:=zbj.1 hd;grind
theorem o5.set{kt:TypeId}{get:D->Option D}{n:Int}{es:List MapEntry}{clock:Nat}(h:o5 Q F w kt get n es clock){k y:D}{v:Value}(hk:fY Q kt k=true)(hv:k.cG=some v){x:Value}(hx:bc F w x y):
  (get k=none->o5 Q F w kt (df k y get) (n+1) (es++[{key:=v,val:=x,born:=clock}]) (clock+1))/\
  (∀i e,es[i]?=some e->e.key=v->get k≠none->o5 Q F w kt (df k y get) n (es.set i {e with key:=v,val:=x}) clock):=by
 obtain⟨ks,h1,h2,h3,h4,h5,h6,h7⟩:=h;constructor
 ·intro hg;have hnk: ∀p∈ks,p.1≠k:=λp hp e=>by have:=(h5 p.1 p.2).2 hp;rw[e,hg] at this;cases this
  refine⟨ks++[(k,y)],by simp[h1],by simp[h2],λi p e hp he=> ?_,?_,λk' v'=> ?_,λe he=> ?_,?_⟩
  ·grind
  ·rw[zaB,za2];grind
  ·grind [Bs,KL]
  ·grind
  grind
 intro i e he hek hg;have hi:i<es.length:=(zad.1 he).1;have VU:i<ks.length:=by omega
 obtain⟨p,hp⟩: ∃p,ks[i]?=some p:=⟨ks[i],zae VU⟩
 obtain⟨a1,a2,a3⟩:=h3 i p e hp he;have hpk:p.1=k:=by
  obtain⟨y0,hy0⟩: ∃y0,get k=some y0:=by
   cases hgk:get k with
   |none=>grind
   |some y0=>simp
  have hm:=(h5 k y0).1 hy0;obtain⟨j,hj,WX⟩:=zaW hm;obtain⟨ej,hej⟩: ∃ej,es[j]?=some ej:=⟨es[j]'(by omega),zae (by omega)⟩
  obtain⟨_,b2,_⟩:=h3 j (k,y0) ej (by rw[zae hj,WX]) hej;obtain⟨r,hr,vM⟩:=xV (cC hk).1 hv h1 (λi p e hp he=>⟨(cC (h3 i p e hp he).1).1,(h3 i p e hp he).2.1⟩) w;obtain⟨c,hc,jU⟩:=qF 20 kt p.1 k (cC a1).1 (cC hk).1;obtain⟨c',rJ,qkn⟩:=qF 20 kt k k (cC hk).1 (cC hk).1;have e1:=fL 20 10000 kt p.1 k c v v (by omega) hc (by rw[a2,hek]) hv;have e2:=fL 20 10000 kt k k c' v v (by omega) rJ hv hv;rw[e1] at e2;grind
 refine⟨ks.set i (k,y),by simp[h1],by grind,λj q f hq hf=> ?_,?_,λk' v'=> ?_,λf hf=> ?_,?_⟩
 ·grind
 ·have:(ks.set i (k,y)).map (·.1)=ks.map (·.1):=by apply zcr;grind
  rw[this];exact h4
 ·by_cases e:k=k'
  ·subst e;rw[Bs];constructor
   ·intro e;cases e;exact zaC (i:=i) (by rw[zbP VU])
   intro hm;obtain⟨j,hj⟩:=zaQ hm;by_cases q6:i=j
   ·subst q6;rw[zbP VU] at hj;cases hj;rfl
   rw[zaR q6] at hj;exact absurd (BA h4 hp hj hpk) q6
  rw[KL _ _ e,h5];constructor
  ·intro hm;obtain⟨j,hj⟩:=zaQ hm;have q6:i≠j:=λq6=>by grind
   exact zaC (i:=j) (by rw[zaR q6];exact hj)
  grind
 ·grind
 have:(es.set i {e with key:=v,val:=x}).map (·.born)=es.map (·.born):=by apply zcr;grind
 rw[this];exact h7
theorem yd(h:aG Q T F G w a s){dst:Option Nat}{t:TypeId}{p k x:P}{s':S}(hs:jm Q s dst t p k x=some s'){vm vk vx:Value}(hm:aH F w G s.rg vm p)(hk:aH F w G s.rg vk k)(hx:aH F w G s.rg vx x):
  ∃w' F' G',(Instr.mapUpdate t vm vk vx).run Q w= .ok () w'/\aG Q T F' G' w' (a.put dst undef) s'/\Ext (Own G s.rg) (Own G' s'.rg) F F' w w':=by
 unfold jm at hs;split at hs
 next kt e n aZ kd zZ=>
  have oQ:=iW zZ;split at hs
  next s1 y Fo=>
   obtain⟨F',b1,b2,b3,b4,b5⟩:=xh h Fo hx;split at hs
   ·rename_i kt2 get c ho;split at hs
    ·rename_i hc;simp only[zab] at hc;have EC:=zaf hc.1;subst EC;obtain⟨WL,MC,⟨kv,xW,CQ⟩⟩:=cC hc.2;have mV:vk=kv:=hk.cG (p:= .d kd) xW;subst mV;have ML:aH F' w G s1.rg vm (.mp n aZ):=hm.mono b4 (λ_ _=>rfl) b3;obtain⟨en,nq,qbj,ca,Bv,b,es,clock,hG,hb,hM⟩:=Fc b1 ML ho;rw[hG] at Bv;subst Bv;obtain⟨ck,oR⟩:=CQ false;have oR:=dK oR w;obtain⟨r,hr,vM⟩:=hM.look hc.2 xW;have jY:=hM.set hc.2 xW b5;have gb:bL (G n) en.obj=some b:=by rw[ca,hG];rfl
     have bG:b<w.heap.size:=(zar.1 hb).1;have fin: ∀(fH:Array MapEntry) (eJ:Nat),o5 Q F' w kt (df kd y get) (bif (get kd).isSome then c else c+1) fH.toList eJ->
       ∃F'' G',aG Q T F'' G' {w with heap:=w.heap.setIfInBounds b (.map fH eJ)} (a.put dst undef) s'/\Ext (Own G s.rg) (Own G' s'.rg) F F'' w {w with heap:=w.heap.setIfInBounds b (.map fH eJ)}:=by
      intro fH eJ hM';have gB: ∀b0,b0≠b->(w.heap.setIfInBounds b (.map fH eJ))[b0]?=w.heap[b0]?:=λb0 dP=>zaZ (zbD dP);have ye:(w.heap.setIfInBounds b (.map fH eJ))[b]?=some (.map fH eJ):=by rw[zbw bG]
      have sX:s1.setObj n (.map kt (df kd y get) (bif (get kd).isSome then c else c+1) false)={s1 with rg:=ins n ⟨en.aZ,en.tag,.map kt (df kd y get) (bif (get kd).isSome then c else c+1) false⟩ s1.rg}:=by unfold S.setObj;rw[nq]
      rw[sX] at hs;have gl:rG G s1.rg n ⟨en.aZ,en.tag,.map kt (df kd y get) (bif (get kd).isSome then c else c+1) false⟩ (G n):=λe' cR=>by rw[nq] at cR;cases cR;exact .inr ⟨rfl,λ_=>⟨by rw[ca];rfl,rfl⟩⟩
      have C3: ∀b0,F' b0->b0≠b:=λb0 hf e=>by subst e;exact b1.mU n en b0 nq gb hf
      obtain⟨d1,d2⟩:=b1.nL (n:=n) (e1:=⟨en.aZ,en.tag,.map kt (df kd y get) (bif (get kd).isSome then c else c+1) false⟩) (g1:=G n) (w':={w with heap:=w.heap.setIfInBounds b (.map fH eJ)}) gl
       (λb0 _ bX=>gB b0 λe=>by grind) (by simp) rfl rfl rfl
       (λb0 CZ=> .inr ⟨en,nq,by have:bL (G n) (.map kt (df kd y get) (bif (get kd).isSome then c else c+1) false)=some b0:=CZ;rw[ca];exact this⟩)
       ⟨b,fH,eJ,by rw[cb];exact hG,ye,hM'.mono (λ_ h=>h) (λb0 hf=>gB b0 (C3 b0 hf)),λhl=>by cases hl⟩
       (λi hi _=>b1.tag n en i nq hi (by rw[ca];rfl))
      rw[cb] at d1 d2;obtain⟨c1,c2⟩:=cD d1 hs (v:=undef) (cB.of (.bad _));refine⟨F',G,c1,?_⟩;rw[c2];exact b2.trans d2
     rcases vM with⟨rfl,hg⟩| ⟨i,WY,y0,rfl,hi,hek,hg,_⟩
     ·skip
      obtain⟨F'',G',e1,e2⟩:=fin (es.push {key:=vk,val:=vx,born:=clock}) (clock+1) (by grind);refine⟨_,F'',G',?_,e1,e2⟩;simp[Instr.mapUpdate,run_underlying oQ,MapKept.run_getObj_map hb,oR,hr,MapKept.run_setObj_map _ hb]
     skip
     have yc:es[i]?=some WY:=by grind
     have qct:es.modify i (λe=>{e with key:=vk,val:=vx})=es.setIfInBounds i {WY with key:=vk,val:=vx}:=by grind
     obtain⟨F'',G',e1,e2⟩:=fin (es.modify i λe=>{e with key:=vk,val:=vx}) clock (by grind);refine⟨_,F'',G',?_,e1,e2⟩;have ln:(Instr.keyThatStays vk vk).run Q w= .ok vk w:=by simp[Instr.keyThatStays,Bt kd vk MC xW]
     simp[Instr.mapUpdate,run_underlying oQ,MapKept.run_getObj_map hb,oR,hr,yc,hek,ln,MapKept.run_setObj_map _ hb]
    cases hs
   cases hs
  cases hs
 cases hs
theorem IJ(h:aG Q T F G w a s){dst:Option Nat}{t:TypeId}{p k:P}{s':S}(hs:jn Q s dst t p k=some s'){vm vk:Value}(hm:aH F w G s.rg vm p)(hk:aH F w G s.rg vk k):
  ∃v w' F' G',(Instr.mapEntry t vm vk).run Q w= .ok v w'/\aG Q T F' G' w' (a.put dst v) s'/\Ext (Own G s.rg) (Own G' s'.rg) F F' w w':=by
 unfold jn at hs;split at hs
 next kt e n aZ kd zZ=>
  have oQ:=iW zZ;split at hs
  next z hz=>
   obtain⟨zv,Bu,HI⟩:=pI (F:=F) hz w;split at hs
   ·rename_i kt2 get c ho;split at hs
    ·rename_i hc;simp only[zab,zbt] at hc;obtain⟨⟨EC,VO⟩,Fk⟩:=hc;have EC:=zaf EC;subst EC;have Fk:n≠site dst:=λe=>by rw[e,Nat.beq_refl] at Fk;cases Fk
     split at hs
     ·rename_i s1 v1 hn;obtain⟨WL,MC,⟨kv,xW,CQ⟩⟩:=cC VO;have mV:vk=kv:=hk.cG (p:= .d kd) xW;subst mV;obtain⟨en,nq,qbj,ca,Bv,b,es,clock,hG,hb,hM⟩:=Fc h hm ho;rw[hG] at Bv;subst Bv;obtain⟨ck,oR⟩:=CQ false;have oR:=dK oR w;obtain⟨r,hr,vM⟩:=hM.look VO xW;have bG:b<w.heap.size:=(zar.1 hb).1;have fin: ∀(fH:Array MapEntry) (eJ:Nat) (i0:Nat) (e0:MapEntry) (val:Value),o5 Q F w kt (df kd (cL (get kd) z) get) (bif (get kd).isSome then c else c+1) fH.toList eJ->fH[i0]?=some e0->e0.key=vk->bc F w val (cL (get kd) z)->
        ∃F' G',aG Q T F' G' {w with heap:=w.heap.setIfInBounds b (.map fH eJ)} (a.put dst (.tuple #[val,.int .i64 (e0.born:Int)])) s'/\Ext (Own G s.rg) (Own G' s'.rg) F F' w {w with heap:=w.heap.setIfInBounds b (.map fH eJ)}:=by
       intro fH eJ i0 e0 val hM' oU qiN hval;obtain⟨b1,b2,b3,b4⟩:=mJ h hn (g1:= .int .i64 (e0.born:Int)) (w':=w) (λ_ _=>rfl) (zak _) rfl rfl rfl (λb hb=>by simp[bL] at hb) trivial;obtain⟨sX,_⟩:=S.lz hn;have hG1:nL G (site dst) (.int .i64 (e0.born:Int)) n=G n:=eW _ Fk;have C4:lk s1.rg n=some en:=by grind [b9]
       have hN1:nL G (site dst) (.int .i64 (e0.born:Int)) (site dst)= .int .i64 (e0.born:Int):=bf _ _ _;generalize nL G (site dst) (.int .i64 (e0.born:Int))=G1 at b1 b2 b3 hG1 hN1;have jX:G1 n= .map (some b):=hG1.trans hG;have qf0:bL (G1 n) en.obj=some b:=by rw[ca,jX];rfl
       have gB: ∀b0,b0≠b->(w.heap.setIfInBounds b (.map fH eJ))[b0]?=w.heap[b0]?:=λb0 dP=>zaZ (zbD dP);have ye:(w.heap.setIfInBounds b (.map fH eJ))[b]?=some (.map fH eJ):=by rw[zbw bG]
       have jY:s1.setObj n (.kB kt (df kd (cL (get kd) z) get) (bif (get kd).isSome then c else c+1) (.mp (site dst) v1) kd)={s1 with rg:=ins n ⟨en.aZ,en.tag,.kB kt (df kd (cL (get kd) z) get) (bif (get kd).isSome then c else c+1) (.mp (site dst) v1) kd⟩ s1.rg}:=by unfold S.setObj;rw[C4]
       rw[jY] at hs;have C3: ∀b0,F b0->b0≠b:=λb0 hf e=>by subst e;exact b1.mU n en b0 C4 qf0 hf
       have ln: ∀(w1:World),aH F w1 G1 (ins n ⟨en.aZ,en.tag,.kB kt (df kd (cL (get kd) z) get) (bif (get kd).isSome then c else c+1) (.mp (site dst) v1) kd⟩ s1.rg) (.int .i64 (e0.born:Int)) (.mp (site dst) v1):=λw1=>
        .mp _ _ _ rfl ⟨_,(b9 _ _ Fk).trans b4,zak _,λ_ _=>hN1.symm⟩
       obtain⟨d1,d2⟩:=b1.nL (n:=n) (e1:=⟨en.aZ,en.tag,.kB kt (df kd (cL (get kd) z) get) (bif (get kd).isSome then c else c+1) (.mp (site dst) v1) kd⟩) (g1:=G1 n) (w':={w with heap:=w.heap.setIfInBounds b (.map fH eJ)}) (λe' cR=>by
         rw[C4] at cR;cases cR;exact .inr ⟨rfl,λ_=>⟨by rw[ca];rfl,rfl⟩⟩)
        (λb0 _ bX=>gB b0 λe=>by grind) (by simp) rfl rfl rfl
        (λb0 CZ=> .inr ⟨en,C4,by have:bL (G1 n) (.kB kt (df kd (cL (get kd) z) get) (bif (get kd).isSome then c else c+1) (.mp (site dst) v1) kd)=some b0:=CZ;rw[ca];exact this⟩)
        ⟨b,fH,eJ,by rw[cb];exact jX,ye,hM'.mono (λ_ h=>h) (λb0 hf=>gB b0 (C3 b0 hf)),i0,e0,oU,by rw[cb];exact ln _,by rw[qiN];exact xW,by grind [df,D.hQ]⟩
        (λi hi _=>b1.tag n en i C4 hi (by rw[ca];rfl))
       rw[cb] at d1 d2;obtain⟨c1,c2⟩:=cD d1 hs (v:= .tuple #[val,.int .i64 (e0.born:Int)]) (cB.of (.cT [val,.int .i64 (e0.born:Int)] _ rfl (λj v c hv hc=>by
        match j with
        |0=>simp at hv hc;subst hc;exact .bad _
        |1=>grind
        |j+2=>simp at hv)))
       refine⟨F,G1,c1,?_⟩;rw[c2];exact b2.trans d2
      rcases vM with⟨rfl,hg⟩| ⟨i,WY,y0,rfl,hi,hek,hg,hy0⟩
      ·have:=(hM.set VO xW HI).1 hg;obtain⟨F',G',e1,e2⟩:=fin (es.push {key:=vk,val:=zv,born:=clock}) (clock+1) es.size _ zv (by rw[hg];simpa [cL] using this) (by simp;rfl) rfl (by rw[hg];exact HI);refine⟨_,_,F',G',?_,e1,e2⟩;simp[Instr.mapEntry,run_underlying oQ,MapKept.run_getObj_map hb,oR,hr,Bu,MapKept.run_setObj_map _ hb,goInt]
      have yc:es[i]?=some WY:=by grind
      have:=(hM.set VO xW hy0).2 i WY hi hek (by rw[hg];simp);have qct:es.modify i (λe=>{e with key:=vk})=es.setIfInBounds i {WY with key:=vk,val:=WY.val}:=by grind
      obtain⟨F',G',e1,e2⟩:=fin (es.modify i λe=>{e with key:=vk}) clock i {WY with key:=vk} WY.val (by rw[hg,qct];simpa [cL] using this) (by rw[zcG];simp[yc]) rfl (by rw[hg];exact hy0);refine⟨_,_,F',G',?_,e1,e2⟩;have ln:(Instr.keyThatStays vk vk).run Q w= .ok vk w:=by simp[Instr.keyThatStays,Bt kd vk MC xW]
      simp[Instr.mapEntry,run_underlying oQ,MapKept.run_getObj_map hb,oR,hr,yc,hek,ln,MapKept.run_setObj_map _ hb,goInt]
     cases hs
    cases hs
   cases hs
  cases hs
 cases hs
theorem MU(h:aG Q T F G w a s){dst:Option Nat}{t:TypeId}{p st x:P}{s':S}(hs:pA Q s dst p st x=some s'){vm vs vx:Value}(hm:aH F w G s.rg vm p)(ln:aH F w G s.rg vs st)(hx:aH F w G s.rg vx x):
  ∃w' F' G',(Instr.entryStore t vm vs vx).run Q w= .ok () w'/\aG Q T F' G' w' (a.put dst undef) s'/\Ext (Own G s.rg) (Own G' s'.rg) F F' w w':=by
 unfold pA at hs;split at hs
 next n aZ m vm'=>
  split at hs
  next s1 y Fo=>
   obtain⟨F',b1,b2,b3,b4,b5⟩:=Qo h Fo hx;split at hs
   ·rename_i kt get c m2 vm2 kd ho Ql;split at hs
    ·rename_i hc;simp only[zab] at hc;obtain⟨⟨e1,e2⟩,VO⟩:=hc;have e1:=zaf e1;have e2:=zaf e2;subst e1;subst e2;have ML:aH F' w G s1.rg vm (.mp n aZ):=hm.mono b4 (λ_ _=>rfl) b3;have qiO:aH F' w G s1.rg vs (.mp m vm'):=ln.mono b4 (λ_ _=>rfl) b3;obtain⟨en,nq,qbj,ca,Bv,b,es,clock,hG,hb,hM,i,e0,hi,qf1,hkd,qbk⟩:=Qd b1 ML ho;rw[hG] at Bv;subst Bv;obtain⟨es0,qiP,qiQ,qiR⟩:=S.bM Ql;have num: ∀v,aH F' w G s1.rg v (.mp m vm')->v=G m:=λv hv=>by
      cases hv with
      |mp _ _ _ _ hr=>obtain⟨e',cR,hle,hc⟩:=hr;rw[qiP] at cR;cases cR;exact hc qiQ.symm (by rw[qiR];rfl)
     have MB:vs= .int .i64 (e0.born:Int):=(num _ qiO).trans (num _ qf1).symm;subst MB;have bR:i<es.size:=(zar.1 hi).1;obtain⟨ks,h1,h2,h3,h4,h5,h6,h7⟩:=id hM;have qf2:es.findIdx? (λe=>(e.born:Int)==(e0.born:Int))=some i:=by rw[Array.findIdx?_eq_some_iff_getElem];have hei:es[i]=e0:=(zar.1 hi).2;refine⟨bR,by rw[hei];simp,λj hj=> ?_⟩;grind [List.pairwise_iff_getElem]
     have jY:=hM.set VO hkd b5;have hgs:get kd≠none:=λe=>by rw[e] at qbk;cases qbk
     have hM':=jY.2 i e0 (by grind) rfl hgs;have gb:bL (G n) en.obj=some b:=by rw[ca,hG];rfl
     have bG:b<w.heap.size:=(zar.1 hb).1;have qct:es.modify i (λe=>{e with val:=vx})=es.setIfInBounds i {e0 with key:=e0.key,val:=vx}:=by grind
     have hM2:o5 Q F' w kt (df kd y get) c (es.modify i λe=>{e with val:=vx}).toList clock:=by grind
     have gB: ∀b0,b0≠b->(w.heap.setIfInBounds b (.map (es.modify i λe=>{e with val:=vx}) clock))[b0]?=w.heap[b0]?:=λb0 dP=>zaZ (zbD dP);have ye:(w.heap.setIfInBounds b (.map (es.modify i λe=>{e with val:=vx}) clock))[b]?=some (.map (es.modify i λe=>{e with val:=vx}) clock):=by rw[zbw bG]
     have sX:s1.setObj n (.map kt (df kd y get) c false)={s1 with rg:=ins n ⟨en.aZ,en.tag,.map kt (df kd y get) c false⟩ s1.rg}:=by unfold S.setObj;rw[nq]
     rw[sX] at hs;have C3: ∀b0,F' b0->b0≠b:=λb0 hf e=>by subst e;exact b1.mU n en b0 nq gb hf
     obtain⟨d1,d2⟩:=b1.nL (n:=n) (e1:=⟨en.aZ,en.tag,.map kt (df kd y get) c false⟩) (g1:=G n) (w':={w with heap:=w.heap.setIfInBounds b (.map (es.modify i λe=>{e with val:=vx}) clock)}) (λe' cR=>by
       rw[nq] at cR;cases cR;exact .inr ⟨rfl,λ_=>⟨by rw[ca];rfl,rfl⟩⟩)
      (λb0 _ bX=>gB b0 λe=>by grind) (by simp) rfl rfl rfl
      (λb0 CZ=> .inr ⟨en,nq,by have:bL (G n) (.map kt (df kd y get) c false)=some b0:=CZ;rw[ca];exact this⟩)
      ⟨b,_,clock,by rw[cb];exact hG,ye,hM2.mono (λ_ h=>h) (λb0 hf=>gB b0 (C3 b0 hf)),λhl=>by cases hl⟩
      (λi hi _=>b1.tag n en i nq hi (by rw[ca];rfl))
     rw[cb] at d1 d2;obtain⟨c1,c2⟩:=cD d1 hs (v:=undef) (cB.of (.bad _));refine⟨_,F',G,?_,c1,?_⟩
     ·simp[Instr.entryStore,MapKept.run_getObj_map hb,asInt,asIntOf,qf2,MapKept.run_setObj_map _ hb]
     rw[c2];exact b2.trans d2
    cases hs
   cases hs
  cases hs
 cases hs
end
end Pi
