/- The text PiMapW. -/
import Derived.Test.YtdgkdigdflkjhaaGreatDoorPiMk
namespace Pi
open Go
section
variable{Q:Program}{T:Tg}{F:Nat->Prop}{G:Nat->Value}{w:World}{a:Act}{s:S}
theorem Ic(h:aC Q T F G w a s){dst t s'}(hs:ly Q s dst t=some s'):
  ∃v w' G',(Instr.makeMap t none).run Q w= .ok v w'/\aC Q T F G' w' (a.put dst v) s'/\Ext (Own G s.rg) (Own G' s'.rg) F F w w':=by
 unfold ly at hs;split at hs
 next kt e Hg=>
  split at hs
  next s1 v hn=>
   have eU: ∀b,b<w.heap.size->(w.alloc (.map #[] 0)).heap[b]?=w.heap[b]?:=λb hb=>heap_alloc_old w _ b hb;obtain⟨b1,b2,b3,b4⟩:=nE h hn (g1:= .map (some w.heap.size)) (w':=w.alloc (.map #[] 0)) eU (by simp) rfl rfl rfl (λb hb=>by simp[bB,aO] at hb;omega)
    ⟨w.heap.size, #[],0,bc _ _ _,heap_alloc_new w _,⟨[],rfl,rfl,by simp,by simp,by simp,by simp,by simp⟩,λhl=>by cases hl⟩
   obtain⟨c1,c2⟩:=cy b1 hs (v:= .map (some w.heap.size)) (cE.of (.mp (site dst) v _ rfl ⟨_,b4,zal _,λ_ _=>(bc _ _ _).symm⟩));refine⟨.map (some w.heap.size),_,_,by rfl,c1,?_⟩;rw[c2];exact b2
  cases hs
 cases hs
theorem vZ{ks:List (D×D)}(hd:(ks.map (·.1)).Nodup){i j:Nat}{p q}(hi:ks[i]?=some p)(hj:ks[j]?=some q)(h:p.1=q.1):i=j:=by have hp:=zbb.1 hd;grind
theorem lG.set{kt get n es}{clock}(h:lG Q F w kt get n es clock){k y v}(hk:fp Q kt k=true)(hv:k.cD=some v){x}(hx:aY F w x y):
  (get k=none->lG Q F w kt (aX k y get) (n+1) (es++[{key:=v,val:=x,born:=clock}]) (clock+1))/\
  (∀i e,es[i]?=some e->e.key=v->get k≠none->lG Q F w kt (aX k y get) n (es.set i {e with key:=v,val:=x}) clock):=by
 obtain⟨ks,h1,h2,h3,h4,h5,h6,h7⟩:=h;constructor
 ·intro hg;have hnk: ∀p∈ks,p.1≠k:=λp hp e=>by have:=(h5 p.1 p.2).2 hp;rw[e,hg] at this;cases this
  refine⟨ks++[(k,y)],by simp[h1],by simp[h2],λi p e hp he=> ?_,?_,λk' v'=> ?_,λe he=> ?_,?_⟩
  ·grind
  ·rw[zaC,zaR];grind
  ·grind [Dq,NH]
  ·grind
  grind
 intro i e he hek hg;have hi:i<es.length:=(zae.1 he).1;have hik:i<ks.length:=by omega
 obtain⟨p,hp⟩: ∃p,ks[i]?=some p:=⟨ks[i],zad hik⟩
 obtain⟨a1,a2,a3⟩:=h3 i p e hp he;have hpk:p.1=k:=by
  obtain⟨y0,hy0⟩: ∃y0,get k=some y0:=by
   cases hgk:get k with
   |none=>grind
   |some y0=>simp
  have hm:=(h5 k y0).1 hy0;obtain⟨j,hj,hje⟩:=zaQ hm;obtain⟨ej,hej⟩: ∃ej,es[j]?=some ej:=⟨es[j]'(by omega),zad (by omega)⟩
  obtain⟨_,b2,_⟩:=h3 j (k,y0) ej (by rw[zad hj,hje]) hej;obtain⟨r,hr,vK⟩:=zD (bQ hk).1 hv h1 (λi p e hp he=>⟨(bQ (h3 i p e hp he).1).1,(h3 i p e hp he).2.1⟩) w;obtain⟨c,hc,lF⟩:=k9 20 kt p.1 k (bQ a1).1 (bQ hk).1;obtain⟨c',oN,qnd⟩:=k9 20 kt k k (bQ hk).1 (bQ hk).1;have e1:=dN 20 10000 kt p.1 k c v v (by omega) hc (by rw[a2,hek]) hv;have e2:=dN 20 10000 kt k k c' v v (by omega) oN hv hv;rw[e1] at e2;grind
 refine⟨ks.set i (k,y),by simp[h1],by grind,λj q f hq hf=> ?_,?_,λk' v'=> ?_,λf hf=> ?_,?_⟩
 ·grind
 ·have:(ks.set i (k,y)).map (·.1)=ks.map (·.1):=by apply zcG;grind
  rw[this];exact h4
 ·by_cases e:k=k'
  ·subst e;rw[Dq];constructor
   ·intro e;cases e;exact zaA (i:=i) (by rw[zcl hik])
   intro hm;obtain⟨j,hj⟩:=zaV hm;by_cases rY:i=j
   ·subst rY;rw[zcl hik] at hj;cases hj;rfl
   rw[zbc rY] at hj;exact absurd (vZ h4 hp hj hpk) rY
  rw[NH _ _ e,h5];constructor
  ·intro hm;obtain⟨j,hj⟩:=zaV hm;have rY:i≠j:=λrY=>by grind
   exact zaA (i:=j) (by rw[zbc rY];exact hj)
  grind
 ·grind
 have:(es.set i {e with key:=v,val:=x}).map (·.born)=es.map (·.born):=by apply zcG;grind
 rw[this];exact h7
theorem lG.del{kt get n es}{clock}(h:lG Q F w kt get n es clock){k v}(hk:fp Q kt k=true)(hv:k.cD=some v):
  (get k=none->lG Q F w kt (jg k get) n es clock)/\
  (∀i e,es[i]?=some e->e.key=v->get k≠none->lG Q F w kt (jg k get) (n-1) (es.eraseIdx i) clock):=by
 refine⟨λhn=> ?_,?_⟩
 ·have e:jg k get=get:=by
   funext d;unfold jg;cases hd:D.gH k d with
   |true=>have:=(D.bS _ _).1 hd;subst this;rw[hn];rfl
   |false=>rfl
  rw[e];exact h
 obtain⟨ks,h1,h2,h3,h4,h5,h6,h7⟩:=h;intro i e he hek hg;have hi:i<es.length:=(zae.1 he).1;have hik:i<ks.length:=by omega
 obtain⟨p,hp⟩: ∃p,ks[i]?=some p:=⟨ks[i],zad hik⟩
 obtain⟨a1,a2,a3⟩:=h3 i p e hp he;have hpk:p.1=k:=by obtain⟨c,hc,lF⟩:=k9 20 kt p.1 k (bQ a1).1 (bQ hk).1;obtain⟨c',oN,qnd⟩:=k9 20 kt k k (bQ hk).1 (bQ hk).1;have e1:=dN 20 10000 kt p.1 k c v v (by omega) hc (by rw[a2,hek]) hv;have e2:=dN 20 10000 kt k k c' v v (by omega) oN hv hv;rw[e1] at e2;grind
 refine⟨ks.eraseIdx i,by rw[zc0,zc0,h1],by rw[zc0,zap hi];omega,λj q f hq hf=> ?_,h4.sublist ((List.eraseIdx_sublist _ _).map _),λk' v'=> ?_,λf hf=>h6 f (List.mem_of_mem_eraseIdx hf),h7.sublist ((List.eraseIdx_sublist _ _).map _)⟩
 ·rw[List.getElem?_eraseIdx] at hq hf;split at hq
  next hj=>rw[zap hj] at hf;exact h3 j q f hq hf
  rename_i hj;rw[zan hj] at hf;exact h3 _ q f hq hf
 have dB:(k',v')∈ks.eraseIdx i↔ ∃j,j≠i/\ks[j]?=some (k',v'):=by rw[List.mem_eraseIdx_iff_getElem?]
 rw[dB];by_cases ek:k=k'
 ·subst ek;have e0:jg k get k=none:=by unfold jg;rw[(D.bS _ _).2 rfl];rfl
  rw[e0];constructor
  ·intro h;cases h
  rintro⟨j,hj,hjk⟩;exact absurd (vZ h4 hp hjk hpk) (zbx hj)
 have e0:jg k get k'=get k':=by
  unfold jg;cases hd:D.gH k k' with
  |true=>exact absurd ((D.bS _ _).1 hd) ek
  |false=>rfl
 rw[e0,h5];constructor
 ·intro hm;obtain⟨j,hj⟩:=zaV hm;refine⟨j,?_,hj⟩;rintro rfl;rw[hp] at hj;cases hj;exact ek hpk.symm
 rintro⟨j,_,hj⟩;exact zaA hj
theorem qap(h:aC Q T F G w a s){dst t p k s'}(hs:Ll Q s dst t p k=some s'){vm vk}(hm:aH F w G s.rg vm p)(hk:aH F w G s.rg vk k) tys (ht:tys[0]?=some t) ty:
  ∃w',(Builtin.delete_ tys ty #[vm,vk]).run Q w= .ok (.tuple #[]) w'/\aC Q T F G w' (a.put dst (.tuple #[])) s'/\Ext (Own G s.rg) (Own G s'.rg) F F w w':=by
 unfold Ll at hs;split at hs
 next kt e n aV kd Hg=>
  have nC:=gX Hg;split at hs
  next kt2 get c ho=>
   split at hs
   ·rename_i hc;simp only[zac] at hc;have Du:=zag hc.1;subst Du;obtain⟨hsh,Lz,⟨kv,vW,zF⟩⟩:=bQ hc.2;have iB:vk=kv:=hk.cD (p:= .d kd) vW;subst iB;obtain⟨en,lJ,Uh,b8,zG,b,es,clock,hG,hb,hM⟩:=Ds h hm ho;rw[hG] at zG;subst zG;obtain⟨ck,nD⟩:=zF es.isEmpty;have nD:=db nD w;obtain⟨r,hr,vK⟩:=hM.look hc.2 vW;have uB:=hM.del hc.2 vW;have fB:bB (G n) en.obj=some b:=by rw[b8,hG];rfl
    have bK:b<w.heap.size:=(zax.1 hb).1;have fin: ∀(dh:Array MapEntry),lG Q F w kt (jg kd get) (bif (get kd).isSome then c-1 else c) dh.toList clock->
      aC Q T F G {w with heap:=w.heap.setIfInBounds b (.map dh clock)} (a.put dst (.tuple #[])) s'/\Ext (Own G s.rg) (Own G s'.rg) F F w {w with heap:=w.heap.setIfInBounds b (.map dh clock)}:=by
     intro dh hM';have fO: ∀b0,b0≠b->(w.heap.setIfInBounds b (.map dh clock))[b0]?=w.heap[b0]?:=λb0 cO=>zaX (zbx cO);have uC:(w.heap.setIfInBounds b (.map dh clock))[b]?=some (.map dh clock):=by rw[zbh bK]
     have s9:s.setObj n (.map kt (jg kd get) (bif (get kd).isSome then c-1 else c) false)={s with rg:=ins n ⟨en.aV,en.tag,.map kt (jg kd get) (bif (get kd).isSome then c-1 else c) false⟩ s.rg}:=by unfold S.setObj;rw[lJ]
     rw[s9] at hs;have fV:qF G s.rg n ⟨en.aV,en.tag,.map kt (jg kd get) (bif (get kd).isSome then c-1 else c) false⟩ (G n):=λe' cR=>by rw[lJ] at cR;cases cR;exact .inr ⟨rfl,λ_=>⟨by rw[b8];rfl,rfl⟩⟩
     have zR: ∀b0,F b0->b0≠b:=λb0 hf e=>by subst e;exact h.nA n en b0 lJ fB hf
     obtain⟨d1,d2⟩:=h.od (n:=n) (e1:=⟨en.aV,en.tag,.map kt (jg kd get) (bif (get kd).isSome then c-1 else c) false⟩) (g1:=G n) (w':={w with heap:=w.heap.setIfInBounds b (.map dh clock)}) fV
      (λb0 _ bI=>fO b0 λe=>by grind) (by simp) rfl rfl rfl
      (λb0 Cr=> .inr ⟨en,lJ,by have:bB (G n) (.map kt (jg kd get) (bif (get kd).isSome then c-1 else c) false)=some b0:=Cr;rw[b8];exact this⟩)
      ⟨b,dh,clock,by rw[bV];exact hG,uC,hM'.mono (λ_ h=>h) (λb0 hf=>fO b0 (zR b0 hf)),λhl=>by cases hl⟩
      (λi hi _=>h.tag n en i lJ hi (by rw[b8];rfl))
     rw[bV] at d1 d2;obtain⟨c1,c2⟩:=cy d1 hs (v:= .tuple #[]) (cE.of (.bad _));refine⟨c1,?_⟩;rw[c2];exact d2
    rcases vK with⟨rfl,hg⟩| ⟨i,Ui,y0,rfl,hi,hek,hg,_⟩
    ·obtain⟨e1,e2⟩:=fin es (by rw[hg];exact uB.1 hg);refine⟨_,?_,e1,e2⟩;simp[Builtin.delete_,ht,run_underlying nC,MapKept.run_getObj_map hb,nD,hr,MapKept.run_setObj_map _ hb]
    have bJ:i<es.size:=by have:=(zae.1 hi).1;simpa using this
    obtain⟨e1,e2⟩:=fin (es.eraseIdxIfInBounds i) (by
     have e0:(es.eraseIdxIfInBounds i).toList=es.toList.eraseIdx i:=by unfold Array.eraseIdxIfInBounds;rw[dif_pos bJ,Array.toList_eraseIdx]
     rw[e0,hg];exact uB.2 i Ui hi hek (by rw[hg];simp))
    refine⟨_,?_,e1,e2⟩;simp[Builtin.delete_,ht,run_underlying nC,MapKept.run_getObj_map hb,nD,hr,MapKept.run_setObj_map _ hb]
   cases hs
  cases hs
 cases hs
theorem zS(h:aC Q T F G w a s){dst t p k x s'}(hs:jz Q s dst t p k x=some s'){vm vk vx}(hm:aH F w G s.rg vm p)(hk:aH F w G s.rg vk k)(hx:aH F w G s.rg vx x):
  ∃w' F' G',(Instr.mapUpdate t vm vk vx).run Q w= .ok () w'/\aC Q T F' G' w' (a.put dst undef) s'/\Ext (Own G s.rg) (Own G' s'.rg) F F' w w':=by
 unfold jz at hs;split at hs
 next kt e n aV kd Hg=>
  have nC:=gX Hg;split at hs
  next s1 y H8=>
   obtain⟨F',b1,b2,b3,b4,b5⟩:=yF h H8 hx;split at hs
   ·rename_i kt2 get c ho;split at hs
    ·rename_i hc;simp only[zac] at hc;have Du:=zag hc.1;subst Du;obtain⟨hsh,Lz,⟨kv,vW,zF⟩⟩:=bQ hc.2;have iB:vk=kv:=hk.cD (p:= .d kd) vW;subst iB;have Qs:aH F' w G s1.rg vm (.mp n aV):=hm.mono b4 (λ_ _=>rfl) b3;obtain⟨en,lJ,Uh,b8,zG,b,es,clock,hG,hb,hM⟩:=Ds b1 Qs ho;rw[hG] at zG;subst zG;obtain⟨ck,nD⟩:=zF false;have nD:=db nD w;obtain⟨r,hr,vK⟩:=hM.look hc.2 vW;have nF:=hM.set hc.2 vW b5;have fB:bB (G n) en.obj=some b:=by rw[b8,hG];rfl
     have bK:b<w.heap.size:=(zax.1 hb).1;have fin: ∀(dh:Array MapEntry) (eO:Nat),lG Q F' w kt (aX kd y get) (bif (get kd).isSome then c else c+1) dh.toList eO->
       ∃F'' G',aC Q T F'' G' {w with heap:=w.heap.setIfInBounds b (.map dh eO)} (a.put dst undef) s'/\Ext (Own G s.rg) (Own G' s'.rg) F F'' w {w with heap:=w.heap.setIfInBounds b (.map dh eO)}:=by
      intro dh eO hM';have fO: ∀b0,b0≠b->(w.heap.setIfInBounds b (.map dh eO))[b0]?=w.heap[b0]?:=λb0 cO=>zaX (zbx cO);have uC:(w.heap.setIfInBounds b (.map dh eO))[b]?=some (.map dh eO):=by rw[zbh bK]
      have s9:s1.setObj n (.map kt (aX kd y get) (bif (get kd).isSome then c else c+1) false)={s1 with rg:=ins n ⟨en.aV,en.tag,.map kt (aX kd y get) (bif (get kd).isSome then c else c+1) false⟩ s1.rg}:=by unfold S.setObj;rw[lJ]
      rw[s9] at hs;have fV:qF G s1.rg n ⟨en.aV,en.tag,.map kt (aX kd y get) (bif (get kd).isSome then c else c+1) false⟩ (G n):=λe' cR=>by rw[lJ] at cR;cases cR;exact .inr ⟨rfl,λ_=>⟨by rw[b8];rfl,rfl⟩⟩
      have zR: ∀b0,F' b0->b0≠b:=λb0 hf e=>by subst e;exact b1.nA n en b0 lJ fB hf
      obtain⟨d1,d2⟩:=b1.od (n:=n) (e1:=⟨en.aV,en.tag,.map kt (aX kd y get) (bif (get kd).isSome then c else c+1) false⟩) (g1:=G n) (w':={w with heap:=w.heap.setIfInBounds b (.map dh eO)}) fV
       (λb0 _ bI=>fO b0 λe=>by grind) (by simp) rfl rfl rfl
       (λb0 Cr=> .inr ⟨en,lJ,by have:bB (G n) (.map kt (aX kd y get) (bif (get kd).isSome then c else c+1) false)=some b0:=Cr;rw[b8];exact this⟩)
       ⟨b,dh,eO,by rw[bV];exact hG,uC,hM'.mono (λ_ h=>h) (λb0 hf=>fO b0 (zR b0 hf)),λhl=>by cases hl⟩
       (λi hi _=>b1.tag n en i lJ hi (by rw[b8];rfl))
      rw[bV] at d1 d2;obtain⟨c1,c2⟩:=cy d1 hs (v:=undef) (cE.of (.bad _));refine⟨F',G,c1,?_⟩;rw[c2];exact b2.trans d2
     rcases vK with⟨rfl,hg⟩| ⟨i,Ui,y0,rfl,hi,hek,hg,_⟩
     ·skip
      obtain⟨F'',G',e1,e2⟩:=fin (es.push {key:=vk,val:=vx,born:=clock}) (clock+1) (by grind);refine⟨_,F'',G',?_,e1,e2⟩;simp[Instr.mapUpdate,run_underlying nC,MapKept.run_getObj_map hb,nD,hr,MapKept.run_setObj_map _ hb]
     skip
     have zQ:es[i]?=some Ui:=by grind
     have qfz:es.modify i (λe=>{e with key:=vk,val:=vx})=es.setIfInBounds i {Ui with key:=vk,val:=vx}:=by grind
     obtain⟨F'',G',e1,e2⟩:=fin (es.modify i λe=>{e with key:=vk,val:=vx}) clock (by grind);refine⟨_,F'',G',?_,e1,e2⟩;have kH:(Instr.keyThatStays vk vk).run Q w= .ok vk w:=by simp[Instr.keyThatStays,Dr kd vk Lz vW]
     simp[Instr.mapUpdate,run_underlying nC,MapKept.run_getObj_map hb,nD,hr,zQ,hek,kH,MapKept.run_setObj_map _ hb]
    cases hs
   cases hs
  cases hs
 cases hs
theorem LK(h:aC Q T F G w a s){dst t p k s'}(hs:jA Q s dst t p k=some s'){vm vk}(hm:aH F w G s.rg vm p)(hk:aH F w G s.rg vk k):
  ∃v w' F' G',(Instr.mapEntry t vm vk).run Q w= .ok v w'/\aC Q T F' G' w' (a.put dst v) s'/\Ext (Own G s.rg) (Own G' s'.rg) F F' w w':=by
 unfold jA at hs;split at hs
 next kt e n aV kd Hg=>
  have nC:=gX Hg;split at hs
  next z hz=>
   obtain⟨zv,Dt,E5⟩:=qC (F:=F) hz w;split at hs
   ·rename_i kt2 get c ho;split at hs
    ·rename_i hc;simp only[zac,zbv] at hc;obtain⟨⟨Du,hkB⟩,Hh⟩:=hc;have Du:=zag Du;subst Du;have Hh:n≠site dst:=λe=>by rw[e,Nat.beq_refl] at Hh;cases Hh
     split at hs
     ·rename_i s1 v1 hn;obtain⟨hsh,Lz,⟨kv,vW,zF⟩⟩:=bQ hkB;have iB:vk=kv:=hk.cD (p:= .d kd) vW;subst iB;obtain⟨en,lJ,Uh,b8,zG,b,es,clock,hG,hb,hM⟩:=Ds h hm ho;rw[hG] at zG;subst zG;obtain⟨ck,nD⟩:=zF false;have nD:=db nD w;obtain⟨r,hr,vK⟩:=hM.look hkB vW;have bK:b<w.heap.size:=(zax.1 hb).1;have fin: ∀(dh:Array MapEntry) (eO:Nat) (i0:Nat) (e0:MapEntry) (val:Value),lG Q F w kt (aX kd (aQ (get kd) z) get) (bif (get kd).isSome then c else c+1) dh.toList eO->dh[i0]?=some e0->e0.key=vk->aY F w val (aQ (get kd) z)->
        ∃F' G',aC Q T F' G' {w with heap:=w.heap.setIfInBounds b (.map dh eO)} (a.put dst (.tuple #[val,.int .i64 (e0.born:Int)])) s'/\Ext (Own G s.rg) (Own G' s'.rg) F F' w {w with heap:=w.heap.setIfInBounds b (.map dh eO)}:=by
       intro dh eO i0 e0 val hM' ql qne hval;obtain⟨b1,b2,b3,b4⟩:=nE h hn (g1:= .int .i64 (e0.born:Int)) (w':=w) (λ_ _=>rfl) (zal _) rfl rfl rfl (λb hb=>by simp[bB] at hb) trivial;obtain⟨s9,_⟩:=S.lP hn;have hG1:od G (site dst) (.int .i64 (e0.born:Int)) n=G n:=fa _ Hh;have Fj:lk s1.rg n=some en:=by grind [cc]
       have hN1:od G (site dst) (.int .i64 (e0.born:Int)) (site dst)= .int .i64 (e0.born:Int):=bc _ _ _;generalize od G (site dst) (.int .i64 (e0.born:Int))=G1 at b1 b2 b3 hG1 hN1;have la:G1 n= .map (some b):=hG1.trans hG;have qiw:bB (G1 n) en.obj=some b:=by rw[b8,la];rfl
       have fO: ∀b0,b0≠b->(w.heap.setIfInBounds b (.map dh eO))[b0]?=w.heap[b0]?:=λb0 cO=>zaX (zbx cO);have uC:(w.heap.setIfInBounds b (.map dh eO))[b]?=some (.map dh eO):=by rw[zbh bK]
       have nF:s1.setObj n (.kM kt (aX kd (aQ (get kd) z) get) (bif (get kd).isSome then c else c+1) (.mp (site dst) v1) kd)={s1 with rg:=ins n ⟨en.aV,en.tag,.kM kt (aX kd (aQ (get kd) z) get) (bif (get kd).isSome then c else c+1) (.mp (site dst) v1) kd⟩ s1.rg}:=by unfold S.setObj;rw[Fj]
       rw[nF] at hs;have zR: ∀b0,F b0->b0≠b:=λb0 hf e=>by subst e;exact b1.nA n en b0 Fj qiw hf
       have kH: ∀(w1:World),aH F w1 G1 (ins n ⟨en.aV,en.tag,.kM kt (aX kd (aQ (get kd) z) get) (bif (get kd).isSome then c else c+1) (.mp (site dst) v1) kd⟩ s1.rg) (.int .i64 (e0.born:Int)) (.mp (site dst) v1):=λw1=>
        .mp _ _ _ rfl ⟨_,(cc _ _ Hh).trans b4,zal _,λ_ _=>hN1.symm⟩
       obtain⟨d1,d2⟩:=b1.od (n:=n) (e1:=⟨en.aV,en.tag,.kM kt (aX kd (aQ (get kd) z) get) (bif (get kd).isSome then c else c+1) (.mp (site dst) v1) kd⟩) (g1:=G1 n) (w':={w with heap:=w.heap.setIfInBounds b (.map dh eO)}) (λe' cR=>by
         rw[Fj] at cR;cases cR;exact .inr ⟨rfl,λ_=>⟨by rw[b8];rfl,rfl⟩⟩)
        (λb0 _ bI=>fO b0 λe=>by grind) (by simp) rfl rfl rfl
        (λb0 Cr=> .inr ⟨en,Fj,by have:bB (G1 n) (.kM kt (aX kd (aQ (get kd) z) get) (bif (get kd).isSome then c else c+1) (.mp (site dst) v1) kd)=some b0:=Cr;rw[b8];exact this⟩)
        ⟨b,dh,eO,by rw[bV];exact la,uC,hM'.mono (λ_ h=>h) (λb0 hf=>fO b0 (zR b0 hf)),i0,e0,ql,by rw[bV];exact kH _,by rw[qne];exact vW,by grind [aX,D.bS]⟩
        (λi hi _=>b1.tag n en i Fj hi (by rw[b8];rfl))
       rw[bV] at d1 d2;obtain⟨c1,c2⟩:=cy d1 hs (v:= .tuple #[val,.int .i64 (e0.born:Int)]) (cE.of (.dz [val,.int .i64 (e0.born:Int)] _ rfl (λj v c hv hc=>by
        match j with
        |0=>simp at hv hc;subst hc;exact .bad _
        |1=>grind
        |j+2=>simp at hv)))
       refine⟨F,G1,c1,?_⟩;rw[c2];exact b2.trans d2
      rcases vK with⟨rfl,hg⟩| ⟨i,Ui,y0,rfl,hi,hek,hg,hy0⟩
      ·have:=(hM.set hkB vW E5).1 hg;obtain⟨F',G',e1,e2⟩:=fin (es.push {key:=vk,val:=zv,born:=clock}) (clock+1) es.size _ zv (by rw[hg];simpa [aQ] using this) (by simp;rfl) rfl (by rw[hg];exact E5);refine⟨_,_,F',G',?_,e1,e2⟩;simp[Instr.mapEntry,run_underlying nC,MapKept.run_getObj_map hb,nD,hr,Dt,MapKept.run_setObj_map _ hb,goInt]
      have zQ:es[i]?=some Ui:=by grind
      have:=(hM.set hkB vW hy0).2 i Ui hi hek (by rw[hg];simp);have qfz:es.modify i (λe=>{e with key:=vk})=es.setIfInBounds i {Ui with key:=vk,val:=Ui.val}:=by grind
      obtain⟨F',G',e1,e2⟩:=fin (es.modify i λe=>{e with key:=vk}) clock i {Ui with key:=vk} Ui.val (by rw[hg,qfz];simpa [aQ] using this) (by rw[zcW];simp[zQ]) rfl (by rw[hg];exact hy0);refine⟨_,_,F',G',?_,e1,e2⟩;have kH:(Instr.keyThatStays vk vk).run Q w= .ok vk w:=by simp[Instr.keyThatStays,Dr kd vk Lz vW]
      simp[Instr.mapEntry,run_underlying nC,MapKept.run_getObj_map hb,nD,hr,zQ,hek,kH,MapKept.run_setObj_map _ hb,goInt]
     cases hs
    cases hs
   cases hs
  cases hs
 cases hs
theorem Qz(h:aC Q T F G w a s){dst t p st x s'}(hs:qv Q s dst p st x=some s'){vm vs vx}(hm:aH F w G s.rg vm p)(kH:aH F w G s.rg vs st)(hx:aH F w G s.rg vx x):
  ∃w' F' G',(Instr.entryStore t vm vs vx).run Q w= .ok () w'/\aC Q T F' G' w' (a.put dst undef) s'/\Ext (Own G s.rg) (Own G' s'.rg) F F' w w':=by
 unfold qv at hs;split at hs
 next n aV m vm'=>
  split at hs
  next s1 y H8=>
   obtain⟨F',b1,b2,b3,b4,b5⟩:=T2 h H8 hx;split at hs
   ·rename_i kt get c m2 vm2 kd ho T0;split at hs
    ·rename_i hc;simp only[zac] at hc;obtain⟨⟨e1,e2⟩,hkB⟩:=hc;have e1:=zag e1;have e2:=zag e2;subst e1;subst e2;have Qs:aH F' w G s1.rg vm (.mp n aV):=hm.mono b4 (λ_ _=>rfl) b3;have qnf:aH F' w G s1.rg vs (.mp m vm'):=kH.mono b4 (λ_ _=>rfl) b3;obtain⟨en,lJ,Uh,b8,zG,b,es,clock,hG,hb,hM,i,e0,hi,qix,hkd,qdM⟩:=TR b1 Qs ho;rw[hG] at zG;subst zG;obtain⟨es0,qng,qnh,qni⟩:=S.bM T0;have num: ∀v,aH F' w G s1.rg v (.mp m vm')->v=G m:=λv hv=>by
      cases hv with
      |mp _ _ _ _ hr=>obtain⟨e',cR,hle,hc⟩:=hr;rw[qng] at cR;cases cR;exact hc qnh.symm (by rw[qni];rfl)
     have Qj:vs= .int .i64 (e0.born:Int):=(num _ qnf).trans (num _ qix).symm;subst Qj;have bJ:i<es.size:=(zax.1 hi).1;obtain⟨ks,h1,h2,h3,h4,h5,h6,h7⟩:=id hM;have qiy:es.findIdx? (λe=>(e.born:Int)==(e0.born:Int))=some i:=by rw[Array.findIdx?_eq_some_iff_getElem];have hei:es[i]=e0:=(zax.1 hi).2;refine⟨bJ,by rw[hei];simp,λj hj=> ?_⟩;grind [List.pairwise_iff_getElem]
     have nF:=hM.set hkB hkd b5;have hgs:get kd≠none:=λe=>by rw[e] at qdM;cases qdM
     have hM':=nF.2 i e0 (by grind) rfl hgs;have fB:bB (G n) en.obj=some b:=by rw[b8,hG];rfl
     have bK:b<w.heap.size:=(zax.1 hb).1;have qfz:es.modify i (λe=>{e with val:=vx})=es.setIfInBounds i {e0 with key:=e0.key,val:=vx}:=by grind
     have hM2:lG Q F' w kt (aX kd y get) c (es.modify i λe=>{e with val:=vx}).toList clock:=by grind
     have fO: ∀b0,b0≠b->(w.heap.setIfInBounds b (.map (es.modify i λe=>{e with val:=vx}) clock))[b0]?=w.heap[b0]?:=λb0 cO=>zaX (zbx cO);have uC:(w.heap.setIfInBounds b (.map (es.modify i λe=>{e with val:=vx}) clock))[b]?=some (.map (es.modify i λe=>{e with val:=vx}) clock):=by rw[zbh bK]
     have s9:s1.setObj n (.map kt (aX kd y get) c false)={s1 with rg:=ins n ⟨en.aV,en.tag,.map kt (aX kd y get) c false⟩ s1.rg}:=by unfold S.setObj;rw[lJ]
     rw[s9] at hs;have zR: ∀b0,F' b0->b0≠b:=λb0 hf e=>by subst e;exact b1.nA n en b0 lJ fB hf
     obtain⟨d1,d2⟩:=b1.od (n:=n) (e1:=⟨en.aV,en.tag,.map kt (aX kd y get) c false⟩) (g1:=G n) (w':={w with heap:=w.heap.setIfInBounds b (.map (es.modify i λe=>{e with val:=vx}) clock)}) (λe' cR=>by
       rw[lJ] at cR;cases cR;exact .inr ⟨rfl,λ_=>⟨by rw[b8];rfl,rfl⟩⟩)
      (λb0 _ bI=>fO b0 λe=>by grind) (by simp) rfl rfl rfl
      (λb0 Cr=> .inr ⟨en,lJ,by have:bB (G n) (.map kt (aX kd y get) c false)=some b0:=Cr;rw[b8];exact this⟩)
      ⟨b,_,clock,by rw[bV];exact hG,uC,hM2.mono (λ_ h=>h) (λb0 hf=>fO b0 (zR b0 hf)),λhl=>by cases hl⟩
      (λi hi _=>b1.tag n en i lJ hi (by rw[b8];rfl))
     rw[bV] at d1 d2;obtain⟨c1,c2⟩:=cy d1 hs (v:=undef) (cE.of (.bad _));refine⟨_,F',G,?_,c1,?_⟩
     ·simp[Instr.entryStore,MapKept.run_getObj_map hb,asInt,asIntOf,qiy,MapKept.run_setObj_map _ hb]
     rw[c2];exact b2.trans d2
    cases hs
   cases hs
  cases hs
 cases hs
end
end Pi
