/- The text PiMapW. -/
import Derived.Test.YtfelfooeclnbiaaPiMk
namespace Pi
open Go
section
variable{Q:Program}{T:Tg}{F:Nat->Prop}{G:Nat->Value}{w:World}{a:Act}{s:S}
theorem qT(h:aq Q T F G w a s){dst:Option Nat}{t:TypeId}{s':S}(hs:eE Q s dst t=some s'):
  ∃v w' G',(Instr.makeMap t none).run Q w= .ok v w'/\aq Q T F G' w' (a.put dst v) s'/\Ext (Own G s.rg) (Own G' s'.rg) F F w w':=by
 unfold eE at hs;split at hs
 next kt e nR=>
  split at hs
  next s1 v hn=>
   have bZ: ∀b,b<w.heap.size->(w.alloc (.map #[] 0)).heap[b]?=w.heap[b]?:=λb hb=>heap_alloc_old w _ b hb;obtain⟨b1,b2,b3,b4⟩:=eS h hn (g1:= .map (some w.heap.size)) (w':=w.alloc (.map #[] 0)) bZ (by simp) rfl rfl rfl (λb hb=>by simp[aG,ar] at hb;omega)
    ⟨w.heap.size, #[],0,av _ _ _,heap_alloc_new w _,⟨[],rfl,rfl,by simp,by simp,by simp,by simp,by simp⟩,λhl=>by cases hl⟩
   obtain⟨c1,c2⟩:=bg b1 hs (v:= .map (some w.heap.size)) (bt.of (.mp (site dst) v _ rfl ⟨_,b4,zaf _,λ_ _=>(av _ _ _).symm⟩));refine⟨.map (some w.heap.size),_,_,by rfl,c1,?_⟩;rw[c2];exact b2
  cases hs
 cases hs
theorem qU(h:aq Q T F G w a s){dst:Option Nat}{t:TypeId}{s':S}(hs:eF Q s dst t=some s'):
  ∃v w' G',(Instr.makeMap t none).run Q w= .ok v w'/\aq Q T F G' w' (a.put dst v) s'/\Ext (Own G s.rg) (Own G' s'.rg) F F w w':=by
 unfold eF at hs;split at hs
 next kt e nR=>
  split at hs
  next s1 v hn=>
   have bZ: ∀b,b<w.heap.size->(w.alloc (.map #[] 0)).heap[b]?=w.heap[b]?:=λb hb=>heap_alloc_old w _ b hb;obtain⟨b1,b2,b3,b4⟩:=eS h hn (g1:= .map (some w.heap.size)) (w':=w.alloc (.map #[] 0)) bZ (by simp) rfl rfl rfl (λb hb=>by simp[aG,ar] at hb;omega)
    ⟨w.heap.size, #[],0,av _ _ _,heap_alloc_new w _,rfl,by simp,by simp,by simp,by simp⟩
   obtain⟨c1,c2⟩:=bg b1 hs (v:= .map (some w.heap.size)) (bt.of (.mp (site dst) v _ rfl ⟨_,b4,zaf _,λ_ _=>(av _ _ _).symm⟩));refine⟨.map (some w.heap.size),_,_,by rfl,c1,?_⟩;rw[c2];exact b2
  cases hs
 cases hs
theorem km(h:aq Q T F G w a s){n aw:Nat}{v:Value}{kt:Nat}{ks Ci:List (D×P)}(hv:ak F w G s.rg v (.mp n aw))(ho:s.obj n aw=some (.aN kt ks)){b:Nat}(hG:G n= .map (some b)){es':Array MapEntry}{clock':Nat}
  (hM:qD Q F w G s.rg kt Ci es'.toList clock') {dst:Option Nat} {s':S} (hs:(s.setObj n (.aN kt Ci)).put dst .bad=some s') (u:Value):
  aq Q T F G {w with heap:=w.heap.setIfInBounds b (.map es' clock')} (a.put dst u) s'/\Ext (Own G s.rg) (Own G s'.rg) F F w {w with heap:=w.heap.setIfInBounds b (.map es' clock')}:=by
 obtain⟨en,ec,qV,aO,_,b0,es,clock,GM,hb,_⟩:=qM h hv ho;rw[hG] at GM;cases GM;have cx:aG (G n) en.obj=some b:=by rw[aO,hG];rfl
 have bu:b<w.heap.size:=(zal.1 hb).1;have l3: ∀b0,b0≠b->(w.heap.setIfInBounds b (.map es' clock'))[b0]?=w.heap[b0]?:=λb0 bY=>zay (zaS bY);have mJ:(w.heap.setIfInBounds b (.map es' clock'))[b]?=some (.map es' clock'):=by rw[zaP bu]
 have nJ:s.setObj n (.aN kt Ci)={s with rg:=ins n ⟨en.aw,en.tag,.aN kt Ci⟩ s.rg}:=by unfold S.setObj;rw[ec]
 rw[nJ] at hs;have c6:gA G s.rg n ⟨en.aw,en.tag,.aN kt Ci⟩ (G n):=λe' a7=>by rw[ec] at a7;cases a7;exact .inr ⟨rfl,λ_=>⟨by rw[aO];rfl,rfl⟩⟩
 have Cj:=cw c6;rw[aM] at Cj;have sG: ∀b0,F b0->b0≠b:=λb0 hf e=>by subst e;exact h.iY n en b0 ec cx hf
 obtain⟨d1,d2⟩:=h.gR (n:=n) (e1:=⟨en.aw,en.tag,.aN kt Ci⟩) (g1:=G n) (w':={w with heap:=w.heap.setIfInBounds b (.map es' clock')}) c6
  (λb0 _ eb=>l3 b0 λe=>eb ⟨en,ec,by rw[e];exact cx⟩) (by simp) rfl rfl rfl
  (λb0 sB=> .inr ⟨en,ec,by rw[aO];exact sB⟩)
  ⟨b,es',clock',by rw[aM];exact hG,mJ,by rw[aM];exact hM.mono (λ_ h=>h) (λb0 hf=>l3 b0 (sG b0 hf)) Cj⟩
  (λi hi _=>h.tag n en i ec hi (by rw[aO];rfl))
 rw[aM] at d1 d2;obtain⟨c1,c2⟩:=bg d1 hs (v:=u) (bt.of (.bad _));refine⟨c1,?_⟩;rw[c2];exact d2
theorem sH(h:aq Q T F G w a s){dst:Option Nat}{t:TypeId}{p k x:P}{s':S}(hs:dz Q s dst t p k x=some s'){vm vk vx:Value}(hm:ak F w G s.rg vm p)(hk:ak F w G s.rg vk k)(hx:ak F w G s.rg vx x):
  ∃w',(Instr.mapUpdate t vm vk vx).run Q w= .ok () w'/\aq Q T F G w' (a.put dst undef) s'/\Ext (Own G s.rg) (Own G s'.rg) F F w w':=by
 unfold dz at hs;split at hs
 next kt e n aw kd nR=>
  have ew:=cp nR;split at hs
  next yS ks ho=>
   split at hs
   ·rename_i hc;simp only[zac] at hc;obtain⟨⟨k9,sv⟩,aQ⟩:=hc;have k9:=zab k9;subst k9;obtain⟨tG,pq,⟨kv,jl,jC⟩⟩:=aL sv;have gf:vk=kv:=hk.aW (p:= .d kd) jl;subst gf;obtain⟨en,ec,qV,aO,jm,b,es,clock,hG,hb,hM⟩:=qM h hm ho;rw[hG] at jm;subst jm;obtain⟨ck,fw⟩:=jC false;have fw:=aT fw w;obtain⟨r,hr,l4⟩:=hM.look sv jl x;obtain⟨h1,h3,h4,h6,h7⟩:=hM;rcases l4 with⟨rfl,eb,_,hu,_⟩| ⟨i,q,tT,rfl,hi,he,za,_,HL,_,hu,_⟩
    ·rw[hu] at hs;obtain⟨e1,e2⟩:=km h hm ho hG (es':=es.push {key:=vk,val:=vx,born:=clock}) (clock':=clock+1) (by
      refine⟨by simp[h1],λj p e hp he=> ?_,?_,λe he=> ?_,?_⟩
      ·rw[zbN] at he;rw[List.getElem?_append] at hp he;split at hp
       ·rw[zat (by omega)] at he;exact h3 j p e hp he
       rw[zav (by omega)] at he;have e0:j-es.toList.length=j-ks.length:=by omega
       rw[e0] at he;cases hj:j-ks.length with
       |zero=>rw[hj] at hp he;simp only[zb4,zae] at hp he;subst hp he;exact⟨sv,jl,hx⟩
       |succ m=>rw[hj] at hp;simp at hp
      ·rw[zbn,zbO];refine⟨h4,by simp,λa ha c hc=> ?_⟩;simp only[zaY,List.map_nil,zbJ] at hc;obtain⟨q,hq,rfl⟩:=zbA.1 ha;rw[hc];exact eb q hq
      ·rw[zbN] at he;rcases zaX.1 he with he |he
       ·have:=h6 e he;omega
       rw[zbJ.1 he];exact Nat.lt_succ_self _
      rw[zbN,zbn,zbO];refine⟨h7,by simp,λa ha c hc=> ?_⟩;simp only[zaY,List.map_nil,zbJ] at hc;obtain⟨q,hq,rfl⟩:=zbA.1 ha;have:=h6 q hq;omega) hs undef
     refine⟨_,?_,e1,e2⟩;simp[Instr.mapUpdate,run_underlying ew,MapKept.run_getObj_map hb,fw,hr,MapKept.run_setObj_map _ hb]
    have kB:es[i]?=some tT:=by simpa using he
    have w8:es.modify i (λe=>{e with key:=vk,val:=vx})=es.setIfInBounds i {tT with key:=vk,val:=vx}:=by grind
    rw[hu] at hs;obtain⟨e1,e2⟩:=km h hm ho hG (es':=es.modify i λe=>{e with key:=vk,val:=vx}) (clock':=clock) (by
     rw[w8,Array.toList_setIfInBounds];refine⟨by simp[h1],λj p e hp he=> ?_,?_,λe he=> ?_,?_⟩
     ·rw[List.getElem?_set] at hp he;split at hp
      ·rename_i jo;subst jo;rw[zat rfl] at he;split at hp
       ·rw[zat (by omega)] at he;cases hp;cases he;exact⟨sv,jl,hx⟩
       cases hp
      rename_i jo;rw[zav jo] at he;exact h3 j p e hp he
     ·have:(ks.set i (kd,x)).map (·.1)=ks.map (·.1):=by apply za5;grind
      rw[this];exact h4
     ·grind
     have:(es.toList.set i {tT with key:=vk,val:=vx}).map (·.born)=es.toList.map (·.born):=by apply za5;grind
     rw[this];exact h7) hs undef
    refine⟨_,?_,e1,e2⟩;have gH:(Instr.keyThatStays vk vk).run Q w= .ok vk w:=by simp[Instr.keyThatStays,kJ kd vk pq jl]
    simp[Instr.mapUpdate,run_underlying ew,MapKept.run_getObj_map hb,fw,hr,kB,za,gH,MapKept.run_setObj_map _ hb]
   cases hs
  cases hs
 cases hs
theorem zb(h:aq Q T F G w a s){dst:Option Nat}{t:TypeId}{p k:P}{s':S}(hs:o9 Q s dst t p k=some s'){vm vk:Value}(hm:ak F w G s.rg vm p)(hk:ak F w G s.rg vk k)(GN:Array TypeId)(ht:GN[0]?=some t)(ty:TypeId):
  ∃w',(Builtin.delete_ GN ty #[vm,vk]).run Q w= .ok (.tuple #[]) w'/\aq Q T F G w' (a.put dst (.tuple #[])) s'/\Ext (Own G s.rg) (Own G s'.rg) F F w w':=by
 unfold o9 at hs;split at hs
 next kt e n aw kd nR=>
  have ew:=cp nR;split at hs
  next yS ks ho=>
   split at hs
   ·rename_i hc;simp only[zac] at hc;have k9:=zab hc.1;subst k9;obtain⟨tG,pq,⟨kv,jl,jC⟩⟩:=aL hc.2;have gf:vk=kv:=hk.aW (p:= .d kd) jl;subst gf;obtain⟨en,ec,qV,aO,jm,b,es,clock,hG,hb,hM⟩:=qM h hm ho;rw[hG] at jm;subst jm;obtain⟨ck,fw⟩:=jC es.isEmpty;have fw:=aT fw w;obtain⟨r,hr,l4⟩:=hM.look hc.2 jl .bad;have Ck:=hM;obtain⟨h1,h3,h4,h6,h7⟩:=hM;rcases l4 with⟨rfl,eb,_,_,hd⟩| ⟨i,q,tT,rfl,hi,he,za,_,HL,_,_,hd⟩
    ·rw[hd] at hs;obtain⟨e1,e2⟩:=km h hm ho hG Ck hs (.tuple #[]);refine⟨_,?_,e1,e2⟩;simp[Builtin.delete_,ht,run_underlying ew,MapKept.run_getObj_map hb,fw,hr,MapKept.run_setObj_map _ hb]
    have zd:i<es.size:=by have:=(zaa.1 he).1;simpa using this
    rw[hd] at hs;obtain⟨e1,e2⟩:=km h hm ho hG (es':=es.eraseIdxIfInBounds i) (clock':=clock) (by
     have e0:(es.eraseIdxIfInBounds i).toList=es.toList.eraseIdx i:=by unfold Array.eraseIdxIfInBounds;rw[dif_pos zd,Array.toList_eraseIdx]
     rw[e0];refine⟨by rw[List.length_eraseIdx,List.length_eraseIdx,h1],λj p e hp he=> ?_,?_,λe he=>h6 e (List.mem_of_mem_eraseIdx he),?_⟩
     ·rw[List.getElem?_eraseIdx] at hp he;split at hp
      next hj=>rw[zat hj] at he;exact h3 j p e hp he
      rename_i hj;rw[zav hj] at he;exact h3 _ p e hp he
     ·exact h4.sublist ((List.eraseIdx_sublist _ _).map _)
     exact h7.sublist ((List.eraseIdx_sublist _ _).map _)) hs (.tuple #[])
    refine⟨_,?_,e1,e2⟩;simp[Builtin.delete_,ht,run_underlying ew,MapKept.run_getObj_map hb,fw,hr,MapKept.run_setObj_map _ hb]
   cases hs
  cases hs
 cases hs
theorem oE{ks:List (D×D)}(hd:(ks.map (·.1)).Nodup){i j:Nat}{p q:D×D}(hi:ks[i]?=some p)(hj:ks[j]?=some q)(h:p.1=q.1):i=j:=by have hp:=za9.1 hd;grind
theorem gG.set{kt:TypeId}{get:D->Option D}{n:Int}{es:List MapEntry}{clock:Nat}(h:gG Q F w kt get n es clock){k y:D}{v:Value}(hk:bG Q kt k=true)(hv:k.aW=some v){x:Value}(hx:ax F w x y):
  (get k=none->gG Q F w kt (cJ k y get) (n+1) (es++[{key:=v,val:=x,born:=clock}]) (clock+1))/\
  (∀i e,es[i]?=some e->e.key=v->get k≠none->gG Q F w kt (cJ k y get) n (es.set i {e with key:=v,val:=x}) clock):=by
 obtain⟨ks,h1,h2,h3,h4,h5,h6,h7⟩:=h;constructor
 ·intro hg;have IQ: ∀p∈ks,p.1≠k:=λp hp e=>by have:=(h5 p.1 p.2).2 hp;rw[e,hg] at this;cases this
  refine⟨ks++[(k,y)],by simp[h1],by simp[h2],λi p e hp he=> ?_,?_,λk' v'=> ?_,λe he=> ?_,?_⟩
  ·grind
  ·rw[zbn,zbO];grind
  ·grind [ov,tF]
  ·grind
  grind
 intro i e he za hg;have hi:i<es.length:=(zaa.1 he).1;have Fk:i<ks.length:=by omega
 obtain⟨p,hp⟩: ∃p,ks[i]?=some p:=⟨ks[i],zad Fk⟩
 obtain⟨a1,a2,a3⟩:=h3 i p e hp he;have yh:p.1=k:=by
  obtain⟨y0,Ej⟩: ∃y0,get k=some y0:=by
   cases IU:get k with
   |none=>grind
   |some y0=>simp
  have hm:=(h5 k y0).1 Ej;obtain⟨j,hj,ze⟩:=zaO hm;obtain⟨ej,Fl⟩: ∃ej,es[j]?=some ej:=⟨es[j]'(by omega),zad (by omega)⟩
  obtain⟨_,b2,_⟩:=h3 j (k,y0) ej (by rw[zad hj,ze]) Fl;obtain⟨r,hr,l4⟩:=ke (aL hk).1 hv h1 (λi p e hp he=>⟨(aL (h3 i p e hp he).1).1,(h3 i p e hp he).2.1⟩) w;obtain⟨c,hc,fT⟩:=fF 20 kt p.1 k (aL a1).1 (aL hk).1;obtain⟨c',Al,HM⟩:=fF 20 kt k k (aL hk).1 (aL hk).1;have e1:=bX 20 10000 kt p.1 k c v v (by omega) hc (by rw[a2,za]) hv;have e2:=bX 20 10000 kt k k c' v v (by omega) Al hv hv;rw[e1] at e2;grind
 refine⟨ks.set i (k,y),by simp[h1],by grind,λj q f hq hf=> ?_,?_,λk' v'=> ?_,λf hf=> ?_,?_⟩
 ·grind
 ·have:(ks.set i (k,y)).map (·.1)=ks.map (·.1):=by apply za5;grind
  rw[this];exact h4
 ·by_cases e:k=k'
  ·subst e;rw[ov];constructor
   ·intro e;cases e;exact zan (i:=i) (by rw[zby Fk])
   intro hm;obtain⟨j,hj⟩:=zaq hm;by_cases jo:i=j
   ·subst jo;rw[zby Fk] at hj;cases hj;rfl
   rw[zbk jo] at hj;exact absurd (oE h4 hp hj yh) jo
  rw[tF _ _ e,h5];constructor
  ·intro hm;obtain⟨j,hj⟩:=zaq hm;have jo:i≠j:=λjo=>by grind
   exact zan (i:=j) (by rw[zbk jo];exact hj)
  grind
 ·grind
 have:(es.set i {e with key:=v,val:=x}).map (·.born)=es.map (·.born):=by apply za5;grind
 rw[this];exact h7
theorem mK(h:aq Q T F G w a s){dst:Option Nat}{t:TypeId}{p k x:P}{s':S}(hs:dA Q s dst t p k x=some s'){vm vk vx:Value}(hm:ak F w G s.rg vm p)(hk:ak F w G s.rg vk k)(hx:ak F w G s.rg vx x):
  ∃w' F' G',(Instr.mapUpdate t vm vk vx).run Q w= .ok () w'/\aq Q T F' G' w' (a.put dst undef) s'/\Ext (Own G s.rg) (Own G' s'.rg) F F' w w':=by
 unfold dA at hs;split at hs
 next kt e n aw kd nR=>
  have ew:=cp nR;split at hs
  next s1 y vJ=>
   obtain⟨F',b1,b2,b3,b4,b5⟩:=l7 h vJ hx;split at hs
   ·rename_i yS get c ho;split at hs
    ·rename_i hc;simp only[zac] at hc;have k9:=zab hc.1;subst k9;obtain⟨tG,pq,⟨kv,jl,jC⟩⟩:=aL hc.2;have gf:vk=kv:=hk.aW (p:= .d kd) jl;subst gf;have rV:ak F' w G s1.rg vm (.mp n aw):=hm.mono b4 (λ_ _=>rfl) b3;obtain⟨en,ec,qV,aO,jm,b,es,clock,hG,hb,hM⟩:=qL b1 rV ho;rw[hG] at jm;subst jm;obtain⟨ck,fw⟩:=jC false;have fw:=aT fw w;obtain⟨r,hr,l4⟩:=hM.look hc.2 jl;have zf:=hM.set hc.2 jl b5;have cx:aG (G n) en.obj=some b:=by rw[aO,hG];rfl
     have bu:b<w.heap.size:=(zal.1 hb).1;have fin: ∀(es':Array MapEntry) (clock':Nat),gG Q F' w kt (cJ kd y get) (bif (get kd).isSome then c else c+1) es'.toList clock'->
       ∃Cl G',aq Q T Cl G' {w with heap:=w.heap.setIfInBounds b (.map es' clock')} (a.put dst undef) s'/\Ext (Own G s.rg) (Own G' s'.rg) F Cl w {w with heap:=w.heap.setIfInBounds b (.map es' clock')}:=by
      intro es' clock' Ck;have l3: ∀b0,b0≠b->(w.heap.setIfInBounds b (.map es' clock'))[b0]?=w.heap[b0]?:=λb0 bY=>zay (zaS bY);have mJ:(w.heap.setIfInBounds b (.map es' clock'))[b]?=some (.map es' clock'):=by rw[zaP bu]
      have nJ:s1.setObj n (.map kt (cJ kd y get) (bif (get kd).isSome then c else c+1) false)={s1 with rg:=ins n ⟨en.aw,en.tag,.map kt (cJ kd y get) (bif (get kd).isSome then c else c+1) false⟩ s1.rg}:=by unfold S.setObj;rw[ec]
      rw[nJ] at hs;have c6:gA G s1.rg n ⟨en.aw,en.tag,.map kt (cJ kd y get) (bif (get kd).isSome then c else c+1) false⟩ (G n):=λe' a7=>by rw[ec] at a7;cases a7;exact .inr ⟨rfl,λ_=>⟨by rw[aO];rfl,rfl⟩⟩
      have sG: ∀b0,F' b0->b0≠b:=λb0 hf e=>by subst e;exact b1.iY n en b0 ec cx hf
      obtain⟨d1,d2⟩:=b1.gR (n:=n) (e1:=⟨en.aw,en.tag,.map kt (cJ kd y get) (bif (get kd).isSome then c else c+1) false⟩) (g1:=G n) (w':={w with heap:=w.heap.setIfInBounds b (.map es' clock')}) c6
       (λb0 _ eb=>l3 b0 λe=>by grind) (by simp) rfl rfl rfl
       (λb0 sB=> .inr ⟨en,ec,by have:aG (G n) (.map kt (cJ kd y get) (bif (get kd).isSome then c else c+1) false)=some b0:=sB;rw[aO];exact this⟩)
       ⟨b,es',clock',by rw[aM];exact hG,mJ,Ck.mono (λ_ h=>h) (λb0 hf=>l3 b0 (sG b0 hf)),λhl=>by cases hl⟩
       (λi hi _=>b1.tag n en i ec hi (by rw[aO];rfl))
      rw[aM] at d1 d2;obtain⟨c1,c2⟩:=bg d1 hs (v:=undef) (bt.of (.bad _));refine⟨F',G,c1,?_⟩;rw[c2];exact b2.trans d2
     rcases l4 with⟨rfl,hg⟩| ⟨i,tT,y0,rfl,hi,za,hg,_⟩
     ·skip
      obtain⟨Cl,G',e1,e2⟩:=fin (es.push {key:=vk,val:=vx,born:=clock}) (clock+1) (by grind);refine⟨_,Cl,G',?_,e1,e2⟩;simp[Instr.mapUpdate,run_underlying ew,MapKept.run_getObj_map hb,fw,hr,MapKept.run_setObj_map _ hb]
     skip
     have kB:es[i]?=some tT:=by grind
     have w8:es.modify i (λe=>{e with key:=vk,val:=vx})=es.setIfInBounds i {tT with key:=vk,val:=vx}:=by grind
     obtain⟨Cl,G',e1,e2⟩:=fin (es.modify i λe=>{e with key:=vk,val:=vx}) clock (by grind);refine⟨_,Cl,G',?_,e1,e2⟩;have gH:(Instr.keyThatStays vk vk).run Q w= .ok vk w:=by simp[Instr.keyThatStays,kJ kd vk pq jl]
     simp[Instr.mapUpdate,run_underlying ew,MapKept.run_getObj_map hb,fw,hr,kB,za,gH,MapKept.run_setObj_map _ hb]
    cases hs
   cases hs
  cases hs
 cases hs
theorem sI(h:aq Q T F G w a s){dst:Option Nat}{t:TypeId}{p k:P}{s':S}(hs:dB Q s dst t p k=some s'){vm vk:Value}(hm:ak F w G s.rg vm p)(hk:ak F w G s.rg vk k):
  ∃v w' F' G',(Instr.mapEntry t vm vk).run Q w= .ok v w'/\aq Q T F' G' w' (a.put dst v) s'/\Ext (Own G s.rg) (Own G' s'.rg) F F' w w':=by
 unfold dB at hs;split at hs
 next kt e n aw kd nR=>
  have ew:=cp nR;split at hs
  next z hz=>
   obtain⟨zv,nH,ql⟩:=ib (F:=F) hz w;split at hs
   ·rename_i yS get c ho;split at hs
    ·rename_i hc;simp only[zac,zaW] at hc;obtain⟨⟨k9,sv⟩,rU⟩:=hc;have k9:=zab k9;subst k9;have rU:n≠site dst:=λe=>by rw[e,Nat.beq_refl] at rU;cases rU
     split at hs
     ·rename_i s1 v1 hn;obtain⟨tG,pq,⟨kv,jl,jC⟩⟩:=aL sv;have gf:vk=kv:=hk.aW (p:= .d kd) jl;subst gf;obtain⟨en,ec,qV,aO,jm,b,es,clock,hG,hb,hM⟩:=qL h hm ho;rw[hG] at jm;subst jm;obtain⟨ck,fw⟩:=jC false;have fw:=aT fw w;obtain⟨r,hr,l4⟩:=hM.look sv jl;have bu:b<w.heap.size:=(zal.1 hb).1;have fin: ∀(es':Array MapEntry) (clock':Nat) (i0:Nat) (e0:MapEntry) (val:Value),gG Q F w kt (cJ kd (fk (get kd) z) get) (bif (get kd).isSome then c else c+1) es'.toList clock'->es'[i0]?=some e0->e0.key=vk->ax F w val (fk (get kd) z)->
        ∃F' G',aq Q T F' G' {w with heap:=w.heap.setIfInBounds b (.map es' clock')} (a.put dst (.tuple #[val,.int .i64 (e0.born:Int)])) s'/\Ext (Own G s.rg) (Own G' s'.rg) F F' w {w with heap:=w.heap.setIfInBounds b (.map es' clock')}:=by
       intro es' clock' i0 e0 val Ck HN Fm hval;obtain⟨b1,b2,b3,b4⟩:=eS h hn (g1:= .int .i64 (e0.born:Int)) (w':=w) (λ_ _=>rfl) (zaf _) rfl rfl rfl (λb hb=>by simp[aG] at hb) trivial;obtain⟨nJ,_⟩:=S.eR hn;have Ek:gR G (site dst) (.int .i64 (e0.born:Int)) n=G n:=cb _ rU;have sJ:lk s1.rg n=some en:=by grind [aR]
       have GO:gR G (site dst) (.int .i64 (e0.born:Int)) (site dst)= .int .i64 (e0.born:Int):=av _ _ _;generalize gR G (site dst) (.int .i64 (e0.born:Int))=G1 at b1 b2 b3 Ek GO;have lh:G1 n= .map (some b):=Ek.trans hG;have CY:aG (G1 n) en.obj=some b:=by rw[aO,lh];rfl
       have l3: ∀b0,b0≠b->(w.heap.setIfInBounds b (.map es' clock'))[b0]?=w.heap[b0]?:=λb0 bY=>zay (zaS bY);have mJ:(w.heap.setIfInBounds b (.map es' clock'))[b]?=some (.map es' clock'):=by rw[zaP bu]
       have zf:s1.setObj n (.ei kt (cJ kd (fk (get kd) z) get) (bif (get kd).isSome then c else c+1) (.mp (site dst) v1) kd)={s1 with rg:=ins n ⟨en.aw,en.tag,.ei kt (cJ kd (fk (get kd) z) get) (bif (get kd).isSome then c else c+1) (.mp (site dst) v1) kd⟩ s1.rg}:=by unfold S.setObj;rw[sJ]
       rw[zf] at hs;have sG: ∀b0,F b0->b0≠b:=λb0 hf e=>by subst e;exact b1.iY n en b0 sJ CY hf
       have gH: ∀(w1:World),ak F w1 G1 (ins n ⟨en.aw,en.tag,.ei kt (cJ kd (fk (get kd) z) get) (bif (get kd).isSome then c else c+1) (.mp (site dst) v1) kd⟩ s1.rg) (.int .i64 (e0.born:Int)) (.mp (site dst) v1):=λw1=>
        .mp _ _ _ rfl ⟨_,(aR _ _ rU).trans b4,zaf _,λ_ _=>GO.symm⟩
       obtain⟨d1,d2⟩:=b1.gR (n:=n) (e1:=⟨en.aw,en.tag,.ei kt (cJ kd (fk (get kd) z) get) (bif (get kd).isSome then c else c+1) (.mp (site dst) v1) kd⟩) (g1:=G1 n) (w':={w with heap:=w.heap.setIfInBounds b (.map es' clock')}) (λe' a7=>by
         rw[sJ] at a7;cases a7;exact .inr ⟨rfl,λ_=>⟨by rw[aO];rfl,rfl⟩⟩)
        (λb0 _ eb=>l3 b0 λe=>by grind) (by simp) rfl rfl rfl
        (λb0 sB=> .inr ⟨en,sJ,by have:aG (G1 n) (.ei kt (cJ kd (fk (get kd) z) get) (bif (get kd).isSome then c else c+1) (.mp (site dst) v1) kd)=some b0:=sB;rw[aO];exact this⟩)
        ⟨b,es',clock',by rw[aM];exact lh,mJ,Ck.mono (λ_ h=>h) (λb0 hf=>l3 b0 (sG b0 hf)),i0,e0,HN,by rw[aM];exact gH _,by rw[Fm];exact jl,by grind [cJ,D.cH]⟩
        (λi hi _=>b1.tag n en i sJ hi (by rw[aO];rfl))
       rw[aM] at d1 d2;obtain⟨c1,c2⟩:=bg d1 hs (v:= .tuple #[val,.int .i64 (e0.born:Int)]) (bt.of (.dX [val,.int .i64 (e0.born:Int)] _ rfl (λj v c hv hc=>by
        match j with
        |0=>simp at hv hc;subst hc;exact .bad _
        |1=>grind
        |j+2=>simp at hv)))
       refine⟨F,G1,c1,?_⟩;rw[c2];exact b2.trans d2
      rcases l4 with⟨rfl,hg⟩| ⟨i,tT,y0,rfl,hi,za,hg,Ej⟩
      ·have:=(hM.set sv jl ql).1 hg;obtain⟨F',G',e1,e2⟩:=fin (es.push {key:=vk,val:=zv,born:=clock}) (clock+1) es.size _ zv (by rw[hg];simpa [fk] using this) (by simp;rfl) rfl (by rw[hg];exact ql);refine⟨_,_,F',G',?_,e1,e2⟩;simp[Instr.mapEntry,run_underlying ew,MapKept.run_getObj_map hb,fw,hr,nH,MapKept.run_setObj_map _ hb,goInt]
      have kB:es[i]?=some tT:=by grind
      have:=(hM.set sv jl Ej).2 i tT hi za (by rw[hg];simp);have w8:es.modify i (λe=>{e with key:=vk})=es.setIfInBounds i {tT with key:=vk,val:=tT.val}:=by grind
      obtain⟨F',G',e1,e2⟩:=fin (es.modify i λe=>{e with key:=vk}) clock i {tT with key:=vk} tT.val (by rw[hg,w8];simpa [fk] using this) (by rw[zbh];simp[kB]) rfl (by rw[hg];exact Ej);refine⟨_,_,F',G',?_,e1,e2⟩;have gH:(Instr.keyThatStays vk vk).run Q w= .ok vk w:=by simp[Instr.keyThatStays,kJ kd vk pq jl]
      simp[Instr.mapEntry,run_underlying ew,MapKept.run_getObj_map hb,fw,hr,kB,za,gH,MapKept.run_setObj_map _ hb,goInt]
     cases hs
    cases hs
   cases hs
  cases hs
 cases hs
theorem uN(h:aq Q T F G w a s){dst:Option Nat}{t:TypeId}{p st x:P}{s':S}(hs:gX Q s dst p st x=some s'){vm vs vx:Value}(hm:ak F w G s.rg vm p)(gH:ak F w G s.rg vs st)(hx:ak F w G s.rg vx x):
  ∃w' F' G',(Instr.entryStore t vm vs vx).run Q w= .ok () w'/\aq Q T F' G' w' (a.put dst undef) s'/\Ext (Own G s.rg) (Own G' s'.rg) F F' w w':=by
 unfold gX at hs;split at hs
 next n aw m D8=>
  split at hs
  next s1 y vJ=>
   obtain⟨F',b1,b2,b3,b4,b5⟩:=wO h vJ hx;split at hs
   ·rename_i kt get c m2 IV kd ho yX;split at hs
    ·rename_i hc;simp only[zac] at hc;obtain⟨⟨e1,e2⟩,sv⟩:=hc;have e1:=zab e1;have e2:=zab e2;subst e1;subst e2;have rV:ak F' w G s1.rg vm (.mp n aw):=hm.mono b4 (λ_ _=>rfl) b3;have Fo:ak F' w G s1.rg vs (.mp m D8):=gH.mono b4 (λ_ _=>rfl) b3;obtain⟨en,ec,qV,aO,jm,b,es,clock,hG,hb,hM,i,e0,hi,CZ,HO,Am⟩:=wJ b1 rV ho;rw[hG] at jm;subst jm;obtain⟨IW,Fp,Fq,Fs⟩:=S.aI yX;have num: ∀v,ak F' w G s1.rg v (.mp m D8)->v=G m:=λv hv=>by
      cases hv with
      |mp _ _ _ _ hr=>obtain⟨e',a7,hle,hc⟩:=hr;rw[Fp] at a7;cases a7;exact hc Fq.symm (by rw[Fs];rfl)
     have sq:vs= .int .i64 (e0.born:Int):=(num _ Fo).trans (num _ CZ).symm;subst sq;have zd:i<es.size:=(zal.1 hi).1;obtain⟨ks,h1,h2,h3,h4,h5,h6,h7⟩:=id hM;have C0:es.findIdx? (λe=>(e.born:Int)==(e0.born:Int))=some i:=by rw[Array.findIdx?_eq_some_iff_getElem];have HP:es[i]=e0:=(zal.1 hi).2;refine⟨zd,by rw[HP];simp,λj hj=> ?_⟩;grind [List.pairwise_iff_getElem]
     have zf:=hM.set sv HO b5;have HQ:get kd≠none:=λe=>by rw[e] at Am;cases Am
     have Ck:=zf.2 i e0 (by grind) rfl HQ;have cx:aG (G n) en.obj=some b:=by rw[aO,hG];rfl
     have bu:b<w.heap.size:=(zal.1 hb).1;have w8:es.modify i (λe=>{e with val:=vx})=es.setIfInBounds i {e0 with key:=e0.key,val:=vx}:=by grind
     have HR:gG Q F' w kt (cJ kd y get) c (es.modify i λe=>{e with val:=vx}).toList clock:=by grind
     have l3: ∀b0,b0≠b->(w.heap.setIfInBounds b (.map (es.modify i λe=>{e with val:=vx}) clock))[b0]?=w.heap[b0]?:=λb0 bY=>zay (zaS bY);have mJ:(w.heap.setIfInBounds b (.map (es.modify i λe=>{e with val:=vx}) clock))[b]?=some (.map (es.modify i λe=>{e with val:=vx}) clock):=by rw[zaP bu]
     have nJ:s1.setObj n (.map kt (cJ kd y get) c false)={s1 with rg:=ins n ⟨en.aw,en.tag,.map kt (cJ kd y get) c false⟩ s1.rg}:=by unfold S.setObj;rw[ec]
     rw[nJ] at hs;have sG: ∀b0,F' b0->b0≠b:=λb0 hf e=>by subst e;exact b1.iY n en b0 ec cx hf
     obtain⟨d1,d2⟩:=b1.gR (n:=n) (e1:=⟨en.aw,en.tag,.map kt (cJ kd y get) c false⟩) (g1:=G n) (w':={w with heap:=w.heap.setIfInBounds b (.map (es.modify i λe=>{e with val:=vx}) clock)}) (λe' a7=>by
       rw[ec] at a7;cases a7;exact .inr ⟨rfl,λ_=>⟨by rw[aO];rfl,rfl⟩⟩)
      (λb0 _ eb=>l3 b0 λe=>by grind) (by simp) rfl rfl rfl
      (λb0 sB=> .inr ⟨en,ec,by have:aG (G n) (.map kt (cJ kd y get) c false)=some b0:=sB;rw[aO];exact this⟩)
      ⟨b,_,clock,by rw[aM];exact hG,mJ,HR.mono (λ_ h=>h) (λb0 hf=>l3 b0 (sG b0 hf)),λhl=>by cases hl⟩
      (λi hi _=>b1.tag n en i ec hi (by rw[aO];rfl))
     rw[aM] at d1 d2;obtain⟨c1,c2⟩:=bg d1 hs (v:=undef) (bt.of (.bad _));refine⟨_,F',G,?_,c1,?_⟩
     ·simp[Instr.entryStore,MapKept.run_getObj_map hb,asInt,asIntOf,C0,MapKept.run_setObj_map _ hb]
     rw[c2];exact b2.trans d2
    cases hs
   cases hs
  cases hs
 cases hs
end
end Pi
