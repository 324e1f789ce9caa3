/- The text PiMapW. -/
import Derived.Test.YtpiohccneeblhaaPiMk
namespace Pi
open Go
section
variable{Q:Program}{T:Tg}{F:Nat->Prop}{G:Nat->Value}{w:World}{a:Act}{s:S}
theorem vM(h:aq Q T F G w a s){dst:Option Nat}{t:TypeId}{s':S}(hs:gx Q s dst t=some s'):
  ∃v w' G',(Instr.makeMap t none).run Q w= .ok v w'/\aq Q T F G' w' (a.put dst v) s'/\Ext (Own G s.rg) (Own G' s'.rg) F F w w':=by
 unfold gx at hs;split at hs
 next kt e ru=>
  split at hs
  next s1 v hn=>
   have bY: ∀b,b<w.heap.size->(w.alloc (.map #[] 0)).heap[b]?=w.heap[b]?:=λb hb=>heap_alloc_old w _ b hb;obtain⟨b1,b2,b3,b4⟩:=gP h hn (g1:= .map (some w.heap.size)) (w':=w.alloc (.map #[] 0)) bY (by simp) rfl rfl rfl (λb hb=>by simp[ay,aj] at hb;omega)
    ⟨w.heap.size, #[],0,aC _ _ _,heap_alloc_new w _,⟨[],rfl,rfl,by simp,by simp,by simp,by simp,by simp⟩,λhl=>by cases hl⟩
   obtain⟨c1,c2⟩:=bc b1 hs (v:= .map (some w.heap.size)) (bt.of (.mp (site dst) v _ rfl ⟨_,b4,zae _,λ_ _=>(aC _ _ _).symm⟩));refine⟨.map (some w.heap.size),_,_,by rfl,c1,?_⟩;rw[c2];exact b2
  cases hs
 cases hs
theorem vN(h:aq Q T F G w a s){dst:Option Nat}{t:TypeId}{s':S}(hs:gy Q s dst t=some s'):
  ∃v w' G',(Instr.makeMap t none).run Q w= .ok v w'/\aq Q T F G' w' (a.put dst v) s'/\Ext (Own G s.rg) (Own G' s'.rg) F F w w':=by
 unfold gy at hs;split at hs
 next kt e ru=>
  split at hs
  next s1 v hn=>
   have bY: ∀b,b<w.heap.size->(w.alloc (.map #[] 0)).heap[b]?=w.heap[b]?:=λb hb=>heap_alloc_old w _ b hb;obtain⟨b1,b2,b3,b4⟩:=gP h hn (g1:= .map (some w.heap.size)) (w':=w.alloc (.map #[] 0)) bY (by simp) rfl rfl rfl (λb hb=>by simp[ay,aj] at hb;omega)
    ⟨w.heap.size, #[],0,aC _ _ _,heap_alloc_new w _,[],⟨rfl,by simp,by simp,by simp,by simp⟩,rfl,λ_=>rfl⟩
   obtain⟨c1,c2⟩:=bc b1 hs (v:= .map (some w.heap.size)) (bt.of (.mp (site dst) v _ rfl ⟨_,b4,zae _,λ_ _=>(aC _ _ _).symm⟩));refine⟨.map (some w.heap.size),_,_,by rfl,c1,?_⟩;rw[c2];exact b2
  cases hs
 cases hs
theorem vO(h:aq Q T F G w a s){n az:Nat}{v:Value}{kt:Nat}{vals sq:D->Option Value}{c c':Int}{hand sr:Option (D×P)}(hv:ao F w G s.rg v (.mp n az))(ho:s.obj n az=some (.bS kt vals c hand)){b:Nat}(hG:G n= .map (some b)){es':Array MapEntry}{clock':Nat}
  (hM:MQ Q F w G s.rg kt sq c' sr es'.toList clock') {dst:Option Nat} {s':S} (hs:(s.setObj n (.bS kt sq c' sr)).put dst .bad=some s') (u:Value):
  aq Q T F G {w with heap:=w.heap.setIfInBounds b (.map es' clock')} (a.put dst u) s'/\Ext (Own G s.rg) (Own G s'.rg) F F w {w with heap:=w.heap.setIfInBounds b (.map es' clock')}:=by
 obtain⟨en,eP,vP,aP,_,b0,es,clock,JJ,hb,_⟩:=vD h hv ho;rw[hG] at JJ;cases JJ;have cA:ay (G n) en.obj b:=by rw[aP,hG];simp[ay,aj]
 have bj:b<w.heap.size:=(zap.1 hb).1;have jS: ∀b0,b0≠b->(w.heap.setIfInBounds b (.map es' clock'))[b0]?=w.heap[b0]?:=λb0 ca=>zaC (za5 ca);have mG:(w.heap.setIfInBounds b (.map es' clock'))[b]?=some (.map es' clock'):=by rw[zaW bj]
 have mH:s.setObj n (.bS kt sq c' sr)={s with rg:=ins n ⟨en.az,en.tag,.bS kt sq c' sr⟩ s.rg}:=by unfold S.setObj;rw[eP]
 rw[mH] at hs;have bX:jJ G s.rg n ⟨en.az,en.tag,.bS kt sq c' sr⟩ (G n):=λe' bb=>by rw[eP] at bb;cases bb;exact .inr ⟨rfl,λ_=>⟨by rw[aP];rfl,rfl⟩⟩
 have zi:=cI bX;rw[aK] at zi;have pW: ∀b0,F b0->b0≠b:=λb0 hf e=>by subst e;exact h.gG n en b0 eP cA hf
 obtain⟨d1,d2⟩:=h.iH (n:=n) (e1:=⟨en.az,en.tag,.bS kt sq c' sr⟩) (g1:=G n) (w':={w with heap:=w.heap.setIfInBounds b (.map es' clock')}) bX
  (λb0 _ bg=>jS b0 λe=>bg ⟨en,eP,by rw[e];exact cA⟩) (by simp) rfl rfl rfl
  (λb0 tO=> .inr ⟨en,eP,by rw[aP];exact tO⟩)
  ⟨b,es',clock',by rw[aK];exact hG,mG,by rw[aK];exact hM.mono (λ_ h=>h) (λb0 hf=>jS b0 (pW b0 hf)) zi⟩
  (λi hi _=>h.tag n en i eP hi (by rw[aP];rfl))
 rw[aK] at d1 d2;obtain⟨c1,c2⟩:=bc d1 hs (v:=u) (bt.of (.bad _));refine⟨c1,?_⟩;rw[c2];exact d2
theorem xX(h:aq Q T F G w a s){dst:Option Nat}{t:TypeId}{p k x:P}{s':S}(hs:fp Q s dst t p k x=some s'){vm vk vx:Value}(hm:ao F w G s.rg vm p)(hk:ao F w G s.rg vk k)(hx:ao F w G s.rg vx x):
  ∃w',(Instr.mapUpdate t vm vk vx).run Q w= .ok () w'/\aq Q T F G w' (a.put dst undef) s'/\Ext (Own G s.rg) (Own G s'.rg) F F w w':=by
 unfold fp at hs;split at hs
 next kt e n az kd ru=>
  have gf:=dp ru;split at hs
  next EI vals c ho=>
   split at hs
   ·rename_i hc;simp only[zad] at hc;obtain⟨⟨⟨nI,yV⟩,aW⟩,JK⟩:=hc;have nI:=zab nI;subst nI;obtain⟨Cf,vA,⟨kv,lq,lR⟩⟩:=aR yV;have ij:vk=kv:=hk.br (p:= .d kd) lq;subst ij;obtain⟨en,eP,vP,aP,lF,b,es,clock,hG,hb,ks,hM,Mt,Ci⟩:=vD h hm ho;rw[hG] at lF;subst lF;obtain⟨ck,iQ⟩:=lR false;have iQ:=bn iQ w;obtain⟨r,hr,oU⟩:=hM.look yV lq x;obtain⟨h1,h3,h4,h6,h7⟩:=hM;have JM:eG kd ks=none:=by rw[Ci kd];unfold zT;rw[zcv.1 JK];rfl
    rcases oU with⟨rfl,bg,_,hu,_⟩| ⟨i,q,CJ,rfl,hi,he,Gk,_,Pq,Hh,hu,_⟩
    ·obtain⟨e1,e2⟩:=vO h hm ho hG (es':=es.push {key:=vk,val:=vx,born:=clock}) (clock':=clock+1) (by
      refine⟨mj kd x ks,?_,by rw[hu,Mt];simp,λk=> ?_⟩
      ·rw[hu];refine⟨by simp[h1],λj p e hp he=> ?_,?_,λe he=> ?_,?_⟩
       ·rw[zco] at he;rw[List.getElem?_append] at hp he;split at hp
        ·rw[zat (by omega)] at he;exact h3 j p e hp he
        rw[zaB (by omega)] at he;have e0:j-es.toList.length=j-ks.length:=by omega
        rw[e0] at he;cases hj:j-ks.length with
        |zero=>rw[hj] at hp he;simp only[zb2,zaf] at hp he;subst hp he;exact⟨yV,lq,hx⟩
        |succ m=>rw[hj] at hp;simp at hp
       ·rw[za0,za8];refine⟨h4,by simp,λa ha c hc=> ?_⟩;simp only[zaO,zbU,zaL] at hc;obtain⟨q,hq,rfl⟩:=zaQ.1 ha;rw[hc];exact bg q hq
       ·rw[zco] at he;rcases zaH.1 he with he |he
        ·have:=h6 e he;omega
        rw[zaL.1 he];exact Nat.lt_succ_self _
       rw[zco,za0,za8];refine⟨h7,by simp,λa ha c hc=> ?_⟩;simp only[zaO,zbU,zaL] at hc;obtain⟨q,hq,rfl⟩:=zaQ.1 ha;have:=h6 q hq;omega
      rw[mC,Ci k];rfl) hs undef
     refine⟨_,?_,e1,e2⟩;simp[Instr.mapUpdate,run_underlying gf,MapKept.run_getObj_map hb,iQ,hr,MapKept.run_setObj_map _ hb]
    rw[JM] at Hh;cases Hh
   cases hs
  cases hs
 cases hs
theorem EW(h:aq Q T F G w a s){dst:Option Nat}{t:TypeId}{p k:P}{s':S}(hs:tk Q s dst t p k=some s'){vm vk:Value}(hm:ao F w G s.rg vm p)(hk:ao F w G s.rg vk k)(Ot:Array TypeId)(ht:Ot[0]?=some t)(ty:TypeId):
  ∃w',(Builtin.delete_ Ot ty #[vm,vk]).run Q w= .ok (.tuple #[]) w'/\aq Q T F G w' (a.put dst (.tuple #[])) s'/\Ext (Own G s.rg) (Own G s'.rg) F F w w':=by
 unfold tk at hs;split at hs
 next kt e n az kd ru=>
  have gf:=dp ru;split at hs
  next EI vals c k0 p0 ho=>
   split at hs
   ·rename_i hc;simp only[zad] at hc;have nI:=zab hc.1.1;subst nI;have jS:=(D.aY _ _).1 hc.2;subst jS;obtain⟨Cf,vA,⟨kv,lq,lR⟩⟩:=aR hc.1.2;have ij:vk=kv:=hk.br (p:= .d k0) lq;subst ij;obtain⟨en,eP,vP,aP,lF,b,es,clock,hG,hb,ks,hM,Mt,Ci⟩:=vD h hm ho;rw[hG] at lF;subst lF;obtain⟨ck,iQ⟩:=lR es.isEmpty;have iQ:=bn iQ w;obtain⟨r,hr,oU⟩:=hM.look hc.1.2 lq .bad;obtain⟨h1,h3,h4,h6,h7⟩:=hM;have JM:eG k0 ks=some p0:=by rw[Ci k0];unfold zT;simp only[(D.aY k0 k0).2 rfl,zbk]
    rcases oU with⟨rfl,bg,Hh,_,hd⟩| ⟨i,q,CJ,rfl,hi,he,Gk,_,Pq,_,_,hd⟩
    ·rw[JM] at Hh;cases Hh
    have il:i<es.size:=by have:=(zaa.1 he).1;simpa using this
    have Gl:i<ks.length:=(zaa.1 hi).1;obtain⟨e1,e2⟩:=vO h hm ho hG (es':=es.eraseIdxIfInBounds i) (clock':=clock) (by
     have e0:(es.eraseIdxIfInBounds i).toList=es.toList.eraseIdx i:=by unfold Array.eraseIdxIfInBounds;rw[dif_pos il,Array.toList_eraseIdx]
     refine⟨ni k0 ks,?_,by rw[hd,Mt,zce,zat Gl];omega,λk=> ?_⟩
     ·rw[e0,hd];refine⟨by rw[zce,zce,h1],λj p e hp he=> ?_,?_,λe he=>h6 e (zaU he),?_⟩
      ·rw[List.getElem?_eraseIdx] at hp he;split at hp
       next hj=>rw[zat hj] at he;exact h3 j p e hp he
       rename_i hj;rw[zaB hj] at he;exact h3 _ p e hp he
      ·exact h4.sublist ((zbw _ _).map _)
      exact h7.sublist ((zbw _ _).map _)
     rw[vC ks h4,Ci k];show(bif D.cP k0 k then none else(bif D.cP k0 k then some p0 else(vals k).map P.raw))=(bif D.cP k0 k then none else vals k).map P.raw;cases D.cP k0 k<;>rfl) hs (.tuple #[])
    refine⟨_,?_,e1,e2⟩;simp[Builtin.delete_,ht,run_underlying gf,MapKept.run_getObj_map hb,iQ,hr,MapKept.run_setObj_map _ hb]
   cases hs
  cases hs
 cases hs
theorem su{ks:List (D×D)}(hd:(ks.map (·.1)).Nodup){i j:Nat}{p q:D×D}(hi:ks[i]?=some p)(hj:ks[j]?=some q)(h:p.1=q.1):i=j:=by have hp:=zbz.1 hd;grind
theorem fP.set{kt:TypeId}{get:D->Option D}{n:Int}{es:List MapEntry}{clock:Nat}(h:fP Q F w kt get n es clock){k y:D}{v:Value}(hk:cq Q kt k=true)(hv:k.br=some v){x:Value}(hx:aA F w x y):
  (get k=none->fP Q F w kt (dR k y get) (n+1) (es++[{key:=v,val:=x,born:=clock}]) (clock+1))/\
  (∀i e,es[i]?=some e->e.key=v->get k≠none->fP Q F w kt (dR k y get) n (es.set i {e with key:=v,val:=x}) clock):=by
 obtain⟨ks,h1,h2,h3,h4,h5,h6,h7⟩:=h;constructor
 ·intro hg;have QT: ∀p∈ks,p.1≠k:=λp hp e=>by have:=(h5 p.1 p.2).2 hp;rw[e,hg] at this;cases this
  refine⟨ks++[(k,y)],by simp[h1],by simp[h2],λi p e hp he=> ?_,?_,λk' v'=> ?_,λe he=> ?_,?_⟩
  ·grind
  ·rw[za0,za8];grind
  ·grind [sd,yT]
  ·grind
  grind
 intro i e he Gk hg;have hi:i<es.length:=(zaa.1 he).1;have Gl:i<ks.length:=by omega
 obtain⟨p,hp⟩: ∃p,ks[i]?=some p:=⟨ks[i],zac Gl⟩
 obtain⟨a1,a2,a3⟩:=h3 i p e hp he;have Eb:p.1=k:=by
  obtain⟨y0,Iy⟩: ∃y0,get k=some y0:=by
   cases QU:get k with
   |none=>grind
   |some y0=>simp
  have hm:=(h5 k y0).1 Iy;obtain⟨j,hj,EX⟩:=zaM hm;obtain⟨ej,Pr⟩: ∃ej,es[j]?=some ej:=⟨es[j]'(by omega),zac (by omega)⟩
  obtain⟨_,b2,_⟩:=h3 j (k,y0) ej (by rw[zac hj,EX]) Pr;obtain⟨r,hr,oU⟩:=mB (aR hk).1 hv h1 (λi p e hp he=>⟨(aR (h3 i p e hp he).1).1,(h3 i p e hp he).2.1⟩) w;obtain⟨c,hc,fO⟩:=iP 20 kt p.1 k (aR a1).1 (aR hk).1;obtain⟨c',tU,Ps⟩:=iP 20 kt k k (aR hk).1 (aR hk).1;have e1:=cV 20 10000 kt p.1 k c v v (by omega) hc (by rw[a2,Gk]) hv;have e2:=cV 20 10000 kt k k c' v v (by omega) tU hv hv;rw[e1] at e2;grind
 refine⟨ks.set i (k,y),by simp[h1],by grind,λj q f hq hf=> ?_,?_,λk' v'=> ?_,λf hf=> ?_,?_⟩
 ·grind
 ·have:(ks.set i (k,y)).map (·.1)=ks.map (·.1):=by apply za7;grind
  rw[this];exact h4
 ·by_cases e:k=k'
  ·subst e;rw[sd];constructor
   ·intro e;cases e;exact zak (i:=i) (by rw[zaE Gl])
   intro hm;obtain⟨j,hj⟩:=zao hm;by_cases ng:i=j
   ·subst ng;rw[zaE Gl] at hj;cases hj;rfl
   rw[zau ng] at hj;exact absurd (su h4 hp hj Eb) ng
  rw[yT _ _ e,h5];constructor
  ·intro hm;obtain⟨j,hj⟩:=zao hm;have ng:i≠j:=λng=>by grind
   exact zak (i:=j) (by rw[zau ng];exact hj)
  grind
 ·grind
 have:(es.set i {e with key:=v,val:=x}).map (·.born)=es.map (·.born):=by apply za7;grind
 rw[this];exact h7
theorem pX(h:aq Q T F G w a s){dst:Option Nat}{t:TypeId}{p k x:P}{s':S}(hs:fq Q s dst t p k x=some s'){vm vk vx:Value}(hm:ao F w G s.rg vm p)(hk:ao F w G s.rg vk k)(hx:ao F w G s.rg vx x):
  ∃w' F' G',(Instr.mapUpdate t vm vk vx).run Q w= .ok () w'/\aq Q T F' G' w' (a.put dst undef) s'/\Ext (Own G s.rg) (Own G' s'.rg) F F' w w':=by
 unfold fq at hs;split at hs
 next kt e n az kd ru=>
  have gf:=dp ru;split at hs
  next s1 y vK=>
   obtain⟨F',b1,b2,b3,b4,b5⟩:=oX h vK hx;split at hs
   ·rename_i EI get c ho;split at hs
    ·rename_i hc;simp only[zad] at hc;have nI:=zab hc.1;subst nI;obtain⟨Cf,vA,⟨kv,lq,lR⟩⟩:=aR hc.2;have ij:vk=kv:=hk.br (p:= .d kd) lq;subst ij;have Ah:ao F' w G s1.rg vm (.mp n az):=hm.mono b4 (λ_ _=>rfl) b3;obtain⟨en,eP,vP,aP,lF,b,es,clock,hG,hb,hM⟩:=vB b1 Ah ho;rw[hG] at lF;subst lF;obtain⟨ck,iQ⟩:=lR false;have iQ:=bn iQ w;obtain⟨r,hr,oU⟩:=hM.look hc.2 lq;have jr:=hM.set hc.2 lq b5;have cA:ay (G n) en.obj b:=by rw[aP,hG];simp[ay,aj]
     have bj:b<w.heap.size:=(zap.1 hb).1;have fin: ∀(es':Array MapEntry) (clock':Nat),fP Q F' w kt (dR kd y get) (bif (get kd).isSome then c else c+1) es'.toList clock'->
       ∃Iz G',aq Q T Iz G' {w with heap:=w.heap.setIfInBounds b (.map es' clock')} (a.put dst undef) s'/\Ext (Own G s.rg) (Own G' s'.rg) F Iz w {w with heap:=w.heap.setIfInBounds b (.map es' clock')}:=by
      intro es' clock' Lr;have jS: ∀b0,b0≠b->(w.heap.setIfInBounds b (.map es' clock'))[b0]?=w.heap[b0]?:=λb0 ca=>zaC (za5 ca);have mG:(w.heap.setIfInBounds b (.map es' clock'))[b]?=some (.map es' clock'):=by rw[zaW bj]
      have mH:s1.setObj n (.map kt (dR kd y get) (bif (get kd).isSome then c else c+1) false)={s1 with rg:=ins n ⟨en.az,en.tag,.map kt (dR kd y get) (bif (get kd).isSome then c else c+1) false⟩ s1.rg}:=by unfold S.setObj;rw[eP]
      rw[mH] at hs;have bX:jJ G s1.rg n ⟨en.az,en.tag,.map kt (dR kd y get) (bif (get kd).isSome then c else c+1) false⟩ (G n):=λe' bb=>by rw[eP] at bb;cases bb;exact .inr ⟨rfl,λ_=>⟨by rw[aP];rfl,rfl⟩⟩
      have pW: ∀b0,F' b0->b0≠b:=λb0 hf e=>by subst e;exact b1.gG n en b0 eP cA hf
      obtain⟨d1,d2⟩:=b1.iH (n:=n) (e1:=⟨en.az,en.tag,.map kt (dR kd y get) (bif (get kd).isSome then c else c+1) false⟩) (g1:=G n) (w':={w with heap:=w.heap.setIfInBounds b (.map es' clock')}) bX
       (λb0 _ bg=>jS b0 λe=>by grind) (by simp) rfl rfl rfl
       (λb0 tO=> .inr ⟨en,eP,by have:ay (G n) (.map kt (dR kd y get) (bif (get kd).isSome then c else c+1) false) b0:=tO;rw[aP];exact this⟩)
       ⟨b,es',clock',by rw[aK];exact hG,mG,Lr.mono (λ_ h=>h) (λb0 hf=>jS b0 (pW b0 hf)),λhl=>by cases hl⟩
       (λi hi _=>b1.tag n en i eP hi (by rw[aP];rfl))
      rw[aK] at d1 d2;obtain⟨c1,c2⟩:=bc d1 hs (v:=undef) (bt.of (.bad _));refine⟨F',G,c1,?_⟩;rw[c2];exact b2.trans d2
     rcases oU with⟨rfl,hg⟩| ⟨i,CJ,y0,rfl,hi,Gk,hg,_⟩
     ·skip
      obtain⟨Iz,G',e1,e2⟩:=fin (es.push {key:=vk,val:=vx,born:=clock}) (clock+1) (by grind);refine⟨_,Iz,G',?_,e1,e2⟩;simp[Instr.mapUpdate,run_underlying gf,MapKept.run_getObj_map hb,iQ,hr,MapKept.run_setObj_map _ hb]
     skip
     have qY:es[i]?=some CJ:=by grind
     have Hi:es.modify i (λe=>{e with key:=vk,val:=vx})=es.setIfInBounds i {CJ with key:=vk,val:=vx}:=by grind
     obtain⟨Iz,G',e1,e2⟩:=fin (es.modify i λe=>{e with key:=vk,val:=vx}) clock (by grind);refine⟨_,Iz,G',?_,e1,e2⟩;have iO:(Instr.keyThatStays vk vk).run Q w= .ok vk w:=by simp[Instr.keyThatStays,se kd vk vA lq]
     simp[Instr.mapUpdate,run_underlying gf,MapKept.run_getObj_map hb,iQ,hr,qY,Gk,iO,MapKept.run_setObj_map _ hb]
    cases hs
   cases hs
  cases hs
 cases hs
theorem xY(h:aq Q T F G w a s){dst:Option Nat}{t:TypeId}{p k:P}{s':S}(hs:fr Q s dst t p k=some s'){vm vk:Value}(hm:ao F w G s.rg vm p)(hk:ao F w G s.rg vk k):
  ∃v w' F' G',(Instr.mapEntry t vm vk).run Q w= .ok v w'/\aq Q T F' G' w' (a.put dst v) s'/\Ext (Own G s.rg) (Own G' s'.rg) F F' w w':=by
 unfold fr at hs;split at hs
 next kt e n az kd ru=>
  have gf:=dp ru;split at hs
  next z hz=>
   obtain⟨zv,qW,uU⟩:=kq (F:=F) hz w;split at hs
   ·rename_i EI get c ho;split at hs
    ·rename_i hc;simp only[zad,zbn] at hc;obtain⟨⟨nI,yV⟩,vH⟩:=hc;have nI:=zab nI;subst nI;have vH:n≠site dst:=λe=>by rw[e,Nat.beq_refl] at vH;cases vH
     split at hs
     ·rename_i s1 v1 hn;obtain⟨Cf,vA,⟨kv,lq,lR⟩⟩:=aR yV;have ij:vk=kv:=hk.br (p:= .d kd) lq;subst ij;obtain⟨en,eP,vP,aP,lF,b,es,clock,hG,hb,hM⟩:=vB h hm ho;rw[hG] at lF;subst lF;obtain⟨ck,iQ⟩:=lR false;have iQ:=bn iQ w;obtain⟨r,hr,oU⟩:=hM.look yV lq;have bj:b<w.heap.size:=(zap.1 hb).1;have fin: ∀(es':Array MapEntry) (clock':Nat) (i0:Nat) (e0:MapEntry) (val:Value),fP Q F w kt (dR kd (jR (get kd) z) get) (bif (get kd).isSome then c else c+1) es'.toList clock'->es'[i0]?=some e0->e0.key=vk->aA F w val (jR (get kd) z)->
        ∃F' G',aq Q T F' G' {w with heap:=w.heap.setIfInBounds b (.map es' clock')} (a.put dst (.tuple #[val,.int .i64 (e0.born:Int)])) s'/\Ext (Own G s.rg) (Own G' s'.rg) F F' w {w with heap:=w.heap.setIfInBounds b (.map es' clock')}:=by
       intro es' clock' i0 e0 val Lr jL Mu hval;obtain⟨b1,b2,b3,b4⟩:=gP h hn (g1:= .int .i64 (e0.born:Int)) (w':=w) (λ_ _=>rfl) (zae _) rfl rfl rfl (λb hb=>by simp[ay] at hb) trivial;obtain⟨mH,_⟩:=S.gO hn;have Ls:iH G (site dst) (.int .i64 (e0.born:Int)) n=G n:=da _ vH;have tV:lk s1.rg n=some en:=by grind [aV]
       have Ou:iH G (site dst) (.int .i64 (e0.born:Int)) (site dst)= .int .i64 (e0.born:Int):=aC _ _ _;generalize iH G (site dst) (.int .i64 (e0.born:Int))=G1 at b1 b2 b3 Ls Ou;have nf:G1 n= .map (some b):=Ls.trans hG;have zj:ay (G1 n) en.obj b:=by rw[aP,nf];simp[ay,aj]
       have jS: ∀b0,b0≠b->(w.heap.setIfInBounds b (.map es' clock'))[b0]?=w.heap[b0]?:=λb0 ca=>zaC (za5 ca);have mG:(w.heap.setIfInBounds b (.map es' clock'))[b]?=some (.map es' clock'):=by rw[zaW bj]
       have jr:s1.setObj n (.fZ kt (dR kd (jR (get kd) z) get) (bif (get kd).isSome then c else c+1) (.mp (site dst) v1) kd)={s1 with rg:=ins n ⟨en.az,en.tag,.fZ kt (dR kd (jR (get kd) z) get) (bif (get kd).isSome then c else c+1) (.mp (site dst) v1) kd⟩ s1.rg}:=by unfold S.setObj;rw[tV]
       rw[jr] at hs;have pW: ∀b0,F b0->b0≠b:=λb0 hf e=>by subst e;exact b1.gG n en b0 tV zj hf
       have iO: ∀(w1:World),ao F w1 G1 (ins n ⟨en.az,en.tag,.fZ kt (dR kd (jR (get kd) z) get) (bif (get kd).isSome then c else c+1) (.mp (site dst) v1) kd⟩ s1.rg) (.int .i64 (e0.born:Int)) (.mp (site dst) v1):=λw1=>
        .mp _ _ _ rfl ⟨_,(aV _ _ vH).trans b4,zae _,λ_ _=>Ou.symm⟩
       obtain⟨d1,d2⟩:=b1.iH (n:=n) (e1:=⟨en.az,en.tag,.fZ kt (dR kd (jR (get kd) z) get) (bif (get kd).isSome then c else c+1) (.mp (site dst) v1) kd⟩) (g1:=G1 n) (w':={w with heap:=w.heap.setIfInBounds b (.map es' clock')}) (λe' bb=>by
         rw[tV] at bb;cases bb;exact .inr ⟨rfl,λ_=>⟨by rw[aP];rfl,rfl⟩⟩)
        (λb0 _ bg=>jS b0 λe=>by grind) (by simp) rfl rfl rfl
        (λb0 tO=> .inr ⟨en,tV,by have:ay (G1 n) (.fZ kt (dR kd (jR (get kd) z) get) (bif (get kd).isSome then c else c+1) (.mp (site dst) v1) kd) b0:=tO;rw[aP];exact⟨rfl,this⟩⟩)
        ⟨b,es',clock',by rw[aK];exact nf,mG,Lr.mono (λ_ h=>h) (λb0 hf=>jS b0 (pW b0 hf)),i0,e0,jL,by rw[aK];exact iO _,by rw[Mu];exact lq,by grind [dR,D.aY]⟩
        (λi hi _=>b1.tag n en i tV hi (by rw[aP];rfl))
       rw[aK] at d1 d2;obtain⟨c1,c2⟩:=bc d1 hs (v:= .tuple #[val,.int .i64 (e0.born:Int)]) (bt.of (.fL [val,.int .i64 (e0.born:Int)] _ rfl (λj v c hv hc=>by
        match j with
        |0=>simp at hv hc;subst hc;exact .bad _
        |1=>grind
        |j+2=>simp at hv)))
       refine⟨F,G1,c1,?_⟩;rw[c2];exact b2.trans d2
      rcases oU with⟨rfl,hg⟩| ⟨i,CJ,y0,rfl,hi,Gk,hg,Iy⟩
      ·have:=(hM.set yV lq uU).1 hg;obtain⟨F',G',e1,e2⟩:=fin (es.push {key:=vk,val:=zv,born:=clock}) (clock+1) es.size _ zv (by rw[hg];simpa [jR] using this) (by simp;rfl) rfl (by rw[hg];exact uU);refine⟨_,_,F',G',?_,e1,e2⟩;simp[Instr.mapEntry,run_underlying gf,MapKept.run_getObj_map hb,iQ,hr,qW,MapKept.run_setObj_map _ hb,goInt]
      have qY:es[i]?=some CJ:=by grind
      have:=(hM.set yV lq Iy).2 i CJ hi Gk (by rw[hg];simp);have Hi:es.modify i (λe=>{e with key:=vk})=es.setIfInBounds i {CJ with key:=vk,val:=CJ.val}:=by grind
      obtain⟨F',G',e1,e2⟩:=fin (es.modify i λe=>{e with key:=vk}) clock i {CJ with key:=vk} CJ.val (by rw[hg,Hi];simpa [jR] using this) (by rw[Array.getElem?_modify];simp[qY]) rfl (by rw[hg];exact Iy);refine⟨_,_,F',G',?_,e1,e2⟩;have iO:(Instr.keyThatStays vk vk).run Q w= .ok vk w:=by simp[Instr.keyThatStays,se kd vk vA lq]
      simp[Instr.mapEntry,run_underlying gf,MapKept.run_getObj_map hb,iQ,hr,qY,Gk,iO,MapKept.run_setObj_map _ hb,goInt]
     cases hs
    cases hs
   cases hs
  cases hs
 cases hs
theorem At(h:aq Q T F G w a s){dst:Option Nat}{t:TypeId}{p st x:P}{s':S}(hs:kc Q s dst p st x=some s'){vm vs vx:Value}(hm:ao F w G s.rg vm p)(iO:ao F w G s.rg vs st)(hx:ao F w G s.rg vx x):
  ∃w' F' G',(Instr.entryStore t vm vs vx).run Q w= .ok () w'/\aq Q T F' G' w' (a.put dst undef) s'/\Ext (Own G s.rg) (Own G' s'.rg) F F' w w':=by
 unfold kc at hs;split at hs
 next n az m La=>
  split at hs
  next s1 y vK=>
   obtain⟨F',b1,b2,b3,b4,b5⟩:=Cq h vK hx;split at hs
   ·rename_i kt get c m2 QV kd ho EO;split at hs
    ·rename_i hc;simp only[zad] at hc;obtain⟨⟨e1,e2⟩,yV⟩:=hc;have e1:=zab e1;have e2:=zab e2;subst e1;subst e2;have Ah:ao F' w G s1.rg vm (.mp n az):=hm.mono b4 (λ_ _=>rfl) b3;have Mv:ao F' w G s1.rg vs (.mp m La):=iO.mono b4 (λ_ _=>rfl) b3;obtain⟨en,eP,vP,aP,lF,b,es,clock,hG,hb,hM,i,e0,hi,JN,Pt,Gm⟩:=Ch b1 Ah ho;rw[hG] at lF;subst lF;obtain⟨QW,Mw,Mx,My⟩:=S.aJ EO;have num: ∀v,ao F' w G s1.rg v (.mp m La)->v=G m:=λv hv=>by
      cases hv with
      |mp _ _ _ _ hr=>obtain⟨e',bb,hle,hc⟩:=hr;rw[Mw] at bb;cases bb;exact hc Mx.symm (by rw[My];rfl)
     have xG:vs= .int .i64 (e0.born:Int):=(num _ Mv).trans (num _ JN).symm;subst xG;have il:i<es.size:=(zap.1 hi).1;obtain⟨ks,h1,h2,h3,h4,h5,h6,h7⟩:=id hM;have JO:es.findIdx? (λe=>(e.born:Int)==(e0.born:Int))=some i:=by rw[Array.findIdx?_eq_some_iff_getElem];have IA:es[i]=e0:=(zap.1 hi).2;refine⟨il,by rw[IA];simp,λj hj=> ?_⟩;grind [List.pairwise_iff_getElem]
     have jr:=hM.set yV Pt b5;have Hh:get kd≠none:=λe=>by rw[e] at Gm;cases Gm
     have Lr:=jr.2 i e0 (by grind) rfl Hh;have cA:ay (G n) en.obj b:=by rw[aP,hG];simp[ay,aj]
     have bj:b<w.heap.size:=(zap.1 hb).1;have Hi:es.modify i (λe=>{e with val:=vx})=es.setIfInBounds i {e0 with key:=e0.key,val:=vx}:=by grind
     have Pu:fP Q F' w kt (dR kd y get) c (es.modify i λe=>{e with val:=vx}).toList clock:=by grind
     have jS: ∀b0,b0≠b->(w.heap.setIfInBounds b (.map (es.modify i λe=>{e with val:=vx}) clock))[b0]?=w.heap[b0]?:=λb0 ca=>zaC (za5 ca);have mG:(w.heap.setIfInBounds b (.map (es.modify i λe=>{e with val:=vx}) clock))[b]?=some (.map (es.modify i λe=>{e with val:=vx}) clock):=by rw[zaW bj]
     have mH:s1.setObj n (.map kt (dR kd y get) c false)={s1 with rg:=ins n ⟨en.az,en.tag,.map kt (dR kd y get) c false⟩ s1.rg}:=by unfold S.setObj;rw[eP]
     rw[mH] at hs;have pW: ∀b0,F' b0->b0≠b:=λb0 hf e=>by subst e;exact b1.gG n en b0 eP cA hf
     obtain⟨d1,d2⟩:=b1.iH (n:=n) (e1:=⟨en.az,en.tag,.map kt (dR kd y get) c false⟩) (g1:=G n) (w':={w with heap:=w.heap.setIfInBounds b (.map (es.modify i λe=>{e with val:=vx}) clock)}) (λe' bb=>by
       rw[eP] at bb;cases bb;exact .inr ⟨rfl,λ_=>⟨by rw[aP];rfl,rfl⟩⟩)
      (λb0 _ bg=>jS b0 λe=>by grind) (by simp) rfl rfl rfl
      (λb0 tO=> .inr ⟨en,eP,by have:ay (G n) (.map kt (dR kd y get) c false) b0:=tO;rw[aP];exact this.2⟩)
      ⟨b,_,clock,by rw[aK];exact hG,mG,Pu.mono (λ_ h=>h) (λb0 hf=>jS b0 (pW b0 hf)),λhl=>by cases hl⟩
      (λi hi _=>b1.tag n en i eP hi (by rw[aP];rfl))
     rw[aK] at d1 d2;obtain⟨c1,c2⟩:=bc d1 hs (v:=undef) (bt.of (.bad _));refine⟨_,F',G,?_,c1,?_⟩
     ·simp[Instr.entryStore,MapKept.run_getObj_map hb,asInt,asIntOf,JO,MapKept.run_setObj_map _ hb]
     rw[c2];exact b2.trans d2
    cases hs
   cases hs
  cases hs
 cases hs
end
end Pi
