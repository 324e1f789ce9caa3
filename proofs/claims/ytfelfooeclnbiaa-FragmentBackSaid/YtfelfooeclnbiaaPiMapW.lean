/- The text PiMapW. -/
import Derived.Test.YtfelfooeclnbiaaPiMk
namespace Pi
open Go
section
variable{Q:Program}{T:Tg}{F:Nat->Prop}{G:Nat->Value}{w:World}{a:Act}{s:S}
theorem qC(h:ar Q T F G w a s){dst:Option Nat}{t:TypeId}{s':S}(hs:eF Q s dst t=some s'):
  ∃v w' G',(Instr.makeMap t none).run Q w= .ok v w'/\ar Q T F G' w' (a.put dst v) s'/\Ext (Own G s.rg) (Own G' s'.rg) F F w w':=by
 unfold eF at hs;split at hs
 next kt e nK=>
  split at hs
  next s1 v hn=>
   have ca: ∀b,b<w.heap.size->(w.alloc (.map #[] 0)).heap[b]?=w.heap[b]?:=λb hb=>heap_alloc_old w _ b hb;obtain⟨b1,b2,b3,b4⟩:=eT h hn (g1:= .map (some w.heap.size)) (w':=w.alloc (.map #[] 0)) ca (by simp) rfl rfl rfl (λb hb=>by simp[aH,au] at hb;omega)
    ⟨w.heap.size, #[],0,ax _ _ _,heap_alloc_new w _,⟨[],rfl,rfl,by simp,by simp,by simp,by simp,by simp⟩,λhl=>by cases hl⟩
   obtain⟨c1,c2⟩:=bh b1 hs (v:= .map (some w.heap.size)) (bx.of (.mp (site dst) v _ rfl ⟨_,b4,zaf _,λ_ _=>(ax _ _ _).symm⟩));refine⟨.map (some w.heap.size),_,_,by rfl,c1,?_⟩;rw[c2];exact b2
  cases hs
 cases hs
theorem qD(h:ar Q T F G w a s){dst:Option Nat}{t:TypeId}{s':S}(hs:eG Q s dst t=some s'):
  ∃v w' G',(Instr.makeMap t none).run Q w= .ok v w'/\ar Q T F G' w' (a.put dst v) s'/\Ext (Own G s.rg) (Own G' s'.rg) F F w w':=by
 unfold eG at hs;split at hs
 next kt e nK=>
  split at hs
  next s1 v hn=>
   have ca: ∀b,b<w.heap.size->(w.alloc (.map #[] 0)).heap[b]?=w.heap[b]?:=λb hb=>heap_alloc_old w _ b hb;obtain⟨b1,b2,b3,b4⟩:=eT h hn (g1:= .map (some w.heap.size)) (w':=w.alloc (.map #[] 0)) ca (by simp) rfl rfl rfl (λb hb=>by simp[aH,au] at hb;omega)
    ⟨w.heap.size, #[],0,ax _ _ _,heap_alloc_new w _,rfl,by simp,by simp,by simp,by simp⟩
   obtain⟨c1,c2⟩:=bh b1 hs (v:= .map (some w.heap.size)) (bx.of (.mp (site dst) v _ rfl ⟨_,b4,zaf _,λ_ _=>(ax _ _ _).symm⟩));refine⟨.map (some w.heap.size),_,_,by rfl,c1,?_⟩;rw[c2];exact b2
  cases hs
 cases hs
theorem kb(h:ar Q T F G w a s){n ay:Nat}{v:Value}{kt:Nat}{ks BU:List (D×P)}(hv:ao F w G s.rg v (.mp n ay))(ho:s.obj n ay=some (.a7 kt ks)){b:Nat}(hG:G n= .map (some b)){es':Array MapEntry}{clock':Nat}
  (hM:qj Q F w G s.rg kt BU es'.toList clock') {dst:Option Nat} {s':S} (hs:(s.setObj n (.a7 kt BU)).put dst .bad=some s') (u:Value):
  ar Q T F G {w with heap:=w.heap.setIfInBounds b (.map es' clock')} (a.put dst u) s'/\Ext (Own G s.rg) (Own G s'.rg) F F w {w with heap:=w.heap.setIfInBounds b (.map es' clock')}:=by
 obtain⟨en,dZ,qE,aO,_,b0,es,clock,Gb,hb,_⟩:=qv h hv ho;rw[hG] at Gb;cases Gb;have cA:aH (G n) en.obj=some b:=by rw[aO,hG];rfl
 have bA:b<w.heap.size:=(zan.1 hb).1;have fR: ∀b0,b0≠b->(w.heap.setIfInBounds b (.map es' clock'))[b0]?=w.heap[b0]?:=λb0 cc=>zax (za1 cc);have mA:(w.heap.setIfInBounds b (.map es' clock'))[b]?=some (.map es' clock'):=by rw[zaX bA]
 have ny:s.setObj n (.a7 kt BU)={s with rg:=ins n ⟨en.ay,en.tag,.a7 kt BU⟩ s.rg}:=by unfold S.setObj;rw[dZ]
 rw[ny] at hs;have df:gx G s.rg n ⟨en.ay,en.tag,.a7 kt BU⟩ (G n):=λe' bb=>by rw[dZ] at bb;cases bb;exact .inr ⟨rfl,λ_=>⟨by rw[aO];rfl,rfl⟩⟩
 have BV:=cz df;rw[aN] at BV;have sm: ∀b0,F b0->b0≠b:=λb0 hf e=>by subst e;exact h.iO n en b0 dZ cA hf
 obtain⟨d1,d2⟩:=h.gL (n:=n) (e1:=⟨en.ay,en.tag,.a7 kt BU⟩) (g1:=G n) (w':={w with heap:=w.heap.setIfInBounds b (.map es' clock')}) df
  (λb0 _ dY=>fR b0 λe=>dY ⟨en,dZ,by rw[e];exact cA⟩) (by simp) rfl rfl rfl
  (λb0 sg=> .inr ⟨en,dZ,by rw[aO];exact sg⟩)
  ⟨b,es',clock',by rw[aN];exact hG,mA,by rw[aN];exact hM.mono (λ_ h=>h) (λb0 hf=>fR b0 (sm b0 hf)) BV⟩
  (λi hi _=>h.tag n en i dZ hi (by rw[aO];rfl))
 rw[aN] at d1 d2;obtain⟨c1,c2⟩:=bh d1 hs (v:=u) (bx.of (.bad _));refine⟨c1,?_⟩;rw[c2];exact d2
theorem sq(h:ar Q T F G w a s){dst:Option Nat}{t:TypeId}{p k x:P}{s':S}(hs:dC Q s dst t p k x=some s'){vm vk vx:Value}(hm:ao F w G s.rg vm p)(hk:ao F w G s.rg vk k)(hx:ao F w G s.rg vx x):
  ∃w',(Instr.mapUpdate t vm vk vx).run Q w= .ok () w'/\ar Q T F G w' (a.put dst undef) s'/\Ext (Own G s.rg) (Own G s'.rg) F F w w':=by
 unfold dC at hs;split at hs
 next kt e n ay kd nK=>
  have eo:=ct nK;split at hs
  next yK ks ho=>
   split at hs
   ·rename_i hc;simp only[zac] at hc;obtain⟨⟨kX,sb⟩,aP⟩:=hc;have kX:=zab kX;subst kX;obtain⟨tq,pg,⟨kv,jb,jr⟩⟩:=aM sb;have ga:vk=kv:=hk.aX (p:= .d kd) jb;subst ga;obtain⟨en,dZ,qE,aO,jc,b,es,clock,hG,hb,hM⟩:=qv h hm ho;rw[hG] at jc;subst jc;obtain⟨ck,fq⟩:=jr false;have fq:=aU fq w;obtain⟨r,hr,lV⟩:=hM.look sb jb x;obtain⟨h1,h3,h4,h6,h7⟩:=hM;rcases lV with⟨rfl,dY,_,hu,_⟩| ⟨i,q,tK,rfl,hi,he,yY,_,G7,_,hu,_⟩
    ·rw[hu] at hs;obtain⟨e1,e2⟩:=kb h hm ho hG (es':=es.push {key:=vk,val:=vx,born:=clock}) (clock':=clock+1) (by
      refine⟨by simp[h1],λj p e hp he=> ?_,?_,λe he=> ?_,?_⟩
      ·rw[zbX] at he;rw[List.getElem?_append] at hp he;split at hp
       ·rw[zau (by omega)] at he;exact h3 j p e hp he
       rw[zay (by omega)] at he;have e0:j-es.toList.length=j-ks.length:=by omega
       rw[e0] at he;cases hj:j-ks.length with
       |zero=>rw[hj] at hp he;simp only[zcf,zae] at hp he;subst hp he;exact⟨sb,jb,hx⟩
       |succ m=>rw[hj] at hp;simp at hp
      ·rw[zbw,zbY];refine⟨h4,by simp,λa ha c hc=> ?_⟩;simp only[za7,List.map_nil,zbU] at hc;obtain⟨q,hq,rfl⟩:=zbK.1 ha;rw[hc];exact dY q hq
      ·rw[zbX] at he;rcases za6.1 he with he |he
       ·have:=h6 e he;omega
       rw[zbU.1 he];exact Nat.lt_succ_self _
      rw[zbX,zbw,zbY];refine⟨h7,by simp,λa ha c hc=> ?_⟩;simp only[za7,List.map_nil,zbU] at hc;obtain⟨q,hq,rfl⟩:=zbK.1 ha;have:=h6 q hq;omega) hs undef
     refine⟨_,?_,e1,e2⟩;simp[Instr.mapUpdate,run_underlying eo,MapKept.run_getObj_map hb,fq,hr,MapKept.run_setObj_map _ hb]
    have lZ:es[i]?=some tK:=by simpa using he
    have w8:es.modify i (λe=>{e with key:=vk,val:=vx})=es.setIfInBounds i {tK with key:=vk,val:=vx}:=by grind
    rw[hu] at hs;obtain⟨e1,e2⟩:=kb h hm ho hG (es':=es.modify i λe=>{e with key:=vk,val:=vx}) (clock':=clock) (by
     rw[w8,Array.toList_setIfInBounds];refine⟨by simp[h1],λj p e hp he=> ?_,?_,λe he=> ?_,?_⟩
     ·rw[zbZ] at hp he;split at hp
      ·rename_i je;subst je;rw[zau rfl] at he;split at hp
       ·rw[zau (by omega)] at he;cases hp;cases he;exact⟨sb,jb,hx⟩
       cases hp
      rename_i je;rw[zay je] at he;exact h3 j p e hp he
     ·have:(ks.set i (kd,x)).map (·.1)=ks.map (·.1):=by apply zaJ;grind
      rw[this];exact h4
     ·grind
     have:(es.toList.set i {tK with key:=vk,val:=vx}).map (·.born)=es.toList.map (·.born):=by apply zaJ;grind
     rw[this];exact h7) hs undef
    refine⟨_,?_,e1,e2⟩;have gH:(Instr.keyThatStays vk vk).run Q w= .ok vk w:=by simp[Instr.keyThatStays,kz kd vk pg jb]
    simp[Instr.mapUpdate,run_underlying eo,MapKept.run_getObj_map hb,fq,hr,lZ,yY,gH,MapKept.run_setObj_map _ hb]
   cases hs
  cases hs
 cases hs
theorem yZ(h:ar Q T F G w a s){dst:Option Nat}{t:TypeId}{p k:P}{s':S}(hs:oZ Q s dst t p k=some s'){vm vk:Value}(hm:ao F w G s.rg vm p)(hk:ao F w G s.rg vk k)(Gc:Array TypeId)(ht:Gc[0]?=some t)(ty:TypeId):
  ∃w',(Builtin.delete_ Gc ty #[vm,vk]).run Q w= .ok (.tuple #[]) w'/\ar Q T F G w' (a.put dst (.tuple #[])) s'/\Ext (Own G s.rg) (Own G s'.rg) F F w w':=by
 unfold oZ at hs;split at hs
 next kt e n ay kd nK=>
  have eo:=ct nK;split at hs
  next yK ks ho=>
   split at hs
   ·rename_i hc;simp only[zac] at hc;have kX:=zab hc.1;subst kX;obtain⟨tq,pg,⟨kv,jb,jr⟩⟩:=aM hc.2;have ga:vk=kv:=hk.aX (p:= .d kd) jb;subst ga;obtain⟨en,dZ,qE,aO,jc,b,es,clock,hG,hb,hM⟩:=qv h hm ho;rw[hG] at jc;subst jc;obtain⟨ck,fq⟩:=jr es.isEmpty;have fq:=aU fq w;obtain⟨r,hr,lV⟩:=hM.look hc.2 jb .bad;have BW:=hM;obtain⟨h1,h3,h4,h6,h7⟩:=hM;rcases lV with⟨rfl,dY,_,_,hd⟩| ⟨i,q,tK,rfl,hi,he,yY,_,G7,_,_,hd⟩
    ·rw[hd] at hs;obtain⟨e1,e2⟩:=kb h hm ho hG BW hs (.tuple #[]);refine⟨_,?_,e1,e2⟩;simp[Builtin.delete_,ht,run_underlying eo,MapKept.run_getObj_map hb,fq,hr,MapKept.run_setObj_map _ hb]
    have y4:i<es.size:=by have:=(zaa.1 he).1;simpa using this
    rw[hd] at hs;obtain⟨e1,e2⟩:=kb h hm ho hG (es':=es.eraseIdxIfInBounds i) (clock':=clock) (by
     have e0:(es.eraseIdxIfInBounds i).toList=es.toList.eraseIdx i:=by unfold Array.eraseIdxIfInBounds;rw[dif_pos y4,Array.toList_eraseIdx]
     rw[e0];refine⟨by rw[List.length_eraseIdx,List.length_eraseIdx,h1],λj p e hp he=> ?_,?_,λe he=>h6 e (List.mem_of_mem_eraseIdx he),?_⟩
     ·rw[List.getElem?_eraseIdx] at hp he;split at hp
      next hj=>rw[zau hj] at he;exact h3 j p e hp he
      rename_i hj;rw[zay hj] at he;exact h3 _ p e hp he
     ·exact h4.sublist ((List.eraseIdx_sublist _ _).map _)
     exact h7.sublist ((List.eraseIdx_sublist _ _).map _)) hs (.tuple #[])
    refine⟨_,?_,e1,e2⟩;simp[Builtin.delete_,ht,run_underlying eo,MapKept.run_getObj_map hb,fq,hr,MapKept.run_setObj_map _ hb]
   cases hs
  cases hs
 cases hs
theorem oA{ks:List (D×D)}(hd:(ks.map (·.1)).Nodup){i j:Nat}{p q:D×D}(hi:ks[i]?=some p)(hj:ks[j]?=some q)(h:p.1=q.1):i=j:=by have hp:=zbg.1 hd;grind
theorem gG.set{kt:TypeId}{get:D->Option D}{n:Int}{es:List MapEntry}{clock:Nat}(h:gG Q F w kt get n es clock){k y:D}{v:Value}(hk:bH Q kt k=true)(hv:k.aX=some v){x:Value}(hx:az F w x y):
  (get k=none->gG Q F w kt (cN k y get) (n+1) (es++[{key:=v,val:=x,born:=clock}]) (clock+1))/\
  (∀i e,es[i]?=some e->e.key=v->get k≠none->gG Q F w kt (cN k y get) n (es.set i {e with key:=v,val:=x}) clock):=by
 obtain⟨ks,h1,h2,h3,h4,h5,h6,h7⟩:=h;constructor
 ·intro hg;have H6: ∀p∈ks,p.1≠k:=λp hp e=>by have:=(h5 p.1 p.2).2 hp;rw[e,hg] at this;cases this
  refine⟨ks++[(k,y)],by simp[h1],by simp[h2],λi p e hp he=> ?_,?_,λk' v'=> ?_,λe he=> ?_,?_⟩
  ·grind
  ·rw[zbw,zbY];grind
  ·grind [oi,tp]
  ·grind
  grind
 intro i e he yY hg;have hi:i<es.length:=(zaa.1 he).1;have EF:i<ks.length:=by omega
 obtain⟨p,hp⟩: ∃p,ks[i]?=some p:=⟨ks[i],zad EF⟩
 obtain⟨a1,a2,a3⟩:=h3 i p e hp he;have oo:p.1=k:=by
  obtain⟨y0,DG⟩: ∃y0,get k=some y0:=by
   cases H7:get k with
   |none=>grind
   |some y0=>simp
  have hm:=(h5 k y0).1 DG;obtain⟨j,hj,y5⟩:=zaU hm;obtain⟨ej,EG⟩: ∃ej,es[j]?=some ej:=⟨es[j]'(by omega),zad (by omega)⟩
  obtain⟨_,b2,_⟩:=h3 j (k,y0) ej (by rw[zad hj,y5]) EG;obtain⟨r,hr,lV⟩:=jW (aM hk).1 hv h1 (λi p e hp he=>⟨(aM (h3 i p e hp he).1).1,(h3 i p e hp he).2.1⟩) w;obtain⟨c,hc,fQ⟩:=fE 20 kt p.1 k (aM a1).1 (aM hk).1;obtain⟨c',Ad,G8⟩:=fE 20 kt k k (aM hk).1 (aM hk).1;have e1:=bZ 20 10000 kt p.1 k c v v (by omega) hc (by rw[a2,yY]) hv;have e2:=bZ 20 10000 kt k k c' v v (by omega) Ad hv hv;rw[e1] at e2;grind
 refine⟨ks.set i (k,y),by simp[h1],by grind,λj q f hq hf=> ?_,?_,λk' v'=> ?_,λf hf=> ?_,?_⟩
 ·grind
 ·have:(ks.set i (k,y)).map (·.1)=ks.map (·.1):=by apply zaJ;grind
  rw[this];exact h4
 ·by_cases e:k=k'
  ·subst e;rw[oi];constructor
   ·intro e;cases e;exact zaq (i:=i) (by rw[zbH EF])
   intro hm;obtain⟨j,hj⟩:=zas hm;by_cases je:i=j
   ·subst je;rw[zbH EF] at hj;cases hj;rfl
   rw[zbt je] at hj;exact absurd (oA h4 hp hj oo) je
  rw[tp _ _ e,h5];constructor
  ·intro hm;obtain⟨j,hj⟩:=zas hm;have je:i≠j:=λje=>by grind
   exact zaq (i:=j) (by rw[zbt je];exact hj)
  grind
 ·grind
 have:(es.set i {e with key:=v,val:=x}).map (·.born)=es.map (·.born):=by apply zaJ;grind
 rw[this];exact h7
theorem mB(h:ar Q T F G w a s){dst:Option Nat}{t:TypeId}{p k x:P}{s':S}(hs:dD Q s dst t p k x=some s'){vm vk vx:Value}(hm:ao F w G s.rg vm p)(hk:ao F w G s.rg vk k)(hx:ao F w G s.rg vx x):
  ∃w' F' G',(Instr.mapUpdate t vm vk vx).run Q w= .ok () w'/\ar Q T F' G' w' (a.put dst undef) s'/\Ext (Own G s.rg) (Own G' s'.rg) F F' w w':=by
 unfold dD at hs;split at hs
 next kt e n ay kd nK=>
  have eo:=ct nK;split at hs
  next s1 y vL=>
   obtain⟨F',b1,b2,b3,b4,b5⟩:=lY h vL hx;split at hs
   ·rename_i yK get c ho;split at hs
    ·rename_i hc;simp only[zac] at hc;have kX:=zab hc.1;subst kX;obtain⟨tq,pg,⟨kv,jb,jr⟩⟩:=aM hc.2;have ga:vk=kv:=hk.aX (p:= .d kd) jb;subst ga;have tH:ao F' w G s1.rg vm (.mp n ay):=hm.mono b4 (λ_ _=>rfl) b3;obtain⟨en,dZ,qE,aO,jc,b,es,clock,hG,hb,hM⟩:=qu b1 tH ho;rw[hG] at jc;subst jc;obtain⟨ck,fq⟩:=jr false;have fq:=aU fq w;obtain⟨r,hr,lV⟩:=hM.look hc.2 jb;have y6:=hM.set hc.2 jb b5;have cA:aH (G n) en.obj=some b:=by rw[aO,hG];rfl
     have bA:b<w.heap.size:=(zan.1 hb).1;have fin: ∀(es':Array MapEntry) (clock':Nat),gG Q F' w kt (cN kd y get) (bif (get kd).isSome then c else c+1) es'.toList clock'->
       ∃BX G',ar Q T BX G' {w with heap:=w.heap.setIfInBounds b (.map es' clock')} (a.put dst undef) s'/\Ext (Own G s.rg) (Own G' s'.rg) F BX w {w with heap:=w.heap.setIfInBounds b (.map es' clock')}:=by
      intro es' clock' BW;have fR: ∀b0,b0≠b->(w.heap.setIfInBounds b (.map es' clock'))[b0]?=w.heap[b0]?:=λb0 cc=>zax (za1 cc);have mA:(w.heap.setIfInBounds b (.map es' clock'))[b]?=some (.map es' clock'):=by rw[zaX bA]
      have ny:s1.setObj n (.map kt (cN kd y get) (bif (get kd).isSome then c else c+1) false)={s1 with rg:=ins n ⟨en.ay,en.tag,.map kt (cN kd y get) (bif (get kd).isSome then c else c+1) false⟩ s1.rg}:=by unfold S.setObj;rw[dZ]
      rw[ny] at hs;have df:gx G s1.rg n ⟨en.ay,en.tag,.map kt (cN kd y get) (bif (get kd).isSome then c else c+1) false⟩ (G n):=λe' bb=>by rw[dZ] at bb;cases bb;exact .inr ⟨rfl,λ_=>⟨by rw[aO];rfl,rfl⟩⟩
      have sm: ∀b0,F' b0->b0≠b:=λb0 hf e=>by subst e;exact b1.iO n en b0 dZ cA hf
      obtain⟨d1,d2⟩:=b1.gL (n:=n) (e1:=⟨en.ay,en.tag,.map kt (cN kd y get) (bif (get kd).isSome then c else c+1) false⟩) (g1:=G n) (w':={w with heap:=w.heap.setIfInBounds b (.map es' clock')}) df
       (λb0 _ dY=>fR b0 λe=>by grind) (by simp) rfl rfl rfl
       (λb0 sg=> .inr ⟨en,dZ,by have:aH (G n) (.map kt (cN kd y get) (bif (get kd).isSome then c else c+1) false)=some b0:=sg;rw[aO];exact this⟩)
       ⟨b,es',clock',by rw[aN];exact hG,mA,BW.mono (λ_ h=>h) (λb0 hf=>fR b0 (sm b0 hf)),λhl=>by cases hl⟩
       (λi hi _=>b1.tag n en i dZ hi (by rw[aO];rfl))
      rw[aN] at d1 d2;obtain⟨c1,c2⟩:=bh d1 hs (v:=undef) (bx.of (.bad _));refine⟨F',G,c1,?_⟩;rw[c2];exact b2.trans d2
     rcases lV with⟨rfl,hg⟩| ⟨i,tK,y0,rfl,hi,yY,hg,_⟩
     ·skip
      obtain⟨BX,G',e1,e2⟩:=fin (es.push {key:=vk,val:=vx,born:=clock}) (clock+1) (by grind);refine⟨_,BX,G',?_,e1,e2⟩;simp[Instr.mapUpdate,run_underlying eo,MapKept.run_getObj_map hb,fq,hr,MapKept.run_setObj_map _ hb]
     skip
     have lZ:es[i]?=some tK:=by grind
     have w8:es.modify i (λe=>{e with key:=vk,val:=vx})=es.setIfInBounds i {tK with key:=vk,val:=vx}:=by grind
     obtain⟨BX,G',e1,e2⟩:=fin (es.modify i λe=>{e with key:=vk,val:=vx}) clock (by grind);refine⟨_,BX,G',?_,e1,e2⟩;have gH:(Instr.keyThatStays vk vk).run Q w= .ok vk w:=by simp[Instr.keyThatStays,kz kd vk pg jb]
     simp[Instr.mapUpdate,run_underlying eo,MapKept.run_getObj_map hb,fq,hr,lZ,yY,gH,MapKept.run_setObj_map _ hb]
    cases hs
   cases hs
  cases hs
 cases hs
theorem sr(h:ar Q T F G w a s){dst:Option Nat}{t:TypeId}{p k:P}{s':S}(hs:dE Q s dst t p k=some s'){vm vk:Value}(hm:ao F w G s.rg vm p)(hk:ao F w G s.rg vk k):
  ∃v w' F' G',(Instr.mapEntry t vm vk).run Q w= .ok v w'/\ar Q T F' G' w' (a.put dst v) s'/\Ext (Own G s.rg) (Own G' s'.rg) F F' w w':=by
 unfold dE at hs;split at hs
 next kt e n ay kd nK=>
  have eo:=ct nK;split at hs
  next z hz=>
   obtain⟨zv,nw,qd⟩:=hD (F:=F) hz w;split at hs
   ·rename_i yK get c ho;split at hs
    ·rename_i hc;simp only[zac,zaV] at hc;obtain⟨⟨kX,sb⟩,rG⟩:=hc;have kX:=zab kX;subst kX;have rG:n≠site dst:=λe=>by rw[e,Nat.beq_refl] at rG;cases rG
     split at hs
     ·rename_i s1 v1 hn;obtain⟨tq,pg,⟨kv,jb,jr⟩⟩:=aM sb;have ga:vk=kv:=hk.aX (p:= .d kd) jb;subst ga;obtain⟨en,dZ,qE,aO,jc,b,es,clock,hG,hb,hM⟩:=qu h hm ho;rw[hG] at jc;subst jc;obtain⟨ck,fq⟩:=jr false;have fq:=aU fq w;obtain⟨r,hr,lV⟩:=hM.look sb jb;have bA:b<w.heap.size:=(zan.1 hb).1;have fin: ∀(es':Array MapEntry) (clock':Nat) (i0:Nat) (e0:MapEntry) (val:Value),gG Q F w kt (cN kd (gE (get kd) z) get) (bif (get kd).isSome then c else c+1) es'.toList clock'->es'[i0]?=some e0->e0.key=vk->az F w val (gE (get kd) z)->
        ∃F' G',ar Q T F' G' {w with heap:=w.heap.setIfInBounds b (.map es' clock')} (a.put dst (.tuple #[val,.int .i64 (e0.born:Int)])) s'/\Ext (Own G s.rg) (Own G' s'.rg) F F' w {w with heap:=w.heap.setIfInBounds b (.map es' clock')}:=by
       intro es' clock' i0 e0 val BW G9 EH hval;obtain⟨b1,b2,b3,b4⟩:=eT h hn (g1:= .int .i64 (e0.born:Int)) (w':=w) (λ_ _=>rfl) (zaf _) rfl rfl rfl (λb hb=>by simp[aH] at hb) trivial;obtain⟨ny,_⟩:=S.eS hn;have DH:gL G (site dst) (.int .i64 (e0.born:Int)) n=G n:=cd _ rG;have su:lk s1.rg n=some en:=by grind [aS]
       have Gd:gL G (site dst) (.int .i64 (e0.born:Int)) (site dst)= .int .i64 (e0.born:Int):=ax _ _ _;generalize gL G (site dst) (.int .i64 (e0.born:Int))=G1 at b1 b2 b3 DH Gd;have k7:G1 n= .map (some b):=DH.trans hG;have Cu:aH (G1 n) en.obj=some b:=by rw[aO,k7];rfl
       have fR: ∀b0,b0≠b->(w.heap.setIfInBounds b (.map es' clock'))[b0]?=w.heap[b0]?:=λb0 cc=>zax (za1 cc);have mA:(w.heap.setIfInBounds b (.map es' clock'))[b]?=some (.map es' clock'):=by rw[zaX bA]
       have y6:s1.setObj n (.eb kt (cN kd (gE (get kd) z) get) (bif (get kd).isSome then c else c+1) (.mp (site dst) v1) kd)={s1 with rg:=ins n ⟨en.ay,en.tag,.eb kt (cN kd (gE (get kd) z) get) (bif (get kd).isSome then c else c+1) (.mp (site dst) v1) kd⟩ s1.rg}:=by unfold S.setObj;rw[su]
       rw[y6] at hs;have sm: ∀b0,F b0->b0≠b:=λb0 hf e=>by subst e;exact b1.iO n en b0 su Cu hf
       have gH: ∀(w1:World),ao F w1 G1 (ins n ⟨en.ay,en.tag,.eb kt (cN kd (gE (get kd) z) get) (bif (get kd).isSome then c else c+1) (.mp (site dst) v1) kd⟩ s1.rg) (.int .i64 (e0.born:Int)) (.mp (site dst) v1):=λw1=>
        .mp _ _ _ rfl ⟨_,(aS _ _ rG).trans b4,zaf _,λ_ _=>Gd.symm⟩
       obtain⟨d1,d2⟩:=b1.gL (n:=n) (e1:=⟨en.ay,en.tag,.eb kt (cN kd (gE (get kd) z) get) (bif (get kd).isSome then c else c+1) (.mp (site dst) v1) kd⟩) (g1:=G1 n) (w':={w with heap:=w.heap.setIfInBounds b (.map es' clock')}) (λe' bb=>by
         rw[su] at bb;cases bb;exact .inr ⟨rfl,λ_=>⟨by rw[aO];rfl,rfl⟩⟩)
        (λb0 _ dY=>fR b0 λe=>by grind) (by simp) rfl rfl rfl
        (λb0 sg=> .inr ⟨en,su,by have:aH (G1 n) (.eb kt (cN kd (gE (get kd) z) get) (bif (get kd).isSome then c else c+1) (.mp (site dst) v1) kd)=some b0:=sg;rw[aO];exact this⟩)
        ⟨b,es',clock',by rw[aN];exact k7,mA,BW.mono (λ_ h=>h) (λb0 hf=>fR b0 (sm b0 hf)),i0,e0,G9,by rw[aN];exact gH _,by rw[EH];exact jb,by grind [cN,D.b7]⟩
        (λi hi _=>b1.tag n en i su hi (by rw[aO];rfl))
       rw[aN] at d1 d2;obtain⟨c1,c2⟩:=bh d1 hs (v:= .tuple #[val,.int .i64 (e0.born:Int)]) (bx.of (.dW [val,.int .i64 (e0.born:Int)] _ rfl (λj v c hv hc=>by
        match j with
        |0=>simp at hv hc;subst hc;exact .bad _
        |1=>grind
        |j+2=>simp at hv)))
       refine⟨F,G1,c1,?_⟩;rw[c2];exact b2.trans d2
      rcases lV with⟨rfl,hg⟩| ⟨i,tK,y0,rfl,hi,yY,hg,DG⟩
      ·have:=(hM.set sb jb qd).1 hg;obtain⟨F',G',e1,e2⟩:=fin (es.push {key:=vk,val:=zv,born:=clock}) (clock+1) es.size _ zv (by rw[hg];simpa [gE] using this) (by simp;rfl) rfl (by rw[hg];exact qd);refine⟨_,_,F',G',?_,e1,e2⟩;simp[Instr.mapEntry,run_underlying eo,MapKept.run_getObj_map hb,fq,hr,nw,MapKept.run_setObj_map _ hb,goInt]
      have lZ:es[i]?=some tK:=by grind
      have:=(hM.set sb jb DG).2 i tK hi yY (by rw[hg];simp);have w8:es.modify i (λe=>{e with key:=vk})=es.setIfInBounds i {tK with key:=vk,val:=tK.val}:=by grind
      obtain⟨F',G',e1,e2⟩:=fin (es.modify i λe=>{e with key:=vk}) clock i {tK with key:=vk} tK.val (by rw[hg,w8];simpa [gE] using this) (by rw[zbq];simp[lZ]) rfl (by rw[hg];exact DG);refine⟨_,_,F',G',?_,e1,e2⟩;have gH:(Instr.keyThatStays vk vk).run Q w= .ok vk w:=by simp[Instr.keyThatStays,kz kd vk pg jb]
      simp[Instr.mapEntry,run_underlying eo,MapKept.run_getObj_map hb,fq,hr,lZ,yY,gH,MapKept.run_setObj_map _ hb,goInt]
     cases hs
    cases hs
   cases hs
  cases hs
 cases hs
theorem uL(h:ar Q T F G w a s){dst:Option Nat}{t:TypeId}{p st x:P}{s':S}(hs:gQ Q s dst p st x=some s'){vm vs vx:Value}(hm:ao F w G s.rg vm p)(gH:ao F w G s.rg vs st)(hx:ao F w G s.rg vx x):
  ∃w' F' G',(Instr.entryStore t vm vs vx).run Q w= .ok () w'/\ar Q T F' G' w' (a.put dst undef) s'/\Ext (Own G s.rg) (Own G' s'.rg) F F' w w':=by
 unfold gQ at hs;split at hs
 next n ay m Du=>
  split at hs
  next s1 y vL=>
   obtain⟨F',b1,b2,b3,b4,b5⟩:=wN h vL hx;split at hs
   ·rename_i kt get c m2 H8 kd ho yP;split at hs
    ·rename_i hc;simp only[zac] at hc;obtain⟨⟨e1,e2⟩,sb⟩:=hc;have e1:=zab e1;have e2:=zab e2;subst e1;subst e2;have tH:ao F' w G s1.rg vm (.mp n ay):=hm.mono b4 (λ_ _=>rfl) b3;have EI:ao F' w G s1.rg vs (.mp m Du):=gH.mono b4 (λ_ _=>rfl) b3;obtain⟨en,dZ,qE,aO,jc,b,es,clock,hG,hb,hM,i,e0,hi,Cv,Ha,Ae⟩:=wH b1 tH ho;rw[hG] at jc;subst jc;obtain⟨H9,EJ,EK,EL⟩:=S.aJ yP;have num: ∀v,ao F' w G s1.rg v (.mp m Du)->v=G m:=λv hv=>by
      cases hv with
      |mp _ _ _ _ hr=>obtain⟨e',bb,hle,hc⟩:=hr;rw[EJ] at bb;cases bb;exact hc EK.symm (by rw[EL];rfl)
     have r8:vs= .int .i64 (e0.born:Int):=(num _ EI).trans (num _ Cv).symm;subst r8;have y4:i<es.size:=(zan.1 hi).1;obtain⟨ks,h1,h2,h3,h4,h5,h6,h7⟩:=id hM;have Cw:es.findIdx? (λe=>(e.born:Int)==(e0.born:Int))=some i:=by rw[Array.findIdx?_eq_some_iff_getElem];have Hb:es[i]=e0:=(zan.1 hi).2;refine⟨y4,by rw[Hb];simp,λj hj=> ?_⟩;grind [List.pairwise_iff_getElem]
     have y6:=hM.set sb Ha b5;have Hc:get kd≠none:=λe=>by rw[e] at Ae;cases Ae
     have BW:=y6.2 i e0 (by grind) rfl Hc;have cA:aH (G n) en.obj=some b:=by rw[aO,hG];rfl
     have bA:b<w.heap.size:=(zan.1 hb).1;have w8:es.modify i (λe=>{e with val:=vx})=es.setIfInBounds i {e0 with key:=e0.key,val:=vx}:=by grind
     have Hd:gG Q F' w kt (cN kd y get) c (es.modify i λe=>{e with val:=vx}).toList clock:=by grind
     have fR: ∀b0,b0≠b->(w.heap.setIfInBounds b (.map (es.modify i λe=>{e with val:=vx}) clock))[b0]?=w.heap[b0]?:=λb0 cc=>zax (za1 cc);have mA:(w.heap.setIfInBounds b (.map (es.modify i λe=>{e with val:=vx}) clock))[b]?=some (.map (es.modify i λe=>{e with val:=vx}) clock):=by rw[zaX bA]
     have ny:s1.setObj n (.map kt (cN kd y get) c false)={s1 with rg:=ins n ⟨en.ay,en.tag,.map kt (cN kd y get) c false⟩ s1.rg}:=by unfold S.setObj;rw[dZ]
     rw[ny] at hs;have sm: ∀b0,F' b0->b0≠b:=λb0 hf e=>by subst e;exact b1.iO n en b0 dZ cA hf
     obtain⟨d1,d2⟩:=b1.gL (n:=n) (e1:=⟨en.ay,en.tag,.map kt (cN kd y get) c false⟩) (g1:=G n) (w':={w with heap:=w.heap.setIfInBounds b (.map (es.modify i λe=>{e with val:=vx}) clock)}) (λe' bb=>by
       rw[dZ] at bb;cases bb;exact .inr ⟨rfl,λ_=>⟨by rw[aO];rfl,rfl⟩⟩)
      (λb0 _ dY=>fR b0 λe=>by grind) (by simp) rfl rfl rfl
      (λb0 sg=> .inr ⟨en,dZ,by have:aH (G n) (.map kt (cN kd y get) c false)=some b0:=sg;rw[aO];exact this⟩)
      ⟨b,_,clock,by rw[aN];exact hG,mA,Hd.mono (λ_ h=>h) (λb0 hf=>fR b0 (sm b0 hf)),λhl=>by cases hl⟩
      (λi hi _=>b1.tag n en i dZ hi (by rw[aO];rfl))
     rw[aN] at d1 d2;obtain⟨c1,c2⟩:=bh d1 hs (v:=undef) (bx.of (.bad _));refine⟨_,F',G,?_,c1,?_⟩
     ·simp[Instr.entryStore,MapKept.run_getObj_map hb,asInt,asIntOf,Cw,MapKept.run_setObj_map _ hb]
     rw[c2];exact b2.trans d2
    cases hs
   cases hs
  cases hs
 cases hs
end
end Pi
