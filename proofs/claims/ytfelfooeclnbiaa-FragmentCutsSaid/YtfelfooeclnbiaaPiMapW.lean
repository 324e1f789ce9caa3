/- The text PiMapW. -/
import Derived.Test.YtfelfooeclnbiaaPiMk
namespace Pi
open Go
section
variable{Q:Program}{T:Tg}{F:Nat->Prop}{G:Nat->Value}{w:World}{a:Act}{s:S}
theorem pN(h:ar Q T F G w a s){dst:Option Nat}{t:TypeId}{s':S}(hs:ec Q s dst t=some s'):
  ∃v w' G',(Instr.makeMap t none).run Q w= .ok v w'/\ar Q T F G' w' (a.put dst v) s'/\Ext (Own G s.rg) (Own G' s'.rg) F F w w':=by
 unfold ec at hs;split at hs
 next kt e mR=>
  split at hs
  next s1 v hn=>
   have bH: ∀b,b<w.heap.size->(w.alloc (.map #[] 0)).heap[b]?=w.heap[b]?:=λb hb=>heap_alloc_old w _ b hb;obtain⟨b1,b2,b3,b4⟩:=eE h hn (g1:= .map (some w.heap.size)) (w':=w.alloc (.map #[] 0)) bH (by simp) rfl rfl rfl (λb hb=>by simp[aD,au] at hb;omega)
    ⟨w.heap.size, #[],0,ax _ _ _,heap_alloc_new w _,⟨[],rfl,rfl,by simp,by simp,by simp,by simp,by simp⟩,λhl=>by cases hl⟩
   obtain⟨c1,c2⟩:=a7 b1 hs (v:= .map (some w.heap.size)) (bj.of (.mp (site dst) v _ rfl ⟨_,b4,zag _,λ_ _=>(ax _ _ _).symm⟩));refine⟨.map (some w.heap.size),_,_,by rfl,c1,?_⟩;rw[c2];exact b2
  cases hs
 cases hs
theorem pO(h:ar Q T F G w a s){dst:Option Nat}{t:TypeId}{s':S}(hs:ei Q s dst t=some s'):
  ∃v w' G',(Instr.makeMap t none).run Q w= .ok v w'/\ar Q T F G' w' (a.put dst v) s'/\Ext (Own G s.rg) (Own G' s'.rg) F F w w':=by
 unfold ei at hs;split at hs
 next kt e mR=>
  split at hs
  next s1 v hn=>
   have bH: ∀b,b<w.heap.size->(w.alloc (.map #[] 0)).heap[b]?=w.heap[b]?:=λb hb=>heap_alloc_old w _ b hb;obtain⟨b1,b2,b3,b4⟩:=eE h hn (g1:= .map (some w.heap.size)) (w':=w.alloc (.map #[] 0)) bH (by simp) rfl rfl rfl (λb hb=>by simp[aD,au] at hb;omega)
    ⟨w.heap.size, #[],0,ax _ _ _,heap_alloc_new w _,rfl,by simp,by simp,by simp,by simp⟩
   obtain⟨c1,c2⟩:=a7 b1 hs (v:= .map (some w.heap.size)) (bj.of (.mp (site dst) v _ rfl ⟨_,b4,zag _,λ_ _=>(ax _ _ _).symm⟩));refine⟨.map (some w.heap.size),_,_,by rfl,c1,?_⟩;rw[c2];exact b2
  cases hs
 cases hs
theorem jB(h:ar Q T F G w a s){n aw:Nat}{v:Value}{kt:Nat}{ks zT:List (D×P)}(hv:ao F w G s.rg v (.mp n aw))(ho:s.obj n aw=some (.cb kt ks)){b:Nat}(hG:G n= .map (some b)){es':Array MapEntry}{clock':Nat}
  (hM:pr Q F w G s.rg kt zT es'.toList clock') {dst:Option Nat} {s':S} (hs:(s.setObj n (.cb kt zT)).put dst .bad=some s') (u:Value):
  ar Q T F G {w with heap:=w.heap.setIfInBounds b (.map es' clock')} (a.put dst u) s'/\Ext (Own G s.rg) (Own G s'.rg) F F w {w with heap:=w.heap.setIfInBounds b (.map es' clock')}:=by
 obtain⟨en,dQ,pP,aN,_,b0,es,clock,CX,hb,_⟩:=pG h hv ho;rw[hG] at CX;cases CX;have cg:aD (G n) en.obj=some b:=by rw[aN,hG];rfl
 have bm:b<w.heap.size:=(zal.1 hb).1;have jt: ∀b0,b0≠b->(w.heap.setIfInBounds b (.map es' clock'))[b0]?=w.heap[b0]?:=λb0 bz=>zav (zaP bz);have lS:(w.heap.setIfInBounds b (.map es' clock'))[b]?=some (.map es' clock'):=by rw[zaN bm]
 have mJ:s.setObj n (.cb kt zT)={s with rg:=ins n ⟨en.aw,en.tag,.cb kt zT⟩ s.rg}:=by unfold S.setObj;rw[dQ]
 rw[mJ] at hs;have cD:fm G s.rg n ⟨en.aw,en.tag,.cb kt zT⟩ (G n):=λe' aW=>by rw[dQ] at aW;cases aW;exact .inr ⟨rfl,λ_=>⟨by rw[aN];rfl,rfl⟩⟩
 have zU:=cd cD;rw[aH] at zU;have rj: ∀b0,F b0->b0≠b:=λb0 hf e=>by subst e;exact h.hS n en b0 dQ cg hf
 obtain⟨d1,d2⟩:=h.gk (n:=n) (e1:=⟨en.aw,en.tag,.cb kt zT⟩) (g1:=G n) (w':={w with heap:=w.heap.setIfInBounds b (.map es' clock')}) cD
  (λb0 _ dH=>jt b0 λe=>dH ⟨en,dQ,by rw[e];exact cg⟩) (by simp) rfl rfl rfl
  (λb0 re=> .inr ⟨en,dQ,by rw[aN];exact re⟩)
  ⟨b,es',clock',by rw[aH];exact hG,lS,by rw[aH];exact hM.mono (λ_ h=>h) (λb0 hf=>jt b0 (rj b0 hf)) zU⟩
  (λi hi _=>h.tag n en i dQ hi (by rw[aN];rfl))
 rw[aH] at d1 d2;obtain⟨c1,c2⟩:=a7 d1 hs (v:=u) (bj.of (.bad _));refine⟨c1,?_⟩;rw[c2];exact d2
theorem rk(h:ar Q T F G w a s){dst:Option Nat}{t:TypeId}{p k x:P}{s':S}(hs:du Q s dst t p k x=some s'){vm vk vx:Value}(hm:ao F w G s.rg vm p)(hk:ao F w G s.rg vk k)(hx:ao F w G s.rg vx x):
  ∃w',(Instr.mapUpdate t vm vk vx).run Q w= .ok () w'/\ar Q T F G w' (a.put dst undef) s'/\Ext (Own G s.rg) (Own G s'.rg) F F w w':=by
 unfold du at hs;split at hs
 next kt e n aw kd mR=>
  have dW:=bZ mR;split at hs
  next w8 ks ho=>
   split at hs
   ·rename_i hc;simp only[zad] at hc;obtain⟨⟨ki,q8⟩,aO⟩:=hc;have ki:=zac ki;subst ki;obtain⟨sb,ou,⟨kv,ix,iQ⟩⟩:=aM q8;have eO:vk=kv:=hk.aV (p:= .d kd) ix;subst eO;obtain⟨en,dQ,pP,aN,iy,b,es,clock,hG,hb,hM⟩:=pG h hm ho;rw[hG] at iy;subst iy;obtain⟨ck,fa⟩:=iQ false;have fa:=aS fa w;obtain⟨r,hr,lj⟩:=hM.look q8 ix x;obtain⟨h1,h3,h4,h6,h7⟩:=hM;rcases lj with⟨rfl,dH,_,hu,_⟩| ⟨i,q,sw,rfl,hi,he,xj,_,zV,_,hu,_⟩
    ·rw[hu] at hs;obtain⟨e1,e2⟩:=jB h hm ho hG (es':=es.push {key:=vk,val:=vx,born:=clock}) (clock':=clock+1) (by
      refine⟨by simp[h1],λj p e hp he=> ?_,?_,λe he=> ?_,?_⟩
      ·rw[zbN] at he;rw[List.getElem?_append] at hp he;split at hp
       ·rw[zax (by omega)] at he;exact h3 j p e hp he
       rw[zaB (by omega)] at he;have e0:j-es.toList.length=j-ks.length:=by omega
       rw[e0] at he;cases hj:j-ks.length with
       |zero=>rw[hj] at hp he;simp only[zca,zae] at hp he;subst hp he;exact⟨q8,ix,hx⟩
       |succ m=>rw[hj] at hp;simp at hp
      ·rw[zbg,zbO];refine⟨h4,by simp,λa ha c hc=> ?_⟩;simp only[zaZ,List.map_nil,zbL] at hc;obtain⟨q,hq,rfl⟩:=zbo.1 ha;rw[hc];exact dH q hq
      ·rw[zbN] at he;rcases zaY.1 he with he |he
       ·have:=h6 e he;omega
       rw[zbL.1 he];exact Nat.lt_succ_self _
      rw[zbN,zbg,zbO];refine⟨h7,by simp,λa ha c hc=> ?_⟩;simp only[zaZ,List.map_nil,zbL] at hc;obtain⟨q,hq,rfl⟩:=zbo.1 ha;have:=h6 q hq;omega) hs undef
     refine⟨_,?_,e1,e2⟩;simp[Instr.mapUpdate,run_underlying dW,MapKept.run_getObj_map hb,fa,hr,MapKept.run_setObj_map _ hb]
    have lq:es[i]?=some sw:=by simpa using he
    have vE:es.modify i (λe=>{e with key:=vk,val:=vx})=es.setIfInBounds i {sw with key:=vk,val:=vx}:=by grind
    rw[hu] at hs;obtain⟨e1,e2⟩:=jB h hm ho hG (es':=es.modify i λe=>{e with key:=vk,val:=vx}) (clock':=clock) (by
     rw[vE,Array.toList_setIfInBounds];refine⟨by simp[h1],λj p e hp he=> ?_,?_,λe he=> ?_,?_⟩
     ·rw[List.getElem?_set] at hp he;split at hp
      ·rename_i iA;subst iA;rw[zax rfl] at he;split at hp
       ·rw[zax (by omega)] at he;cases hp;cases he;exact⟨q8,ix,hx⟩
       cases hp
      rename_i iA;rw[zaB iA] at he;exact h3 j p e hp he
     ·have:(ks.set i (kd,x)).map (·.1)=ks.map (·.1):=by apply za5;grind
      rw[this];exact h4
     ·grind
     have:(es.toList.set i {sw with key:=vk,val:=vx}).map (·.born)=es.toList.map (·.born):=by apply za5;grind
     rw[this];exact h7) hs undef
    refine⟨_,?_,e1,e2⟩;have gj:(Instr.keyThatStays vk vk).run Q w= .ok vk w:=by simp[Instr.keyThatStays,jP kd vk ou ix]
    simp[Instr.mapUpdate,run_underlying dW,MapKept.run_getObj_map hb,fa,hr,lq,xj,gj,MapKept.run_setObj_map _ hb]
   cases hs
  cases hs
 cases hs
theorem xl(h:ar Q T F G w a s){dst:Option Nat}{t:TypeId}{p k:P}{s':S}(hs:n5 Q s dst t p k=some s'){vm vk:Value}(hm:ao F w G s.rg vm p)(hk:ao F w G s.rg vk k)(CY:Array TypeId)(ht:CY[0]?=some t)(ty:TypeId):
  ∃w',(Builtin.delete_ CY ty #[vm,vk]).run Q w= .ok (.tuple #[]) w'/\ar Q T F G w' (a.put dst (.tuple #[])) s'/\Ext (Own G s.rg) (Own G s'.rg) F F w w':=by
 unfold n5 at hs;split at hs
 next kt e n aw kd mR=>
  have dW:=bZ mR;split at hs
  next w8 ks ho=>
   split at hs
   ·rename_i hc;simp only[zad] at hc;have ki:=zac hc.1;subst ki;obtain⟨sb,ou,⟨kv,ix,iQ⟩⟩:=aM hc.2;have eO:vk=kv:=hk.aV (p:= .d kd) ix;subst eO;obtain⟨en,dQ,pP,aN,iy,b,es,clock,hG,hb,hM⟩:=pG h hm ho;rw[hG] at iy;subst iy;obtain⟨ck,fa⟩:=iQ es.isEmpty;have fa:=aS fa w;obtain⟨r,hr,lj⟩:=hM.look hc.2 ix .bad;have zW:=hM;obtain⟨h1,h3,h4,h6,h7⟩:=hM;rcases lj with⟨rfl,dH,_,_,hd⟩| ⟨i,q,sw,rfl,hi,he,xj,_,zV,_,_,hd⟩
    ·rw[hd] at hs;obtain⟨e1,e2⟩:=jB h hm ho hG zW hs (.tuple #[]);refine⟨_,?_,e1,e2⟩;simp[Builtin.delete_,ht,run_underlying dW,MapKept.run_getObj_map hb,fa,hr,MapKept.run_setObj_map _ hb]
    have vF:i<es.size:=by have:=(zaa.1 he).1;simpa using this
    rw[hd] at hs;obtain⟨e1,e2⟩:=jB h hm ho hG (es':=es.eraseIdxIfInBounds i) (clock':=clock) (by
     have e0:(es.eraseIdxIfInBounds i).toList=es.toList.eraseIdx i:=by unfold Array.eraseIdxIfInBounds;rw[dif_pos vF,Array.toList_eraseIdx]
     rw[e0];refine⟨by rw[List.length_eraseIdx,List.length_eraseIdx,h1],λj p e hp he=> ?_,?_,λe he=>h6 e (List.mem_of_mem_eraseIdx he),?_⟩
     ·rw[List.getElem?_eraseIdx] at hp he;split at hp
      next hj=>rw[zax hj] at he;exact h3 j p e hp he
      rename_i hj;rw[zaB hj] at he;exact h3 _ p e hp he
     ·exact h4.sublist ((List.eraseIdx_sublist _ _).map _)
     exact h7.sublist ((List.eraseIdx_sublist _ _).map _)) hs (.tuple #[])
    refine⟨_,?_,e1,e2⟩;simp[Builtin.delete_,ht,run_underlying dW,MapKept.run_getObj_map hb,fa,hr,MapKept.run_setObj_map _ hb]
   cases hs
  cases hs
 cases hs
theorem nG{ks:List (D×D)}(hd:(ks.map (·.1)).Nodup){i j:Nat}{p q:D×D}(hi:ks[i]?=some p)(hj:ks[j]?=some q)(h:p.1=q.1):i=j:=by have hp:=za8.1 hd;grind
theorem gh.set{kt:TypeId}{get:D->Option D}{n:Int}{es:List MapEntry}{clock:Nat}(h:gh Q F w kt get n es clock){k y:D}{v:Value}(hk:bu Q kt k=true)(hv:k.aV=some v){x:Value}(hx:ay F w x y):
  (get k=none->gh Q F w kt (cA k y get) (n+1) (es++[{key:=v,val:=x,born:=clock}]) (clock+1))/\
  (∀i e,es[i]?=some e->e.key=v->get k≠none->gh Q F w kt (cA k y get) n (es.set i {e with key:=v,val:=x}) clock):=by
 obtain⟨ks,h1,h2,h3,h4,h5,h6,h7⟩:=h;constructor
 ·intro hg;have ET: ∀p∈ks,p.1≠k:=λp hp e=>by have:=(h5 p.1 p.2).2 hp;rw[e,hg] at this;cases this
  refine⟨ks++[(k,y)],by simp[h1],by simp[h2],λi p e hp he=> ?_,?_,λk' v'=> ?_,λe he=> ?_,?_⟩
  ·grind
  ·rw[zbg,zbO];grind
  ·grind [nz,sa]
  ·grind
  grind
 intro i e he xj hg;have hi:i<es.length:=(zaa.1 he).1;have B0:i<ks.length:=by omega
 obtain⟨p,hp⟩: ∃p,ks[i]?=some p:=⟨ks[i],zab B0⟩
 obtain⟨a1,a2,a3⟩:=h3 i p e hp he;have wK:p.1=k:=by
  obtain⟨y0,Bp⟩: ∃y0,get k=some y0:=by
   cases EU:get k with
   |none=>grind
   |some y0=>simp
  have hm:=(h5 k y0).1 Bp;obtain⟨j,hj,xn⟩:=zaL hm;obtain⟨ej,B1⟩: ∃ej,es[j]?=some ej:=⟨es[j]'(by omega),zab (by omega)⟩
  obtain⟨_,b2,_⟩:=h3 j (k,y0) ej (by rw[zab hj,xn]) B1;obtain⟨r,hr,lj⟩:=ju (aM hk).1 hv h1 (λi p e hp he=>⟨(aM (h3 i p e hp he).1).1,(h3 i p e hp he).2.1⟩) w;obtain⟨c,hc,fB⟩:=fk 20 kt p.1 k (aM a1).1 (aM hk).1;obtain⟨c',yf,DS⟩:=fk 20 kt k k (aM hk).1 (aM hk).1;have e1:=bO 20 10000 kt p.1 k c v v (by omega) hc (by rw[a2,xj]) hv;have e2:=bO 20 10000 kt k k c' v v (by omega) yf hv hv;rw[e1] at e2;grind
 refine⟨ks.set i (k,y),by simp[h1],by grind,λj q f hq hf=> ?_,?_,λk' v'=> ?_,λf hf=> ?_,?_⟩
 ·grind
 ·have:(ks.set i (k,y)).map (·.1)=ks.map (·.1):=by apply za5;grind
  rw[this];exact h4
 ·by_cases e:k=k'
  ·subst e;rw[nz];constructor
   ·intro e;cases e;exact zao (i:=i) (by rw[zbx B0])
   intro hm;obtain⟨j,hj⟩:=zar hm;by_cases iA:i=j
   ·subst iA;rw[zbx B0] at hj;cases hj;rfl
   rw[zbl iA] at hj;exact absurd (nG h4 hp hj wK) iA
  rw[sa _ _ e,h5];constructor
  ·intro hm;obtain⟨j,hj⟩:=zar hm;have iA:i≠j:=λiA=>by grind
   exact zao (i:=j) (by rw[zbl iA];exact hj)
  grind
 ·grind
 have:(es.set i {e with key:=v,val:=x}).map (·.born)=es.map (·.born):=by apply za5;grind
 rw[this];exact h7
theorem lT(h:ar Q T F G w a s){dst:Option Nat}{t:TypeId}{p k x:P}{s':S}(hs:dv Q s dst t p k x=some s'){vm vk vx:Value}(hm:ao F w G s.rg vm p)(hk:ao F w G s.rg vk k)(hx:ao F w G s.rg vx x):
  ∃w' F' G',(Instr.mapUpdate t vm vk vx).run Q w= .ok () w'/\ar Q T F' G' w' (a.put dst undef) s'/\Ext (Own G s.rg) (Own G' s'.rg) F F' w w':=by
 unfold dv at hs;split at hs
 next kt e n aw kd mR=>
  have dW:=bZ mR;split at hs
  next s1 y um=>
   obtain⟨F',b1,b2,b3,b4,b5⟩:=lp h um hx;split at hs
   ·rename_i w8 get c ho;split at hs
    ·rename_i hc;simp only[zad] at hc;have ki:=zac hc.1;subst ki;obtain⟨sb,ou,⟨kv,ix,iQ⟩⟩:=aM hc.2;have eO:vk=kv:=hk.aV (p:= .d kd) ix;subst eO;have s9:ao F' w G s1.rg vm (.mp n aw):=hm.mono b4 (λ_ _=>rfl) b3;obtain⟨en,dQ,pP,aN,iy,b,es,clock,hG,hb,hM⟩:=pF b1 s9 ho;rw[hG] at iy;subst iy;obtain⟨ck,fa⟩:=iQ false;have fa:=aS fa w;obtain⟨r,hr,lj⟩:=hM.look hc.2 ix;have xo:=hM.set hc.2 ix b5;have cg:aD (G n) en.obj=some b:=by rw[aN,hG];rfl
     have bm:b<w.heap.size:=(zal.1 hb).1;have fin: ∀(es':Array MapEntry) (clock':Nat),gh Q F' w kt (cA kd y get) (bif (get kd).isSome then c else c+1) es'.toList clock'->
       ∃zX G',ar Q T zX G' {w with heap:=w.heap.setIfInBounds b (.map es' clock')} (a.put dst undef) s'/\Ext (Own G s.rg) (Own G' s'.rg) F zX w {w with heap:=w.heap.setIfInBounds b (.map es' clock')}:=by
      intro es' clock' zW;have jt: ∀b0,b0≠b->(w.heap.setIfInBounds b (.map es' clock'))[b0]?=w.heap[b0]?:=λb0 bz=>zav (zaP bz);have lS:(w.heap.setIfInBounds b (.map es' clock'))[b]?=some (.map es' clock'):=by rw[zaN bm]
      have mJ:s1.setObj n (.map kt (cA kd y get) (bif (get kd).isSome then c else c+1) false)={s1 with rg:=ins n ⟨en.aw,en.tag,.map kt (cA kd y get) (bif (get kd).isSome then c else c+1) false⟩ s1.rg}:=by unfold S.setObj;rw[dQ]
      rw[mJ] at hs;have cD:fm G s1.rg n ⟨en.aw,en.tag,.map kt (cA kd y get) (bif (get kd).isSome then c else c+1) false⟩ (G n):=λe' aW=>by rw[dQ] at aW;cases aW;exact .inr ⟨rfl,λ_=>⟨by rw[aN];rfl,rfl⟩⟩
      have rj: ∀b0,F' b0->b0≠b:=λb0 hf e=>by subst e;exact b1.hS n en b0 dQ cg hf
      obtain⟨d1,d2⟩:=b1.gk (n:=n) (e1:=⟨en.aw,en.tag,.map kt (cA kd y get) (bif (get kd).isSome then c else c+1) false⟩) (g1:=G n) (w':={w with heap:=w.heap.setIfInBounds b (.map es' clock')}) cD
       (λb0 _ dH=>jt b0 λe=>by grind) (by simp) rfl rfl rfl
       (λb0 re=> .inr ⟨en,dQ,by have:aD (G n) (.map kt (cA kd y get) (bif (get kd).isSome then c else c+1) false)=some b0:=re;rw[aN];exact this⟩)
       ⟨b,es',clock',by rw[aH];exact hG,lS,zW.mono (λ_ h=>h) (λb0 hf=>jt b0 (rj b0 hf)),λhl=>by cases hl⟩
       (λi hi _=>b1.tag n en i dQ hi (by rw[aN];rfl))
      rw[aH] at d1 d2;obtain⟨c1,c2⟩:=a7 d1 hs (v:=undef) (bj.of (.bad _));refine⟨F',G,c1,?_⟩;rw[c2];exact b2.trans d2
     rcases lj with⟨rfl,hg⟩| ⟨i,sw,y0,rfl,hi,xj,hg,_⟩
     ·skip
      obtain⟨zX,G',e1,e2⟩:=fin (es.push {key:=vk,val:=vx,born:=clock}) (clock+1) (by grind);refine⟨_,zX,G',?_,e1,e2⟩;simp[Instr.mapUpdate,run_underlying dW,MapKept.run_getObj_map hb,fa,hr,MapKept.run_setObj_map _ hb]
     skip
     have lq:es[i]?=some sw:=by grind
     have vE:es.modify i (λe=>{e with key:=vk,val:=vx})=es.setIfInBounds i {sw with key:=vk,val:=vx}:=by grind
     obtain⟨zX,G',e1,e2⟩:=fin (es.modify i λe=>{e with key:=vk,val:=vx}) clock (by grind);refine⟨_,zX,G',?_,e1,e2⟩;have gj:(Instr.keyThatStays vk vk).run Q w= .ok vk w:=by simp[Instr.keyThatStays,jP kd vk ou ix]
     simp[Instr.mapUpdate,run_underlying dW,MapKept.run_getObj_map hb,fa,hr,lq,xj,gj,MapKept.run_setObj_map _ hb]
    cases hs
   cases hs
  cases hs
 cases hs
theorem rl(h:ar Q T F G w a s){dst:Option Nat}{t:TypeId}{p k:P}{s':S}(hs:dw Q s dst t p k=some s'){vm vk:Value}(hm:ao F w G s.rg vm p)(hk:ao F w G s.rg vk k):
  ∃v w' F' G',(Instr.mapEntry t vm vk).run Q w= .ok v w'/\ar Q T F' G' w' (a.put dst v) s'/\Ext (Own G s.rg) (Own G' s'.rg) F F' w w':=by
 unfold dw at hs;split at hs
 next kt e n aw kd mR=>
  have dW:=bZ mR;split at hs
  next z hz=>
   obtain⟨zv,mI,ph⟩:=gI (F:=F) hz w;split at hs
   ·rename_i w8 get c ho;split at hs
    ·rename_i hc;simp only[zad,zaX] at hc;obtain⟨⟨ki,q8⟩,qG⟩:=hc;have ki:=zac ki;subst ki;have qG:n≠site dst:=λe=>by rw[e,Nat.beq_refl] at qG;cases qG
     split at hs
     ·rename_i s1 v1 hn;obtain⟨sb,ou,⟨kv,ix,iQ⟩⟩:=aM q8;have eO:vk=kv:=hk.aV (p:= .d kd) ix;subst eO;obtain⟨en,dQ,pP,aN,iy,b,es,clock,hG,hb,hM⟩:=pF h hm ho;rw[hG] at iy;subst iy;obtain⟨ck,fa⟩:=iQ false;have fa:=aS fa w;obtain⟨r,hr,lj⟩:=hM.look q8 ix;have bm:b<w.heap.size:=(zal.1 hb).1;have fin: ∀(es':Array MapEntry) (clock':Nat) (i0:Nat) (e0:MapEntry) (val:Value),gh Q F w kt (cA kd (iI (get kd) z) get) (bif (get kd).isSome then c else c+1) es'.toList clock'->es'[i0]?=some e0->e0.key=vk->ay F w val (iI (get kd) z)->
        ∃F' G',ar Q T F' G' {w with heap:=w.heap.setIfInBounds b (.map es' clock')} (a.put dst (.tuple #[val,.int .i64 (e0.born:Int)])) s'/\Ext (Own G s.rg) (Own G' s'.rg) F F' w {w with heap:=w.heap.setIfInBounds b (.map es' clock')}:=by
       intro es' clock' i0 e0 val zW yS B2 hval;obtain⟨b1,b2,b3,b4⟩:=eE h hn (g1:= .int .i64 (e0.born:Int)) (w':=w) (λ_ _=>rfl) (zag _) rfl rfl rfl (λb hb=>by simp[aD] at hb) trivial;obtain⟨mJ,_⟩:=S.eD hn;have Bq:gk G (site dst) (.int .i64 (e0.born:Int)) n=G n:=bQ _ qG;have rm:lk s1.rg n=some en:=by grind [aQ]
       have CZ:gk G (site dst) (.int .i64 (e0.born:Int)) (site dst)= .int .i64 (e0.born:Int):=ax _ _ _;generalize gk G (site dst) (.int .i64 (e0.born:Int))=G1 at b1 b2 b3 Bq CZ;have ko:G1 n= .map (some b):=Bq.trans hG;have Ar:aD (G1 n) en.obj=some b:=by rw[aN,ko];rfl
       have jt: ∀b0,b0≠b->(w.heap.setIfInBounds b (.map es' clock'))[b0]?=w.heap[b0]?:=λb0 bz=>zav (zaP bz);have lS:(w.heap.setIfInBounds b (.map es' clock'))[b]?=some (.map es' clock'):=by rw[zaN bm]
       have xo:s1.setObj n (.dS kt (cA kd (iI (get kd) z) get) (bif (get kd).isSome then c else c+1) (.mp (site dst) v1) kd)={s1 with rg:=ins n ⟨en.aw,en.tag,.dS kt (cA kd (iI (get kd) z) get) (bif (get kd).isSome then c else c+1) (.mp (site dst) v1) kd⟩ s1.rg}:=by unfold S.setObj;rw[rm]
       rw[xo] at hs;have rj: ∀b0,F b0->b0≠b:=λb0 hf e=>by subst e;exact b1.hS n en b0 rm Ar hf
       have gj: ∀(w1:World),ao F w1 G1 (ins n ⟨en.aw,en.tag,.dS kt (cA kd (iI (get kd) z) get) (bif (get kd).isSome then c else c+1) (.mp (site dst) v1) kd⟩ s1.rg) (.int .i64 (e0.born:Int)) (.mp (site dst) v1):=λw1=>
        .mp _ _ _ rfl ⟨_,(aQ _ _ qG).trans b4,zag _,λ_ _=>CZ.symm⟩
       obtain⟨d1,d2⟩:=b1.gk (n:=n) (e1:=⟨en.aw,en.tag,.dS kt (cA kd (iI (get kd) z) get) (bif (get kd).isSome then c else c+1) (.mp (site dst) v1) kd⟩) (g1:=G1 n) (w':={w with heap:=w.heap.setIfInBounds b (.map es' clock')}) (λe' aW=>by
         rw[rm] at aW;cases aW;exact .inr ⟨rfl,λ_=>⟨by rw[aN];rfl,rfl⟩⟩)
        (λb0 _ dH=>jt b0 λe=>by grind) (by simp) rfl rfl rfl
        (λb0 re=> .inr ⟨en,rm,by have:aD (G1 n) (.dS kt (cA kd (iI (get kd) z) get) (bif (get kd).isSome then c else c+1) (.mp (site dst) v1) kd)=some b0:=re;rw[aN];exact this⟩)
        ⟨b,es',clock',by rw[aH];exact ko,lS,zW.mono (λ_ h=>h) (λb0 hf=>jt b0 (rj b0 hf)),i0,e0,yS,by rw[aH];exact gj _,by rw[B2];exact ix,by grind [cA,D.dB]⟩
        (λi hi _=>b1.tag n en i rm hi (by rw[aN];rfl))
       rw[aH] at d1 d2;obtain⟨c1,c2⟩:=a7 d1 hs (v:= .tuple #[val,.int .i64 (e0.born:Int)]) (bj.of (.dR [val,.int .i64 (e0.born:Int)] _ rfl (λj v c hv hc=>by
        match j with
        |0=>simp at hv hc;subst hc;exact .bad _
        |1=>grind
        |j+2=>simp at hv)))
       refine⟨F,G1,c1,?_⟩;rw[c2];exact b2.trans d2
      rcases lj with⟨rfl,hg⟩| ⟨i,sw,y0,rfl,hi,xj,hg,Bp⟩
      ·have:=(hM.set q8 ix ph).1 hg;obtain⟨F',G',e1,e2⟩:=fin (es.push {key:=vk,val:=zv,born:=clock}) (clock+1) es.size _ zv (by rw[hg];simpa [iI] using this) (by simp;rfl) rfl (by rw[hg];exact ph);refine⟨_,_,F',G',?_,e1,e2⟩;simp[Instr.mapEntry,run_underlying dW,MapKept.run_getObj_map hb,fa,hr,mI,MapKept.run_setObj_map _ hb,goInt]
      have lq:es[i]?=some sw:=by grind
      have:=(hM.set q8 ix Bp).2 i sw hi xj (by rw[hg];simp);have vE:es.modify i (λe=>{e with key:=vk})=es.setIfInBounds i {sw with key:=vk,val:=sw.val}:=by grind
      obtain⟨F',G',e1,e2⟩:=fin (es.modify i λe=>{e with key:=vk}) clock i {sw with key:=vk} sw.val (by rw[hg,vE];simpa [iI] using this) (by rw[zaV];simp[lq]) rfl (by rw[hg];exact Bp);refine⟨_,_,F',G',?_,e1,e2⟩;have gj:(Instr.keyThatStays vk vk).run Q w= .ok vk w:=by simp[Instr.keyThatStays,jP kd vk ou ix]
      simp[Instr.mapEntry,run_underlying dW,MapKept.run_getObj_map hb,fa,hr,lq,xj,gj,MapKept.run_setObj_map _ hb,goInt]
     cases hs
    cases hs
   cases hs
  cases hs
 cases hs
theorem tp(h:ar Q T F G w a s){dst:Option Nat}{t:TypeId}{p st x:P}{s':S}(hs:gx Q s dst p st x=some s'){vm vs vx:Value}(hm:ao F w G s.rg vm p)(gj:ao F w G s.rg vs st)(hx:ao F w G s.rg vx x):
  ∃w' F' G',(Instr.entryStore t vm vs vx).run Q w= .ok () w'/\ar Q T F' G' w' (a.put dst undef) s'/\Ext (Own G s.rg) (Own G' s'.rg) F F' w w':=by
 unfold gx at hs;split at hs
 next n aw m Be=>
  split at hs
  next s1 y um=>
   obtain⟨F',b1,b2,b3,b4,b5⟩:=vi h um hx;split at hs
   ·rename_i kt get c m2 EV kd ho vf;split at hs
    ·rename_i hc;simp only[zad] at hc;obtain⟨⟨e1,e2⟩,q8⟩:=hc;have e1:=zac e1;have e2:=zac e2;subst e1;subst e2;have s9:ao F' w G s1.rg vm (.mp n aw):=hm.mono b4 (λ_ _=>rfl) b3;have B3:ao F' w G s1.rg vs (.mp m Be):=gj.mono b4 (λ_ _=>rfl) b3;obtain⟨en,dQ,pP,aN,iy,b,es,clock,hG,hb,hM,i,e0,hi,As,DT,yg⟩:=u6 b1 s9 ho;rw[hG] at iy;subst iy;obtain⟨Br,B4,B5,B6⟩:=S.aJ vf;have num: ∀v,ao F' w G s1.rg v (.mp m Be)->v=G m:=λv hv=>by
      cases hv with
      |mp _ _ _ _ hr=>obtain⟨e',aW,hle,hc⟩:=hr;rw[B4] at aW;cases aW;exact hc B5.symm (by rw[B6];rfl)
     have q5:vs= .int .i64 (e0.born:Int):=(num _ B3).trans (num _ As).symm;subst q5;have vF:i<es.size:=(zal.1 hi).1;obtain⟨ks,h1,h2,h3,h4,h5,h6,h7⟩:=id hM;have Au:es.findIdx? (λe=>(e.born:Int)==(e0.born:Int))=some i:=by rw[Array.findIdx?_eq_some_iff_getElem];have DU:es[i]=e0:=(zal.1 hi).2;refine⟨vF,by rw[DU];simp,λj hj=> ?_⟩;grind [List.pairwise_iff_getElem]
     have xo:=hM.set q8 DT b5;have DV:get kd≠none:=λe=>by rw[e] at yg;cases yg
     have zW:=xo.2 i e0 (by grind) rfl DV;have cg:aD (G n) en.obj=some b:=by rw[aN,hG];rfl
     have bm:b<w.heap.size:=(zal.1 hb).1;have vE:es.modify i (λe=>{e with val:=vx})=es.setIfInBounds i {e0 with key:=e0.key,val:=vx}:=by grind
     have DW:gh Q F' w kt (cA kd y get) c (es.modify i λe=>{e with val:=vx}).toList clock:=by grind
     have jt: ∀b0,b0≠b->(w.heap.setIfInBounds b (.map (es.modify i λe=>{e with val:=vx}) clock))[b0]?=w.heap[b0]?:=λb0 bz=>zav (zaP bz);have lS:(w.heap.setIfInBounds b (.map (es.modify i λe=>{e with val:=vx}) clock))[b]?=some (.map (es.modify i λe=>{e with val:=vx}) clock):=by rw[zaN bm]
     have mJ:s1.setObj n (.map kt (cA kd y get) c false)={s1 with rg:=ins n ⟨en.aw,en.tag,.map kt (cA kd y get) c false⟩ s1.rg}:=by unfold S.setObj;rw[dQ]
     rw[mJ] at hs;have rj: ∀b0,F' b0->b0≠b:=λb0 hf e=>by subst e;exact b1.hS n en b0 dQ cg hf
     obtain⟨d1,d2⟩:=b1.gk (n:=n) (e1:=⟨en.aw,en.tag,.map kt (cA kd y get) c false⟩) (g1:=G n) (w':={w with heap:=w.heap.setIfInBounds b (.map (es.modify i λe=>{e with val:=vx}) clock)}) (λe' aW=>by
       rw[dQ] at aW;cases aW;exact .inr ⟨rfl,λ_=>⟨by rw[aN];rfl,rfl⟩⟩)
      (λb0 _ dH=>jt b0 λe=>by grind) (by simp) rfl rfl rfl
      (λb0 re=> .inr ⟨en,dQ,by have:aD (G n) (.map kt (cA kd y get) c false)=some b0:=re;rw[aN];exact this⟩)
      ⟨b,_,clock,by rw[aH];exact hG,lS,DW.mono (λ_ h=>h) (λb0 hf=>jt b0 (rj b0 hf)),λhl=>by cases hl⟩
      (λi hi _=>b1.tag n en i dQ hi (by rw[aN];rfl))
     rw[aH] at d1 d2;obtain⟨c1,c2⟩:=a7 d1 hs (v:=undef) (bj.of (.bad _));refine⟨_,F',G,?_,c1,?_⟩
     ·simp[Instr.entryStore,MapKept.run_getObj_map hb,asInt,asIntOf,Au,MapKept.run_setObj_map _ hb]
     rw[c2];exact b2.trans d2
    cases hs
   cases hs
  cases hs
 cases hs
end
end Pi
