/- The text PiMapW. -/
import Derived.Test.YtpiohccneeblhaaPiMk
namespace Pi
open Go
section
variable{Q:Program}{T:Tg}{F:Nat->Prop}{G:Nat->Value}{w:World}{a:Act}{s:S}
theorem vC(h:aq Q T F G w a s){dst:Option Nat}{t:TypeId}{s':S}(hs:gx Q s dst t=some s'):
  ∃v w' G',(Instr.makeMap t none).run Q w= .ok v w'/\aq Q T F G' w' (a.put dst v) s'/\Ext (Own G s.rg) (Own G' s'.rg) F F w w':=by
 unfold gx at hs;split at hs
 next kt e rn=>
  split at hs
  next s1 v hn=>
   have bW: ∀b,b<w.heap.size->(w.alloc (.map #[] 0)).heap[b]?=w.heap[b]?:=λb hb=>heap_alloc_old w _ b hb;obtain⟨b1,b2,b3,b4⟩:=gP h hn (g1:= .map (some w.heap.size)) (w':=w.alloc (.map #[] 0)) bW (by simp) rfl rfl rfl (λb hb=>by simp[ax,aj] at hb;omega)
    ⟨w.heap.size, #[],0,aB _ _ _,heap_alloc_new w _,⟨[],rfl,rfl,by simp,by simp,by simp,by simp,by simp⟩,λhl=>by cases hl⟩
   obtain⟨c1,c2⟩:=bf b1 hs (v:= .map (some w.heap.size)) (br.of (.mp (site dst) v _ rfl ⟨_,b4,zae _,λ_ _=>(aB _ _ _).symm⟩));refine⟨.map (some w.heap.size),_,_,by rfl,c1,?_⟩;rw[c2];exact b2
  cases hs
 cases hs
theorem vD(h:aq Q T F G w a s){dst:Option Nat}{t:TypeId}{s':S}(hs:gy Q s dst t=some s'):
  ∃v w' G',(Instr.makeMap t none).run Q w= .ok v w'/\aq Q T F G' w' (a.put dst v) s'/\Ext (Own G s.rg) (Own G' s'.rg) F F w w':=by
 unfold gy at hs;split at hs
 next kt e rn=>
  split at hs
  next s1 v hn=>
   have bW: ∀b,b<w.heap.size->(w.alloc (.map #[] 0)).heap[b]?=w.heap[b]?:=λb hb=>heap_alloc_old w _ b hb;obtain⟨b1,b2,b3,b4⟩:=gP h hn (g1:= .map (some w.heap.size)) (w':=w.alloc (.map #[] 0)) bW (by simp) rfl rfl rfl (λb hb=>by simp[ax,aj] at hb;omega)
    ⟨w.heap.size, #[],0,aB _ _ _,heap_alloc_new w _,[],⟨rfl,by simp,by simp,by simp,by simp⟩,rfl,λ_=>rfl⟩
   obtain⟨c1,c2⟩:=bf b1 hs (v:= .map (some w.heap.size)) (br.of (.mp (site dst) v _ rfl ⟨_,b4,zae _,λ_ _=>(aB _ _ _).symm⟩));refine⟨.map (some w.heap.size),_,_,by rfl,c1,?_⟩;rw[c2];exact b2
  cases hs
 cases hs
theorem vE(h:aq Q T F G w a s){n ay:Nat}{v:Value}{kt:Nat}{vals sf:D->Option Value}{c c':Int}{hand sg:Option (D×P)}(hv:ao F w G s.rg v (.mp n ay))(ho:s.obj n ay=some (.bQ kt vals c hand)){b:Nat}(hG:G n= .map (some b)){es':Array MapEntry}{clock':Nat}
  (hM:MQ Q F w G s.rg kt sf c' sg es'.toList clock') {dst:Option Nat} {s':S} (hs:(s.setObj n (.bQ kt sf c' sg)).put dst .bad=some s') (u:Value):
  aq Q T F G {w with heap:=w.heap.setIfInBounds b (.map es' clock')} (a.put dst u) s'/\Ext (Own G s.rg) (Own G s'.rg) F F w {w with heap:=w.heap.setIfInBounds b (.map es' clock')}:=by
 obtain⟨en,eO,vF,aP,_,b0,es,clock,Jf,hb,_⟩:=vp h hv ho;rw[hG] at Jf;cases Jf;have cz:ax (G n) en.obj b:=by rw[aP,hG];simp[ax,aj]
 have bj:b<w.heap.size:=(zap.1 hb).1;have je: ∀b0,b0≠b->(w.heap.setIfInBounds b (.map es' clock'))[b0]?=w.heap[b0]?:=λb0 b9=>zaD (za4 b9);have mC:(w.heap.setIfInBounds b (.map es' clock'))[b]?=some (.map es' clock'):=by rw[zaW bj]
 have mD:s.setObj n (.bQ kt sf c' sg)={s with rg:=ins n ⟨en.ay,en.tag,.bQ kt sf c' sg⟩ s.rg}:=by unfold S.setObj;rw[eO]
 rw[mD] at hs;have bV:jK G s.rg n ⟨en.ay,en.tag,.bQ kt sf c' sg⟩ (G n):=λe' bc=>by rw[eO] at bc;cases bc;exact .inr ⟨rfl,λ_=>⟨by rw[aP];rfl,rfl⟩⟩
 have yV:=cI bV;rw[aJ] at yV;have pR: ∀b0,F b0->b0≠b:=λb0 hf e=>by subst e;exact h.gG n en b0 eO cz hf
 obtain⟨d1,d2⟩:=h.iG (n:=n) (e1:=⟨en.ay,en.tag,.bQ kt sf c' sg⟩) (g1:=G n) (w':={w with heap:=w.heap.setIfInBounds b (.map es' clock')}) bV
  (λb0 _ bg=>je b0 λe=>bg ⟨en,eO,by rw[e];exact cz⟩) (by simp) rfl rfl rfl
  (λb0 tH=> .inr ⟨en,eO,by rw[aP];exact tH⟩)
  ⟨b,es',clock',by rw[aJ];exact hG,mC,by rw[aJ];exact hM.mono (λ_ h=>h) (λb0 hf=>je b0 (pR b0 hf)) yV⟩
  (λi hi _=>h.tag n en i eO hi (by rw[aP];rfl))
 rw[aJ] at d1 d2;obtain⟨c1,c2⟩:=bf d1 hs (v:=u) (br.of (.bad _));refine⟨c1,?_⟩;rw[c2];exact d2
theorem xN(h:aq Q T F G w a s){dst:Option Nat}{t:TypeId}{p k x:P}{s':S}(hs:fp Q s dst t p k x=some s'){vm vk vx:Value}(hm:ao F w G s.rg vm p)(hk:ao F w G s.rg vk k)(hx:ao F w G s.rg vx x):
  ∃w',(Instr.mapUpdate t vm vk vx).run Q w= .ok () w'/\aq Q T F G w' (a.put dst undef) s'/\Ext (Own G s.rg) (Own G s'.rg) F F w w':=by
 unfold fp at hs;split at hs
 next kt e n ay kd rn=>
  have gb:=dp rn;split at hs
  next Er vals c ho=>
   split at hs
   ·rename_i hc;simp only[zad] at hc;obtain⟨⟨⟨nG,yH⟩,aW⟩,Jg⟩:=hc;have nG:=zab nG;subst nG;obtain⟨BZ,vj,⟨kv,ll,lP⟩⟩:=aS yH;have ig:vk=kv:=hk.bq (p:= .d kd) ll;subst ig;obtain⟨en,eO,vF,aP,lD,b,es,clock,hG,hb,ks,hM,L1,B2⟩:=vp h hm ho;rw[hG] at lD;subst lD;obtain⟨ck,iQ⟩:=lP false;have iQ:=bn iQ w;obtain⟨r,hr,oS⟩:=hM.look yH ll x;obtain⟨h1,h3,h4,h6,h7⟩:=hM;have Jh:eG kd ks=none:=by rw[B2 kd];unfold zF;rw[zcv.1 Jg];rfl
    rcases oS with⟨rfl,bg,_,hu,_⟩| ⟨i,q,Cq,rfl,hi,he,F5,_,OR,GW,hu,_⟩
    ·obtain⟨e1,e2⟩:=vE h hm ho hG (es':=es.push {key:=vk,val:=vx,born:=clock}) (clock':=clock+1) (by
      refine⟨me kd x ks,?_,by rw[hu,L1];simp,λk=> ?_⟩
      ·rw[hu];refine⟨by simp[h1],λj p e hp he=> ?_,?_,λe he=> ?_,?_⟩
       ·rw[zcn] at he;rw[List.getElem?_append] at hp he;split at hp
        ·rw[zat (by omega)] at he;exact h3 j p e hp he
        rw[zaC (by omega)] at he;have e0:j-es.toList.length=j-ks.length:=by omega
        rw[e0] at he;cases hj:j-ks.length with
        |zero=>rw[hj] at hp he;simp only[zb0,zaf] at hp he;subst hp he;exact⟨yH,ll,hx⟩
        |succ m=>rw[hj] at hp;simp at hp
       ·rw[zaZ,za8];refine⟨h4,by simp,λa ha c hc=> ?_⟩;simp only[zaO,zbT,zaL] at hc;obtain⟨q,hq,rfl⟩:=zaQ.1 ha;rw[hc];exact bg q hq
       ·rw[zcn] at he;rcases zaH.1 he with he |he
        ·have:=h6 e he;omega
        rw[zaL.1 he];exact Nat.lt_succ_self _
       rw[zcn,zaZ,za8];refine⟨h7,by simp,λa ha c hc=> ?_⟩;simp only[zaO,zbT,zaL] at hc;obtain⟨q,hq,rfl⟩:=zaQ.1 ha;have:=h6 q hq;omega
      rw[my,B2 k];rfl) hs undef
     refine⟨_,?_,e1,e2⟩;simp[Instr.mapUpdate,run_underlying gb,MapKept.run_getObj_map hb,iQ,hr,MapKept.run_setObj_map _ hb]
    rw[Jh] at GW;cases GW
   cases hs
  cases hs
 cases hs
theorem EF(h:aq Q T F G w a s){dst:Option Nat}{t:TypeId}{p k:P}{s':S}(hs:s8 Q s dst t p k=some s'){vm vk:Value}(hm:ao F w G s.rg vm p)(hk:ao F w G s.rg vk k)(NS:Array TypeId)(ht:NS[0]?=some t)(ty:TypeId):
  ∃w',(Builtin.delete_ NS ty #[vm,vk]).run Q w= .ok (.tuple #[]) w'/\aq Q T F G w' (a.put dst (.tuple #[])) s'/\Ext (Own G s.rg) (Own G s'.rg) F F w w':=by
 unfold s8 at hs;split at hs
 next kt e n ay kd rn=>
  have gb:=dp rn;split at hs
  next Er vals c k0 p0 ho=>
   split at hs
   ·rename_i hc;simp only[zad] at hc;have nG:=zab hc.1.1;subst nG;have je:=(D.aZ _ _).1 hc.2;subst je;obtain⟨BZ,vj,⟨kv,ll,lP⟩⟩:=aS hc.1.2;have ig:vk=kv:=hk.bq (p:= .d k0) ll;subst ig;obtain⟨en,eO,vF,aP,lD,b,es,clock,hG,hb,ks,hM,L1,B2⟩:=vp h hm ho;rw[hG] at lD;subst lD;obtain⟨ck,iQ⟩:=lP es.isEmpty;have iQ:=bn iQ w;obtain⟨r,hr,oS⟩:=hM.look hc.1.2 ll .bad;obtain⟨h1,h3,h4,h6,h7⟩:=hM;have Jh:eG k0 ks=some p0:=by rw[B2 k0];unfold zF;simp only[(D.aZ k0 k0).2 rfl,zbp]
    rcases oS with⟨rfl,bg,GW,_,hd⟩| ⟨i,q,Cq,rfl,hi,he,F5,_,OR,_,_,hd⟩
    ·rw[Jh] at GW;cases GW
    have ik:i<es.size:=by have:=(zaa.1 he).1;simpa using this
    have F6:i<ks.length:=(zaa.1 hi).1;obtain⟨e1,e2⟩:=vE h hm ho hG (es':=es.eraseIdxIfInBounds i) (clock':=clock) (by
     have e0:(es.eraseIdxIfInBounds i).toList=es.toList.eraseIdx i:=by unfold Array.eraseIdxIfInBounds;rw[dif_pos ik,Array.toList_eraseIdx]
     refine⟨nf k0 ks,?_,by rw[hd,L1,zcd,zat F6];omega,λk=> ?_⟩
     ·rw[e0,hd];refine⟨by rw[zcd,zcd,h1],λj p e hp he=> ?_,?_,λe he=>h6 e (zaU he),?_⟩
      ·rw[List.getElem?_eraseIdx] at hp he;split at hp
       next hj=>rw[zat hj] at he;exact h3 j p e hp he
       rename_i hj;rw[zaC hj] at he;exact h3 _ p e hp he
      ·exact h4.sublist ((zbw _ _).map _)
      exact h7.sublist ((zbw _ _).map _)
     rw[vo ks h4,B2 k];show(bif D.cP k0 k then none else(bif D.cP k0 k then some p0 else(vals k).map P.raw))=(bif D.cP k0 k then none else vals k).map P.raw;cases D.cP k0 k<;>rfl) hs (.tuple #[])
    refine⟨_,?_,e1,e2⟩;simp[Builtin.delete_,ht,run_underlying gb,MapKept.run_getObj_map hb,iQ,hr,MapKept.run_setObj_map _ hb]
   cases hs
  cases hs
 cases hs
theorem sj{ks:List (D×D)}(hd:(ks.map (·.1)).Nodup){i j:Nat}{p q:D×D}(hi:ks[i]?=some p)(hj:ks[j]?=some q)(h:p.1=q.1):i=j:=by have hp:=zbz.1 hd;grind
theorem fP.set{kt:TypeId}{get:D->Option D}{n:Int}{es:List MapEntry}{clock:Nat}(h:fP Q F w kt get n es clock){k y:D}{v:Value}(hk:cp Q kt k=true)(hv:k.bq=some v){x:Value}(hx:az F w x y):
  (get k=none->fP Q F w kt (dQ k y get) (n+1) (es++[{key:=v,val:=x,born:=clock}]) (clock+1))/\
  (∀i e,es[i]?=some e->e.key=v->get k≠none->fP Q F w kt (dQ k y get) n (es.set i {e with key:=v,val:=x}) clock):=by
 obtain⟨ks,h1,h2,h3,h4,h5,h6,h7⟩:=h;constructor
 ·intro hg;have Ql: ∀p∈ks,p.1≠k:=λp hp e=>by have:=(h5 p.1 p.2).2 hp;rw[e,hg] at this;cases this
  refine⟨ks++[(k,y)],by simp[h1],by simp[h2],λi p e hp he=> ?_,?_,λk' v'=> ?_,λe he=> ?_,?_⟩
  ·grind
  ·rw[zaZ,za8];grind
  ·grind [r8,yF]
  ·grind
  grind
 intro i e he F5 hg;have hi:i<es.length:=(zaa.1 he).1;have F6:i<ks.length:=by omega
 obtain⟨p,hp⟩: ∃p,ks[i]?=some p:=⟨ks[i],zac F6⟩
 obtain⟨a1,a2,a3⟩:=h3 i p e hp he;have DU:p.1=k:=by
  obtain⟨y0,Ig⟩: ∃y0,get k=some y0:=by
   cases Qm:get k with
   |none=>grind
   |some y0=>simp
  have hm:=(h5 k y0).1 Ig;obtain⟨j,hj,EG⟩:=zaM hm;obtain⟨ej,OS⟩: ∃ej,es[j]?=some ej:=⟨es[j]'(by omega),zac (by omega)⟩
  obtain⟨_,b2,_⟩:=h3 j (k,y0) ej (by rw[zac hj,EG]) OS;obtain⟨r,hr,oS⟩:=mx (aS hk).1 hv h1 (λi p e hp he=>⟨(aS (h3 i p e hp he).1).1,(h3 i p e hp he).2.1⟩) w;obtain⟨c,hc,fO⟩:=iP 20 kt p.1 k (aS a1).1 (aS hk).1;obtain⟨c',tN,OT⟩:=iP 20 kt k k (aS hk).1 (aS hk).1;have e1:=cV 20 10000 kt p.1 k c v v (by omega) hc (by rw[a2,F5]) hv;have e2:=cV 20 10000 kt k k c' v v (by omega) tN hv hv;rw[e1] at e2;grind
 refine⟨ks.set i (k,y),by simp[h1],by grind,λj q f hq hf=> ?_,?_,λk' v'=> ?_,λf hf=> ?_,?_⟩
 ·grind
 ·have:(ks.set i (k,y)).map (·.1)=ks.map (·.1):=by apply za7;grind
  rw[this];exact h4
 ·by_cases e:k=k'
  ·subst e;rw[r8];constructor
   ·intro e;cases e;exact zak (i:=i) (by rw[zaF F6])
   intro hm;obtain⟨j,hj⟩:=zao hm;by_cases nb:i=j
   ·subst nb;rw[zaF F6] at hj;cases hj;rfl
   rw[zau nb] at hj;exact absurd (sj h4 hp hj DU) nb
  rw[yF _ _ e,h5];constructor
  ·intro hm;obtain⟨j,hj⟩:=zao hm;have nb:i≠j:=λnb=>by grind
   exact zak (i:=j) (by rw[zau nb];exact hj)
  grind
 ·grind
 have:(es.set i {e with key:=v,val:=x}).map (·.born)=es.map (·.born):=by apply za7;grind
 rw[this];exact h7
theorem pS(h:aq Q T F G w a s){dst:Option Nat}{t:TypeId}{p k x:P}{s':S}(hs:fq Q s dst t p k x=some s'){vm vk vx:Value}(hm:ao F w G s.rg vm p)(hk:ao F w G s.rg vk k)(hx:ao F w G s.rg vx x):
  ∃w' F' G',(Instr.mapUpdate t vm vk vx).run Q w= .ok () w'/\aq Q T F' G' w' (a.put dst undef) s'/\Ext (Own G s.rg) (Own G' s'.rg) F F' w w':=by
 unfold fq at hs;split at hs
 next kt e n ay kd rn=>
  have gb:=dp rn;split at hs
  next s1 y vA=>
   obtain⟨F',b1,b2,b3,b4,b5⟩:=oV h vA hx;split at hs
   ·rename_i Er get c ho;split at hs
    ·rename_i hc;simp only[zad] at hc;have nG:=zab hc.1;subst nG;obtain⟨BZ,vj,⟨kv,ll,lP⟩⟩:=aS hc.2;have ig:vk=kv:=hk.bq (p:= .d kd) ll;subst ig;have zV:ao F' w G s1.rg vm (.mp n ay):=hm.mono b4 (λ_ _=>rfl) b3;obtain⟨en,eO,vF,aP,lD,b,es,clock,hG,hb,hM⟩:=vn b1 zV ho;rw[hG] at lD;subst lD;obtain⟨ck,iQ⟩:=lP false;have iQ:=bn iQ w;obtain⟨r,hr,oS⟩:=hM.look hc.2 ll;have jr:=hM.set hc.2 ll b5;have cz:ax (G n) en.obj b:=by rw[aP,hG];simp[ax,aj]
     have bj:b<w.heap.size:=(zap.1 hb).1;have fin: ∀(es':Array MapEntry) (clock':Nat),fP Q F' w kt (dQ kd y get) (bif (get kd).isSome then c else c+1) es'.toList clock'->
       ∃Ih G',aq Q T Ih G' {w with heap:=w.heap.setIfInBounds b (.map es' clock')} (a.put dst undef) s'/\Ext (Own G s.rg) (Own G' s'.rg) F Ih w {w with heap:=w.heap.setIfInBounds b (.map es' clock')}:=by
      intro es' clock' KX;have je: ∀b0,b0≠b->(w.heap.setIfInBounds b (.map es' clock'))[b0]?=w.heap[b0]?:=λb0 b9=>zaD (za4 b9);have mC:(w.heap.setIfInBounds b (.map es' clock'))[b]?=some (.map es' clock'):=by rw[zaW bj]
      have mD:s1.setObj n (.map kt (dQ kd y get) (bif (get kd).isSome then c else c+1) false)={s1 with rg:=ins n ⟨en.ay,en.tag,.map kt (dQ kd y get) (bif (get kd).isSome then c else c+1) false⟩ s1.rg}:=by unfold S.setObj;rw[eO]
      rw[mD] at hs;have bV:jK G s1.rg n ⟨en.ay,en.tag,.map kt (dQ kd y get) (bif (get kd).isSome then c else c+1) false⟩ (G n):=λe' bc=>by rw[eO] at bc;cases bc;exact .inr ⟨rfl,λ_=>⟨by rw[aP];rfl,rfl⟩⟩
      have pR: ∀b0,F' b0->b0≠b:=λb0 hf e=>by subst e;exact b1.gG n en b0 eO cz hf
      obtain⟨d1,d2⟩:=b1.iG (n:=n) (e1:=⟨en.ay,en.tag,.map kt (dQ kd y get) (bif (get kd).isSome then c else c+1) false⟩) (g1:=G n) (w':={w with heap:=w.heap.setIfInBounds b (.map es' clock')}) bV
       (λb0 _ bg=>je b0 λe=>by grind) (by simp) rfl rfl rfl
       (λb0 tH=> .inr ⟨en,eO,by have:ax (G n) (.map kt (dQ kd y get) (bif (get kd).isSome then c else c+1) false) b0:=tH;rw[aP];exact this⟩)
       ⟨b,es',clock',by rw[aJ];exact hG,mC,KX.mono (λ_ h=>h) (λb0 hf=>je b0 (pR b0 hf)),λhl=>by cases hl⟩
       (λi hi _=>b1.tag n en i eO hi (by rw[aP];rfl))
      rw[aJ] at d1 d2;obtain⟨c1,c2⟩:=bf d1 hs (v:=undef) (br.of (.bad _));refine⟨F',G,c1,?_⟩;rw[c2];exact b2.trans d2
     rcases oS with⟨rfl,hg⟩| ⟨i,Cq,y0,rfl,hi,F5,hg,_⟩
     ·skip
      obtain⟨Ih,G',e1,e2⟩:=fin (es.push {key:=vk,val:=vx,born:=clock}) (clock+1) (by grind);refine⟨_,Ih,G',?_,e1,e2⟩;simp[Instr.mapUpdate,run_underlying gb,MapKept.run_getObj_map hb,iQ,hr,MapKept.run_setObj_map _ hb]
     skip
     have qV:es[i]?=some Cq:=by grind
     have GX:es.modify i (λe=>{e with key:=vk,val:=vx})=es.setIfInBounds i {Cq with key:=vk,val:=vx}:=by grind
     obtain⟨Ih,G',e1,e2⟩:=fin (es.modify i λe=>{e with key:=vk,val:=vx}) clock (by grind);refine⟨_,Ih,G',?_,e1,e2⟩;have iO:(Instr.keyThatStays vk vk).run Q w= .ok vk w:=by simp[Instr.keyThatStays,r9 kd vk vj ll]
     simp[Instr.mapUpdate,run_underlying gb,MapKept.run_getObj_map hb,iQ,hr,qV,F5,iO,MapKept.run_setObj_map _ hb]
    cases hs
   cases hs
  cases hs
 cases hs
theorem xO(h:aq Q T F G w a s){dst:Option Nat}{t:TypeId}{p k:P}{s':S}(hs:fr Q s dst t p k=some s'){vm vk:Value}(hm:ao F w G s.rg vm p)(hk:ao F w G s.rg vk k):
  ∃v w' F' G',(Instr.mapEntry t vm vk).run Q w= .ok v w'/\aq Q T F' G' w' (a.put dst v) s'/\Ext (Own G s.rg) (Own G' s'.rg) F F' w w':=by
 unfold fr at hs;split at hs
 next kt e n ay kd rn=>
  have gb:=dp rn;split at hs
  next z hz=>
   obtain⟨zv,qT,uK⟩:=kq (F:=F) hz w;split at hs
   ·rename_i Er get c ho;split at hs
    ·rename_i hc;simp only[zad,zbk] at hc;obtain⟨⟨nG,yH⟩,vv⟩:=hc;have nG:=zab nG;subst nG;have vv:n≠site dst:=λe=>by rw[e,Nat.beq_refl] at vv;cases vv
     split at hs
     ·rename_i s1 v1 hn;obtain⟨BZ,vj,⟨kv,ll,lP⟩⟩:=aS yH;have ig:vk=kv:=hk.bq (p:= .d kd) ll;subst ig;obtain⟨en,eO,vF,aP,lD,b,es,clock,hG,hb,hM⟩:=vn h hm ho;rw[hG] at lD;subst lD;obtain⟨ck,iQ⟩:=lP false;have iQ:=bn iQ w;obtain⟨r,hr,oS⟩:=hM.look yH ll;have bj:b<w.heap.size:=(zap.1 hb).1;have fin: ∀(es':Array MapEntry) (clock':Nat) (i0:Nat) (e0:MapEntry) (val:Value),fP Q F w kt (dQ kd (jS (get kd) z) get) (bif (get kd).isSome then c else c+1) es'.toList clock'->es'[i0]?=some e0->e0.key=vk->az F w val (jS (get kd) z)->
        ∃F' G',aq Q T F' G' {w with heap:=w.heap.setIfInBounds b (.map es' clock')} (a.put dst (.tuple #[val,.int .i64 (e0.born:Int)])) s'/\Ext (Own G s.rg) (Own G' s'.rg) F F' w {w with heap:=w.heap.setIfInBounds b (.map es' clock')}:=by
       intro es' clock' i0 e0 val KX jM L2 hval;obtain⟨b1,b2,b3,b4⟩:=gP h hn (g1:= .int .i64 (e0.born:Int)) (w':=w) (λ_ _=>rfl) (zae _) rfl rfl rfl (λb hb=>by simp[ax] at hb) trivial;obtain⟨mD,_⟩:=S.gO hn;have KY:iG G (site dst) (.int .i64 (e0.born:Int)) n=G n:=da _ vv;have tO:lk s1.rg n=some en:=by grind [aV]
       have NT:iG G (site dst) (.int .i64 (e0.born:Int)) (site dst)= .int .i64 (e0.born:Int):=aB _ _ _;generalize iG G (site dst) (.int .i64 (e0.born:Int))=G1 at b1 b2 b3 KY NT;have na:G1 n= .map (some b):=KY.trans hG;have yW:ax (G1 n) en.obj b:=by rw[aP,na];simp[ax,aj]
       have je: ∀b0,b0≠b->(w.heap.setIfInBounds b (.map es' clock'))[b0]?=w.heap[b0]?:=λb0 b9=>zaD (za4 b9);have mC:(w.heap.setIfInBounds b (.map es' clock'))[b]?=some (.map es' clock'):=by rw[zaW bj]
       have jr:s1.setObj n (.fY kt (dQ kd (jS (get kd) z) get) (bif (get kd).isSome then c else c+1) (.mp (site dst) v1) kd)={s1 with rg:=ins n ⟨en.ay,en.tag,.fY kt (dQ kd (jS (get kd) z) get) (bif (get kd).isSome then c else c+1) (.mp (site dst) v1) kd⟩ s1.rg}:=by unfold S.setObj;rw[tO]
       rw[jr] at hs;have pR: ∀b0,F b0->b0≠b:=λb0 hf e=>by subst e;exact b1.gG n en b0 tO yW hf
       have iO: ∀(w1:World),ao F w1 G1 (ins n ⟨en.ay,en.tag,.fY kt (dQ kd (jS (get kd) z) get) (bif (get kd).isSome then c else c+1) (.mp (site dst) v1) kd⟩ s1.rg) (.int .i64 (e0.born:Int)) (.mp (site dst) v1):=λw1=>
        .mp _ _ _ rfl ⟨_,(aV _ _ vv).trans b4,zae _,λ_ _=>NT.symm⟩
       obtain⟨d1,d2⟩:=b1.iG (n:=n) (e1:=⟨en.ay,en.tag,.fY kt (dQ kd (jS (get kd) z) get) (bif (get kd).isSome then c else c+1) (.mp (site dst) v1) kd⟩) (g1:=G1 n) (w':={w with heap:=w.heap.setIfInBounds b (.map es' clock')}) (λe' bc=>by
         rw[tO] at bc;cases bc;exact .inr ⟨rfl,λ_=>⟨by rw[aP];rfl,rfl⟩⟩)
        (λb0 _ bg=>je b0 λe=>by grind) (by simp) rfl rfl rfl
        (λb0 tH=> .inr ⟨en,tO,by have:ax (G1 n) (.fY kt (dQ kd (jS (get kd) z) get) (bif (get kd).isSome then c else c+1) (.mp (site dst) v1) kd) b0:=tH;rw[aP];exact⟨rfl,this⟩⟩)
        ⟨b,es',clock',by rw[aJ];exact na,mC,KX.mono (λ_ h=>h) (λb0 hf=>je b0 (pR b0 hf)),i0,e0,jM,by rw[aJ];exact iO _,by rw[L2];exact ll,by grind [dQ,D.aZ]⟩
        (λi hi _=>b1.tag n en i tO hi (by rw[aP];rfl))
       rw[aJ] at d1 d2;obtain⟨c1,c2⟩:=bf d1 hs (v:= .tuple #[val,.int .i64 (e0.born:Int)]) (br.of (.fL [val,.int .i64 (e0.born:Int)] _ rfl (λj v c hv hc=>by
        match j with
        |0=>simp at hv hc;subst hc;exact .bad _
        |1=>grind
        |j+2=>simp at hv)))
       refine⟨F,G1,c1,?_⟩;rw[c2];exact b2.trans d2
      rcases oS with⟨rfl,hg⟩| ⟨i,Cq,y0,rfl,hi,F5,hg,Ig⟩
      ·have:=(hM.set yH ll uK).1 hg;obtain⟨F',G',e1,e2⟩:=fin (es.push {key:=vk,val:=zv,born:=clock}) (clock+1) es.size _ zv (by rw[hg];simpa [jS] using this) (by simp;rfl) rfl (by rw[hg];exact uK);refine⟨_,_,F',G',?_,e1,e2⟩;simp[Instr.mapEntry,run_underlying gb,MapKept.run_getObj_map hb,iQ,hr,qT,MapKept.run_setObj_map _ hb,goInt]
      have qV:es[i]?=some Cq:=by grind
      have:=(hM.set yH ll Ig).2 i Cq hi F5 (by rw[hg];simp);have GX:es.modify i (λe=>{e with key:=vk})=es.setIfInBounds i {Cq with key:=vk,val:=Cq.val}:=by grind
      obtain⟨F',G',e1,e2⟩:=fin (es.modify i λe=>{e with key:=vk}) clock i {Cq with key:=vk} Cq.val (by rw[hg,GX];simpa [jS] using this) (by rw[Array.getElem?_modify];simp[qV]) rfl (by rw[hg];exact Ig);refine⟨_,_,F',G',?_,e1,e2⟩;have iO:(Instr.keyThatStays vk vk).run Q w= .ok vk w:=by simp[Instr.keyThatStays,r9 kd vk vj ll]
      simp[Instr.mapEntry,run_underlying gb,MapKept.run_getObj_map hb,iQ,hr,qV,F5,iO,MapKept.run_setObj_map _ hb,goInt]
     cases hs
    cases hs
   cases hs
  cases hs
 cases hs
theorem Af(h:aq Q T F G w a s){dst:Option Nat}{t:TypeId}{p st x:P}{s':S}(hs:kc Q s dst p st x=some s'){vm vs vx:Value}(hm:ao F w G s.rg vm p)(iO:ao F w G s.rg vs st)(hx:ao F w G s.rg vx x):
  ∃w' F' G',(Instr.entryStore t vm vs vx).run Q w= .ok () w'/\aq Q T F' G' w' (a.put dst undef) s'/\Ext (Own G s.rg) (Own G' s'.rg) F F' w w':=by
 unfold kc at hs;split at hs
 next n ay m KE=>
  split at hs
  next s1 y vA=>
   obtain⟨F',b1,b2,b3,b4,b5⟩:=Ca h vA hx;split at hs
   ·rename_i kt get c m2 Qn kd ho Ey;split at hs
    ·rename_i hc;simp only[zad] at hc;obtain⟨⟨e1,e2⟩,yH⟩:=hc;have e1:=zab e1;have e2:=zab e2;subst e1;subst e2;have zV:ao F' w G s1.rg vm (.mp n ay):=hm.mono b4 (λ_ _=>rfl) b3;have L3:ao F' w G s1.rg vs (.mp m KE):=iO.mono b4 (λ_ _=>rfl) b3;obtain⟨en,eO,vF,aP,lD,b,es,clock,hG,hb,hM,i,e0,hi,Ji,OU,F7⟩:=B1 b1 zV ho;rw[hG] at lD;subst lD;obtain⟨Qo,L4,L5,L6⟩:=S.aI Ey;have num: ∀v,ao F' w G s1.rg v (.mp m KE)->v=G m:=λv hv=>by
      cases hv with
      |mp _ _ _ _ hr=>obtain⟨e',bc,hle,hc⟩:=hr;rw[L4] at bc;cases bc;exact hc L5.symm (by rw[L6];rfl)
     have xu:vs= .int .i64 (e0.born:Int):=(num _ L3).trans (num _ Ji).symm;subst xu;have ik:i<es.size:=(zap.1 hi).1;obtain⟨ks,h1,h2,h3,h4,h5,h6,h7⟩:=id hM;have Jj:es.findIdx? (λe=>(e.born:Int)==(e0.born:Int))=some i:=by rw[Array.findIdx?_eq_some_iff_getElem];have Ii:es[i]=e0:=(zap.1 hi).2;refine⟨ik,by rw[Ii];simp,λj hj=> ?_⟩;grind [List.pairwise_iff_getElem]
     have jr:=hM.set yH OU b5;have GW:get kd≠none:=λe=>by rw[e] at F7;cases F7
     have KX:=jr.2 i e0 (by grind) rfl GW;have cz:ax (G n) en.obj b:=by rw[aP,hG];simp[ax,aj]
     have bj:b<w.heap.size:=(zap.1 hb).1;have GX:es.modify i (λe=>{e with val:=vx})=es.setIfInBounds i {e0 with key:=e0.key,val:=vx}:=by grind
     have OV:fP Q F' w kt (dQ kd y get) c (es.modify i λe=>{e with val:=vx}).toList clock:=by grind
     have je: ∀b0,b0≠b->(w.heap.setIfInBounds b (.map (es.modify i λe=>{e with val:=vx}) clock))[b0]?=w.heap[b0]?:=λb0 b9=>zaD (za4 b9);have mC:(w.heap.setIfInBounds b (.map (es.modify i λe=>{e with val:=vx}) clock))[b]?=some (.map (es.modify i λe=>{e with val:=vx}) clock):=by rw[zaW bj]
     have mD:s1.setObj n (.map kt (dQ kd y get) c false)={s1 with rg:=ins n ⟨en.ay,en.tag,.map kt (dQ kd y get) c false⟩ s1.rg}:=by unfold S.setObj;rw[eO]
     rw[mD] at hs;have pR: ∀b0,F' b0->b0≠b:=λb0 hf e=>by subst e;exact b1.gG n en b0 eO cz hf
     obtain⟨d1,d2⟩:=b1.iG (n:=n) (e1:=⟨en.ay,en.tag,.map kt (dQ kd y get) c false⟩) (g1:=G n) (w':={w with heap:=w.heap.setIfInBounds b (.map (es.modify i λe=>{e with val:=vx}) clock)}) (λe' bc=>by
       rw[eO] at bc;cases bc;exact .inr ⟨rfl,λ_=>⟨by rw[aP];rfl,rfl⟩⟩)
      (λb0 _ bg=>je b0 λe=>by grind) (by simp) rfl rfl rfl
      (λb0 tH=> .inr ⟨en,eO,by have:ax (G n) (.map kt (dQ kd y get) c false) b0:=tH;rw[aP];exact this.2⟩)
      ⟨b,_,clock,by rw[aJ];exact hG,mC,OV.mono (λ_ h=>h) (λb0 hf=>je b0 (pR b0 hf)),λhl=>by cases hl⟩
      (λi hi _=>b1.tag n en i eO hi (by rw[aP];rfl))
     rw[aJ] at d1 d2;obtain⟨c1,c2⟩:=bf d1 hs (v:=undef) (br.of (.bad _));refine⟨_,F',G,?_,c1,?_⟩
     ·simp[Instr.entryStore,MapKept.run_getObj_map hb,asInt,asIntOf,Jj,MapKept.run_setObj_map _ hb]
     rw[c2];exact b2.trans d2
    cases hs
   cases hs
  cases hs
 cases hs
end
end Pi
