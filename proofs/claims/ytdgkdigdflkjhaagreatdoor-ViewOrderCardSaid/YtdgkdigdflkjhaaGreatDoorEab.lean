/- The texts PiMapW PiIter PiExec PiRen PiCallOk PiWd PiRegion PiLoc PiLoc2 PiWr PiDrawOk PiDrawOk2 PiKOk4 PiLate PiCodeOk PiTop PiLaw PiX PiLem PiTold PiSort PiSeat PiBulk. -/
import Derived.Test.YtdgkdigdflkjhaaGreatDoorEaa
import Derived.Laws.BytesArg
import Derived.OrdersIn
import Derived.TacticsIn
import Derived.LoopNIn
import Derived.RangeFuncCalls
import Derived.Scope
import Derived.WalkMore
import Derived.Orders
import Derived.RangeFuncLeaves
import Derived.RangeFuncRecord
import Derived.ProofKit
import Derived.IntWalk
import Derived.Shelf.SlSortCmp.NoneTotal
open Option renaming some→Z,none→Y
open Bool renaming false→C,true→O
open List renaming length→J
open Go renaming TypeId→I,Value→W,Program→M
open List renaming map→aa,take→ab,replicate→ee,take_succ_eq_append_getElem→i6,count→ss,reverse→th,set→tz
open Prod renaming fst→ba,snd→bl
open Nat renaming beq→bo,ble→gr,eq_of_beq_eq_true→mi,testBit→mm
open Int renaming toNat→dd,tmod→so
open ByteArray renaming mk→gz
open Option renaming isSome→ir,map→i7
open Array renaming replicate→pt,range→te
open Pi.D renaming int→ue,aq→vc,aj→AC,agg→AM,nth→BC,str→FS,bool→ID,sl→IM,dq→NO,cq→Q1,c8→Q3
open Pi.En renaming mk→we
open Pi.PX renaming normal→xz,exit→CE,ret→Q2
open Pi.S renaming mk→AD
open Pi.Obj renaming arr→AS,box→GT,map→HH,iter→Q4
open Pi.P renaming d→Cs,sl→If,ref→RK
open Go.Op renaming operands→Do,bytesLess→IT,equalIn→PM
open Go.IntKind renaming i64→DD
open Pi.K renaming fail→GE,bind→IH
open Pi.KW renaming fail→H1,bind→IR,ret→IS,dN→PP
open Pi.Ext renaming refl→Mo
open Pi.Names renaming refl→Nm
open Pi.Code renaming nv→No
open Go.Instr renaming sliceBound→Of,sliceBounds→OF
open Go.Builtin renaming zeroCells→OK
namespace Pi
open Go
section
variable{Q:Program}{T:Tg}{F:Nat->Prop}{G:Nat->W}{w:World}{a:Act}{s:S}
theorem J6(h:ax Q T F G w a s){dst t s'}(l:lX Q s dst t=Z s'):
  ∃v w' B,(Instr.makeMap t Y).run Q w= .ok v w'/\ax Q T F B w' (a.put dst v) s'/\Ext (Own G s.rg) (Own B s'.rg) F F w w':=by
 unfold lX at l;split at l
 next kt e Gz=>
  split at l
  next s1 v L=>
   have U: ∀b,b<w.heap.size->(w.alloc (.map #[] 0)).heap[b]?=w.heap[b]?:=λb A=>cb w _ b A;obtain⟨b1,b2,b3,b4⟩:=mn h L (g1:= .map (Z w.heap.size)) (w':=w.alloc (.map #[] 0)) U (by simp) rfl rfl rfl (λb A=>by simp[a7,aI] at A;omega)
    ⟨w.heap.size, #[],0,aM _ _ _,heap_alloc_new w _,⟨[],rfl,rfl,by simp,by simp,by simp,by simp,by simp⟩,λR=>by cases R⟩
   obtain⟨X,V⟩:=cL b1 l (v:= .map (Z w.heap.size)) (bR.of (.mp (site dst) v _ rfl ⟨_,b4,zag _,λ_ _=>(aM _ _ _).symm⟩));refine⟨.map (Z w.heap.size),_,_,by rfl,X,?_⟩;rw[V];exact b2
  cases l
 cases l
theorem xj{ks:List (D×D)}(hd:(ks.map (·.1)).Nodup){i j:Nat}{p q}(B:ks[i]?=Z p)(A:ks[j]?=Z q)(h:p.1=q.1):i=j:=by have l:=zba.1 hd;grind
theorem ja.set{A get n es}{l}(h:ja Q F w A get n es l){k y v}(hk:ga Q A k=O)(hv:k.cY=Z v){x}(hx:bf F w x y):
  (get k=Y->ja Q F w A (aW k y get) (n+1) (es++[{key:=v,val:=x,born:=l}]) (l+1))/\
  (∀i e,es[i]?=Z e->e.key=v->get k≠Y->ja Q F w A (aW k y get) n (es.set i {e with key:=v,val:=x}) l):=by
 obtain⟨ks,h1,h2,h3,h4,h5,h6,h7⟩:=h;constructor
 ·intro hg;have hnk: ∀p∈ks,p.1≠k:=λp B e=>by have:=(h5 p.1 p.2).2 B;rw[e,hg] at this;cases this
  refine⟨ks++[(k,y)],by simp[h1],by simp[h2],λi p e B U=> ?_,?_,λk' v'=> ?_,λe U=> ?_,?_⟩
  ·grind
  ·rw[zaC,zbx];grind
  ·grind [EC,Qf]
  ·grind
  grind
 intro i e U hek hg;have hi:=(zab.1 U).1;have R:i<J ks:=by omega
 obtain⟨p,B⟩: ∃p,ks[i]?=Z p:=⟨ks[i],zae R⟩
 obtain⟨a1,a2,a3⟩:=h3 i p e B U;have hpk:p.1=k:=by
  obtain⟨X,hy0⟩: ∃X,get k=Z X:=by
   cases hgk:get k with
   |none=>grind
   |some X=>simp
  have hm:=(h5 k X).1 hy0;obtain⟨j,L,hje⟩:=zaM hm;obtain⟨ej,hej⟩: ∃ej,es[j]?=Z ej:=⟨es[j]'(by omega),zae (by omega)⟩
  obtain⟨_,b2,_⟩:=h3 j (k,X) ej (by rw[zae L,hje]) hej;obtain⟨r,hr,zB⟩:=AN (cj hk).1 hv h1 (λi p e B U=>⟨(cj (h3 i p e B U).1).1,(h3 i p e B U).2.1⟩) w;obtain⟨c,hc,kM⟩:=lP 20 A p.1 k (cj a1).1 (cj hk).1;obtain⟨c',nJ,qq6⟩:=lP 20 A k k (cj hk).1 (cj hk).1;have e1:=eE 20 10000 A p.1 k c v v (by omega) hc (by rw[a2,hek]) hv;have e2:=eE 20 10000 A k k c' v v (by omega) nJ hv hv;rw[e1] at e2;grind
 refine⟨ks.set i (k,y),by simp[h1],by grind,λj q f hq hf=> ?_,?_,λk' v'=> ?_,λf hf=> ?_,?_⟩
 ·grind
 ·have:(ks.set i (k,y)).map (·.1)=ks.map (·.1):=by apply zbX;grind
  rw[this];exact h4
 ·by_cases e:k=k'
  ·subst e;rw[EC];constructor
   ·intro e;cases e;exact zas (i:=i) (by rw[zbc R])
   intro hm;obtain⟨j,L⟩:=zaD hm;by_cases V:i=j
   ·subst V;rw[zbc R] at L;cases L;rfl
   rw[zbb V] at L;exact absurd (xj h4 B L hpk) V
  rw[Qf _ _ e,h5];constructor
  ·intro hm;obtain⟨j,L⟩:=zaD hm;have V:i≠j:=λV=>by grind
   exact zas (i:=j) (by rw[zbb V];exact L)
  grind
 ·grind
 have:(es.set i {e with key:=v,val:=x}).map (·.born)=es.map (·.born):=by apply zbX;grind
 rw[this];exact h7
theorem ja.del{B get n es}{l}(h:ja Q F w B get n es l){k v}(hk:ga Q B k=O)(X:k.cY=Z v):
  (get k=Y->ja Q F w B (iq k get) n es l)/\
  (∀i e,es[i]?=Z e->e.key=v->get k≠Y->ja Q F w B (iq k get) (n-1) (es.eraseIdx i) l):=by
 refine⟨λhn=> ?_,?_⟩
 ·have e:iq k get=get:=by
   funext d;unfold iq;cases hd:NO k d with
   |true=>have:=(D.bU _ _).1 hd;subst this;rw[hn];rfl
   |false=>rfl
  rw[e];exact h
 obtain⟨ks,h1,h2,h3,h4,h5,h6,h7⟩:=h;intro i e he hek hg;have hi:=(zab.1 he).1;have hik:i<J ks:=by omega
 obtain⟨p,hp⟩: ∃p,ks[i]?=Z p:=⟨ks[i],zae hik⟩
 obtain⟨a1,a2,a3⟩:=h3 i p e hp he;have U:p.1=k:=by obtain⟨c,hc,kM⟩:=lP 20 B p.1 k (cj a1).1 (cj hk).1;obtain⟨c',nJ,qq6⟩:=lP 20 B k k (cj hk).1 (cj hk).1;have e1:=eE 20 10000 B p.1 k c v v (by omega) hc (by rw[a2,hek]) X;have e2:=eE 20 10000 B k k c' v v (by omega) nJ X X;rw[e1] at e2;grind
 refine⟨ks.eraseIdx i,by rw[zcR,zcR,h1],by rw[zcR,zau hi];omega,λj q f V L=> ?_,h4.sublist ((List.eraseIdx_sublist _ _).map _),λR v'=> ?_,λf L=>h6 f (List.mem_of_mem_eraseIdx L),h7.sublist ((List.eraseIdx_sublist _ _).map _)⟩
 ·rw[List.getElem?_eraseIdx] at V L;split at V
  next A=>rw[zau A] at L;exact h3 j q f V L
  rename_i A;rw[zat A] at L;exact h3 _ q f V L
 have jm:(R,v')∈ks.eraseIdx i↔ ∃j,j≠i/\ks[j]?=Z (R,v'):=by rw[List.mem_eraseIdx_iff_getElem?]
 rw[jm];by_cases ek:k=R
 ·subst ek;have e0:iq k get k=Y:=by unfold iq;rw[(D.bU _ _).2 rfl];rfl
  rw[e0];constructor
  ·intro h;cases h
  rintro⟨j,A,hjk⟩;exact absurd (xj h4 hp hjk U) (za0 A)
 have e0:iq k get R=get R:=by
  unfold iq;cases hd:NO k R with
  |true=>exact absurd ((D.bU _ _).1 hd) ek
  |false=>rfl
 rw[e0,h5];constructor
 ·intro hm;obtain⟨j,A⟩:=zaD hm;refine⟨j,?_,A⟩;rintro rfl;rw[hp] at A;cases A;exact ek U.symm
 rintro⟨j,_,A⟩;exact zas A
theorem WE(h:ax Q T F G w a s){dst t p k s'}(R:AB Q s dst t p k=Z s'){vm vk}(hm:aL F w G s.rg vm p)(hk:aL F w G s.rg vk k) V (ht:V[0]?=Z t) ty:
  ∃w',(Builtin.delete_ V ty #[vm,vk]).run Q w= .ok (.tuple #[]) w'/\ax Q T F G w' (a.put dst (.tuple #[])) s'/\Ext (Own G s.rg) (Own G s'.rg) F F w w':=by
 unfold AB at R;split at R
 next kt e n aU B Gz=>
  have nH:=iy Gz;split at R
  next kt2 get c ho=>
   split at R
   ·rename_i hc;simp only[zac] at hc;have EG:=zad hc.1;subst EG;obtain⟨NP,NQ,⟨kv,xa,AO⟩⟩:=cj hc.2;have jL:=hk.cY (p:= .d B) xa;subst jL;obtain⟨L,X,WG,bZ,AP,b,es,l,hG,hb,hM⟩:=EE h hm ho;rw[hG] at AP;subst AP;obtain⟨ck,oS⟩:=AO es.isEmpty;have oS:=dG oS w;obtain⟨r,hr,zB⟩:=hM.look hc.2 xa;have vn:=hM.del hc.2 xa;have dO:a7 (G n) L.obj b:=by rw[bZ,hG];simp[a7,aI]
    have aZ:=(zar.1 hb).1;have fin: ∀(U:Array MapEntry),ja Q F w kt (iq B get) (bif (get B).isSome then c-1 else c) U.toList l->
      ax Q T F G {w with heap:=w.heap.setIfInBounds b (.map U l)} (a.put dst (.tuple #[])) s'/\Ext (Own G s.rg) (Own G s'.rg) F F w {w with heap:=w.heap.setIfInBounds b (.map U l)}:=by
     intro U hM';have ix: ∀A,A≠b->(w.heap.setIfInBounds b (.map U l))[A]?=w.heap[A]?:=λA cU=>zaO (za0 cU);have rq:(w.heap.setIfInBounds b (.map U l))[b]?=Z (.map U l):=by rw[za2 aZ]
     have oU:s.setObj n (.map kt (iq B get) (bif (get B).isSome then c-1 else c) C)={s with rg:=ins n ⟨L.aU,L.tag,.map kt (iq B get) (bif (get B).isSome then c-1 else c) C⟩ s.rg}:=by unfold S.setObj;rw[X]
     rw[oU] at R;have fh:mj G s.rg n ⟨L.aU,L.tag,.map kt (iq B get) (bif (get B).isSome then c-1 else c) C⟩ (G n):=λe' cP=>by rw[X] at cP;cases cP;exact .inr ⟨rfl,λ_=>⟨by rw[bZ];rfl,rfl⟩⟩
     have zk: ∀A,F A->A≠b:=λA hf e=>by subst e;exact h.jb n L A X dO hf
     obtain⟨d1,d2⟩:=h.gj (n:=n) (e1:=⟨L.aU,L.tag,.map kt (iq B get) (bif (get B).isSome then c-1 else c) C⟩) (g1:=G n) (w':={w with heap:=w.heap.setIfInBounds b (.map U l)}) fh
      (λA _ cD=>ix A λe=>by grind) (by simp) rfl rfl rfl
      (λA xd=> .inr ⟨L,X,by have:=xd;rw[bZ];exact this⟩)
      ⟨b,U,l,by rw[bH];exact hG,rq,hM'.mono (λ_ h=>h) (λA hf=>ix A (zk A hf)),λhl=>by cases hl⟩
      (λi hi _=>h.tag n L i X hi (by rw[bZ];rfl))
     rw[bH] at d1 d2;obtain⟨c1,c2⟩:=cL d1 R (v:= .tuple #[]) (bR.of (.bad _));refine⟨c1,?_⟩;rw[c2];exact d2
    rcases zB with⟨rfl,hg⟩| ⟨i,WH,y0,rfl,hi,hek,hg,_⟩
    ·obtain⟨e1,e2⟩:=fin es (by rw[hg];exact vn.1 hg);refine⟨_,?_,e1,e2⟩;simp[Builtin.delete_,ht,run_underlying nH,MapKept.run_getObj_map hb,oS,hr,MapKept.run_setObj_map _ hb]
    have dE:i<es.size:=by have:=(zab.1 hi).1;simpa using this
    obtain⟨e1,e2⟩:=fin (es.eraseIdxIfInBounds i) (by
     have e0:(es.eraseIdxIfInBounds i).toList=es.toList.eraseIdx i:=by unfold Array.eraseIdxIfInBounds;rw[dif_pos dE,Array.toList_eraseIdx]
     rw[e0,hg];exact vn.2 i WH hi hek (by rw[hg];simp))
    refine⟨_,?_,e1,e2⟩;simp[Builtin.delete_,ht,run_underlying nH,MapKept.run_getObj_map hb,oS,hr,MapKept.run_setObj_map _ hb]
   cases R
  cases R
 cases R
theorem A2(h:ax Q T F G w a s){dst t p k x s'}(R:ki Q s dst t p k x=Z s'){vm U vx}(hm:aL F w G s.rg vm p)(hk:aL F w G s.rg U k)(hx:aL F w G s.rg vx x):
  ∃w' F' G',(Instr.mapUpdate t vm U vx).run Q w= .ok () w'/\ax Q T F' G' w' (a.put dst undef) s'/\Ext (Own G s.rg) (Own G' s'.rg) F F' w w':=by
 unfold ki at R;split at R
 next kt e n aU L Gz=>
  have nH:=iy Gz;split at R
  next s1 y I3=>
   obtain⟨F',b1,b2,b3,b4,b5⟩:=zF h I3 hx;split at R
   ·rename_i kt2 get c ho;split at R
    ·rename_i hc;simp only[zac] at hc;have EG:=zad hc.1;subst EG;obtain⟨NP,NQ,⟨kv,xa,AO⟩⟩:=cj hc.2;have jL:=hk.cY (p:= .d L) xa;subst jL;have M1:=hm.mono b4 (λ_ _=>rfl) b3;obtain⟨V,l8,WG,bZ,AP,b,es,l,hG,hb,hM⟩:=EE b1 M1 ho;rw[hG] at AP;subst AP;obtain⟨ck,oS⟩:=AO C;have oS:=dG oS w;obtain⟨r,hr,zB⟩:=hM.look hc.2 xa;have mq:=hM.set hc.2 xa b5;have dO:a7 (G n) V.obj b:=by rw[bZ,hG];simp[a7,aI]
     have aZ:=(zar.1 hb).1;have fin: ∀(dP:Array MapEntry) (X:Nat),ja Q F' w kt (aW L y get) (bif (get L).isSome then c else c+1) dP.toList X->
       ∃B G',ax Q T B G' {w with heap:=w.heap.setIfInBounds b (.map dP X)} (a.put dst undef) s'/\Ext (Own G s.rg) (Own G' s'.rg) F B w {w with heap:=w.heap.setIfInBounds b (.map dP X)}:=by
      intro dP X hM';have ix: ∀A,A≠b->(w.heap.setIfInBounds b (.map dP X))[A]?=w.heap[A]?:=λA cU=>zaO (za0 cU);have rq:(w.heap.setIfInBounds b (.map dP X))[b]?=Z (.map dP X):=by rw[za2 aZ]
      have oU:s1.setObj n (.map kt (aW L y get) (bif (get L).isSome then c else c+1) C)={s1 with rg:=ins n ⟨V.aU,V.tag,.map kt (aW L y get) (bif (get L).isSome then c else c+1) C⟩ s1.rg}:=by unfold S.setObj;rw[l8]
      rw[oU] at R;have fh:mj G s1.rg n ⟨V.aU,V.tag,.map kt (aW L y get) (bif (get L).isSome then c else c+1) C⟩ (G n):=λe' cP=>by rw[l8] at cP;cases cP;exact .inr ⟨rfl,λ_=>⟨by rw[bZ];rfl,rfl⟩⟩
      have zk: ∀A,F' A->A≠b:=λA hf e=>by subst e;exact b1.jb n V A l8 dO hf
      obtain⟨d1,d2⟩:=b1.gj (n:=n) (e1:=⟨V.aU,V.tag,.map kt (aW L y get) (bif (get L).isSome then c else c+1) C⟩) (g1:=G n) (w':={w with heap:=w.heap.setIfInBounds b (.map dP X)}) fh
       (λA _ cD=>ix A λe=>by grind) (by simp) rfl rfl rfl
       (λA xd=> .inr ⟨V,l8,by have:=xd;rw[bZ];exact this⟩)
       ⟨b,dP,X,by rw[bH];exact hG,rq,hM'.mono (λ_ h=>h) (λA hf=>ix A (zk A hf)),λhl=>by cases hl⟩
       (λi hi _=>b1.tag n V i l8 hi (by rw[bZ];rfl))
      rw[bH] at d1 d2;obtain⟨c1,c2⟩:=cL d1 R (v:=undef) (bR.of (.bad _));refine⟨F',G,c1,?_⟩;rw[c2];exact b2.trans d2
     rcases zB with⟨rfl,hg⟩| ⟨i,WH,y0,rfl,hi,hek,hg,_⟩
     ·skip
      obtain⟨B,G',e1,e2⟩:=fin (es.push {key:=U,val:=vx,born:=l}) (l+1) (by grind);refine⟨_,B,G',?_,e1,e2⟩;simp[Instr.mapUpdate,run_underlying nH,MapKept.run_getObj_map hb,oS,hr,MapKept.run_setObj_map _ hb]
     skip
     have zG:es[i]?=Z WH:=by grind
     have qhI:es.modify i (λe=>{e with key:=U,val:=vx})=es.setIfInBounds i {WH with key:=U,val:=vx}:=by grind
     obtain⟨B,G',e1,e2⟩:=fin (es.modify i λe=>{e with key:=U,val:=vx}) l (by grind);refine⟨_,B,G',?_,e1,e2⟩;have iM:(Instr.keyThatStays U U).run Q w= .ok U w:=by simp[Instr.keyThatStays,ED L U NQ xa]
     simp[Instr.mapUpdate,run_underlying nH,MapKept.run_getObj_map hb,oS,hr,zG,hek,iM,MapKept.run_setObj_map _ hb]
    cases R
   cases R
  cases R
 cases R
theorem N1(h:ax Q T F G w a s){dst t p k s'}(L:kj Q s dst t p k=Z s'){vm U}(hm:aL F w G s.rg vm p)(hk:aL F w G s.rg U k):
  ∃v w' F' G',(Instr.mapEntry t vm U).run Q w= .ok v w'/\ax Q T F' G' w' (a.put dst v) s'/\Ext (Own G s.rg) (Own G' s'.rg) F F' w w':=by
 unfold kj at L;split at L
 next kt e n aU l Gz=>
  have nH:=iy Gz;split at L
  next z hz=>
   obtain⟨zv,EF,MY⟩:=re (F:=F) hz w;split at L
   ·rename_i kt2 get c ho;split at L
    ·rename_i hc;simp only[zac,zbD] at hc;obtain⟨⟨EG,hkB⟩,I1⟩:=hc;have EG:=zad EG;subst EG;have I1:n≠site dst:=λe=>by rw[e,Nat.beq_refl] at I1;cases I1
     split at L
     ·rename_i s1 v1 hn;obtain⟨NP,NQ,⟨kv,xa,AO⟩⟩:=cj hkB;have jL:=hk.cY (p:= .d l) xa;subst jL;obtain⟨V,l8,WG,bZ,AP,b,es,B,hG,hb,hM⟩:=EE h hm ho;rw[hG] at AP;subst AP;obtain⟨ck,oS⟩:=AO C;have oS:=dG oS w;obtain⟨r,hr,zB⟩:=hM.look hkB xa;have aZ:=(zar.1 hb).1;have fin: ∀(X:Array MapEntry) (fk:Nat) (i0:Nat) (R:MapEntry) (val:W),ja Q F w kt (aW l (aK (get l) z) get) (bif (get l).isSome then c else c+1) X.toList fk->X[i0]?=Z R->R.key=U->bf F w val (aK (get l) z)->
        ∃F' G',ax Q T F' G' {w with heap:=w.heap.setIfInBounds b (.map X fk)} (a.put dst (.tuple #[val,.int DD (R.born:Int)])) s'/\Ext (Own G s.rg) (Own G' s'.rg) F F' w {w with heap:=w.heap.setIfInBounds b (.map X fk)}:=by
       intro X fk i0 R val hM' zl qq7 hval;obtain⟨b1,b2,b3,b4⟩:=mn h hn (g1:= .int DD (R.born:Int)) (w':=w) (λ_ _=>rfl) (zag _) rfl rfl rfl (λb hb=>by simp[a7] at hb) trivial;obtain⟨oU,_⟩:=S.ml hn;have hG1:gj G (site dst) (.int DD (R.born:Int)) n=G n:=bW _ I1;have GJ:lk s1.rg n=Z V:=by grind [br]
       have hN1:gj G (site dst) (.int DD (R.born:Int)) (site dst)= .int DD (R.born:Int):=aM _ _ _;generalize gj G (site dst) (.int DD (R.born:Int))=G1 at b1 b2 b3 hG1 hN1;have r7:=hG1.trans hG;have A3:a7 (G1 n) V.obj b:=by rw[bZ,r7];simp[a7,aI]
       have ix: ∀A,A≠b->(w.heap.setIfInBounds b (.map X fk))[A]?=w.heap[A]?:=λA cU=>zaO (za0 cU);have rq:(w.heap.setIfInBounds b (.map X fk))[b]?=Z (.map X fk):=by rw[za2 aZ]
       have mq:s1.setObj n (.fY kt (aW l (aK (get l) z) get) (bif (get l).isSome then c else c+1) (.mp (site dst) v1) l)={s1 with rg:=ins n ⟨V.aU,V.tag,.fY kt (aW l (aK (get l) z) get) (bif (get l).isSome then c else c+1) (.mp (site dst) v1) l⟩ s1.rg}:=by unfold S.setObj;rw[GJ]
       rw[mq] at L;have zk: ∀A,F A->A≠b:=λA hf e=>by subst e;exact b1.jb n V A GJ A3 hf
       have iM: ∀(w1:World),aL F w1 G1 (ins n ⟨V.aU,V.tag,.fY kt (aW l (aK (get l) z) get) (bif (get l).isSome then c else c+1) (.mp (site dst) v1) l⟩ s1.rg) (.int DD (R.born:Int)) (.mp (site dst) v1):=λw1=>
        .mp _ _ _ rfl ⟨_,(br _ _ I1).trans b4,zag _,λ_ _=>hN1.symm⟩
       obtain⟨d1,d2⟩:=b1.gj (n:=n) (e1:=⟨V.aU,V.tag,.fY kt (aW l (aK (get l) z) get) (bif (get l).isSome then c else c+1) (.mp (site dst) v1) l⟩) (g1:=G1 n) (w':={w with heap:=w.heap.setIfInBounds b (.map X fk)}) (λe' cP=>by
         rw[GJ] at cP;cases cP;exact .inr ⟨rfl,λ_=>⟨by rw[bZ];rfl,rfl⟩⟩)
        (λA _ cD=>ix A λe=>by grind) (by simp) rfl rfl rfl
        (λA xd=> .inr ⟨V,GJ,by have:=xd;rw[bZ];exact⟨rfl,this⟩⟩)
        ⟨b,X,fk,by rw[bH];exact r7,rq,hM'.mono (λ_ h=>h) (λA hf=>ix A (zk A hf)),i0,R,zl,by rw[bH];exact iM _,by rw[qq7];exact xa,by grind [aW,D.bU]⟩
        (λi hi _=>b1.tag n V i GJ hi (by rw[bZ];rfl))
       rw[bH] at d1 d2;obtain⟨c1,c2⟩:=cL d1 L (v:= .tuple #[val,.int DD (R.born:Int)]) (bR.of (.cy [val,.int DD (R.born:Int)] _ rfl (λj v c hv hc=>by
        match j with
        |0=>simp at hv hc;subst hc;subst hv;unfold qlk;split;exact .d (hval.mono (λ_ h=>h) λA hf=>ix A (zk A hf));exact .bad _
        |1=>grind
        |j+2=>simp at hv)))
       refine⟨F,G1,c1,?_⟩;rw[c2];exact b2.trans d2
      rcases zB with⟨rfl,hg⟩| ⟨i,WH,y0,rfl,hi,hek,hg,hy0⟩
      ·have:=(hM.set hkB xa MY).1 hg;obtain⟨F',G',e1,e2⟩:=fin (es.push {key:=U,val:=zv,born:=B}) (B+1) es.size _ zv (by rw[hg];simpa [aK] using this) (by simp;rfl) rfl (by rw[hg];exact MY);refine⟨_,_,F',G',?_,e1,e2⟩;simp[Instr.mapEntry,run_underlying nH,MapKept.run_getObj_map hb,oS,hr,EF,MapKept.run_setObj_map _ hb,goInt]
      have zG:es[i]?=Z WH:=by grind
      have:=(hM.set hkB xa hy0).2 i WH hi hek (by rw[hg];simp);have qhI:es.modify i (λe=>{e with key:=U})=es.setIfInBounds i {WH with key:=U,val:=WH.val}:=by grind
      obtain⟨F',G',e1,e2⟩:=fin (es.modify i λe=>{e with key:=U}) B i {WH with key:=U} WH.val (by rw[hg,qhI];simpa [aK] using this) (by rw[zbN];simp[zG]) rfl (by rw[hg];exact hy0);refine⟨_,_,F',G',?_,e1,e2⟩;have iM:(Instr.keyThatStays U U).run Q w= .ok U w:=by simp[Instr.keyThatStays,ED l U NQ xa]
      simp[Instr.mapEntry,run_underlying nH,MapKept.run_getObj_map hb,oS,hr,zG,hek,iM,MapKept.run_setObj_map _ hb,goInt]
     cases L
    cases L
   cases L
  cases L
 cases L
theorem S2(h:ax Q T F G w a s){dst t p st x s'}(B:qZ Q s dst p st x=Z s'){vm vs L}(hm:aL F w G s.rg vm p)(iM:aL F w G s.rg vs st)(hx:aL F w G s.rg L x):
  ∃w' F' G',(Instr.entryStore t vm vs L).run Q w= .ok () w'/\ax Q T F' G' w' (a.put dst undef) s'/\Ext (Own G s.rg) (Own G' s'.rg) F F' w w':=by
 unfold qZ at B;split at B
 next n aU m vm'=>
  split at B
  next s1 y I3=>
   obtain⟨F',b1,b2,b3,b4,b5⟩:=Wo h I3 hx;split at B
   ·rename_i kt get c m2 vm2 kd ho Wm;split at B
    ·rename_i hc;simp only[zac] at hc;obtain⟨⟨e1,e2⟩,hkB⟩:=hc;have e1:=zad e1;have e2:=zad e2;subst e1;subst e2;have M1:=hm.mono b4 (λ_ _=>rfl) b3;have qq8:=iM.mono b4 (λ_ _=>rfl) b3;obtain⟨R,X,WG,bZ,AP,b,es,l,hG,hb,hM,i,e0,hi,qls,hkd,U⟩:=Wf b1 M1 ho;rw[hG] at AP;subst AP;obtain⟨es0,qhJ,qq9,qra⟩:=S.bY Wm;have V: ∀v,aL F' w G s1.rg v (.mp m vm')->v=G m:=λv hv=>by
      cases hv with
      |mp _ _ _ _ hr=>obtain⟨e',cP,hle,hc⟩:=hr;rw[qhJ] at cP;cases cP;exact hc qq9.symm (by rw[qra];rfl)
     have SM:=(V _ qq8).trans (V _ qls).symm;subst SM;have dE:=(zar.1 hi).1;obtain⟨ks,h1,h2,h3,h4,h5,h6,h7⟩:=id hM;have Qs:es.findIdx? (λe=>(e.born:Int)==(e0.born:Int))=Z i:=by rw[Array.findIdx?_eq_some_iff_getElem];have hei:=(zar.1 hi).2;refine⟨dE,by rw[hei];simp,λj hj=> ?_⟩;grind [List.pairwise_iff_getElem]
     have mq:=hM.set hkB hkd b5;have hgs:get kd≠Y:=λe=>by rw[e] at U;cases U
     have hM':=mq.2 i e0 (by grind) rfl hgs;have dO:a7 (G n) R.obj b:=by rw[bZ,hG];simp[a7,aI]
     have aZ:=(zar.1 hb).1;have qhI:es.modify i (λe=>{e with val:=L})=es.setIfInBounds i {e0 with key:=e0.key,val:=L}:=by grind
     have hM2:ja Q F' w kt (aW kd y get) c (es.modify i λe=>{e with val:=L}).toList l:=by grind
     have ix: ∀A,A≠b->(w.heap.setIfInBounds b (.map (es.modify i λe=>{e with val:=L}) l))[A]?=w.heap[A]?:=λA cU=>zaO (za0 cU);have rq:(w.heap.setIfInBounds b (.map (es.modify i λe=>{e with val:=L}) l))[b]?=Z (.map (es.modify i λe=>{e with val:=L}) l):=by rw[za2 aZ]
     have oU:s1.setObj n (.map kt (aW kd y get) c C)={s1 with rg:=ins n ⟨R.aU,R.tag,.map kt (aW kd y get) c C⟩ s1.rg}:=by unfold S.setObj;rw[X]
     rw[oU] at B;have zk: ∀A,F' A->A≠b:=λA hf e=>by subst e;exact b1.jb n R A X dO hf
     obtain⟨d1,d2⟩:=b1.gj (n:=n) (e1:=⟨R.aU,R.tag,.map kt (aW kd y get) c C⟩) (g1:=G n) (w':={w with heap:=w.heap.setIfInBounds b (.map (es.modify i λe=>{e with val:=L}) l)}) (λe' cP=>by
       rw[X] at cP;cases cP;exact .inr ⟨rfl,λ_=>⟨by rw[bZ];rfl,rfl⟩⟩)
      (λA _ cD=>ix A λe=>by grind) (by simp) rfl rfl rfl
      (λA xd=> .inr ⟨R,X,by have:=xd;rw[bZ];exact this.2⟩)
      ⟨b,_,l,by rw[bH];exact hG,rq,hM2.mono (λ_ h=>h) (λA hf=>ix A (zk A hf)),λhl=>by cases hl⟩
      (λi hi _=>b1.tag n R i X hi (by rw[bZ];rfl))
     rw[bH] at d1 d2;obtain⟨c1,c2⟩:=cL d1 B (v:=undef) (bR.of (.bad _));refine⟨_,F',G,?_,c1,?_⟩
     ·simp[Instr.entryStore,MapKept.run_getObj_map hb,asInt,asIntOf,Qs,MapKept.run_setObj_map _ hb]
     rw[c2];exact b2.trans d2
    cases B
   cases B
  cases B
 cases B
end
end Pi
namespace Pi
open Go
section
variable{Q:Program}{T:Tg}{F:Nat->Prop}{G:Nat->W}{w:World}{a:Act}{s:S}
theorem ax.qcp(h:ax Q T F G w a s){n e o1}(X:lk s.rg n=Z e)(Qk:e.obj.live=O)(L: ∀b,¬a7 (G n) o1 b)
  (rj: ∀b,aI (G n)=Z b->b<w.heap.size) (dO: ∀b,aI (G n)=Z b->F b\/a7 (G n) e.obj b)
  (hO:ny Q (λb=>F b\/aI (G n)=Z b) w G (ins n ⟨e.aU,e.tag,o1⟩ s.rg) n o1):
  ∃F',ax Q T F' G w a (s.setObj n o1)/\Ext (Own G s.rg) (Own G (s.setObj n o1).rg) F F' w w/\Names G G s.rg (s.setObj n o1).rg/\(∀b,aI (G n)=Z b->F' b)/\(∀b,F b->F' b):=by
 rw[S.fb X];have hn:Names G G s.rg (ins n ⟨e.aU,e.tag,o1⟩ s.rg):=by have:=fA (G:=G) (g1:=G n) (R:=s.rg) (n:=n) (e1:=⟨e.aU,e.tag,o1⟩) (λe' cP=>by rw[X] at cP;cases cP;exact .inr ⟨rfl,λ_=>⟨Qk,rfl⟩⟩);rwa [bH] at this
 have V: ∀m e1,lk (ins n ⟨e.aU,e.tag,o1⟩ s.rg) m=Z e1->(m=n/\e1=⟨e.aU,e.tag,o1⟩)\/(n≠m/\lk s.rg m=Z e1):=λm e1 A=>by
  by_cases U:n=m
  ·subst U;rw[aX] at A;cases A;exact .inl ⟨rfl,rfl⟩
  rw[br _ _ U] at A;exact .inr ⟨U,A⟩
 refine⟨λb=>F b\/aI (G n)=Z b,⟨h.oR.IZ (λb l=>l.elim .inl λl=>(dO b l).imp id λB=>⟨n,e,X,B⟩) (λb l=>by
  obtain⟨m,e1,A,B⟩:=l;rcases V m e1 A with⟨rfl,rfl⟩| ⟨_,A⟩
  ·exact absurd B (L b)
  exact⟨m,e1,A,B⟩),h.size,λt p hp=>(h.tm t p hp).mono (λ_ h=> .inl h) (λ_ _=>rfl) hn,?_,?_,?_,?_,?_,λb l=>⟨.inl (h.z b l).1,(h.z b l).2⟩,h.dr,h.sz⟩,?_,hn,λb l=> .inr l,λb l=> .inl l⟩
 ·intro m e1 A;rcases V m e1 A with⟨rfl,rfl⟩| ⟨U,A⟩
  ·exact hO
  exact(h.rg m e1 A).mono (λ_ h=> .inl h) (λ_ _=>rfl) hn rfl (λ_ _=>rfl)
 ·intro m1 m2 e1 e2 b A B r7 kN;rcases V m1 e1 A with⟨rfl,rfl⟩| ⟨M1,Wl⟩
  ·exact absurd r7 (L b)
  rcases V m2 e2 B with⟨rfl,rfl⟩| ⟨EI,h2'⟩
  ·exact absurd kN (L b)
  exact h.own _ _ _ _ b Wl h2' r7 kN
 ·intro m e1 b A l DE;rcases V m e1 A with⟨rfl,rfl⟩| ⟨U,A⟩
  ·exact absurd l (L b)
  rcases DE with DE |DE
  ·exact h.jb m e1 b A l DE
  rcases dO b DE with B |B
  ·exact h.jb m e1 b A l B
  exact U (h.own _ _ _ _ b X A B l)
 ·intro b l;rcases l with l |l
  ·exact h.gL b l
  exact rj b l
 ·intro m e1 i A hi hl;rcases V m e1 A with⟨rfl,rfl⟩| ⟨U,A⟩
  ·exact h.tag _ e i X hi Qk
  exact h.tag m e1 i A hi hl
 refine⟨λ_ h=> .inl h,?_,?_,λ_ _ _=>rfl,zag _,rfl,rfl,rfl⟩
 ·intro b l;rcases l with l |l
  ·exact .inl l
  rcases dO b l with B |B
  ·exact .inl B
  exact .inr (.inl ⟨n,e,X,B⟩)
 rintro b ⟨m,e1,A,l⟩;rcases V m e1 A with⟨rfl,rfl⟩| ⟨U,A⟩
 ·exact absurd l (L b)
 exact .inl ⟨m,e1,A,l⟩
theorem S3(h:ax Q T F G w a s){dst t p s'}{v}(R:tK Q s dst t p=Z s')(hv:aL F w G s.rg v p):
  ∃r w' F' G',(Instr.range t v).run Q w= .ok r w'/\ax Q T F' G' w' (a.put dst r) s'/\Ext (Own G s.rg) (Own G' s'.rg) F F' w w':=by
 unfold tK at R;split at R
 next kt vt n aU Gz=>
  have nH:=iy Gz;split at R
  next Az get c fz ho=>
   split at R
   ·rename_i EG;have EG:=zad EG;subst EG;split at R
    ·rename_i s1 WI hn;obtain⟨e,he,dR,bZ,AP,b,es,B,V,hb,hM⟩:=EE h hv ho;rw[V] at AP;subst AP;have hO0:=h.rg n e he;rw[bZ] at hO0;have hbb: ∀A,aI (G n)=Z A->A=b:=λA L=>by rw[V] at L;simp[aI] at L;exact L.symm
     have rj:=(zar.1 hb).1;obtain⟨F',f1,f2,f3,f4,f5⟩:=h.qcp (o1:= .map kt get c O) he (by rw[bZ];rfl) (λA L=>by simp[a7] at L) (λA L=>by rw[hbb A L];exact rj) (λA L=>by
      have:=hbb A L;subst this;rw[bZ];cases fz with
      |false=>right;simp[a7,L]
      |true=>left;obtain⟨X,es2,qrb,WJ,_,_,hf2⟩:=hO0;rw[V] at WJ;simp at WJ;subst WJ;exact hf2 rfl)
      ⟨b,es,B,V,hb,hM.mono (λ_ h=> .inl h) (λ_ _=>rfl),λ_=> .inr (by rw[V];rfl)⟩
     have hFb:=f4 b (by rw[V];rfl);have U: ∀A,A<w.heap.size->(w.alloc (.mapIter (Z b) B #[] B)).heap[A]?=w.heap[A]?:=λA L=>cb w _ A L;obtain⟨b1,X,b3,b4⟩:=mn f1 hn (g1:= .pointer (Z ⟨w.heap.size,0,Y⟩)) (w':=w.alloc (.mapIter (Z b) B #[] B)) U (by simp) rfl rfl rfl (λA L=>by simp[a7,aI] at L;omega)
      ⟨w.heap.size,Z b,B, #[],B,aM _ _ _,heap_alloc_new w _,.inr ⟨b,es,rfl,hFb,(U b rj).trans hb,rfl,hM.iter.mono f5 (λA L=>U A (h.gL A L)),λk v hc=>by cases hc⟩⟩
     obtain⟨c1,c2⟩:=cL b1 R (v:= .pointer (Z ⟨w.heap.size,0,Y⟩)) (bR.of (.ref (site dst) WI 0 _ ⟨_,b4,zag _,λ_ _=>⟨w.heap.size,aM _ _ _,rfl⟩⟩ rfl));refine⟨.pointer (Z ⟨w.heap.size,0,Y⟩),_,F',_,?_,c1,?_⟩
     ·simp[Instr.range,run_underlying nH,MapKept.run_getObj_map hb]
     rw[c2];exact f2.trans X
    cases R
   cases R
  cases R
 next kt vt Gz=>
  have nH:=iy Gz;split at R
  next s1 WI hn=>
   have Ey:=hv.cY (p:= .d .qy) rfl;subst Ey;have U: ∀A,A<w.heap.size->(w.alloc (.mapIter Y 0 #[] 0)).heap[A]?=w.heap[A]?:=λA L=>cb w _ A L;obtain⟨b1,X,b3,b4⟩:=mn h hn (g1:= .pointer (Z ⟨w.heap.size,0,Y⟩)) (w':=w.alloc (.mapIter Y 0 #[] 0)) U (by simp) rfl rfl rfl (λA L=>by simp[a7,aI] at L;omega)
    ⟨w.heap.size,Y,0, #[],0,aM _ _ _,heap_alloc_new w _,.inl ⟨rfl,λ_=>rfl,rfl⟩⟩
   obtain⟨c1,c2⟩:=cL b1 R (v:= .pointer (Z ⟨w.heap.size,0,Y⟩)) (bR.of (.ref (site dst) WI 0 _ ⟨_,b4,zag _,λ_ _=>⟨w.heap.size,aM _ _ _,rfl⟩⟩ rfl));refine⟨.pointer (Z ⟨w.heap.size,0,Y⟩),_,F,_,?_,c1,?_⟩
   ·simp[Instr.range,run_underlying nH]
   rw[c2];exact X
  cases R
 next l Gz=>
  split at R
  next iM=>
   have nH:Q.underlying t=Z .string:=by
    unfold isStr at iM;split at iM
    ·assumption
    cases iM
   split at R
   ·rename_i s1 WI hn;have Ey:=hv.cY (p:= .d (.str l)) rfl;subst Ey;have U: ∀A,A<w.heap.size->(w.alloc (.stringIter ⟨⟨l⟩⟩ 0)).heap[A]?=w.heap[A]?:=λA L=>cb w _ A L;obtain⟨b1,X,b3,b4⟩:=mn h hn (g1:= .pointer (Z ⟨w.heap.size,0,Y⟩)) (w':=w.alloc (.stringIter ⟨⟨l⟩⟩ 0)) U (by simp) rfl rfl rfl (λA L=>by simp[a7,aI] at L;omega)
     ⟨w.heap.size,aM _ _ _,heap_alloc_new w _⟩
    obtain⟨c1,c2⟩:=cL b1 R (v:= .pointer (Z ⟨w.heap.size,0,Y⟩)) (bR.of (.ref (site dst) WI 0 _ ⟨_,b4,zag _,λ_ _=>⟨w.heap.size,aM _ _ _,rfl⟩⟩ rfl));refine⟨.pointer (Z ⟨w.heap.size,0,Y⟩),_,F,_,?_,c1,?_⟩
    ·simp[Instr.range,run_underlying nH]
    rw[c2];exact X
   cases R
  cases R
 cases R
theorem zH{k l} get (h:k≠l):iq k get l=get l:=by
 unfold iq;cases A:NO k l with
 |false=>rfl
 |true=>exact absurd ((D.bU k l).1 A) h
theorem sa k get:iq k get k=Y:=by unfold iq;rw[(D.bU k k).2 rfl];rfl
theorem Dw.next{kt left es A}{l}(h:Dw Q F w kt left es A l){e}(he:e∈es)(hs:l.contains e.born=C):
  ∃k v,left k=Z v/\k.cY=Z e.key/\bf F w e.val v/\Dw Q F w kt (iq k left) es A (l.push e.born):=by
 obtain⟨ks,h1,h3,h4,h5,h6,h7⟩:=h;obtain⟨i,L⟩:=zaD he;have dE:i<J ks:=by have:=(zab.1 L).1;omega
 obtain⟨⟨k,v⟩,U⟩: ∃p,ks[i]?=Z p:=⟨ks[i],zae dE⟩
 obtain⟨a1,a2,a3⟩:=h3 i _ e U L;refine⟨k,v,(h7 k v).2 ⟨i,e,U,L,hs⟩,a2,a3,ks,h1,h3,h4,h5,h6,λk' v'=> ?_⟩;have R: ∀j e',es[j]?=Z e'->e'.born=e.born->j=i:=λj e' B V=>by
  have hn:=zba.1 h6;obtain⟨l1,e1⟩:=zab.1 L;obtain⟨l2,e2⟩:=zab.1 B;refine zbz λX=> ?_;rcases zcs X with aZ |aZ
  ·exact hn j i (by simpa using l2) (by simpa using l1) aZ (by simp[e1,e2,V])
  exact hn i j (by simpa using l1) (by simpa using l2) aZ (by simp[e1,e2,V])
 by_cases hk:k=k'
 ·subst hk;rw[sa];constructor
  ·intro h;cases h
  rintro⟨j,e',B,hje,hc⟩;have:=xj h4 U B rfl;subst this;rw[L] at hje;cases hje;simp at hc
 rw[zH _ hk,h7];constructor
 ·rintro⟨j,e',B,hje,hc⟩;refine⟨j,e',B,hje,?_⟩;have X:e'.born≠e.born:=λV=>by have:=R j e' hje V;subst this;rw[U] at B;cases B;exact hk rfl
  simp at hc⊢;exact⟨hc,X⟩
 rintro⟨j,e',B,hje,hc⟩;refine⟨j,e',B,hje,?_⟩;simp at hc⊢;exact hc.1
theorem Dw.over{L left es A}{l}(h:Dw Q F w L left es A l)(R: ∀e∈es,l.contains e.born=O): ∀k,left k=Y:=by
 obtain⟨ks,h1,h3,h4,h5,X,V⟩:=h;intro k;cases hk:left k with
 |none=>rfl
 |some v=>obtain⟨i,e,_,U,B⟩:=(V k v).1 hk;rw[R e (zas U)] at B;cases B
end
end Pi
namespace Pi
open Go
section
variable{Q:Program}{T:Tg}{F:Nat->Prop}{G:Nat->W}{w:World}{a:Act}{s:S}
theorem yn: ∀es l,kS es=Z l-> ∃ns:List Int,es=ns.map (ue .u8)/\l=ns.map λn=>UInt8.ofNat n.toNat
 | [],l,h=>by simp[kS] at h;subst h;exact⟨[],rfl,rfl⟩
 |x::es,l,h=>by
  cases x<;>try (simp[kS] at h;done)
  rename_i k n;cases k<;>try (simp[kS] at h;done)
  simp only[kS] at h;cases A:kS es with
  |none=>simp[A] at h
  |some l'=>simp[A] at h;subst h;obtain⟨ns,rfl,rfl⟩:=yn es l' A;exact⟨n::ns,rfl,rfl⟩
theorem S4{ns:List Int}{xs}(h:eY F w 1 (ns.map (ue .u8)) xs):xs=ns.map (W.int .u8):=by
 have L:J xs=J ns:=by simpa using h.1
 apply zbX;intro i;by_cases A:i<J ns
 ·obtain⟨U,R,B⟩:=h.2 i (.int .u8 ns[i]) (by simp[A]);have:=B 0 (.int .u8 ns[i]) (by simp[D.cells]);simp only[zcF,zb9] at this;have e:=this.fZ rfl;have l:i<J xs:=by omega
  simp only[zaj,zae l,zck] at e;rw[zae l,e];simp[A]
 rw[zbq (by omega),zbq (by simp;omega)]
theorem N2{V k p ys}(h:od Q s V k p=Z ys){e'}(ht:Q.underlying V=Z (.slice e')){v}(l:aL F w G s.rg v p): ∃ad n c,v= .slice ad n c:=by
 unfold od at h;split at h
 next n aU len=>
  split at h
  next ty fz es e' A X=>
   obtain⟨e,L,R,U⟩:=S.bY A;cases l with
   |sl _ _ _ _ h1 hr=>obtain⟨a0,N,cap,hG,rfl,B⟩:=hr.at L R (by rw[U];rfl);exact⟨_,_,_,rfl⟩
  cases h
 next n aU k0 off len=>
  split at h
  next ty fz es e' A X=>
   obtain⟨e,L,R,U⟩:=S.bY A;cases l with
   |nu _ _ _ _ _ _ h1 hr=>obtain⟨a0,N,cap,hG,B,a1,sH,rfl,_⟩:=hr.at L R (by rw[U];rfl);exact⟨_,_,_,rfl⟩
  cases h
 ·cases l with
  |d l=>cases l<;>exact⟨_,_,_,rfl⟩
 ·cases l with
  |d l=>cases l;exact⟨_,_,_,rfl⟩
 ·rw[ht] at h;simp at h
 cases h
theorem DH{h e dst}(U:Q.underlying h=Z (.slice e))(V:Q.underlying e=Z (.int .u8))(hd:Q.underlying dst=Z .string){v ys A l}
  (GK: ∃R n c,v= .slice R n c) (X:Src Q 1 h v (J ys) A w) (hf:eY F w 1 ys A) (hb:kS ys=Z l):(Go.convert h dst v).run Q w= .ok (.string ⟨⟨l⟩⟩) w:=by
 obtain⟨R,n,c,rfl⟩:=GK;obtain⟨ns,rfl,rfl⟩:=yn ys l hb;have hn:=S4 hf;subst hn;have B:n=J ns:=by have:=X.len w;simp[Builtin.lenOf] at this;exact this
 subst B;have L:=X.cells;cases R with
 |none=>
  simp[Builtin.firstCells] at L;have:ns=[]:=by simpa using L.symm
  subst this;rw[run_convert_bytes_nil w h e U V _ _ dst hd];rfl
 |some R=>simp only[Builtin.firstCells,zaa,zcF] at L;rw[run_convert_bytes_string w h dst e _ _ c U V hd,run_bytesToString w _ _ c ns L,foldl_push_bytes];simp[ByteArray.empty,ByteArray.emptyWithCapacity];rfl
def Ran Q o (a:Act) w v w':=
 (execOp a.eval o).run Q w= .ok (.value v) w'\/((execOp a.eval o).run Q w= .ok .skip w'/\v=undef)
theorem qlt(h:ax Q T F G w a s){g}(V:nG a g){o s'}(A:ef Q s o g=Z s'):
  ∃v w' F' B,Ran Q o a w v w'/\ax Q T F' B w' (a.put o.dst v) s'/\Ext (Own G s.rg) (Own B s'.rg) F F' w w':=by
 unfold ef at A;unfold Ran execOp;split at A
 next t U=>
  split at A
  next z hz=>
   obtain⟨zv,EF,MY⟩:=re (F:=F) hz w;obtain⟨c1,c2,c3⟩:=eS MY;obtain⟨B,R,L⟩:=EJ h A (cs:=zv.cells) (by rw[c1];cases z<;>simp[P.cells,D.cells]) (l9 MY) (λi v c hv hc=>by
    have: ∃x,c= .d x/\z.cells[i]?=Z x:=by
     cases z<;>simp only[P.cells,D.cells] at hc⊢ <;>first
      | (simp only[zaw,zap] at hc;obtain⟨x,hx,rfl⟩:=hc;exact⟨x,rfl,hx⟩)
      | (cases i<;>simp at hc⊢;exact hc.symm)
    obtain⟨x,rfl,hx⟩:=this;exact .d (c3 i v x hv hx))
   refine⟨_,_,F,B,.inl ?_,R,L⟩;simp[U,Instr.alloc,EF,newVar,newRow]
  cases A
 next t x U=>
  have hx:=bg h V x;split at A
  next jE=>obtain⟨c1,c2,c3⟩:=AR hx jE;obtain⟨B,R,L⟩:=EJ h A c1 c3 c2;refine⟨_,_,F,B,.inl ?_,R,L⟩;simp[U,Instr.box,newVar,newRow]
  cases A
 next t ad x U=>
  split at A
  next s1 h1=>obtain⟨w',F',B,X,R,L⟩:=SV h h1 (bg h V ad) (bg h V x);obtain⟨e1,e2⟩:=cL R A (v:=undef) (bR.of (.bad _));refine⟨undef,w',F',B,.inr ⟨by simp[U,X],rfl⟩,e1,?_⟩;rw[e2];exact L
  cases A
 next t1 t2 x U=>
  split at A
  next e ht1 vi=>
   split at A
   ·rename_i ys he hys;split at A
    next l hl=>obtain⟨news,DG,hf⟩:=GH h (by omega) hys (bg h V x);have hr:=DH ht1 he vi (N2 hys ht1 (bg h V x)) DG hf hl;obtain⟨e1,e2⟩:=cL h A (v:= .string ⟨⟨l⟩⟩) (bR.of (.d (.str l)));refine⟨_,w,F,G,.inl (by simp[U,hr]),e1,?_⟩;rw[e2];exact Mo _ _ _
    cases A
   cases A
  cases A
 next c U=>
  split at A
  next kW=>
   split at A
   ·rename_i x y t t2 cW A4;obtain⟨v,w',B,X,R,L⟩:=NY (ty:=o.type) h A (bg h V x) (bg h V y);have ea:c.args= #[x,y]:=by apply zbo.1;simpa using cW
    have et:c.argTypes= #[t,t2]:=by apply zbo.1;simpa using A4
    refine⟨v,w',F,B,.inl ?_,R,L⟩;simp[U,resolve,kW,ea,et,invoke,builtin,X]
   cases A
  next kW=>
   split at A
   ·rename_i x y t t2 cW A4;obtain⟨v,w',B,X,R,L⟩:=WD (ty:=o.type) h A (bg h V x) (bg h V y);have ea:c.args= #[x,y]:=by apply zbo.1;simpa using cW
    have et:c.argTypes= #[t,t2]:=by apply zbo.1;simpa using A4
    refine⟨v,w',F,B,.inl ?_,R,L⟩;simp[U,resolve,kW,ea,et,invoke,builtin,X]
   cases A
  next kW=>
   split at A
   ·rename_i x t cW A4;obtain⟨v,w',B,X,R,L⟩:=S1 (ty:=o.type) h A (bg h V x);have ea:c.args= #[x]:=by apply zbo.1;simpa using cW
    have et:c.argTypes= #[t]:=by apply zbo.1;simpa using A4
    refine⟨v,w',F,B,.inl ?_,R,L⟩;simp[U,resolve,kW,ea,et,invoke,builtin,X]
   cases A
  next kW=>
   split at A
   ·rename_i x y t ts cW A4;have ht0:c.argTypes[0]?=Z t:=by rw[<-zbM,A4];rfl
    obtain⟨w',X,R,L⟩:=WE h A (bg h V x) (bg h V y) c.argTypes ht0 o.type;have ea:c.args= #[x,y]:=by apply zbo.1;simpa using cW
    refine⟨_,w',F,G,.inl ?_,R,L⟩;simp[U,resolve,kW,ea,invoke,builtin,X]
   cases A
  cases A
 next t x y U=>obtain⟨v,w',B,X,R,L⟩:=WA h A (bg h V x) (bg h V y);exact⟨v,w',F,B,.inl (by simp[U,X]),R,L⟩
 next t U=>obtain⟨v,w',B,X,R,L⟩:=J6 h A;exact⟨v,w',F,B,.inl (by simp[U,X]),R,L⟩
 next t m k x U=>obtain⟨w',F',B,X,R,L⟩:=A2 h A (bg h V m) (bg h V k) (bg h V x);exact⟨undef,w',F',B,.inr ⟨by simp[U,X],rfl⟩,R,L⟩
 next t m k x U=>obtain⟨w',F',B,X,R,L⟩:=A2 h A (bg h V m) (bg h V k) (bg h V x);exact⟨undef,w',F',B,.inr ⟨by simp[U,X],rfl⟩,R,L⟩
 next t x U=>obtain⟨v,w',F',B,X,R,L⟩:=S3 h A (bg h V x);exact⟨v,w',F',B,.inl (by simp[U,X]),R,L⟩
 next t m k U=>obtain⟨v,w',F',B,X,R,L⟩:=N1 h A (bg h V m) (bg h V k);exact⟨v,w',F',B,.inl (by simp[U,X]),R,L⟩
 next t m st x U=>obtain⟨w',F',B,X,R,L⟩:=S2 (t:=t) h A (bg h V m) (bg h V st) (bg h V x);exact⟨undef,w',F',B,.inr ⟨by simp[U,X],rfl⟩,R,L⟩
 next t len parts U=>obtain⟨v,w',F',B,X,R,L⟩:=SZ (vs:=parts.map λ(i,x)=>(i,a.eval x)) h A (by simp) (λi x y hx hy=>by simp only[zdb,zaw,zap] at hx hy;obtain⟨z,hz,rfl⟩:=hx;obtain⟨z',hz',rfl⟩:=hy;rw[hz] at hz';cases hz';exact⟨rfl,bg h V z.2⟩);exact⟨v,w',F',B,.inl (by simp[U,X]),R,L⟩
 cases A
theorem WK(h:ax Q T F G w a s){g}(R:nG a g){o s'}(l:kz Q s o g=Z s'):
  ∃v w' F' U,Ran Q o a w v w'/\ax Q T F' U w' (a.put o.dst v) s'/\Ext (Own G s.rg) (Own U s'.rg) F F' w w':=by
 unfold kz at l;split at l
 next e A=>
  split at l
  next s1 v hn=>
   unfold dM at A;split at A
   next ho=>obtain⟨h1,h2,h3,h4⟩:=mn h hn (g1:= .slice Y 0 0) (w':=w) (λ_ _=>rfl) (zag _) rfl rfl rfl (λb hb=>by simp[a7,aI] at hb) (.inl ⟨aM _ _ _,rfl⟩);obtain⟨L,B⟩:=cL h1 l (v:= .slice Y 0 0) (bR.of (.sl (site o.dst) v 0 _ rfl ⟨_,h4,zag _,λ_ _=>⟨Y,0,0,aM _ _ _,rfl,zag _⟩⟩));refine⟨.slice Y 0 0,w,F,_,.inl (by simp[execOp,ho,Act.eval]),L,?_⟩;rw[B];exact h2
   cases A
  cases l
 split at l
 next p X=>obtain⟨v,cE,V⟩:=qlp h R X;obtain⟨L,B⟩:=cL h l (bR.of V);refine⟨v,w,F,G,.inl cE,L,?_⟩;rw[B];exact Mo _ _ _
 exact qlt h R l
theorem xl{o t len l}(h:tL o=Z (t,len,l)): ∃ps,o.op= .buildSlice t len ps/\l=ps.toList/\o.type=4000000:=by
 unfold tL at h;split at h
 next R A ps B=>
  split at h
  next L=>cases h;exact⟨ps,B,rfl,zad L⟩
  cases h
 cases h
theorem qcq(h:ax Q T F G w a s){g}(U:nG a g){o s'}(l:exec Q s o g=Z s'):
  ∃v w' F' V,Ran Q o a w v w'/\ax Q T F' V w' (a.put o.dst v) s'/\Ext (Own G s.rg) (Own V s'.rg) F F' w w':=by
 unfold exec at l;split at l
 next t len B hm=>
  obtain⟨ps,ho,rfl,_⟩:=xl hm;split at l
  next p hp=>obtain⟨v,w',F',g1,g2,g3,g4⟩:=WC h hp (vs:=ps.map λx=>(x.1,a.eval x.2)) (by simp) (λi x y R L=>by simp only[zdb,zaw,zap] at R L;obtain⟨z,X,rfl⟩:=R;obtain⟨z',A,rfl⟩:=L;rw[X] at A;cases A;exact⟨rfl,bg h U _⟩);obtain⟨c1,c2⟩:=cL g2 l (bR.of g3);exact⟨v,w',F',G,.inl (by simp[execOp,ho,g1]),c1,by rw[c2];exact g4⟩
  cases l
 exact WK h U l
end
end Pi
namespace Pi
open Go
theorem kB ρ: ∀(ps:List P) (i:Nat),(oL ρ ps)[i]?=(ps[i]?).map (AE ρ)
 | [],i=>by simp[oL]
 |p::ps,i=>by cases i with |zero=>simp[oL]|succ i=>simp[oL,kB ρ ps i]
theorem kC ρ: ∀ps,J (oL ρ ps)=J ps
 | []=>rfl
 |p::ps=>by simp[oL,kC ρ ps]
def J7(G B:Nat->W)(R A:List (Nat×En))(ρ:Nat->Nat->Option (Nat×Nat)):=
 ∀n v l h,ρ n v=Z (l,h)-> ∃e',lk A l=Z e'/\h<=e'.aU/\(h=e'.aU->e'.obj.live=O->(∃e,lk R n=Z e/\e.aU=v/\e.obj.live=O)/\B l=G n)
theorem dh.link{G L R B ρ}(X:J7 G L R B ρ){n v l A}(U:ρ n v=Z (l,A)){C:W->Prop}(h:dh R n v (C (G n))):dh B l A (C (L l)):=by obtain⟨e',cP,V,hc⟩:=X n v l A U;refine⟨e',cP,V,λh1 h2=> ?_⟩;obtain⟨⟨e,he,dR,Gv⟩,hG⟩:=hc h1 h2;rw[hG];exact h.at he dR Gv
theorem pL{F w G G' R R'}{ρ}(V:J7 G G' R R' ρ){v p}(h:aL F w G R v p):aL F w G' R' v (AE ρ p):=by
 induction h with
 |d h=>exact .d h
 |agg vs ps hlen gT _ ih=>refine .agg vs (oL ρ ps) (by rw[kC];exact hlen) gT (λi v c X U=> ?_);rw[kB] at U;simp only[zap] at U;obtain⟨q,hq,rfl⟩:=U;exact ih i v q X hq
 |cy vs ps hlen _ ih=>refine .cy vs (oL ρ ps) (by rw[kC];exact hlen) (λi v c X U=> ?_);rw[kB] at U;simp only[zap] at U;obtain⟨q,hq,rfl⟩:=U;exact ih i v q X hq
 |fn f vs ps hlen _ ih=>refine .fn f vs (oL ρ ps) (by rw[kC];exact hlen) (λi v c X U=> ?_);rw[kB] at U;simp only[zap] at U;obtain⟨q,hq,rfl⟩:=U;exact ih i v q X hq
 |ref n aU off v h h1=>
  simp only[AE];split
  next B A L=>exact .ref B A off v (dh.link (C:=λg=> ∃b,g= .pointer (Z ⟨b,0,Y⟩)/\v= .pointer (Z ⟨b,off,Y⟩)) V L h) h1
  exact .bad _
 |eB n aU i k off v h1 h=>
  simp only[AE];split
  next B A L=>exact .eB B A i k off v h1 (dh.link (C:=λg=> ∃b N cap,g= .slice (Z ⟨b,0,Y⟩) N cap/\v= .pointer (Z ⟨b,i*k+off,Y⟩)) V L h)
  exact .bad _
 |fT x off b o hb cH f hw hr=>exact .fT x off b o hb cH f hw hr
 |sl n aU len v h1 h=>
  simp only[AE];split
  next B A L=>exact .sl B A len v h1 (dh.link (C:=λg=> ∃a N cap,g= .slice a N cap/\v= .slice a len cap/\len<=N) V L h)
  exact .bad _
 |nu n aU k off len v h1 h=>
  simp only[AE];split
  next B A L=>exact .nu B A k off len v h1 (dh.link (C:=λg=> ∃a N cap,g= .slice a N cap/\off+len<=N/\ ∃a' iZ,v= .slice a' len iZ/\len<=iZ/\(len=0\/ ∃b,a=Z ⟨b,0,Y⟩/\a'=Z ⟨b,off*k,Y⟩)) V L h)
  exact .bad _
 |mp n aU v h1 h=>
  simp only[AE];split
  next B A L=>exact .mp B A v h1 (dh.link (C:=λg=>v=g) V L h)
  exact .bad _
 |hd n aU v h1 h=>
  simp only[AE];split
  next B A L=>exact .hd B A v h1 (dh.link (C:=λg=> ∃b l,g= .tuple ⟨v::l⟩/\v= .pointer (Z ⟨b,0,Y⟩)) V L h)
  exact .bad _
 |JL n aU len v h1 h=>
  simp only[AE];split
  next B A L=>exact .JL B A len v h1 (dh.link (C:=λg=> ∃a N cap l,g= .tuple ⟨.slice a N cap::l⟩/\v= .slice a len cap/\len<=N) V L h)
  exact .bad _
 |wV n aU v h1 h=>
  simp only[AE];split
  next B A L=>exact .wV B A v h1 (dh.link (C:=λg=> ∃l,g= .tuple ⟨v::l⟩) V L h)
  exact .bad _
 |bad v=>exact .bad v
theorem kD ρ o:(gS ρ o).live=o.live:=by cases o<;>rfl
theorem rr ρ g o:a7 g (gS ρ o)=a7 g o:=by cases o<;>rfl
theorem A5{Q F w G G'}{R R' ρ}(hl:J7 G G' R R' ρ){n n'}(V:G' n'=G n){o}(h:ny Q F w G R n o):ny Q F w G' R' n' (gS ρ o):=by
 cases o with
 |gone=>trivial
 |box T ps=>obtain⟨b,cs,A,B,L,U,h3⟩:=h;refine⟨b,cs,V.trans A,B,by rw[kC];exact L,U,λi p hp=> ?_⟩;rw[kB] at hp;simp only[zap] at hp;obtain⟨q,hq,rfl⟩:=hp;exact pL hl (h3 i q hq)
 |arr ty fz es=>
  rcases h with⟨A,he⟩| ⟨b,cap,cs,k,A,B,L,U,h3,h4,h5,h6,h7⟩
  ·exact .inl ⟨V.trans A,he⟩
  exact .inr ⟨b,cap,cs,k,V.trans A,B,L,U,h3,h4,h5,h6,h7⟩
 |map kt get c fz=>obtain⟨b,es,l,A,B,L,U⟩:=h;exact⟨b,es,l,V.trans A,B,L,U⟩
 |cS=>trivial
 |fY kt get c p kd=>obtain⟨b,es,l,A,B,L,i,e,U,h3,h4⟩:=h;exact⟨b,es,l,V.trans A,B,L,i,e,U,pL hl h3,h4⟩
 |deep x p=>obtain⟨v,bs,L,U⟩:=h;exact⟨v,bs,V.trans L,U⟩
 |ji s p=>obtain⟨b,A,B⟩:=h;exact⟨b,V.trans A,B⟩
 |iter kt vt left cur=>obtain⟨b,mo,X,seen,last,A,B,L⟩:=h;exact⟨b,mo,X,seen,last,V.trans A,B,L⟩
theorem lQ: ∀l n,gE n l=O↔n∈l
 | [],n=>by simp[gE]
 |m::r,n=>by simp[gE,lQ r n]
theorem dj: ∀l,eI l=O->l.Nodup
 | [],_=>List.nodup_nil
 |n::r,h=>by simp only[eI,zac,zbD] at h;refine zaU.2 ⟨λA=> ?_,dj r h.2⟩;rw[(lQ r n).2 A] at h;cases h.1
theorem iz: ∀l n A i,posOf l n A=Z i->A<=i/\l[i-A]?=Z n
 | [],n,A,i,h=>by simp[posOf] at h
 |m::r,n,A,i,h=>by
  simp only[posOf] at h;split at h
  next B=>
   have B:m=n:=by simpa using B
   simp at h;subst h;subst B;simp
  obtain⟨R,L⟩:=iz r n (A+1) i h;refine⟨by omega,?_⟩;have e:i-A=(i-(A+1))+1:=by omega
  rw[e];simpa using L
theorem tO: ∀l n A,posOf l n A=Y->n∉l
 | [],n,A,_=>by simp
 |m::r,n,A,h=>by
  simp only[posOf] at h;split at h
  ·cases h
  rename_i B;have B: ¬m=n:=by simpa using B
  have:=tO r n (A+1) h;simp only[zao,zcO];exact⟨λe=>B e.symm,this⟩
theorem gk{l}(X:l.Nodup){i n}(h:l[i]?=Z n):posOf l n 0=Z i:=by
 cases L:posOf l n 0 with
 |none=>exact absurd (zas h) (tO l n 0 L)
 |some j=>
  obtain⟨_,B⟩:=iz l n 0 j L;simp at B;have U:=(zab.1 h).1;have R:=(zab.1 B).1;have e1:=(zab.1 h).2;have V:=(zab.1 B).2;have A:=zba.1 X;rcases zc6 i j with aZ |heq |hgt
  ·exact absurd (e1.trans V.symm) (A i j U R aZ)
  ·rw[heq]
  exact absurd (V.trans e1.symm) (A j i R U hgt)
theorem N3 R ρ tagged: ∀ns l A,sub R ρ tagged l ns=Z A->
  ∀j e',lk A j=Z e'-> ∃n e,l<=j/\ns[j-l]?=Z n/\lk R n=Z e/\e.obj.live=O/\e'=⟨0,if tagged then Z j else e.tag,gS ρ e.obj⟩
 | [],l,A,h,j,e',hj=>by simp[sub] at h;subst h;simp[lk] at hj
 |n::ns,l,A,h,j,e',hj=>by
  simp only[sub] at h;split at h
  next e he=>
   split at h
   ·cases h
   ·rename_i r V L;simp at h;subst h;simp only[lk] at hj;split at hj
    ·rename_i B;have B:l=j:=by simpa using B
     subst B;simp at hj;subst hj;refine⟨n,e,zag _,by simp,he,?_,rfl⟩;cases X:e.obj<;>simp[Obj.live];exact L X
    obtain⟨U,e1,h1,h2,h3,h4,h5⟩:=N3 R ρ tagged ns (l+1) r V j e' hj;refine⟨U,e1,by omega,?_,h3,h4,h5⟩;have e2:j-l=(j-(l+1))+1:=by omega
    rw[e2];simpa using h2
   cases h
  cases h
theorem zI R ρ tagged: ∀ns l A,sub R ρ tagged l ns=Z A->
  ∀i n,ns[i]?=Z n-> ∃e,lk R n=Z e/\e.obj.live=O/\lk A (l+i)=Z ⟨0,if tagged then Z (l+i) else e.tag,gS ρ e.obj⟩
 | [],l,A,h,i,n,hi=>by simp at hi
 |m::ns,l,A,h,i,n,hi=>by
  simp only[sub] at h;split at h
  next e X=>
   split at h
   ·cases h
   ·rename_i r U B;simp at h;subst h;cases i with
    |zero=>simp at hi;subst hi;refine⟨e,X,?_,by simp[lk]⟩;cases V:e.obj<;>simp[Obj.live];exact B V
    |succ i=>
     obtain⟨e1,h1,h2,L⟩:=zI R ρ tagged ns (l+1) r U i n (by simpa using hi);refine⟨e1,h1,h2,?_⟩;have e2:l+1+i=l+(i+1):=by omega
     rw[e2] at L;have cU:bo l (l+(i+1))=C:=by
      cases hb:bo l (l+(i+1)) with
      |false=>rfl
      |true=>have:=zad hb;omega
     simp only[lk,cU];exact L
   cases h
  cases h
def de Q T F G w R:=ax Q T F G w ⟨#[],[]⟩ ⟨0,[],R⟩
section
variable{Q:Program}{T:Tg}{F:Nat->Prop}{G:Nat->W}{w:World}{a:Act}{s:S}
theorem ax.heap(h:ax Q T F G w a s):de Q T F G w s.rg:=
 ⟨.nil,za4 _,λt p l=>by simp[lk] at l,h.rg,h.own,h.jb,h.gL,h.tag,h.z,h.dr,h.sz⟩
theorem de.state{R}(h:de Q T F G w R){a s}(L:s.rg=R)(B:fM T F G R w a.defers)(A:s.n<=a.tmps.size)(l: ∀t p,lk s.tm t=Z p->bR F w G s.rg a.tmps (a.tmps.getD t undef) p):ax Q T F G w a s:=by subst L;exact⟨B,A,l,h.rg,h.own,h.jb,h.gL,h.tag,h.z,h.dr,h.sz⟩
theorem de.sub{R U}(h:de Q T F G w R){ns tagged}(hs:sub R (toPos R ns) tagged 0 ns=Z U)(mr:eI ns=O):
  de Q (if tagged then⟨λi=>G (ns.getD i 0),T.w0,0,C⟩ else T) F (λi=>G (ns.getD i 0)) w U/\J7 G (λi=>G (ns.getD i 0)) R U (toPos R ns)/\
  (∀b,Own (λi=>G (ns.getD i 0)) U b-> ∃n e,n∈ns/\lk R n=Z e/\a7 (G n) e.obj b):=by
 have qcr:=dj ns mr;have EL:J7 G (λi=>G (ns.getD i 0)) R U (toPos R ns):=by
  intro n v n' v' V;unfold toPos at V;split at V
  next i e hp he=>
   split at V
   ·rename_i hv;simp at V;obtain⟨rfl,rfl⟩:=V;obtain⟨_,L⟩:=iz ns n 0 i hp;simp at L;obtain⟨e1,h1,B,l⟩:=zI R _ tagged ns 0 U hs i n L;rw[zaE] at l;refine⟨_,l,zag _,λ_ _=>⟨⟨e1,h1,?_,B⟩,?_⟩⟩
    ·rw[he] at h1;cases h1;simpa using hv
    simp[L]
   cases V
  cases V
 have Vd: ∀j e',lk U j=Z e'-> ∃n e,ns[j]?=Z n/\lk R n=Z e/\e.obj.live=O/\e'=⟨0,if tagged then Z j else e.tag,gS (toPos R ns) e.obj⟩/\G (ns.getD j 0)=G n:=λj e' A=>by obtain⟨n,e,_,B,l,h4,h5⟩:=N3 R _ tagged ns 0 U hs j e' A;simp at B;exact⟨n,e,B,l,h4,h5,by simp[B]⟩
 refine⟨⟨.nil,za4 _,λt p hp=>by simp[lk] at hp,?_,?_,?_,h.gL,?_,?_,?_,?_⟩,EL,?_⟩
 ·intro j e' A;obtain⟨n,e,_,l,_,rfl,hG⟩:=Vd j e' A;exact A5 EL hG (h.rg n e l)
 ·intro j1 j2 e1 e2 b h1 B r7 kN;obtain⟨n1,f1,g1,g2,_,rfl,hG1⟩:=Vd j1 e1 h1;obtain⟨n2,f2,k1,k2,_,rfl,hG2⟩:=Vd j2 e2 B;simp only[rr] at r7 kN;rw[hG1] at r7;rw[hG2] at kN;have:=h.own n1 n2 f1 f2 b g2 k2 r7 kN;subst this;have p1:=gk qcr g1;have p2:=gk qcr k1;rw[p1] at p2;exact zaT p2
 ·intro j e' b A X DE;obtain⟨n,e,_,l,_,rfl,hG⟩:=Vd j e' A;simp only[rr] at X;rw[hG] at X;exact h.jb n e b l X DE
 ·intro j e' i A L hl;obtain⟨n,e,_,l,h4,rfl,hG⟩:=Vd j e' A;cases tagged with
  |true=>simp at L;subst L;exact .inl rfl
  |false=>simp only[zaF,zbk] at L⊢;rw[hG];exact h.tag n e i l L h4
 ·cases tagged<;>exact h.z
 ·cases tagged<;>exact h.dr
 ·cases tagged with
  |true=>exact za4 _
  |false=>exact h.sz
 rintro b ⟨j,e',A,X⟩;obtain⟨n,e,B,l,_,rfl,hG⟩:=Vd j e' A;simp only[rr] at X;rw[hG] at X;exact⟨n,e,zas B,l,X⟩
theorem vo ρ keep: ∀m t p,lk (sW ρ keep m) t=Z p-> ∃q,lk m t=Z q/\p=AE ρ q
 | [],t,p,h=>by simp[sW,lk] at h
 | (t',q)::r,t,p,h=>by
  simp only[sW] at h;split at h
  next R=>
   simp only[lk] at h⊢;split at h
   next L=>simp at h;exact⟨q,by simp[L],h.symm⟩
   rename_i L;obtain⟨B,A,l⟩:=vo ρ keep r t p h;exact⟨B,by simpa [L] using A,l⟩
  rename_i R;obtain⟨B,A,l⟩:=vo ρ keep r t p h;have X:gE t keep=O:=by
   clear A l
   induction r with
   |nil=>simp[sW,lk] at h
   |cons x r ih=>
    obtain⟨V,q2⟩:=x;simp only[sW] at h;split at h
    ·rename_i EI;simp only[lk] at h;split at h
     ·rename_i U;have:V=t:=by simpa using U
      rwa [<-this]
     exact ih h
    exact ih h
  have cU: ¬t'=t:=λe=>R (by rw[e];exact X);exact⟨B,by simp[lk,cU,A],l⟩
theorem bR.AE{F w G B R A}{ρ}(L:J7 G B R A ρ){l v p}(h:bR F w G R l v p):bR F w B A l v (AE ρ p):=by
 cases p with
 |when t b q=>exact h
 |_=>exact bR.of (pL L h)
theorem WL(h:ax Q T F G w a s){keep s'}(l:canon keep s=Z s'): ∃V,ax Q T F V w a s'/\Ext (Own G s.rg) (Own V s'.rg) F F w w:=by
 unfold canon at l;simp only at l;split at l
 next X=>
  split at l
  next R hR=>
   simp at l;subst l;obtain⟨h1,h2,U⟩:=h.heap.sub hR X;have B: ∀b,Own (λi=>G ((reach s.rg 1000 (qcc keep s.tm) []).getD i 0)) R b->Own G s.rg b:=λb A=>let ⟨n,e,_,L,A⟩:=U b A;⟨n,e,L,A⟩;refine⟨_,h1.state rfl ⟨h.oR.1,λd hd=>let ⟨D,d1,d0,d2,d3,d4⟩:=h.oR.2 d hd;⟨D,d1,d0,d2,d3,λho=>d4 (B D ho)⟩⟩ h.size (λt p hp=> ?_),⟨λ_ h=>h,λ_ h=> .inl h,λb A=> ?_,λ_ _ _=>rfl,zag _,rfl,rfl,rfl⟩⟩
   ·obtain⟨q,hq,rfl⟩:=vo _ keep s.tm t p hp;exact(h.tm t q hq).AE h2
   obtain⟨n,e,_,L,A⟩:=U b A;exact .inl ⟨n,e,L,A⟩
  cases l
 cases l
end
end Pi
namespace Pi
open Go
def jq Q f h w (R:W->World->Prop):=
 ((callFunc f h).run Q w= .ok (.enter f h) w/\Calls Q f h w (λe w'=> ∃v,e= .returned v/\R v w'))\/ ∃v w',(callFunc f h).run Q w= .ok (.value v) w'/\R v w'
def b7 Q w0 (cf:CF):=
 ∀A ps R p h,cf A ps R=Z (p,h)-> ∀(F:Nat->Prop) (G:Nat->W) (w:World) (vs:List W),de Q ⟨G,w0,0,C⟩ F G w R->J vs=J ps->
  (∀(i:Nat) (v:W) (c:P),vs[i]?=Z v->ps[i]?=Z c->aL F w G R v c)->
  jq Q A ⟨vs⟩ w (λv w'=> ∃F' l,de Q ⟨G,w0,0,C⟩ F' l w' h/\aL F' w' l h v p/\Ext (Own G R) (Own l h) F F' w w')
def nK(h:List (Nat×En))(σ:Nat->Nat->Option (Nat×Nat))(i:Nat):Obj:=
 match q6 h i with |Z (_,e1)=>gS σ e1.obj |Y=> .gone
theorem A6 V σ: ∀ns l R A,ig V σ l ns R=Z A->ns.Nodup->
  ∀m,(∀i,posOf ns m l=Z i-> ∃e,lk R m=Z e/\lk A m=Z ⟨e.aU,e.tag,nK V σ i⟩)/\(posOf ns m l=Y->lk A m=lk R m)
 | [],l,R,A,h,_,m=>by grind [ig,posOf]
 |n::ns,l,R,A,h,L,m=>by
  simp only[ig] at h;split at h
  ·cases h
  rename_i e he;obtain⟨X,L⟩:=zaU.1 L;obtain⟨h1,h2⟩:=A6 V σ ns (l+1) _ A h L m;simp only[posOf];by_cases hm:n=m
  ·subst hm;have U:posOf ns n (l+1)=Y:=by
    cases U:posOf ns n (l+1) with
    |none=>rfl
    |some j=>exact absurd (zas (iz ns n _ j U).2) X
   refine⟨λi B=> ?_,λB=>by simp at B⟩;simp at B;subst B;refine⟨e,he,?_⟩;rw[h2 U,aX];rfl
  simp_all [br]
def gl(R:List (Nat×En))(m:Nat):Nat:=match lk R m with |Y=>0 |Z e0=>e0.aU+1
theorem xn U σ: ∀B l R A,lZ U σ l B R=Z A->
  ∀m,(∀n,(l<=m/\B[m-l]?=Z n)-> ∃e1,lk U n=Z e1/\lk A m=Z ⟨gl R m,Y,gS σ e1.obj⟩/\ ∀L,lk R m=Z L->L.obj= .gone)/\
   ((m<l\/l+J B<=m)->lk A m=lk R m)
 | [],l,R,A,h,m=>by grind [lZ]
 |n::B,l,R,A,h,m=>by
  simp only[lZ] at h;split at h
  ·cases h
  rename_i e1 zh;have V: ∃X,lZ U σ (l+1) B (ins l ⟨X,Y,gS σ e1.obj⟩ R)=Z A/\X=gl R l/\ ∀L,lk R l=Z L->L.obj= .gone:=by grind [gl]
  obtain⟨X,h,rl,qtn⟩:=V;obtain⟨h1,h2⟩:=xn U σ B (l+1) _ A h m;grind [aX,gl,br]
theorem pM{l i m e}(h:q6 l i=Z (m,e)):lk l m=Z e/\e.tag=Z i:=by
 unfold q6 at h;split at h
 ·split at h
  next e' A=>
   split at h
   ·simp_all
   cases h
  cases h
 cases h
section
variable{Q:Program}{T:Tg}{F:Nat->Prop}{G:Nat->W}{w:World}{a:Act}{s:S}
theorem EM{t p q s' v}(h:ax Q T F G w a s)(l:lY Q s t p=Z (s',q))(A:aL F w G s.rg v p):
  ∃F',ax Q T F' G w a s'/\Ext (Own G s.rg) (Own G s'.rg) F F' w w/\Names G G s.rg s'.rg/\(∀b,F b->F' b)/\aL F' w G s'.rg v q:=by
 unfold lY at l;split at l
 ·split at l
  ·split at l
   next s3 x B=>obtain⟨rfl,rfl⟩:=l;obtain⟨F',X,V,U,R,L⟩:=zF h B A;exact⟨F',X,V,U,R,.d L⟩
   cases l
  grind [Mo,Nm]
 ·split at l
  ·rw[D.force_eq] at l;obtain⟨rfl,rfl⟩:=l;cases A with
   |d hd=>exact⟨F,h,Mo _ _ _,Nm _ _,λ_ h=>h,.d (Wr hd)⟩
  grind [Mo,Nm]
 grind [Mo,Nm]
theorem A7: ∀ps B s F s' qs vs,ax Q T F G w a s->fg Q s B ps=Z (s',qs)->J vs=J ps->
  (∀(i:Nat) (v:W) (c:P),vs[i]?=Z v->ps[i]?=Z c->aL F w G s.rg v c)->
  ∃F',ax Q T F' G w a s'/\Ext (Own G s.rg) (Own G s'.rg) F F' w w/\Names G G s.rg s'.rg/\(∀b,F b->F' b)/\J vs=J qs/\ ∀(i:Nat) (v:W) (c:P),vs[i]?=Z v->qs[i]?=Z c->aL F' w G s'.rg v c
 | [],B,s,F,s',xs,vs,h,hs,hl,hv=>by grind [fg,Mo,Nm]
 |p::ps,B,s,F,s',xs,vs,h,hs,hl,hv=>by
  cases vs with
  |nil=>simp at hl
  |cons v vs=>
   simp only[fg] at hs;split at hs
   ·cases hs
   rename_i s1 q l;split at hs
   ·rename_i s2 L h2;simp at hs;obtain⟨rfl,rfl⟩:=hs;have one: ∃F',ax Q T F' G w a s1/\Ext (Own G s.rg) (Own G s1.rg) F F' w w/\Names G G s.rg s1.rg/\(∀b,F b->F' b)/\aL F' w G s1.rg v q:=by
     have A:=hv 0 v p (by simp) (by simp);unfold q5 at l;split at l
     ·split at l
      next s3 x R=>obtain⟨rfl,rfl⟩:=l;obtain⟨F',f1,f2,f3,X,V⟩:=zD h R A;exact⟨F',f1,f2,f3,X,.d V⟩
      cases l
     ·split at l
      next s3 x R=>obtain⟨rfl,rfl⟩:=l;obtain⟨F',f1,f2,f3,X,V⟩:=zD h R A;exact⟨F',f1,f2,f3,X,.d V⟩
      cases l
     grind [EM]
    obtain⟨F1,a1,a2,a3,a4,a5⟩:=one;obtain⟨F2,b1,b2,b3,b4,b5,b6⟩:=A7 ps B.tail s1 F1 s2 L vs a1 h2 (by grind)
     (λi u c hu U=>(hv (i+1) u c (by grind) (by grind)).mono a4 (λ_ _=>rfl) a3)
    refine⟨F2,b1,a2.trans b2,a3.trans b3,λb hb=>b4 b (a4 b hb),by grind,λi u c hu U=> ?_⟩;cases i with
    |zero=>simp at hu U;subst hu;subst U;exact a5.mono b4 (λ_ _=>rfl) b3
    |succ i=>grind
   cases hs
theorem yo{f} ps s F s' qs vs (h:ax Q T F G w a s)(A:dC Q s f ps=Z (s',qs))(B:J vs=J ps)
  (l: ∀(i:Nat) (v:W) (c:P),vs[i]?=Z v->ps[i]?=Z c->aL F w G s.rg v c):
  ∃F',ax Q T F' G w a s'/\Ext (Own G s.rg) (Own G s'.rg) F F' w w/\Names G G s.rg s'.rg/\(∀b,F b->F' b)/\J vs=J qs/\ ∀(i:Nat) (v:W) (c:P),vs[i]?=Z v->qs[i]?=Z c->aL F' w G s'.rg v c:=by
 grind [dC,Mo,Nm,A7]
theorem S5{o:Obj}(h:o.live=C):o= .gone:=by cases o<;>first |rfl |cases h
theorem WM{g o b}(h:a7 g o b):o.live=O:=by cases o<;>first |rfl |exact h.elim
theorem tQ(h:ax Q T F G w a s){ns U base}(I1:eI ns=O)(hms:eI U=O){R0 R R2 R3}(mx:sub s.rg (toPos s.rg ns) O 0 ns=Z R0)
  {F2 G2 w'} (hR1:de Q ⟨λi=>G (ns.getD i 0),T.w0,0,C⟩ F2 G2 w' R) (oT:Ext (Own (λi=>G (ns.getD i 0)) R0) (Own G2 R) F F2 w w')
  (qrc: ∀m∈U,∃e,lk R m=Z e/\e.tag=Y)
  (lb:ig R (gf R s.rg ns U base) 0 ns s.rg=Z R2) (fh:lZ R (gf R s.rg ns U base) base U R2=Z R3):
  ∃G3,ax Q T F2 G3 w' a {s with rg:=R3}/\Ext (Own G s.rg) (Own G3 R3) F F2 w w'/\J7 G2 G3 R R3 (gf R s.rg ns U base):=by
 have qcs:=dj ns I1;have qlu:=dj U hms;obtain⟨s1,s2,s3⟩:=h.heap.sub mx I1;simp only[zbj] at s1
 let σ:=gf R s.rg ns U base
 have N4: ∀m,(∃n,base<=m/\U[m-base]?=Z n)\/(m<base\/base+J U<=m):=λm=>by
  by_cases l:base<=m/\m-base<J U
  ·exact .inl ⟨_,l.1,zae l.2⟩
  exact .inr (by omega)
 let GL:Nat->W:=λm=>match posOf ns m 0 with
  |some i=>(match q6 R i with |some (V,e1)=>if e1.obj.live=O then G2 V else G m |none=>G m)
  |none=>G m
 let G3:Nat->W:=λm=>if base<=m/\m-base<J U then G2 (U.getD (m-base) 0) else GL m
 have WN: ∀m n,base<=m->U[m-base]?=Z n->G3 m=G2 n:=λm n l A=>by have:=(zab.1 A).1;simp only[G3,zau (show base<=m/\m-base<J U from⟨l,this⟩)];simp[A]
 have qlv: ∀m,(m<base\/base+J U<=m)->G3 m=GL m:=λm l=>by simp only[G3,zat (show ¬(base<=m/\m-base<J U) by omega)]
 have qhK: ∀m,(m<base\/base+J U<=m)->posOf ns m 0=Y->G3 m=G m:=λm l A=>by rw[qlv m l];simp only[GL,A]
 have Qt: ∀m i,(m<base\/base+J U<=m)->posOf ns m 0=Z i->ns[i]?=Z m->jk (G3 m) (G m)/\ ∀V e1,q6 R i=Z (V,e1)->e1.obj.live=O->G3 m=G2 V:=λm i l A h3=>by
  rw[qlv m l];simp only[GL,A];cases ht:q6 R i with
  |none=>exact⟨.inl rfl,λ_ _ h=>by cases h⟩
  |some x=>
   obtain⟨V,e1⟩:=x;simp only;by_cases hl:e1.obj.live=O
   ·rw[zau hl];obtain⟨k3,k4⟩:=pM ht;have:=hR1.tag V e1 i k3 k4 hl;simp only[zaj,h3,zck] at this;exact⟨this,λm2 e2 h _=>by cases h;rfl⟩
   rw[zat hl];exact⟨.inl rfl,λm2 e2 h h4=>by cases h;exact absurd h4 hl⟩
 have hb:=λm=>A6 R σ ns 0 s.rg R2 lb qcs m;have hn:=λm=>xn R σ U base R2 R3 fh m;have Qu: ∀m,gl R2 m=gl s.rg m:=λm=>by
  cases hp:posOf ns m 0 with
  |none=>simp[gl,(hb m).2 hp]
  |some i=>obtain⟨e,l,A⟩:=(hb m).1 i hp;simp[gl,l,A]
 have hR3: ∀m e',lk R3 m=Z e'->
   (∃n e1,base<=m/\U[m-base]?=Z n/\lk R n=Z e1/\e'=⟨gl s.rg m,Y,gS σ e1.obj⟩/\G3 m=G2 n)\/
   (∃i e,ns[i]?=Z m/\lk s.rg m=Z e/\e'=⟨e.aU,e.tag,nK R σ i⟩/\jk (G3 m) (G m)/\ ∀V e1,q6 R i=Z (V,e1)->e1.obj.live=O->G3 m=G2 V)\/
   (m∉ns/\lk s.rg m=Z e'/\G3 m=G m):=λm e' cP=>by
  rcases N4 m with⟨n,l,A⟩|l
  ·obtain⟨e1,g1,B,g3⟩:=(hn m).1 n ⟨l,A⟩;rw[cP] at B;cases B;exact .inl ⟨n,e1,l,A,g1,by rw[Qu],WN m n l A⟩
  rw[(hn m).2 l] at cP;cases hp:posOf ns m 0 with
  |none=>rw[(hb m).2 hp] at cP;exact .inr (.inr ⟨tO _ _ _ hp,cP,qhK m l hp⟩)
  |some i=>obtain⟨e,g1,B⟩:=(hb m).1 i hp;rw[cP] at B;cases B;obtain⟨_,hi⟩:=iz ns m 0 i hp;exact .inr (.inl ⟨i,e,by simpa using hi,g1,rfl,Qt m i l hp (by simpa using hi)⟩)
 have EL:J7 G2 G3 R R3 σ:=by
  intro n v n' v' hσ;simp only[σ,gf] at hσ;split at hσ
  ·cases hσ
  rename_i e1 zh;split at hσ
  next hv=>
   have hv:e1.aU=v:=by simpa using hv
   split at hσ
   ·rename_i i qcm;split at hσ
    ·rename_i m n1 ex hm htn;split at hσ
     ·rename_i Qo;have Qo:n1=n:=by simpa using Qo
      subst Qo;split at hσ
      ·rename_i e0 Qp;simp at hσ;obtain⟨rfl,rfl⟩:=hσ;have hp:=gk qcs hm;obtain⟨e,g1,B⟩:=(hb m).1 i hp;rw[Qp] at g1;cases g1;obtain⟨qlw,qts⟩:=pM htn;rw[zh] at qlw;cases qlw;have hbo:nK R σ i=gS σ e1.obj:=by simp[nK,htn]
       rcases N4 m with⟨nn,l,A⟩|l
       ·obtain⟨e2,L,k2,k3⟩:=(hn m).1 nn ⟨l,A⟩;refine⟨_,k2,?_,λhvv _=> ?_⟩
        ·simp[gl,B]
        simp[gl,B] at hvv
       have hl3:=(hn m).2 l;rw[B] at hl3;refine⟨_,hl3,zag _,λ_ jo=>⟨⟨e1,zh,hv,?_⟩,?_⟩⟩
       ·rw[hbo,kD] at jo;exact jo
       rw[hbo,kD] at jo;exact(Qt m i l hp hm).2 n1 e1 htn jo
      cases hσ
     cases hσ
    cases hσ
   rename_i qcm;split at hσ
   ·rename_i j hj;obtain⟨_,Wz⟩:=iz U n 0 j hj;simp at Wz;have hm:U[base+j-base]?=Z n:=by rw[show base+j-base=j by omega];exact Wz
    obtain⟨e2,L,k2,k3⟩:=(hn (base+j)).1 n ⟨by omega,hm⟩;rw[zh] at L;cases L;have hnv:n'=base+j/\v'=gl s.rg (base+j):=by
     split at hσ
     next hl=>simp at hσ;obtain⟨rfl,rfl⟩:=hσ;simp[gl,hl]
     rename_i e0 hl;simp at hσ;obtain⟨rfl,rfl⟩:=hσ;simp[gl,hl]
    obtain⟨rfl,rfl⟩:=hnv;refine⟨_,k2,by rw[Qu];exact zag _,λ_ jo=>⟨⟨e1,zh,hv,by rw[kD] at jo;exact jo⟩,WN _ n (by omega) hm⟩⟩
   cases hσ
  cases hσ
 have A8:=s3;have hFF: ∀b,F b->w'.heap[b]?=w.heap[b]?:=λb hb=>oT.keep b (h.gL b hb) (λho=>by obtain⟨n,e,_,he,X⟩:=A8 b ho;exact h.jb n e b he X hb);have rh: ∀m e b,m∉ns->lk s.rg m=Z e->a7 (G m) e.obj b-> ¬Own (λi=>G (ns.getD i 0)) R0 b:=λm e b hm he hb ho=>by obtain⟨n,e2,U9,I2,kN⟩:=A8 b ho;exact hm (by rw[h.own m n e e2 b he I2 hb kN];exact U9)
 have A9:Names G G3 s.rg R3:=by
  constructor
  ·intro m e he;rcases N4 m with⟨n,l,A⟩|l
   ·obtain⟨e1,g1,B,g3⟩:=(hn m).1 n ⟨l,A⟩;refine⟨_,B,by rw[Qu];simp[gl,he],λhv _=> ?_⟩;rw[Qu] at hv;simp[gl,he] at hv
   cases hp:posOf ns m 0 with
   |none=>refine⟨e,by rw[(hn m).2 l,(hb m).2 hp];exact he,zag _,λ_ h=>h⟩
   |some i=>obtain⟨e0,g1,B⟩:=(hb m).1 i hp;rw[he] at g1;cases g1;obtain⟨_,hi⟩:=iz ns m 0 i hp;simp at hi;obtain⟨e2,L,k2,_⟩:=zI s.rg _ O ns 0 R0 mx i m hi;rw[he] at L;cases L;exact⟨⟨e.aU,e.tag,nK R σ i⟩,by rw[(hn m).2 l];exact B,zag _,λ_ _=>k2⟩
  intro m e e' he cP hv hl;rcases hR3 m e' cP with⟨n,e1,l,A,h3,rfl,h5⟩| ⟨i,e0,l,A,rfl,h4⟩| ⟨l,A,h3⟩
  ·simp[gl,he] at hv
  ·exact h4.1
  exact .inl h3
 have WO: ∀i o,nK R σ i=o->o.live=O-> ∃V e1,q6 R i=Z (V,e1)/\o=gS σ e1.obj:=λi o ho hl=>by
  unfold nK at ho;split at ho
  next V e1 ht=>exact⟨V,e1,ht,ho.symm⟩
  subst ho;simp[Obj.live] at hl
 have J8: ∀(g:W) (o:Obj) b,a7 g o b->o.live=O:=λg o b hb=>WM hb;have GO: ∀m e' b,lk R3 m=Z e'->a7 (G3 m) e'.obj b->
   (∃n e1,lk R n=Z e1/\a7 (G2 n) e1.obj b/\((e1.tag=Y/\base<=m/\U[m-base]?=Z n)\/ ∃i,e1.tag=Z i/\ns[i]?=Z m))\/
   (m∉ns/\lk s.rg m=Z e'/\a7 (G m) e'.obj b):=λm e' b cP X=>by
  rcases hR3 m e' cP with⟨n,e1,l,A,h3,rfl,h5⟩| ⟨i,e0,l,A,rfl,h4⟩| ⟨l,A,h3⟩
  ·simp only[rr] at X;rw[h5] at X;obtain⟨e2,L,k2⟩:=qrc n (zas A);rw[h3] at L;cases L;exact .inl ⟨n,e1,h3,X,.inl ⟨k2,l,A⟩⟩
  ·obtain⟨V,e1,L,k2⟩:=WO i _ rfl (J8 _ _ _ X);have Qv:=J8 _ _ _ X;simp only at X Qv;rw[k2,kD] at Qv;rw[k2,rr,h4.2 V e1 L Qv] at X;obtain⟨k3,k4⟩:=pM L;refine .inl ⟨V,e1,k3,?_,.inr ⟨i,k4,l⟩⟩;exact X
  rw[h3] at X;exact .inr ⟨l,A,X⟩
 have hx3:Ext (Own G s.rg) (Own G3 R3) F F2 w w':=by
  refine⟨oT.iK,?_,?_,?_,oT.size,oT.os,oT.tape,oT.output⟩
  ·intro b X;rcases oT.lz b X with l |l |l
   ·exact .inl l
   ·obtain⟨n,e,_,he,kN⟩:=A8 b l;exact .inr (.inl ⟨n,e,he,kN⟩)
   exact .inr (.inr l)
  ·rintro b ⟨m,e',cP,X⟩;rcases GO m e' b cP X with⟨n1,f1,g1,B,_⟩| ⟨g1,B,g3⟩
   ·rcases oT.jT b ⟨n1,f1,g1,B⟩ with l |l
    ·obtain⟨n,e,_,he,kN⟩:=A8 b l;exact .inl ⟨n,e,he,kN⟩
    exact .inr l
   exact .inl ⟨m,e',B,g3⟩
  intro b X cD;exact oT.keep b X (λho=>by obtain⟨n,e,_,he,kN⟩:=A8 b ho;exact cD ⟨n,e,he,kN⟩)
 refine⟨G3,⟨h.oR.go hx3,h.size,λt p hp=>(h.tm t p hp).mono oT.iK hFF A9,?_,?_,?_,hR1.gL,?_,λb hb=>⟨oT.iK b (h.z b hb).1,(hFF b (h.z b hb).1).trans (h.z b hb).2⟩,hR1.dr,zaJ h.sz oT.size⟩,hx3,EL⟩
 ·intro m e' cP;rcases hR3 m e' cP with⟨n,e1,l,A,h3,rfl,h5⟩| ⟨i,e0,l,A,rfl,h4⟩| ⟨l,A,h3⟩
  ·exact A5 EL h5 (hR1.rg n e1 h3)
  ·cases Qv:(nK R σ i).live with
   |false=>have:=S5 Qv;simp only[this];trivial
   |true=>obtain⟨V,e1,L,k2⟩:=WO i _ rfl Qv;obtain⟨k3,k4⟩:=pM L;simp only[k2];rw[k2,kD] at Qv;exact A5 EL (h4.2 V e1 L Qv) (hR1.rg V e1 k3)
  exact(h.rg m e' A).mono oT.iK hFF A9 h3 (λb X=>oT.keep b ((h.rg m e' A).lt X) (rh m e' b l A X))
 ·intro V m2 e1 e2 b zh I2 r7 kN;rcases GO V e1 b zh r7 with⟨n1,f1,g1,B,g3⟩| ⟨g1,B,g3⟩<;>rcases GO m2 e2 b I2 kN with⟨n2,f2,L,k2,k3⟩| ⟨L,k2,k3⟩
  ·have:=hR1.own n1 n2 f1 f2 b g1 L B k2;subst this;rw[g1] at L;cases L;rcases g3 with⟨t1,p1,p2⟩| ⟨i1,t1,p1⟩<;>rcases k3 with⟨t2,q1,q2⟩| ⟨i2,t2,q1⟩
   ·have a1:=gk qlu p2;have a2:=gk qlu q2;rw[a1] at a2;have:=zaT a2;omega
   ·rw[t1] at t2;cases t2
   ·rw[t1] at t2;cases t2
   rw[t1] at t2;cases t2;rw[p1] at q1;exact zaT q1
  ·exfalso;rcases oT.jT b ⟨n1,f1,g1,B⟩ with l |l
   ·exact rh m2 e2 b L k2 k3 l
   have:=(h.rg m2 e2 k2).lt k3;omega
  ·exfalso;rcases oT.jT b ⟨n2,f2,L,k2⟩ with l |l
   ·exact rh V e1 b g1 B g3 l
   have:=(h.rg V e1 B).lt g3;omega
  exact h.own V m2 e1 e2 b B k2 g3 k3
 ·intro m e' b cP X hf;rcases GO m e' b cP X with⟨n1,f1,g1,B,_⟩| ⟨g1,B,g3⟩
  ·exact hR1.jb n1 f1 b g1 B hf
  rcases oT.lz b hf with l |l |l
  ·exact h.jb m e' b B g3 l
  ·exact rh m e' b g1 B g3 l
  have:=(h.rg m e' B).lt g3;omega
 intro m e' i cP hi hl;rcases hR3 m e' cP with⟨n,e1,l,A,h3,rfl,h5⟩| ⟨i',e0,l,A,rfl,h4⟩| ⟨l,A,h3⟩
 ·simp at hi
 ·obtain⟨e2,L,k2,_⟩:=zI s.rg _ O ns 0 R0 mx i' m l;rw[A] at L;cases L;exact h4.1.trans (h.tag m e0 i A hi k2)
 rw[h3];exact h.tag m e' i A hi hl
theorem fC A: ∀l m,m∈dT A l-> ∃e,lk A m=Z e/\e.tag=Y
 | [],m,h=>by simp[dT] at h
 |n::r,m,h=>by
  simp only[dT] at h;split at h
  next e L=>
   split at h
   ·rename_i B;rcases zao.1 h with rfl |h
    ·exact⟨e,L,B⟩
    exact fC A r m h
   exact fC A r m h
  exact fC A r m h
theorem jq.mono{f l w R B}(h:jq Q f l w R)(A: ∀v w',R v w'->B v w'):jq Q f l w B:=by
 rcases h with⟨h1,h2⟩| ⟨v,w',h1,h2⟩
 ·exact .inl ⟨h1,h2.mono λe w' ⟨v,U,L⟩=>⟨v,U,A v w' L⟩⟩
 exact .inr ⟨v,w',h1,A v w' h2⟩
theorem S6{cf}(gm:b7 Q T.w0 cf)(h:ax Q T F G w a s){dst V ps s'}(l:oe Q cf s dst V ps=Z s'){fv vs}(hf:aL F w G s.rg fv V)(hl:J vs=J ps)
  (hv: ∀(i:Nat) (v:W) (c:P),vs[i]?=Z v->ps[i]?=Z c->aL F w G s.rg v c):
  ∃R cs,fv= .func (.func R) #[] ⟨cs⟩/\jq Q R ⟨vs++cs⟩ w (λv w'=> ∃F' G',ax Q T F' G' w' (a.put dst v) s'/\Ext (Own G s.rg) (Own G' s'.rg) F F' w w'):=by
 unfold oe at l;split at l
 next R dA=>
  cases hf with
  |fn _ cs _ A1 kM=>
   refine⟨R,cs,rfl,?_⟩;split at l
   ·cases l
   rename_i s1 qs I3;simp only at l;split at l
   ·rename_i mr;split at l
    ·cases l
    rename_i R0 X;split at l
    ·cases l
    rename_i p R1 jM;split at l
    ·rename_i B;have B:=(zac _ _▸B:_/\_).1;split at l
     ·cases l
     rename_i R2 lb;split at l
     ·cases l
     rename_i R3 fh;have cW: ∀(i:Nat) (v:W) (c:P),(vs++cs)[i]?=Z v->(ps++dA)[i]?=Z c->aL F w G s.rg v c:=λi v c L A=>by
      by_cases hi:i<J vs
      ·rw[zaP hi] at L;rw[zaP (by omega)] at A;exact hv i v c L A
      rw[zaZ (by omega)] at L A;rw[<-hl] at A;exact kM _ v c L A
     obtain⟨F1,a1,a2,a3,a4,a5,a6⟩:=yo (ps++dA) s F s1 qs (vs++cs) h I3 (by simp[hl,A1]) cW;obtain⟨b1,b2,b3⟩:=a1.heap.sub X mr;simp only[zbj] at b1;have U:=gm R _ R0 p R1 jM F1 _ w (vs++cs) b1 (by rw[kC];exact a5) (λi v c L A=>by rw[kB] at A;simp only[zap] at A;obtain⟨q,U,rfl⟩:=A;exact pL b2 (a6 i v q L U));refine U.mono λv w' ⟨F2,G2,c1,c2,c3⟩=> ?_;obtain⟨G3,d1,d2,d3⟩:=tQ a1 mr B X c1 c3 (fC R1 _) lb fh;obtain⟨e1,e2⟩:=cL d1 l (bR.of (pL d3 c2));refine⟨F2,G3,e1,?_⟩;rw[e2];exact a2.trans d2
    cases l
   cases l
 cases l
end
end Pi
namespace Pi
open Go
def wd(r:Option Nat):Fence:={fn:=λ_=>True,depth:=Y,alive:=C,round:=r}
theorem qct r n:(wd r).room n:=λd h=>by cases h
theorem Ba{r n P f}{A w R}(h:Calls P f A w R):CallsIn (wd r) n P f A w R:=by
 cases r with
 |none=>exact callsIn_wide.2 h
 |some l=>exact CallsIn.inRound l (callsIn_wide.2 h)
theorem vp{r P}{o:Oper}{a w K Q'}(hd: ∀c,o.op≠ .defer c)(h:o.uponIn (wd r) 0 P a K Q' ((execOp a.eval o).run P w)):o.wpIn (wd r) 0 P a w K Q':=by refine⟨λ_ _=>trivial,?_⟩;rw[show(o.semAt (wd r).round a.eval)=execOp a.eval o from Oper.semAt_eq _ _ _ hd];exact h
theorem iN{P}{b:Frame}{a k cs w}{c}:step P (lone (b.atR a (.code (.scope c)::k)) cs w)= .next (lone (b.atR a (.code c:: .inScope c::k)) cs w):=
 step_lone_go (by simp[stepG,stepG.exec,Frame.atR])
theorem DI{P}{b:Frame}{a k cs w}{c}:step P (lone (b.atR a (.inScope c::k)) cs w)= .next (lone (b.atR a k) cs w):=
 step_lone_go (by simp[stepG,stepG.exec,Frame.atR])
theorem gU{F n P Q}{a w c}(h:c.wpIn F n P (Exit.noGoto Q) a w):(Code.scope c).wpIn F n P Q a w:=by
 intro b k cs M3 hb X;have B:(lone (b.atR a (.code (.scope c)::k)) cs w).fenced P F:=fenced_calm hb X rfl;obtain⟨e,U,R,A,L⟩:=h b (.inScope c::k) cs M3 hb X;cases e with
 |normal=>exact⟨.normal,U,R,A,.head B iN (StepsIn.trans L (.one (fenced_calm hb X rfl) DI))⟩
 |exit id=>
  have hx:exitTo id (.inScope c::k)=exitTo id k:=by simp[exitTo]
  exact⟨.exit id,U,R,A,λk' hk=> .head B iN (L.1 k' (by rw[hx];exact hk)),
   λV hk=>let ⟨k₁,h1,h2⟩:=L.2 V (by rw[hx];exact hk);⟨k₁,h1,.head B iN h2⟩⟩
 |goto l=>exact A.elim
 |ret=>exact⟨_,U,R,A,.of_steps (.one B iN) L⟩
 |panic ch=>exact⟨_,U,R,A,.of_steps (.one B iN) L⟩
 |outgrown=>exact⟨_,U,R,A,.of_steps (.one B iN) L⟩
theorem cJ{r P ops Q'}{o l a w}
  (h:if Region.wanted o (yielded ops a.tmps) then o.wpIn (wd r) 0 P a w (wpListIn (wd r) 0 P ops Q' l) Q' else wpListIn (wd r) 0 P ops Q' l (a.put o.dst undef) w):wpListIn (wd r) 0 P ops Q' (o::l) a w:=by
 unfold wpListIn;split
 next A=>rw[zau A] at h;exact h
 rename_i A;rw[zat A] at h;exact⟨λ_ _=>trivial,h⟩
end Pi
namespace Pi
open Go
section
variable{Q:Program}{T:Tg}{F:Nat->Prop}{G:Nat->W}{w:World}{a:Act}{s:S}{cf:CF}{r:Option Nat}
def jc Q T F G w (s s':S) l w':=
 ∃F' h,ax Q T F' h w' l s'/\Ext (Own G s.rg) (Own h s'.rg) F F' w w'
theorem GP{g o s'}(h:exec Q s o g=Z s'): ∀c,o.op≠ .defer c:=by intro c l;unfold exec kz tL dM at h;simp only[l] at h;simp[pv,ef,l] at h
theorem lR{o v w'}(hd: ∀c,o.op≠ .defer c)(h:Ran Q o a w v w'){K Q'}(l:K (a.put o.dst v) w'):o.wpIn (wd r) 0 Q a w K Q':=by
 refine vp hd ?_;rcases h with h | ⟨h,rfl⟩
 ·rw[h];exact l
 rw[h];exact l
theorem Ka(gm:b7 Q T.w0 cf)(h:ax Q T F G w a s){g}(hg:nG a g){o s'}(A:hJ Q cf s o g=Z s'){K Q'}
  (hK: ∀a' w',jc Q T F G w s s' a' w'->K a' w'):o.wpIn (wd r) 0 Q a w K Q':=by
 unfold hJ at A;split at A
 next f xs l=>
  unfold iv at l;split at l
  next c ho=>
   split at l
   ·rename_i f' kW;simp at l;obtain⟨rfl,rfl⟩:=l;obtain⟨kL,cs,hfv,bF⟩:=S6 gm h A (bg h hg f') (vs:=c.args.toList.map a.eval) (by simp) (λi v p V X=>by rw[zaw] at V X;simp only[zap] at V X;obtain⟨x,hx,rfl⟩:=V;obtain⟨y,hy,rfl⟩:=X;rw[hx] at hy;cases hy;exact bg h hg x);have cE:(execOp a.eval o).run Q w=(callFunc kL ⟨c.args.toList.map a.eval++cs⟩).run Q w:=by
     have e:(c.args.map a.eval)++(⟨cs⟩:Array W)=⟨c.args.toList.map a.eval++cs⟩:=by apply zbo.1;simp
     simp[execOp,ho,resolve,kW,hfv,Deferred.ofValue,invoke,e]
    refine vp (λc' nJ=>by rw[ho] at nJ;cases nJ) ?_;rw[cE];rcases bF with⟨R,L⟩| ⟨v,w',R,F',U,L,B⟩
    ·rw[R];refine⟨λh=>(by cases h),(Ba L).mono λe w' ⟨v,he,F',U,B,h4⟩=> ?_⟩;subst he;exact hK _ _ ⟨F',U,B,h4⟩
    rw[R];exact hK _ _ ⟨F',U,L,B⟩
   cases l
  cases l
 obtain⟨v,w',F',U,R,L,B⟩:=qcq h hg A;exact lR (GP A) R (hK _ _ ⟨F',U,L,B⟩)
theorem Kb{ops:List Oper}{j t:Nat}{l}(B:ops[j]?=Z l)(A:l.dst=Z t) h b:yielded ops.toArray h j=Z b↔h[t]?=Z (.bool b):=by
 unfold yielded;simp only[List.getElem?_toArray,B,zax,A];cases h[t]? with
 |none=>simp
 |some v=>cases v<;>simp
theorem eU(gm:b7 Q T.w0 cf)(h:ax Q T F G w a s){ops o s'}(L:bw Q cf ops s o=Z s'){K Q'}
  (V: ∀a' w',jc Q T F G w s s' a' w'->K a' w'):if Region.wanted o (yielded ops.toArray a.tmps) then o.wpIn (wd r) 0 Q a w K Q' else K (a.put o.dst undef) w:=by
 unfold bw at L;unfold bz at L;cases X:o.guard with
 |none=>simp only[X] at L;simp only[Region.wanted,X,zbj];exact Ka gm h (g:=Y) trivial L V
 |some jw=>
  obtain⟨j,l⟩:=jw;simp only[X] at L;simp only[Region.wanted,X];cases U:ops[j]? with
  |none=>simp[U] at L
  |some oj=>
   cases ht:oj.dst with
   |none=>simp[U,ht] at L
   |some t=>
    simp only[U,ht] at L;have hy:=λb=>Kb U ht a.tmps b;split at L
    ·rename_i b hb;have A:a.tmps.getD t undef= .bool b:=by have:=h.tm t _ hb;exact aL.cY (p:= .d (.bool b)) this rfl
     have aZ:=qcf (a:=a) A (by simp[undef]);have hv:a.tmps[t]?=Z (.bool b):=by simp[Array.getD,aZ] at A;simp[aZ,A]
     split at L
     ·rename_i B;have B:b=l:=by simpa using B
      subst B;have R:(yielded ops.toArray a.tmps j==Z b)=O:=by rw[(hy b).2 hv];simp
      simp only[R,zbj];exact Ka gm h (g:=Z (t,b)) hv L V
     rename_i B;have B:b≠l:=by simpa using B
     have R:(yielded ops.toArray a.tmps j==Z l)=C:=by rw[(hy b).2 hv];simp[B]
     simp only[R,zaF,zbk];obtain⟨c1,c2⟩:=cL (p:= .skip) h L (v:=undef) rfl;exact V _ _ ⟨F,G,c1,by rw[c2];exact Mo _ _ _⟩
    ·rename_i t' b' q hb;have A:=h.tm t _ hb;have cD:a.tmps[t]?≠Z (.bool l):=λe=>by
      have:a.tmps.getD t undef= .bool l:=by simp[e]
      rw[A] at this;cases this
     have R:(yielded ops.toArray a.tmps j==Z l)=C:=by
      cases hyy:yielded ops.toArray a.tmps j==Z l with
      |false=>rfl
      |true=>exact absurd ((hy l).1 (by simpa using hyy)) cD
     simp only[R,zaF,zbk];obtain⟨c1,c2⟩:=cL (p:= .skip) h L (v:=undef) rfl;exact V _ _ ⟨F,G,c1,by rw[c2];exact Mo _ _ _⟩
    cases L
theorem jc.trans{s1 s2 F1 G1 w1}(l:Ext (Own G s.rg) (Own G1 s1.rg) F F1 w w1){h w'}(A:jc Q T F1 G1 w1 s1 s2 h w'):jc Q T F G w s s2 h w':=by obtain⟨F',R,L,B⟩:=A;exact⟨F',R,L,l.trans B⟩
theorem vq(B:b7 Q T.w0 cf){ops Q'}: ∀l F G w a s s',ax Q T F G w a s->ez Q cf ops l s=Z s'->
  (∀A w',jc Q T F G w s s' A w'->Q' .normal A w')->wpListIn (wd r) 0 Q ops.toArray Q' l a w
 | [],F,G,w,a,s,s',h,hs,hK=>by simp[ez] at hs;subst hs;exact hK a w ⟨F,G,h,Mo _ _ _⟩
 |o::l,F,G,w,a,s,s',h,hs,hK=>by
  simp only[ez] at hs;split at hs
  next s1 V=>have R:=eU B h V (r:=r) (K:=wpListIn (wd r) 0 Q ops.toArray Q' l) (Q':=Q') (λA w' ⟨F',G',g1,X⟩=>vq B l F' G' w' A s1 s' g1 hs (λa2 L U=>hK a2 L (U.trans X)));exact cJ R
  cases hs
end
end Pi
namespace Pi
open Go
def S.wt(s:S)(m:List (Nat×P)):S:=⟨s.n,m,s.rg⟩
theorem my(s:S) m n v:(s.wt m).obj n v=s.obj n v:=rfl
theorem jW(s:S) m n o:(s.wt m).new n o=(s.new n o).map λx=>(x.1.wt m,x.2):=by
 unfold S.new S.wt;simp only;split
 ·rfl
 split
 ·rfl
 split<;>rfl
theorem eV(s:S) m n o:(s.wt m).setObj n o=(s.setObj n o).wt m:=by unfold S.setObj S.wt;simp only;split<;>rfl
theorem Qw s m n p t:uS (s.wt m) n p t=(uS s n p t).map λx=>(x.1.wt m,x.2):=by
 unfold uS;split
 ·rw[jW];cases s.new n _<;>rfl
 rfl
theorem nL m: ∀ps l n s,cT (s.wt m) n ps l=(cT s n ps l).map λx=>(x.1.wt m,x.2)
 | [],_,_,_=>rfl
 |p::ps,l,n,s=>by
  simp only[cT];rw[Qw];cases h:uS s n p (l.headD Y) with
  |none=>rfl
  |some r=>simp only[zaB];rw[nL m ps l.tail (n+1) r.1];cases cT r.1 (n+1) ps l.tail<;>rfl
theorem zJ Q s m p:qY Q (s.wt m) p=(qY Q s p).map λx=>(x.1.wt m,x.2):=by
 unfold qY;split
 ·rfl
 ·rw[my];split
  ·split
   ·rw[eV];rfl
   rfl
  rfl
 ·rw[my];split
  ·split
   ·split
    ·rw[eV];rfl
    rfl
   rfl
  rfl
 rfl
theorem Qx Q m: ∀ps s,sG Q (s.wt m) ps=(sG Q s ps).map λx=>(x.1.wt m,x.2)
 | [],_=>rfl
 |p::ps,s=>by
  simp only[sG];rw[zJ];cases h:qY Q s p with
  |none=>rfl
  |some r=>simp only[zaB];rw[Qx Q m ps r.1];cases sG Q r.1 ps<;>rfl
theorem N5 Q s m p:IZ Q (s.wt m) p=(IZ Q s p).map λx=>(x.1.wt m,x.2):=by
 unfold IZ;split
 ·rw[Qx];cases sG Q s _<;>rfl
 exact zJ Q s m p
theorem zK Q s t m p:pD Q (s.wt m) t p=(pD Q s t p).map λx=>(x.1.wt m,x.2):=by
 unfold pD;split
 ·exact N5 Q s m p
 rw[N5];cases IZ Q s p with
 |none=>rfl
 |some r=>simp only[zaB,D.force_eq]
theorem S7 Q s t m p:lY Q (s.wt m) t p=(lY Q s t p).map λx=>(x.1.wt m,x.2):=by
 unfold lY;split
 ·split
  ·rw[zK];cases pD Q s t _<;>rfl
  rfl
 ·split
  ·simp only[D.force_eq];rfl
  rfl
 rfl
theorem S8 Q s t m p:q5 Q (s.wt m) t p=(q5 Q s t p).map λx=>(x.1.wt m,x.2):=by
 unfold q5;split
 ·rw[zJ];cases qY Q s _<;>rfl
 ·rw[zJ];cases qY Q s _<;>rfl
 exact S7 Q s t m _
theorem Bb Q m: ∀ps l s,fg Q (s.wt m) l ps=(fg Q s l ps).map λx=>(x.1.wt m,x.2)
 | [],_,_=>rfl
 |p::ps,l,s=>by
  simp only[fg];rw[S8];cases h:q5 Q s (l.headD 0) p with
  |none=>rfl
  |some r=>simp only[zaB];rw[Bb Q m ps l.tail r.1];cases fg Q r.1 l.tail ps<;>rfl
theorem yp Q m f ps s:dC Q (s.wt m) f ps=(dC Q s f ps).map λx=>(x.1.wt m,x.2):=by
 unfold dC;split
 ·rfl
 exact Bb Q m ps _ s
theorem EN Q s m t p q:iu Q (s.wt m) t p q=(iu Q s t p q).map λx=>x.wt m:=by
 unfold iu;split
 ·rfl
 split
 ·rw[Qw];cases uS s _ q _ with
  |none=>rfl
  |some r=>
   simp only[zaB,my];split
   ·split
    ·rw[eV];rfl
    rfl
   rfl
 ·rw[zK];cases pD Q s t q with
  |none=>rfl
  |some r=>
   simp only[zaB,my];split
   ·split
    ·split
     ·rw[eV];rfl
     rfl
    rfl
   rfl
 rfl
theorem GQ Q s m h k p:od Q (s.wt m) h k p=od Q s h k p:=rfl
def fin(s:S) dst (c:Option (List (Nat×En)×P)):=
 match c with
 |Z (R,p)=>(⟨s.n,s.tm,R⟩:S).put dst p
 |Y=>Y
def Loc(f:S->Option S)(s:S) dst:= ∃c,∀m,f (s.wt m)=fin (s.wt m) dst c
theorem gV{s s1:S}{dst p} m (h:s1.n=s.n):(s1.wt m).put dst p=fin (s.wt m) dst (Z (s1.rg,p)):=by unfold fin S.wt;rw[h]
theorem ru{s:S}{n v o s'}(h:s.new n o=Z (s',v)):s'.n=s.n:=by obtain⟨rfl,_⟩:=S.ml h;rfl
theorem gn(s:S) n o:(s.setObj n o).n=s.n:=by unfold S.setObj;split<;>rfl
theorem WQ{s n p q t}{s'}(h:uS s n p t=Z (s',q)):s'.n=s.n:=by
 unfold uS at h;split at h
 ·split at h
  next l=>simp at h;rw[<-h.1];exact ru l
  cases h
 simp at h;rw[<-h.1]
theorem Bc: ∀ps l n s s' qs,cT s n ps l=Z (s',qs)->s'.n=s.n
 | [],_,_,s,s',qs,h=>by simp[cT] at h;rw[<-h.1]
 |p::ps,l,n,s,s',qs,h=>by
  simp only[cT] at h;split at h
  ·cases h
  rename_i s1 q L;split at h
  next s2 A B=>simp at h;rw[<-h.1,Bc ps _ _ _ _ _ B,WQ L]
  cases h
theorem GS{Q s s' p x}(h:qY Q s p=Z (s',x)):s'.n=s.n:=by
 unfold qY at h;split at h
 ·simp at h;rw[<-h.1]
 ·split at h
  ·split at h
   ·simp at h;rw[<-h.1];exact gn _ _ _
   cases h
  cases h
 ·split at h
  ·split at h
   ·split at h
    ·simp at h;rw[<-h.1];exact gn _ _ _
    cases h
   cases h
  cases h
 cases h
theorem WR{Q}: ∀ps s s' xs,sG Q s ps=Z (s',xs)->s'.n=s.n
 | [],s,s',xs,h=>by simp[sG] at h;rw[<-h.1]
 |p::ps,s,s',xs,h=>by
  simp only[sG] at h;split at h
  ·cases h
  rename_i s1 x B;split at h
  next s2 l A=>simp at h;rw[<-h.1,WR ps _ _ _ A,GS B]
  cases h
theorem qf2{Q s s' p x}(h:IZ Q s p=Z (s',x)):s'.n=s.n:=by
 unfold IZ at h;split at h
 ·split at h
  next l=>simp at h;rw[<-h.1];exact WR _ _ _ _ l
  cases h
 exact GS h
theorem GU{Q s s' t p}{x}(h:pD Q s t p=Z (s',x)):s'.n=s.n:=by obtain⟨y,l,_⟩:=xe h;exact qf2 l
theorem WS{Q s s' t p q}(h:lY Q s t p=Z (s',q)):s'.n=s.n:=by
 unfold lY at h;split at h
 ·split at h
  ·split at h
   next l=>simp at h;rw[<-h.1];exact GU l
   cases h
  simp at h;rw[<-h.1]
 ·split at h
  ·rw[D.force_eq] at h;simp at h;rw[<-h.1]
  simp at h;rw[<-h.1]
 simp at h;rw[<-h.1]
theorem EO{Q}: ∀ps A s s' xs,fg Q s A ps=Z (s',xs)->s'.n=s.n
 | [],A,s,s',xs,h=>by simp[fg] at h;rw[<-h.1]
 |p::ps,A,s,s',xs,h=>by
  simp only[fg] at h;split at h
  ·cases h
  rename_i s1 x l;have e1:s1.n=s.n:=by
   unfold q5 at l;split at l
   ·split at l
    next B=>simp at l;rw[<-l.1];exact GS B
    cases l
   ·split at l
    next B=>simp at l;rw[<-l.1];exact GS B
    cases l
   exact WS l
  split at h
  next s2 L R=>simp at h;rw[<-h.1,EO ps _ _ _ _ R,e1]
  cases h
theorem WT{Q s s' t p q}(h:iu Q s t p q=Z s'):s'.n=s.n:=by
 unfold iu at h;split at h
 ·cases h
 split at h
 ·split at h
  next l=>
   split at h
   ·split at h
    ·simp at h;rw[<-h,gn,WQ l]
    cases h
   cases h
  cases h
 ·split at h
  next l=>
   split at h
   ·split at h
    ·split at h
     ·simp only[zai] at h;rw[<-h,gn,GU l]
     cases h
    cases h
   cases h
  cases h
 cases h
theorem N6{Q f} ps s s' xs (h:dC Q s f ps=Z (s',xs)):s'.n=s.n:=by
 unfold dC at h;split at h
 ·simp only[zai,zbd] at h;rw[h.1]
 exact EO ps _ s s' xs h
theorem Bd Q s dst t ps:Loc (λs=>pC Q s dst t ps) s dst:=by
 unfold pC;cases h:cT s (site dst*1000) ps (r1 Q 20 t) with
 |none=>exact⟨Y,λm=>by simp only[nL,h];rfl⟩
 |some r=>
  cases l:r.1.new (site dst) (.box t r.2) with
  |none=>exact⟨Y,λm=>by simp only[nL,h,zaB,jW,l];rfl⟩
  |some r2=>exact⟨Z (r2.1.rg,.ref (site dst) r2.2 0),λm=>by simp only[nL,h,zaB,jW,l];exact gV m (by rw[ru l,Bc _ _ _ _ _ _ h])⟩
theorem Kc Q s dst t h p q:Loc (λs=>kh Q s dst t h p q) s dst:=by
 unfold Loc kh;cases h1:dx Q t with
 |none=>exact⟨Y,λm=>rfl⟩
 |some e=>
  simp only[];cases X:Q.info? e with
  |none=>exact⟨Y,λm=>rfl⟩
  |some i=>
   cases V:sz Q e with
   |none=>exact⟨Y,λm=>rfl⟩
   |some k=>
    cases k with
    |zero=>exact⟨Y,λm=>rfl⟩
    |succ k=>
     simp only[GQ];cases U:od Q s h (k+1) q with
     |none=>exact⟨Y,λm=>rfl⟩
     |some ys=>
      cases R:e9 Q e with
      |none=>exact⟨Y,λm=>rfl⟩
      |some z=>
       simp only[];cases L:bo (J z.cells) (k+1) with
       |false=>exact⟨Y,λm=>rfl⟩
       |true=>
        simp only[zbj];cases p with
        |sl n v len=>
         have A: ∀m,(s.wt m).rg=s.rg:=λ_=>rfl;simp only[A];cases l:lk s.rg n with
         |none=>exact⟨Y,λm=>rfl⟩
         |some en=>
          simp only[];cases B:en.obj with
          |arr ty fz es=>
           cases fz with
           |true=>exact⟨Y,λm=>rfl⟩
           |false=>
            simp only[];split
            ·exact⟨Z (_,_),λm=>rfl⟩
            exact⟨Y,λm=>rfl⟩
          |_=>exact⟨Y,λm=>rfl⟩
        |d x=>
         cases x with
         |cd=>
          simp only[jW];split
          ·cases l:s.new (site dst) (.arr e C ys) with
           |none=>exact⟨Y,λm=>rfl⟩
           |some r2=>exact⟨Z (r2.1.rg,_),λm=>gV m (ru l)⟩
          exact⟨Y,λm=>rfl⟩
         |_=>exact⟨Y,λm=>rfl⟩
        |_=>exact⟨Y,λm=>rfl⟩
theorem S9 Q s dst t p q:Loc (λs=>uT Q s dst t p q) s dst:=by
 unfold Loc uT;split
 next e B l A c V=>
  split
  next i k z U R L=>
   split
   ·simp only[jW];cases h:s.new (site dst) (.arr e C (ee l.toNat z)) with
    |none=>exact⟨Y,λm=>rfl⟩
    |some r2=>exact⟨Z (r2.1.rg,_),λm=>gV m (ru h)⟩
   exact⟨Y,λm=>rfl⟩
  exact⟨Y,λm=>rfl⟩
 exact⟨Y,λm=>rfl⟩
theorem GV Q s dst t:Loc (λs=>lX Q s dst t) s dst:=by
 unfold Loc lX;split
 next h e A=>
  simp only[jW];cases l:s.new (site dst) (.map h (λ_=>Y) 0 C) with
  |none=>exact⟨Y,λm=>rfl⟩
  |some r2=>exact⟨Z (r2.1.rg,_),λm=>gV m (ru l)⟩
 exact⟨Y,λm=>rfl⟩
theorem Ta Q s dst t p k:Loc (λs=>AB Q s dst t p k) s dst:=by
 unfold Loc AB;split
 next h e n v l A=>
  simp only[my];split
  ·split
   ·simp only[eV];exact⟨Z (_,.bad),λm=>gV m (gn _ _ _)⟩
   exact⟨Y,λm=>rfl⟩
  exact⟨Y,λm=>rfl⟩
 exact⟨Y,λm=>rfl⟩
theorem yq Q s dst t p k x:Loc (λs=>ki Q s dst t p k x) s dst:=by
 unfold Loc ki;split
 next l e n v A B=>
  simp only[zK];cases h:pD Q s e x with
  |none=>exact⟨Y,λm=>rfl⟩
  |some y=>
   simp only[zaB,my];split
   ·split
    ·simp only[eV];exact⟨Z (_,.bad),λm=>gV m ((gn _ _ _).trans (GU h))⟩
    exact⟨Y,λm=>rfl⟩
   exact⟨Y,λm=>rfl⟩
 exact⟨Y,λm=>rfl⟩
theorem Kd Q s dst t p k:Loc (λs=>kj Q s dst t p k) s dst:=by
 unfold Loc kj;split
 next l e n v A L=>
  split
  ·simp only[my];split
   ·rename_i R get c B;split
    ·simp only[jW];cases h:s.new (site dst) .cS with
     |none=>exact⟨Y,λm=>rfl⟩
     |some r2=>simp only[zaB,eV];exact⟨Z (_,_),λm=>gV m ((gn _ _ _).trans (ru h))⟩
    exact⟨Y,λm=>rfl⟩
   exact⟨Y,λm=>rfl⟩
  exact⟨Y,λm=>rfl⟩
 exact⟨Y,λm=>rfl⟩
theorem N7 Q s dst p h x:Loc (λs=>qZ Q s dst p h x) s dst:=by
 unfold Loc qZ;split
 ·simp only[N5];cases l:IZ Q s x with
  |none=>exact⟨Y,λm=>rfl⟩
  |some y=>
   simp only[zaB,my];split
   ·split
    ·simp only[eV];exact⟨Z (_,.bad),λm=>gV m ((gn _ _ _).trans (qf2 l))⟩
    exact⟨Y,λm=>rfl⟩
   exact⟨Y,λm=>rfl⟩
 exact⟨Y,λm=>rfl⟩
theorem N8 Q s dst t p:Loc (λs=>tK Q s dst t p) s dst:=by
 unfold Loc tK;split
 next A B n v L=>
  simp only[my];split
  next V get c U R=>
   split
   ·simp only[eV,jW];cases h:(s.setObj n (.map A get c O)).new (site dst) (.iter A B get Y) with
    |none=>exact⟨Y,λm=>rfl⟩
    |some r2=>exact⟨Z (r2.1.rg,_),λm=>gV m ((ru h).trans (gn _ _ _))⟩
   exact⟨Y,λm=>rfl⟩
  exact⟨Y,λm=>rfl⟩
 next A B L=>
  simp only[jW];cases h:s.new (site dst) (.iter A B (λ_=>Y) Y) with
  |none=>exact⟨Y,λm=>rfl⟩
  |some r2=>exact⟨Z (r2.1.rg,_),λm=>gV m (ru h)⟩
 next l L=>
  split
  ·simp only[jW];cases h:s.new (site dst) (.ji l 0) with
   |none=>exact⟨Y,λm=>rfl⟩
   |some r2=>exact⟨Z (r2.1.rg,_),λm=>gV m (ru h)⟩
  exact⟨Y,λm=>rfl⟩
 exact⟨Y,λm=>rfl⟩
theorem yr Q t k m: ∀ps s es,dB Q t k (s.wt m) es ps=(dB Q t k s es ps).map λx=>(x.1.wt m,x.2)
 | [],s,es=>rfl
 | (i,p)::r,s,es=>by
  simp only[dB,zK];cases h:pD Q s t p with
  |none=>rfl
  |some y=>
   simp only[zaB];split
   ·exact yr Q t k m r y.1 _
   rfl
theorem Bf{Q t k}: ∀ps s s' es l,dB Q t k s es ps=Z (s',l)->s'.n=s.n
 | [],s,s',es,l,h=>by simp[dB] at h;rw[h.1]
 | (i,p)::r,s,s',es,l,h=>by
  simp only[dB] at h;split at h
  next s1 x A=>
   split at h
   ·rw[Bf r s1 s' _ l h,GU A]
   cases h
  cases h
theorem N9 Q s dst t len h:Loc (λs=>tJ Q s dst t len h) s dst:=by
 unfold Loc tJ;split
 next e U=>
  split
  next i k z R L B=>
   split
   ·simp only[yr];cases A:dB Q e (k+1) s (ee len z) h with
    |none=>exact⟨Y,λm=>rfl⟩
    |some r=>
     simp only[zaB,jW];cases l:r.1.new (site dst) (.arr e C r.2) with
     |none=>exact⟨Y,λm=>rfl⟩
     |some r2=>exact⟨Z (r2.1.rg,_),λm=>gV m (by rw[ru l,Bf _ _ _ _ _ A])⟩
   exact⟨Y,λm=>rfl⟩
  exact⟨Y,λm=>rfl⟩
 exact⟨Y,λm=>rfl⟩
theorem Oa Q s dst t p:Loc (λs=>pF Q s dst t p) s dst:=by
 unfold Loc pF;split
 ·simp only[my,eV];split
  ·split
   ·exact⟨Z (_,_),λm=>gV m (gn _ _ _)⟩
   exact⟨Y,λm=>rfl⟩
  exact⟨Y,λm=>rfl⟩
 exact⟨Y,λm=>rfl⟩
theorem Tb Q s dst t h p q:Loc (λs=>uU Q s dst t h p q) s dst:=by
 unfold Loc uU;split
 ·split
  ·simp only[GQ,my,eV];split
   ·split
    ·exact⟨Z (_,_),λm=>gV m (gn _ _ _)⟩
    exact⟨Y,λm=>rfl⟩
   exact⟨Y,λm=>rfl⟩
  exact⟨Y,λm=>rfl⟩
 exact⟨Y,λm=>rfl⟩
structure Alike(s s2:S)(xs:List Operand):Prop where
 n:s2.n=s.n
 rg:s2.rg=s.rg
 ev: ∀x∈xs,s2.ev x=s.ev x
theorem Alike.wt{s s2 xs}(h:Alike s s2 xs):s2=s.wt s2.tm:=by
 cases s2 with
 |mk n tm rg=>have A:=h.n;have l:=h.rg;simp only at A l;subst A l;rfl
theorem Alike.eg{s s2 xs}(h:Alike s s2 xs){x}(l:x∈xs) g:s2.eg g x=s.eg g x:=by unfold S.eg;rw[h.ev x l]
theorem Alike.egs{s s2 xs}(h:Alike s s2 xs){ys:List Operand}(A: ∀y∈ys,y∈xs) g:ys.map (s2.eg g)=ys.map (s.eg g):=
 zaY λy l=>h.eg (A y l) g
theorem qD{f s s2 xs dst}(h:Alike s s2 xs)(A:Loc f s dst): ∃c,f s=fin s dst c/\f s2=fin s2 dst c:=by
 obtain⟨c,l⟩:=A;refine⟨c,?_,?_⟩
 ·exact l s.tm
 have e:=h.wt;rw[e];exact l s2.tm
theorem Bg{Q s s2 o}(h:Alike s s2 o.op.operands.toList) g:pv Q s2 o g=pv Q s o g:=by
 have L:=h.wt;have mem: ∀{x:Operand},x∈o.op.operands->x∈o.op.operands.toList:=λU=>by simpa using U
 unfold pv;split
 next x A=>rw[h.eg (by simp[A,Do])]
 next x A=>rw[h.eg (by simp[A,Do])]
 next c x y A=>rw[h.eg (x:=c) (by simp[A,Do]),h.eg (x:=x) (by simp[A,Do]),h.eg (x:=y) (by simp[A,Do])]
 next x A=>rw[h.eg (by simp[A,Do]),L];rfl
 next op t x y yt A=>rw[h.eg (x:=x) (by simp[A,Do]),h.eg (x:=y) (by simp[A,Do]),L];rfl
 next op t x A=>rw[h.eg (by simp[A,Do])]
 next t1 t2 x A=>rw[h.eg (by simp[A,Do])]
 next t x A=>rw[h.eg (by simp[A,Do]),L];rfl
 next t x f A=>rw[h.eg (by simp[A,Do]),L];rfl
 next t x i A=>rw[h.eg (x:=x) (by simp[A,Do]),h.eg (x:=i) (by simp[A,Do]),L];rfl
 next t x i A=>rw[h.eg (x:=x) (by simp[A,Do]),h.eg (x:=i) (by simp[A,Do])]
 next t x f A=>rw[h.eg (by simp[A,Do])]
 next x i A=>rw[h.eg (by simp[A,Do])]
 next t x i ok A=>rw[h.eg (x:=x) (by simp[A,Do]),h.eg (x:=i) (by simp[A,Do]),L];rfl
 next x A=>
  have V: ∀p,qX s2 p=qX s p:=λp=>by rw[L];rfl
  rw[V,h.eg (by simp[A,Do])]
 next t x lo hi A=>
  have V: ∀p l h',oa Q s2 t p l h'=oa Q s t p l h':=λp l h'=>by rw[L];rfl
  rw[V,h.eg (x:=x) (by simp[A,Do])];cases lo with
  |none=>cases hi with
   |none=>rfl
   |some u=>simp only[zaB];rw[h.eg (x:=u) (by simp[A,Do])];rfl
  |some l=>cases hi with
   |none=>simp only[zaB];rw[h.eg (x:=l) (by simp[A,Do])];rfl
   |some u=>simp only[zaB];rw[h.eg (x:=l) (by simp[A,Do]),h.eg (x:=u) (by simp[A,Do])]
 next t B A=>
  have e:=zaY λx U=>h.eg (by simp only[A,Do];exact za5 (f:=λx:Nat×Operand=>x.2) U) g;have e2:B.toList.map (λx=>(x.1,s2.eg g x.2))=B.toList.map (λx=>(x.1,s.eg g x.2)):=zaY λx U=>by rw[h.eg (x:=x.2) (by simp only[A,Do];exact za5 (f:=λx:Nat×Operand=>x.2) U) g]
  rw[e,e2]
 next f first dA A=>
  have e:dA.toList.map (s2.eg g)=dA.toList.map (s.eg g):=h.egs (λy R=>by simp only[A,Do];simp at R;simp[R]) g;rw[e]
 next c A=>
  have X: ∀y∈c.args.toList,y∈o.op.operands.toList:=λy R=>by simp only[A,Do,Call.operands];simp at R;simp[R]
  split
  ·split
   ·rename_i x cW;rw[h.eg (x:=x) (X x (by rw[cW];simp))];have V: ∀p,JN s2 p=JN s p:=λp=>by rw[L];rfl
    have e6: ∀p,JO s2 p=JO s p:=λp=>by rw[L];rfl
    rw[V,e6]
   rfl
  ·rw[h.egs X]
  ·rw[h.egs X]
  rfl
 rfl
end Pi
namespace Pi
open Go
theorem qhL Q {s s2 o}(h:Alike s s2 o.op.operands.toList) g: ∃c,ef Q s o g=fin s o.dst c/\ef Q s2 o g=fin s2 o.dst c:=by
 unfold ef;split
 next t A=>
  split
  next z hz=>exact qD h (Bd Q s o.dst t _)
  exact⟨Y,rfl,rfl⟩
 next t x A=>
  rw[h.eg (x:=x) (by simp[A,Do])];split
  ·exact qD h (Bd Q s o.dst t _)
  exact⟨Y,rfl,rfl⟩
 next t V x A=>
  rw[h.eg (x:=V) (by simp[A,Do]),h.eg (x:=x) (by simp[A,Do])];refine qD (f:=λs'=>match iu Q s' t (s.eg g V) (s.eg g x) with |some s1=>s1.put o.dst .bad |none=>Y) h ?_;cases h1:iu Q s t (s.eg g V) (s.eg g x) with
  |none=>exact⟨Y,λm=>by simp only[EN,h1];rfl⟩
  |some s1=>exact⟨Z (s1.rg,.bad),λm=>by grind [EN,gV,WT]⟩
 next t1 U x A=>
  rw[h.eg (x:=x) (by simp[A,Do])];refine qD (f:=λs'=>match Q.underlying t1,Q.underlying U with
   |some (.slice e),Z .string=>match Q.underlying e,od Q s' t1 1 (s.eg g x) with
    |some (.int .u8),Z ys=>match kS ys with |some l=>s'.put o.dst (.d (.str l))|none=>Y
    |_,_=>Y
   |_,_=>Y) h ?_
  split
  next e h1 h2=>
   simp only[Loc,GQ];split
   ·split
    ·exact⟨Z (s.rg,_),λm=>rfl⟩
    exact⟨Y,λm=>rfl⟩
   exact⟨Y,λm=>rfl⟩
  exact⟨Y,λm=>rfl⟩
 next c A=>
  have R: ∀y∈c.args.toList,y∈o.op.operands.toList:=λy hy=>by simp only[A,Do,Call.operands];grind
  split
  ·split
   next x y t U L X=>rw[h.eg (x:=x) (R x (by rw[L];simp)),h.eg (x:=y) (R y (by rw[L];simp))];exact qD h (Kc Q s o.dst t U _ _)
   exact⟨Y,rfl,rfl⟩
  ·split
   next x y t U L X=>rw[h.eg (x:=x) (R x (by rw[L];simp)),h.eg (x:=y) (R y (by rw[L];simp))];exact qD h (Tb Q s o.dst t U _ _)
   exact⟨Y,rfl,rfl⟩
  ·split
   next x t L X=>rw[h.eg (x:=x) (R x (by rw[L];simp))];exact qD h (Oa Q s o.dst t _)
   exact⟨Y,rfl,rfl⟩
  ·split
   next x y t ts L X=>rw[h.eg (x:=x) (R x (by rw[L];simp)),h.eg (x:=y) (R y (by rw[L];simp))];exact qD h (Ta Q s o.dst t _ _)
   exact⟨Y,rfl,rfl⟩
  exact⟨Y,rfl,rfl⟩
 next t x y A=>rw[h.eg (x:=x) (by simp[A,Do]),h.eg (x:=y) (by simp[A,Do])];exact qD h (S9 Q s o.dst t _ _)
 next t A=>exact qD h (GV Q s o.dst t)
 next t m k x A=>rw[h.eg (x:=m) (by simp[A,Do]),h.eg (x:=k) (by simp[A,Do]),h.eg (x:=x) (by simp[A,Do])];exact qD h (yq Q s o.dst t _ _ _)
 next t m k x A=>rw[h.eg (x:=m) (by simp[A,Do]),h.eg (x:=k) (by simp[A,Do]),h.eg (x:=x) (by simp[A,Do])];exact qD h (yq Q s o.dst t _ _ _)
 next t x A=>rw[h.eg (x:=x) (by simp[A,Do])];exact qD h (N8 Q s o.dst t _)
 next t m k A=>rw[h.eg (x:=m) (by simp[A,Do]),h.eg (x:=k) (by simp[A,Do])];exact qD h (Kd Q s o.dst t _ _)
 next t m st x A=>rw[h.eg (x:=m) (by simp[A,Do]),h.eg (x:=st) (by simp[A,Do]),h.eg (x:=x) (by simp[A,Do])];exact qD h (N7 Q s o.dst _ _ _)
 next t len B A=>
  have e:B.toList.map (λx=>(x.1,s2.eg g x.2))=B.toList.map (λx=>(x.1,s.eg g x.2)):=zaY λx hx=>by have:=h.eg (x:=x.2) (by simp only[A,Do];grind) g;rw[this]
  rw[e];exact qD h (N9 Q s o.dst t len _)
 exact⟨Y,rfl,rfl⟩
theorem Tc Q {s s2 o}(h:Alike s s2 o.op.operands.toList) g: ∃c,kz Q s o g=fin s o.dst c/\kz Q s2 o g=fin s2 o.dst c:=by
 unfold kz;split
 next e B=>
  refine qD (f:=λs'=>match s'.new (site o.dst) (.arr e C []) with |some (s1,v)=>s1.put o.dst (.sl (site o.dst) v 0)|none=>Y) h ?_;cases l:s.new (site o.dst) (.arr e C []) with
  |none=>exact⟨Y,λm=>by simp only[jW,l];rfl⟩
  |some r=>exact⟨Z (r.1.rg,_),λm=>by simp only[jW,l];exact gV m (ru l)⟩
 rw[Bg h g];split
 next p A=>exact⟨Z (s.rg,p),rfl,by unfold fin;rw[<-h.rg]⟩
 exact qhL Q h g
theorem WU Q {s s2 o}(h:Alike s s2 o.op.operands.toList) g: ∃c,exec Q s o g=fin s o.dst c/\exec Q s2 o g=fin s2 o.dst c:=by
 unfold exec;cases A:tL o with
 |none=>exact Tc Q h g
 |some r=>
  obtain⟨t,len,l⟩:=r;obtain⟨ps,L,rfl,_⟩:=xl A;have e:ps.toList.map (λx=>(x.1,s2.eg g x.2))=ps.toList.map (λx=>(x.1,s.eg g x.2)):=zaY λx B=>by rw[h.eg (by simp[Do];grind)]
  simp only[e];cases Ep Q t len (ps.toList.map λx=>(x.1,s.eg g x.2)) with
  |none=>exact⟨Y,rfl,rfl⟩
  |some p=>exact⟨Z (s.rg,p),rfl,by unfold fin;rw[<-h.rg]⟩
theorem Ob Q cf s dst f h:Loc (λs=>oe Q cf s dst f h) s dst:=by
 unfold oe;cases f with
 |fn kL dA=>
  cases l:dC Q s kL (h++dA) with
  |none=>exact⟨Y,λm=>by simp only[yp,l];rfl⟩
  |some r=>
   obtain⟨s1,qs⟩:=r;have A:=N6 _ _ _ _ l;have B: ∀m,(s1.wt m).rg=s1.rg:=λ_=>rfl;unfold Loc;simp only[yp,l,zaB,B];split
   ·split
    ·exact⟨Y,λm=>rfl⟩
    split
    ·exact⟨Y,λm=>rfl⟩
    split
    ·split
     ·exact⟨Y,λm=>rfl⟩
     split
     ·exact⟨Y,λm=>rfl⟩
     rename_i L R;exact⟨Z (L,_),λm=>by unfold fin S.wt;rw[A]⟩
    exact⟨Y,λm=>rfl⟩
   exact⟨Y,λm=>rfl⟩
 |_=>exact⟨Y,λm=>rfl⟩
theorem EP Q cf {s s2 o}(h:Alike s s2 o.op.operands.toList) g: ∃c,hJ Q cf s o g=fin s o.dst c/\hJ Q cf s2 o g=fin s2 o.dst c:=by
 unfold hJ;split
 next f xs l=>
  have A:f∈o.op.operands.toList/\ ∀y∈xs,y∈o.op.operands.toList:=by
   unfold iv at l;split at l
   ·rename_i c L;split at l
    next R B=>simp[L,Do,Call.operands,B];grind
    cases l
   cases l
  rw[h.eg A.1,h.egs A.2];exact qD h (Ob Q cf s o.dst _ _)
 exact WU Q h g
def zL(W:List Nat×Nat×Nat) n:=n∈W.1\/(W.2.1<=n/\n<W.2.2)
theorem eW{s s':S}{n v o}(h:s.new n o=Z (s',v)){m}(l:m≠n):lk s'.rg m=lk s.rg m:=by obtain⟨rfl,_⟩:=S.ml h;grind [br]
theorem df(s:S) n o {m}(h:m≠n):lk (s.setObj n o).rg m=lk s.rg m:=by grind [S.setObj,br]
theorem bG{s s':S}{dst p}(h:s.put dst p=Z s'):s'.rg=s.rg:=by unfold S.put at h;grind
theorem Bh{s n p q t}{s'}(h:uS s n p t=Z (s',q)){m}(l:m≠n):lk s'.rg m=lk s.rg m:=by unfold uS at h;grind [eW]
theorem rv: ∀ps l n s s' qs,cT s n ps l=Z (s',qs)-> ∀m,(m<n\/n+J ps<=m)->lk s'.rg m=lk s.rg m
 | [],_,_,s,s',qs,h,m,hm=>by simp[cT] at h;rw[<-h.1]
 |p::ps,l,n,s,s',qs,h,m,hm=>by
  simp only[cT] at h;simp only[zav] at hm;split at h
  ·cases h
  rename_i s1 q L;split at h
  next s2 A B=>simp at h;rw[<-h.1,rv ps _ _ _ _ _ B m (by omega),Bh L (by omega)]
  cases h
theorem mz{Q s s' p x}(h:qY Q s p=Z (s',x)){m}(l:m∉ca [p]):lk s'.rg m=lk s.rg m:=by unfold qY at h;grind [df,ca]
theorem pN p ps:ca (p::ps)=ca [p]++ca ps:=by cases p<;>simp[ca]
theorem Bi{Q}: ∀ps s s' xs,sG Q s ps=Z (s',xs)-> ∀m,m∉ca ps->lk s'.rg m=lk s.rg m
 | [],s,s',xs,h,m,hm=>by simp[sG] at h;rw[<-h.1]
 |p::ps,s,s',xs,h,m,hm=>by
  rw[pN] at hm;simp only[zaK,zcO] at hm;simp only[sG] at h;split at h
  ·cases h
  rename_i s1 x B;split at h
  next s2 l A=>simp at h;rw[<-h.1,Bi ps _ _ _ A m hm.2,mz B hm.1]
  cases h
theorem ER{Q s s' p x}(h:IZ Q s p=Z (s',x)){m}(l:m∉ca p.cells):lk s'.rg m=lk s.rg m:=by
 unfold IZ at h;split at h
 ·split at h
  next A=>simp at h;rw[<-h.1];exact Bi _ _ _ _ A m l
  cases h
 cases p with
 |sl n v len=>exact mz h l
 |nu n v k off len=>exact mz h l
 |d x=>simp[qY] at h;rw[<-h.1]
 |_=>simp[qY] at h
theorem rz: ∀a b,ca (a++b)=ca a++ca b
 | [],_=>rfl
 |p::a,b=>by rw[zdc,pN,rz a b,pN p a,zaW]
theorem pO{Q s s' t p}{x}(h:pD Q s t p=Z (s',x)){m}(l:m∉ca p.cells):lk s'.rg m=lk s.rg m:=by grind [xe,ER]
theorem GW{Q s s' t p q}(h:lY Q s t p=Z (s',q)){m}(l:m∉ca p.cells):lk s'.rg m=lk s.rg m:=by unfold lY at h;grind [pO,D.force_eq]
theorem s7{Q}: ∀ps A s s' xs,fg Q s A ps=Z (s',xs)-> ∀m,m∉ca (ps.flatMap P.cells)->lk s'.rg m=lk s.rg m
 | [],A,s,s',xs,h,m,hm=>by simp[fg] at h;rw[<-h.1]
 |p::ps,A,s,s',xs,h,m,hm=>by
  rw[zbT,rz] at hm;simp only[zaK,zcO] at hm;simp only[fg] at h;split at h
  ·cases h
  rename_i s1 x l;have e1:lk s1.rg m=lk s.rg m:=by
   unfold q5 at l;split at l
   ·split at l
    next B=>simp at l;rw[<-l.1];exact mz B hm.1
    cases l
   ·split at l
    next B=>simp at l;rw[<-l.1];exact mz B hm.1
    cases l
   grind [GW]
  split at h
  next s2 L R=>simp at h;rw[<-h.1,s7 ps _ _ _ _ R m hm.2,e1]
  cases h
theorem Bj{Q f} ps s s' xs (h:dC Q s f ps=Z (s',xs)) m (l:m∉ca (ps.flatMap P.cells)):lk s'.rg m=lk s.rg m:=by grind [dC,s7]
def Oc(m:Nat)(q:P):P->Prop
 | .ref n _ off=>m≠n/\m≠2000000+n*1000+off
 | .eB n _ _ _ _=>m≠n/\m∉ca q.cells
 |_=>True
def yu(m:Nat)(dst:Option Nat):P->Prop
 | .sl n _ _=>m≠n
 |_=>m≠site dst
theorem GX{Q s s' t p q}(h:iu Q s t p q=Z s'){m}(l:Oc m q p):lk s'.rg m=lk s.rg m:=by
 unfold iu at h;split at h
 ·cases h
 split at h
 ·split at h
  next A=>
   split at h
   ·split at h
    ·simp at h;rw[<-h,df _ _ _ l.1,Bh A l.2]
    cases h
   cases h
  cases h
 ·split at h
  next A=>
   split at h
   ·split at h
    ·split at h
     ·simp only[zai] at h;rw[<-h,df _ _ _ l.1,pO A l.2]
     cases h
    cases h
   cases h
  cases h
 cases h
theorem vr{Q s s' dst t}{ps}(h:pC Q s dst t ps=Z s'){m}(A:m≠site dst)(l:m<site dst*1000\/site dst*1000+J ps<=m):lk s'.rg m=lk s.rg m:=by
 unfold pC at h;split at h
 ·cases h
 rename_i s1 qs g1;split at h
 next s2 v B=>rw[bG h,eW B A,rv _ _ _ _ _ _ g1 m l]
 cases h
theorem DJ{Q s s' dst t A}{p q}(h:kh Q s dst t A p q=Z s'){m}(l:yu m dst p):lk s'.rg m=lk s.rg m:=by
 unfold kh at h;split at h
 ·cases h
 split at h
 ·split at h
  ·split at h
   ·split at h
    ·split at h
     ·split at h
      ·split at h
       ·rw[bG h];exact br _ _ (za0 l)
       cases h
      cases h
     cases h
    ·split at h
     ·split at h
      next B=>rw[bG h,eW B l]
      cases h
     cases h
    cases h
   cases h
  cases h
 cases h
theorem Ke{Q s s' dst t}{p q}(h:uT Q s dst t p q=Z s'){m}(A:m≠site dst):lk s'.rg m=lk s.rg m:=by
 unfold uT at h;split at h
 ·split at h
  ·split at h
   ·split at h
    next l=>rw[bG h,eW l A]
    cases h
   cases h
  cases h
 cases h
theorem Bk{Q s s' dst t}(h:lX Q s dst t=Z s'){m}(A:m≠site dst):lk s'.rg m=lk s.rg m:=by
 unfold lX at h;split at h
 ·split at h
  next l=>rw[bG h,eW l A]
  cases h
 cases h
def oV(m:Nat):P->Prop
 | .mp n _=>m≠n
 |_=>True
theorem s8{Q s s' dst t}{p k x}(h:ki Q s dst t p k x=Z s'){m}(A:oV m p)(l:m∉ca x.cells):lk s'.rg m=lk s.rg m:=by
 unfold ki at h;split at h
 ·split at h
  next B=>
   split at h
   ·split at h
    ·rw[bG h,df _ _ _ A,pO B l]
    cases h
   cases h
  cases h
 cases h
theorem Kf{Q s s' dst t}{p k}(h:AB Q s dst t p k=Z s'){m}(l:oV m p):lk s'.rg m=lk s.rg m:=by
 unfold AB at h;split at h
 ·split at h
  ·split at h
   ·rw[bG h,df _ _ _ l]
   cases h
  cases h
 cases h
theorem DK{Q s s' dst t}{p k}(h:kj Q s dst t p k=Z s'){m}(hd:m≠site dst)(A:oV m p):lk s'.rg m=lk s.rg m:=by
 unfold kj at h;split at h
 ·split at h
  ·split at h
   ·split at h
    ·split at h
     next l=>rw[bG h,df _ _ _ A,eW l hd]
     cases h
    cases h
   cases h
  cases h
 cases h
theorem GY{Q s s' dst p l x}(h:qZ Q s dst p l x=Z s'){m}(B:oV m p)(A:m∉ca x.cells):lk s'.rg m=lk s.rg m:=by
 unfold qZ at h;split at h
 ·split at h
  next L=>
   split at h
   ·split at h
    ·rw[bG h,df _ _ _ B,ER L A]
    cases h
   cases h
  cases h
 cases h
theorem vu{Q s s' dst t}{p}(h:tK Q s dst t p=Z s'){m}(hd:m≠site dst)(A:oV m p):lk s'.rg m=lk s.rg m:=by
 unfold tK at h;split at h
 ·split at h
  ·split at h
   ·split at h
    next l=>rw[bG h,eW l hd,df _ _ _ A]
    cases h
   cases h
  cases h
 ·split at h
  next l=>rw[bG h,eW l hd]
  cases h
 ·split at h
  ·split at h
   next l=>rw[bG h,eW l hd]
   cases h
  cases h
 cases h
theorem rA{Q t k}: ∀ps s s' es l,dB Q t k s es ps=Z (s',l)-> ∀m,(∀x∈ps,m∉ca x.2.cells)->lk s'.rg m=lk s.rg m
 | [],s,s',es,l,h,m,_=>by simp[dB] at h;rw[h.1]
 | (i,p)::r,s,s',es,l,h,m,hm=>by
  simp only[dB] at h;split at h
  next s1 x B=>
   split at h
   ·rw[rA r s1 s' _ l h m (λx A=>hm x (by simp[A])),pO B (hm (i,p) (by simp))]
   cases h
  cases h
theorem GZ{Q s s' dst t}{len ps}(h:tJ Q s dst t len ps=Z s'){m}(B:m≠site dst)(l: ∀x∈ps,m∉ca x.2.cells):lk s'.rg m=lk s.rg m:=by
 unfold tJ at h;split at h
 ·split at h
  ·split at h
   ·split at h
    ·rename_i L;split at h
     next A=>rw[bG h,eW A B,rA _ _ _ _ _ L m l]
     cases h
    cases h
   cases h
  cases h
 cases h
def ES(m:Nat):P->Prop
 | .sl n _ _=>m≠n
 |_=>True
theorem Kg{Q s s' dst t l}{p q}(h:uU Q s dst t l p q=Z s'){m}(A:ES m p):lk s'.rg m=lk s.rg m:=by
 unfold uU at h;split at h
 ·split at h
  ·split at h
   ·split at h
    ·rw[bG h,df _ _ _ A]
    cases h
   cases h
  cases h
 cases h
def Bl(m:Nat):P->Prop
 | .nu n _ _ _ _=>m≠n
 |_=>True
theorem Ha{Q s s' dst t}{p}(h:pF Q s dst t p=Z s'){m}(l:Bl m p):lk s'.rg m=lk s.rg m:=by
 unfold pF at h;split at h
 ·split at h
  ·split at h
   ·rw[bG h,df _ _ _ l]
   cases h
  cases h
 cases h
theorem s9 B σ: ∀ns A R l,ig B σ A ns R=Z l-> ∀m,m∉ns->lk l m=lk R m
 | [],A,R,l,h,m,hm=>by simp[ig] at h;rw[h]
 |n::ns,A,R,l,h,m,hm=>by
  simp only[zao,zcO] at hm;simp only[ig] at h;split at h
  ·cases h
  rw[s9 B σ ns _ _ _ h m hm.2,br _ _ (za0 hm.1)]
theorem Hb{Q cf s s' dst}{R L l}(h:oe Q cf s dst (.fn R L) l=Z s'){s1 qs}(U:dC Q s R (l++L)=Z (s1,qs)){m}
  (h1:m∉ca ((l++L).flatMap P.cells)) (h2:m∉reach s1.rg 1000 qs []) (h3:m<site dst*1000\/site dst*1000+1000<=m):lk s'.rg m=lk s.rg m:=by
 unfold oe at h;simp only[U] at h;split at h
 ·split at h
  ·cases h
  split at h
  ·cases h
  split at h
  next A=>
   have B:=(zac _ _▸A:_/\_).2;simp only[zca] at B;split at h
   ·cases h
   rename_i R2 X;split at h
   ·cases h
   rename_i R3 V;rw[bG h];rw[(xn _ _ _ _ _ _ V m).2 (by omega),s9 _ _ _ _ _ _ X m h2,Bj _ _ _ _ U m h1]
  cases h
 cases h
theorem yw{Q cf s s' o}{g}(h:hJ Q cf s o g=Z s'){m}(l: ¬zL (writes Q s o g) m):lk s'.rg m=lk s.rg m:=by
 unfold hJ at h;unfold writes at l;split at h
 next f xs R=>
  unfold iv at R;split at R
  next c A=>
   split at R
   ·rename_i f' X;have U:dM Q o=Y:=by unfold dM;rw[A]
    simp only[U,A,X] at l;grind [dC,oe,zL,Hb]
   cases R
  cases R
 unfold exec at h;split at h
 ·grind [bG]
 unfold kz at h;split at h
 next e V=>
  simp only[V] at l;split at h
  next s1 v hn=>rw[bG h,eW hn (by simpa [zL] using l)]
  cases h
 rename_i V;simp only[V] at l;split at h
 ·rw[bG h]
 unfold ef at h;split at h
 ·grind [zL,vr,rf]
 ·grind [zL,vr]
 next t ad x A=>
  simp only[A] at l;split at h
  next s1 h1=>
   rw[bG h];refine GX h1 ?_;generalize s.eg g ad=pa at l;cases pa with
   |ref n v off=>simp only[zL,zao,zcO] at l;exact⟨l.1.1,by omega⟩
   |eB n v i k off=>simp only[zL,zao,zcO] at l;exact⟨l.1.1,l.1.2⟩
   |_=>trivial
  cases h
 ·grind [bG]
 next c A=>simp only[A] at l;grind [DJ,yu,zL,Kg,ES,Ha,Bl,Kf,oV]
 ·grind [zL,Ke]
 ·grind [zL,Bk]
 next t L k x A=>
  simp only[A] at l;cases B:s.eg g L with
  |mp n v=>rw[B] at l h;simp only[zL,zao,zcO] at l;exact s8 h l.1.1 l.1.2
  |_=>rw[B] at h;simp[ki] at h
 next t L k x A=>
  simp only[A] at l;cases B:s.eg g L with
  |mp n v=>rw[B] at l h;simp only[zL,zao,zcO] at l;exact s8 h l.1.1 l.1.2
  |_=>rw[B] at h;simp[ki] at h
 next t x A=>
  simp only[A] at l;cases B:s.eg g x with
  |mp n v=>rw[B] at l h;simp only[zL,zao,zdd,or_false,zcO] at l;exact vu h l.1.1 l.1.2
  |_=>rw[B] at l h;simp only[zL,zao,zdd,or_false,zcO] at l;exact vu h l.1 trivial
 next t L k A=>
  simp only[A] at l;cases B:s.eg g L with
  |mp n v=>rw[B] at l h;simp only[zL,zao,zdd,or_false,zcO] at l;exact DK h l.1.1 l.1.2
  |_=>rw[B] at h;simp[kj] at h
 next t L st x A=>
  simp only[A] at l;cases B:s.eg g L with
  |mp n v=>rw[B] at l h;simp only[zL,zao,zcO] at l;exact GY h l.1.1 l.1.2
  |_=>rw[B] at h;simp[qZ] at h
 ·grind [zL,GZ]
 cases h
end Pi
namespace Pi
open Go
def S.wr(s:S)(R:List (Nat×En)):S:=⟨s.n,s.tm,R⟩
def gN(R h:List (Nat×En))(p:P):= ∀n v,p.name=Z (n,v)->lk R n=lk h n
theorem jX{s:S}{R n}(h:lk R n=lk s.rg n) v:(s.wr R).obj n v=s.obj n v:=by unfold S.obj S.wr;simp only[h]
theorem fm{s:S}{R n}(h:lk R n=lk s.rg n) v:(s.wr R).live n v=s.live n v:=by unfold S.live;rw[jX h]
theorem Hc{s R p}(h:gN R s.rg p):lO (s.wr R) p=lO s p:=by
 cases p<;>simp only[lO]
 ·rw[fm (h _ _ rfl)]
 rw[fm (h _ _ rfl)]
theorem WV Q {s R t p}(h:gN R s.rg p):sU Q (s.wr R) t p=sU Q s t p:=by
 cases p<;>simp only[sU]
 ·rw[jX (h _ _ rfl)]
 rw[jX (h _ _ rfl)]
theorem DL Q {s R t f}{p}(h:gN R s.rg p):jR Q (s.wr R) t f p=jR Q s t f p:=by
 unfold jR;split
 ·rfl
 cases p with
 |ref n v off=>simp only[fm (h n v rfl)]
 |eB n v i k off=>simp only[fm (h n v rfl)]
 |_=>rfl
theorem DM Q {s R t p i}(h:gN R s.rg p):gb Q (s.wr R) t p i=gb Q s t p i:=by
 unfold gb;split
 ·unfold qW;cases p with
  |ref n v off=>simp only[fm (h n v rfl)]
  |eB n v i k off=>simp only[fm (h n v rfl)]
  |_=>rfl
 split
 ·split
  ·cases p with
   |sl n v len=>simp only[jX (h n v rfl)]
   |nu n v k off len=>simp only[jX (h n v rfl)]
   |d x=>cases x<;>rfl
   |_=>rfl
  rfl
 rfl
theorem WW Q {s R t p}{lo}(h:gN R s.rg p):qp Q (s.wr R) t p lo=qp Q s t p lo:=by
 unfold qp;split
 ·rw[jX (h _ _ rfl)]
 rfl
theorem Kh Q {s R t p}{lo}(h:gN R s.rg p):gN R s.rg (qp Q s t p lo):=by
 unfold qp;split
 ·split
  ·split
   ·split
    ·intro n v l;cases l
    exact h
   exact h
  exact h
 exact h
theorem Te Q {s R t p}{lo l}(h:gN R s.rg p):oa Q (s.wr R) t p lo l=oa Q s t p lo l:=by
 unfold oa;rw[WW Q h]
 replace h:=Kh Q (t:=t) (lo:=lo) h
 generalize qp Q s t p lo=p at h;unfold zz;split
 ·rfl
 split
 ·cases p with
  |sl n v len=>simp only[jX (h n v rfl)]
  |nu n v k off len=>simp only[jX (h n v rfl)]
  |d x=>cases x<;>rfl
  |_=>rfl
 rfl
theorem qcu{s R p}(h:gN R s.rg p):JN (s.wr R) p=JN s p:=by
 unfold JN;cases p with
 |sl n v len=>simp only[fm (h n v rfl)]
 |nu n v k off len=>simp only[fm (h n v rfl)]
 |JL n v len=>simp only[fm (h n v rfl)]
 |d x=>cases x<;>rfl
 |_=>rfl
theorem Tf{s R p q}(h:gN R s.rg p)(l:gN R s.rg q):wY (s.wr R) p q=wY s p q:=by
 unfold wY;cases p with
 |ref n v off=>cases q with
  |d x=>cases x<;>simp only[fm (h n v rfl)]
  |_=>rfl
 |eB n v i k off=>cases q with
  |d x=>cases x<;>simp only[fm (h n v rfl)]
  |_=>rfl
 |hd n v=>cases q with
  |d x=>cases x<;>simp only[fm (h n v rfl)]
  |_=>rfl
 |d x=>cases q with
  |ref n v off=>cases x<;>simp only[fm (l n v rfl)]
  |eB n v i k off=>cases x<;>simp only[fm (l n v rfl)]
  |hd n v=>cases x<;>simp only[fm (l n v rfl)]
  |d y=>cases x<;>cases y<;>rfl
  |_=>cases x<;>rfl
 |fT x off=>cases q with
  |d y=>cases y<;>rfl
  |_=>rfl
 |_=>cases q<;>rfl
theorem qcv Q {s R l k}{p}(h:gN R s.rg p):od Q (s.wr R) l k p=od Q s l k p:=by
 unfold od;cases p with
 |sl n v len=>simp only[jX (h n v rfl)]
 |nu n v k' off len=>simp only[jX (h n v rfl)]
 |d x=>cases x<;>rfl
 |_=>rfl
theorem Od Q {s R t p i}{ok z}(h:gN R s.rg p):ff Q (s.wr R) t p i ok z=ff Q s t p i ok z:=by
 unfold ff;split
 next n v k _=>rw[jX (h _ _ rfl)]
 ·rfl
 rfl
theorem Tj{s R p}(h:gN R s.rg p):qX (s.wr R) p=qX s p:=by
 unfold qX;split
 ·rw[jX (h _ _ rfl)]
 rfl
theorem qcw{s R p}(h:gN R s.rg p):JO (s.wr R) p=JO s p:=by cases p<;>simp only[JO];rw[jX (h _ _ rfl)]
theorem qf3{Q s R o}{g}(h:aD o=0\/ ∀x∈o.op.operands.toList,gN R s.rg (s.eg g x)):pv Q (s.wr R) o g=pv Q s o g:=by
 have eg: ∀x,(s.wr R).eg g x=s.eg g x:=λ_=>rfl;have ev: ∀x,(s.wr R).ev x=s.ev x:=λ_=>rfl;have A: ∀{X:Prop},aD o≠0->(aD o=0\/X)->X:=λh1 h2=>h2.resolve_left h1;have B:(s.wr R).eg g=s.eg g:=rfl;unfold pv;simp only[eg,B];split
 ·rfl
 ·rfl
 ·rfl
 next x l=>exact Hc (A (by simp[aD,l]) h x (by simp[l,Do]))
 next op t x y yt l=>have U:=A (by simp[aD,l]) h;unfold qA;rw[Tf (U x (by simp[l,Do])) (U y (by simp[l,Do]))]
 ·rfl
 ·rfl
 next t x l=>exact WV Q (A (by simp[aD,l]) h x (by simp[l,Do]))
 next t x f l=>exact DL Q (A (by simp[aD,l]) h x (by simp[l,Do]))
 next t x i l=>exact DM Q (A (by simp[aD,l]) h x (by simp[l,Do]))
 ·rfl
 ·rfl
 ·rfl
 next t x i ok l=>have e: ∀z,ff Q (s.wr R) t (s.eg g x) (s.eg g i) ok z=ff Q s t (s.eg g x) (s.eg g i) ok z:=λz=>Od Q (A (by simp[aD,l]) h x (by simp[l,Do]));simp only[e]
 next x l=>exact Tj (A (by simp[aD,l]) h x (by simp[l,Do]))
 next t x lo hi l=>rw[Te Q (A (by simp[aD,l]) h x (by simp[l,Do]))]
 ·rfl
 ·rfl
 next c l=>
  split
  next V=>
   split
   ·rename_i x cW;have L:x∈o.op.operands.toList:=by
     have:x∈c.args.toList:=by rw[cW];simp
     simp only[l,Do,Call.operands];simp at this;simp[this]
    rw[qcu (A (by simp[aD,l,V]) h x L),qcw (A (by simp[aD,l,V]) h x L)]
   rfl
  ·rfl
  ·rfl
  rfl
 rfl
theorem qhM{Q s s2 o g}(L: ∀x∈o.op.operands.toList,s2.ev x=s.ev x)(A:s2.n=s.n)
  (h:aD o=0\/ ∀x∈o.op.operands.toList,gN s2.rg s.rg (s.eg g x)):pv Q s2 o g=pv Q s o g:=by
 have B:Alike s (s.wt s2.tm) o.op.operands.toList:=⟨rfl,rfl,L⟩
 have e:s2=(s.wt s2.tm).wr s2.rg:=by
  cases s2 with
  |mk n tm rg=>simp only at A;subst A;rfl
 rw[e];rw[qf3 (s:=s.wt s2.tm)]
 ·exact Bg B g
 rcases h with h |h
 ·exact .inl h
 refine .inr λx l=> ?_;rw[B.eg l];exact h x l
theorem yx{o}(hk:aD o<=1):iv o=Y:=by
 unfold iv;split
 next c h=>
  split
  next f l=>simp[aD,h,l] at hk
  rfl
 rfl
theorem rB{Q o}(hk:aD o<=1):dM Q o=Y:=by
 unfold dM;split
 next h=>simp[aD,h] at hk
 rfl
theorem Tk{Q s s2 o g}(hk:aD o<=1)(X: ∀x∈o.op.operands.toList,s2.ev x=s.ev x)(hn:s2.n=s.n)
  (h:aD o=0\/ ∀x∈o.op.operands.toList,gN s2.rg s.rg (s.eg g x)): ∃c:Option P,exec Q s o g=(c.bind λp=>s.put o.dst p)/\exec Q s2 o g=(c.bind λp=>s2.put o.dst p):=by
 unfold exec;cases hm:tL o with
 |some r=>
  obtain⟨t,len,V⟩:=r;obtain⟨ps,A,rfl,_⟩:=xl hm;have e:ps.toList.map (λx=>(x.1,s2.eg g x.2))=ps.toList.map (λx=>(x.1,s.eg g x.2)):=zaY λx U=>by have:s2.ev x.2=s.ev x.2:=X _ (by rw[A];simp[Do];exact⟨_,by simpa using U⟩);unfold S.eg;rw[this]
  simp only[e];cases Ep Q t len (ps.toList.map λx=>(x.1,s.eg g x.2)) with
  |none=>exact⟨Y,rfl,rfl⟩
  |some p=>exact⟨Z p,rfl,rfl⟩
 |none=>
 have B: ∀t l ps,o.op≠ .buildSlice t l ps:=λt l ps A=>by
  have h0:bo o.type 4000000=C:=by
   cases hb:bo o.type 4000000 with
   |false=>rfl
   |true=>simp[tL,A,hb] at hm
  simp[aD,A,h0] at hk
 simp only[];unfold kz;rw[rB hk];simp only[];rw[qhM X hn h];cases pv Q s o g with
 |some p=>exact⟨Z p,rfl,rfl⟩
 |none=>
  simp only[];unfold ef;split
  next A=>first |exact absurd A (B _ _ _)| (simp[aD,A] at hk)
  next A=>first |exact absurd A (B _ _ _)| (simp[aD,A] at hk)
  next A=>first |exact absurd A (B _ _ _)| (simp[aD,A] at hk)
  next R t2 x A=>
   have U:x∈o.op.operands.toList:=by simp[A,Do]
   have e0:s2.eg g x=s.eg g x:=by unfold S.eg;rw[X x U]
   have e1:od Q s2 R 1 (s.eg g x)=od Q s R 1 (s.eg g x):=by
    have MX:gN s2.rg s.rg (s.eg g x):=by
     rcases h with h |h
     ·simp[aD,A] at h
     exact h x U
    have:od Q (s.wr s2.rg) R 1 (s.eg g x)=od Q s R 1 (s.eg g x):=qcv Q MX;rw[<-this];rfl
   rw[e0,e1];split
   ·split
    ·split
     ·exact⟨Z _,rfl,rfl⟩
     exact⟨Y,rfl,rfl⟩
    exact⟨Y,rfl,rfl⟩
   exact⟨Y,rfl,rfl⟩
  next c A=>
   split
   next L=>simp[aD,A,L] at hk
   next L=>simp[aD,A,L] at hk
   next L=>simp[aD,A,L] at hk
   next L=>simp[aD,A,L] at hk
   exact⟨Y,rfl,rfl⟩
  next A=>first |exact absurd A (B _ _ _)| (simp[aD,A] at hk)
  next A=>first |exact absurd A (B _ _ _)| (simp[aD,A] at hk)
  next A=>first |exact absurd A (B _ _ _)| (simp[aD,A] at hk)
  next A=>first |exact absurd A (B _ _ _)| (simp[aD,A] at hk)
  next A=>first |exact absurd A (B _ _ _)| (simp[aD,A] at hk)
  next A=>first |exact absurd A (B _ _ _)| (simp[aD,A] at hk)
  next A=>first |exact absurd A (B _ _ _)| (simp[aD,A] at hk)
  next A=>first |exact absurd A (B _ _ _)| (simp[aD,A] at hk)
  exact⟨Y,rfl,rfl⟩
theorem WX{ops o}{t:Nat}(h:Operand.tmp t∈o.op.operands.toList):t∈looks ops o:=
 zbS _ (zde.2 ⟨_,h,by simp[VN]⟩)
theorem rC{ops o t w}(h:bz ops o=Z (Z (t,w))):t∈looks ops o:=by
 unfold bz at h;unfold looks;refine zbO _ ?_;split at h
 ·cases h
 rename_i j l L;split at h
 next U B=>
  split at h
  next R A=>simp at h;obtain⟨rfl,rfl⟩:=h;simp[L,B,A]
  cases h
 cases h
theorem Oe{ops}{s s2:S}{o}(h: ∀t∈looks ops o,lk s2.tm t=lk s.tm t): ∀x∈o.op.operands.toList,s2.ev x=s.ev x:=by
 intro x l;cases x with
 |tmp t=>show(lk s2.tm t).getD .bad=(lk s.tm t).getD .bad;rw[h t (WX l)]
 |_=>rfl
theorem rD{Q cf ops s s2}{o}(hk:aD o<=1)(L: ∀t∈looks ops o,lk s2.tm t=lk s.tm t)(R:s2.n=s.n)
  (h:aD o=0\/ ∀g,bz ops o=Z g-> ∀x∈o.op.operands.toList,gN s2.rg s.rg (s.eg g x)):
  ∃c:Option P,bw Q cf ops s o=(c.bind λq=>s.put o.dst q)/\bw Q cf ops s2 o=(c.bind λq=>s2.put o.dst q):=by
 have U:=Oe L;unfold bw;have A: ∀g,bz ops o=Z g-> ∃c:Option P,hJ Q cf s o g=(c.bind λq=>s.put o.dst q)/\hJ Q cf s2 o g=(c.bind λq=>s2.put o.dst q):=by intro g l;unfold hJ;rw[yx hk];exact Tk (Q:=Q) (s:=s) (s2:=s2) (g:=g) hk U R (h.imp id λh=>h g l)
 cases l:bz ops o with
 |none=>exact⟨Y,rfl,rfl⟩
 |some g=>
  cases g with
  |none=>exact A Y l
  |some tw=>
   obtain⟨t,B⟩:=tw;simp only[];rw[L t (rC l)];split
   ·split
    ·exact A _ l
    exact⟨Z .skip,rfl,rfl⟩
   ·exact⟨Z .skip,rfl,rfl⟩
   exact⟨Y,rfl,rfl⟩
theorem Ki{Q cf ops s s2}{o}(V: ∃t m k,o.op= .lookup t m k C)(R: ∀t∈looks ops o,lk s2.tm t=lk s.tm t)(X:s2.n=s.n)
  (h: ∀g,bz ops o=Z g->pv Q (s.wr s2.rg) o g=pv Q s o g):
  ∃c:Option P,bw Q cf ops s o=(c.bind λq=>s.put o.dst q)/\bw Q cf ops s2 o=(c.bind λq=>s2.put o.dst q):=by
 obtain⟨lt,lm,U,B⟩:=V;have hk:aD o<=1:=by simp[aD,B]
 have ha:=Oe R;have A: ∀g,bz ops o=Z g-> ∃c:Option P,hJ Q cf s o g=(c.bind λq=>s.put o.dst q)/\hJ Q cf s2 o g=(c.bind λq=>s2.put o.dst q):=by
  intro g l;unfold hJ;rw[yx hk];have hm:tL o=Y:=by simp[tL,B]
  unfold exec;rw[hm];simp only[];unfold kz;rw[rB hk];have h1:Alike (s.wr s2.rg) s2 o.op.operands.toList:=⟨X,rfl,ha⟩
  have e:=Bg (Q:=Q) h1 g;simp only[];rw[e,h g l];cases pv Q s o g with
  |some p=>exact⟨Z p,rfl,rfl⟩
  |none=>exact⟨Y,by simp[ef,B],by simp[ef,B]⟩
 unfold bw;cases l:bz ops o with
 |none=>exact⟨Y,rfl,rfl⟩
 |some g=>
  cases g with
  |none=>exact A Y l
  |some tw=>
   obtain⟨t,L⟩:=tw;simp only[];rw[R t (rC l)];split
   ·split
    ·exact A _ l
    exact⟨Z .skip,rfl,rfl⟩
   ·exact⟨Z .skip,rfl,rfl⟩
   exact⟨Y,rfl,rfl⟩
theorem tR{Q cf ops s s2}{o}(B: ∀t∈looks ops o,lk s2.tm t=lk s.tm t)(L:s2.n=s.n)(h:s2.rg=s.rg):
  ∃c,bw Q cf ops s o=fin s o.dst c/\bw Q cf ops s2 o=fin s2 o.dst c:=by
 have A:Alike s s2 o.op.operands.toList:=⟨L,h,Oe B⟩
 unfold bw;cases R:bz ops o with
 |none=>exact⟨Y,rfl,rfl⟩
 |some g=>
  cases g with
  |none=>exact EP Q cf A Y
  |some tw=>
   obtain⟨t,l⟩:=tw;simp only[];rw[B t (rC R)];split
   ·split
    ·exact EP Q cf A _
    exact⟨Z (s.rg,.skip),rfl,by unfold fin;rw[<-h]⟩
   ·exact⟨Z (s.rg,.skip),rfl,by unfold fin;rw[<-h]⟩
   exact⟨Y,rfl,rfl⟩
theorem lA{Q cf ops s s1}{o}(hk:1<aD o)(h:bw Q cf ops s o=Z s1){m}(l: ¬zL (cg Q ops s o).ws m):lk s1.rg m=lk s.rg m:=by
 unfold bw at h;unfold cg at l;have R:gr (aD o) 1=C:=by
  cases L:gr (aD o) 1 with
  |false=>rfl
  |true=>rw[zca] at L;omega
 cases A:bz ops o with
 |none=>simp[A] at h
 |some g=>
  simp only[A,R,zaF,zbk] at l;cases g with
  |none=>simp only[A] at h;exact yw h l
  |some tw=>
   obtain⟨t,B⟩:=tw;simp only[A] at h;split at h
   ·split at h
    ·exact yw h l
    rw[bG h]
   ·rw[bG h]
   cases h
end Pi
namespace Pi
open Go
theorem gq{α:Type}{f:Nat->α->Bool}: ∀l A,km f A l=O-> ∀i x,l[i]?=Z x->f (A+i) x=O
 | [],A,_,i,x,hx=>by simp at hx
 |y::r,A,h,i,x,hx=>by
  simp only[km,zac] at h;cases i with
  |zero=>grind
  |succ i=>
   have:=gq r (A+1) h.2 i x (by grind);have e:A+1+i=A+(i+1):=by omega
   rwa [e] at this
theorem hQ{α:Type}{f:Nat->α->Nat->α->Bool}: ∀l A,iJ f A l=O-> ∀i j x y,i<j->l[i]?=Z x->l[j]?=Z y->f (A+i) x (A+j) y=O
 | [],A,_,i,j,x,y,_,hx,_=>by simp at hx
 |z::r,A,h,i,j,x,y,rp,hx,hy=>by
  simp only[iJ,zac] at h;cases j with
  |zero=>omega
  |succ j=>
   have e:A+1+j=A+(j+1):=by omega
   cases i with
   |zero=>simp at hx;subst hx;have:=gq r (A+1) h.1 j y (by grind);rwa [e] at this
   |succ i=>
    have:=hQ r (A+1) h.2 i j x y (by omega) (by grind) (by grind);have B:A+1+i=A+(i+1):=by omega
    rwa [e,B] at this
theorem jr{s s1:S}{dst q}(h:s.put dst q=Z s1):s1.n=s.n/\s1.rg=s.rg/\(∀d,dst=Z d->lk s1.tm d=Z q)/\
  (∀t,dst≠Z t->lk s1.tm t=lk s.tm t):=by
 unfold S.put at h;grind [aX,br]
theorem Kj{s s1 s2:S}{dst q}(h:s.put dst q=Z s1)(A:s2.n=s.n): ∃l,s2.put dst q=Z l:=by unfold S.put at h⊢;grind
def xo Q ops (s:S) x R h:=
 (∃t m k,x.op= .lookup t m k C)/\ ∀g,bz ops x=Z g->pv Q (s.wr h) x g=pv Q (s.wr R) x g
structure Text(Q:Program)(cf:CF)(ops:List Oper)(M:List Nat)(St:Nat->S)(m:Nat):Prop where
 fix: ∀i o,ops[i]?=Z o->SI M i o=O
 pair: ∀i j x y,i<j->ops[i]?=Z x->ops[j]?=Z y->q7 m ops M i x j y=O
 run: ∀i o,ops[i]?=Z o->bw Q cf ops (St i) o=Z (St (i+1))
 info: ∀i j x y,i<j->ops[i]?=Z x->ops[j]?=Z y->(aD x<=1\/aD y<=1)->mm (M.getD j 0) i=C->
  (aD x=0\/aD y=0\/(aD x<=1/\aD y<=1))\/og (cg Q ops (St i) x) (cg Q ops (St j) y)=O\/
  ((cg Q ops (St i) x).pure=O/\((∀n∈(cg Q ops (St i) x).ns,lk (St (j+1)).rg n=lk (St j).rg n)\/xo Q ops (St i) x (St j).rg (St (j+1)).rg))\/
  ((cg Q ops (St j) y).pure=O/\((∀n∈(cg Q ops (St j) y).ns,lk (St (i+1)).rg n=lk (St i).rg n)\/xo Q ops (St j) y (St i).rg (St (i+1)).rg))
section
variable{Q:Program}{cf:CF}{ops:List Oper}{M:List Nat}{St:Nat->S}{m:Nat}(tx:Text Q cf ops M St m)
include tx
theorem Text.back{i o}(l:ops[i]?=Z o){e}(A:e∈o.after)(B:Region.binds .any e=O):e.on<i:=by have:=tx.fix i o l;simp only[SI,zac] at this;have h:=za8.1 this.1.2 e (by grind);simp_all
theorem Text.mask{i o}(h:ops[i]?=Z o):M.getD i 0=l0 M o.after.toList:=by have:=tx.fix i o h;simp_all [SI,zad]
omit tx in
theorem tS(l:List Nat)(j:Nat): ∀(es:List Edge),Nat.testBit (l0 l es) j=true-> ∃e∈es,Region.binds .any e=true/\(j=e.on\/Nat.testBit (l.getD e.on 0) j=true)
 | [],h=>by simp[l0] at h
 |e::es,h=>by
  simp only[l0] at h;split at h
  next U=>
   have A:Nat.testBit ((1<<<e.on |||l.getD e.on 0)|||l0 l es) j=true:=h;rw[Nat.testBit_or,Nat.testBit_or] at A;simp only[zbn] at A;rcases A with(A |A)|A
   ·refine⟨e,by simp,U,.inl ?_⟩;rw[Nat.testBit_shiftLeft] at A;simp only[zac,zam,ge_iff_le] at A;obtain⟨L,B⟩:=A;cases hd:j-e.on with
    |zero=>omega
    |succ n=>rw[hd] at B;simp[Nat.testBit_succ] at B
   ·exact⟨e,by simp,U,.inr A⟩
   obtain⟨e',R,L,B⟩:=tS l j es A;exact⟨e',by simp[R],L,B⟩
  obtain⟨e',R,L,B⟩:=tS l j es h;exact⟨e',by simp[R],L,B⟩
omit tx in
def Kk(ops:List Oper)(L:Nat->Prop):Prop:= ∀i o,ops[i]?=some o->L i-> ∀e∈o.after,Region.binds .any e=true->L e.on
theorem Text.sub{L}(hL:Kk ops L): ∀i o,ops[i]?=Z o->(∀e∈o.after,Region.binds .any e=O->L e.on)-> ∀j,mm (M.getD i 0) j=O->L j:=by
 intro i
 induction i using Nat.strongRecOn with
 |ind i ih=>
  intro o l X j U;rw[tx.mask l] at U;obtain⟨e,A,V,h⟩:=tS M j _ U;have A:e∈o.after:=by grind
  rcases h with h |h
  ·grind
  have aZ:=tx.back l A V;have R:=(zab.1 l).1;have B:ops[e.on]?=Z ops[e.on]:=zae (by omega);exact ih e.on aZ _ B (hL e.on _ B (X e A V)) j h
theorem Text.lt{i o}(A:ops[i]?=Z o){j}(B:mm (M.getD i 0) j=O):j<i:=
 tx.sub (L:=(· <i)) (λ_ _ hk R _ h l=>Nat.lt_trans (tx.back hk h l) R) i o A (λ_ h l=>tx.back A h l) j B
theorem Text.inj{i j:Nat}{x y}(l:ops[i]?=Z x)(h:ops[j]?=Z y)(R:i≠j){d:Nat}(hd:x.dst=Z d):y.dst≠Z d:=by
 intro A;have L: ∀{i j:Nat} {x y:Oper},i<j->ops[i]?=Z x->ops[j]?=Z y->x.dst=Z d->y.dst=Z d->False:=by intro i j x y B l h hd A;have:=tx.pair i j x y B l h;simp[q7,Gm,hd,A] at this
 grind
theorem Text.rel{i j:Nat}{x y}(A:ops[i]?=Z x)(l:ops[j]?=Z y)(L:i≠j){d:Nat}(hd:x.dst=Z d)(B:d∈looks ops y):
  (i<j/\mm (M.getD j 0) i=O)\/(j<i/\mm (M.getD i 0) j=O):=by
 have R:=(lQ _ _).2 B;rcases zcs L with h |h
 ·refine .inl ⟨h,?_⟩;have:=tx.pair i j x y h A l;grind [q7,Er]
 refine .inr ⟨h,?_⟩;have:=tx.pair j i y x h l A;grind [q7,Er]
theorem Text.kinds{i j x y}(h:i<j)(A:ops[i]?=Z x)(l:ops[j]?=Z y):mm (M.getD j 0) i=O\/aD x<=1\/aD y<=1\/j=m:=by have:=tx.pair i j x y h A l;simp only[q7,zac,zbn,zca,Nat.beq_eq] at this;grind
theorem Text.step{i o}(l:ops[i]?=Z o): ∃R q,(⟨(St i).n,(St i).tm,R⟩:S).put o.dst q=Z (St (i+1)):=by
 obtain⟨c,h,_⟩:=tR (Q:=Q) (cf:=cf) (ops:=ops) (s:=St i) (s2:=St i) (o:=o) (λ_ _=>rfl) rfl rfl;rw[tx.run i o l] at h;cases c with
 |none=>cases h
 |some x=>exact⟨x.1,x.2,h.symm⟩
theorem Text.inv: ∀i,i<=J ops->(St i).n=(St 0).n/\
  (∀t,(∀k o,k<i->ops[k]?=Z o->o.dst≠Z t)->lk (St i).tm t=lk (St 0).tm t)
 |0,_=>⟨rfl,λ_ _=>rfl⟩
 |i+1,hi=>by obtain⟨B,A⟩:=Text.inv i (by omega);have h:ops[i]?=Z ops[i]:=zae (by omega);obtain⟨R,q,l⟩:=tx.step h;obtain⟨g1,V,U,L⟩:=jr l;grind
theorem Text.keep{i:Nat}{o}(l:ops[i]?=Z o){t:Nat}(h:o.dst≠Z t):lk (St (i+1)).tm t=lk (St i).tm t:=by obtain⟨R,q,A⟩:=tx.step l;exact(jr A).2.2.2 t h
theorem Text.stay{i:Nat}{o}(B:ops[i]?=Z o){t:Nat}(A:o.dst=Z t): ∀k,i<k->k<=J ops->lk (St k).tm t=lk (St (i+1)).tm t
 |0,hk,_=>by omega
 |k+1,hk,hl=>by
  rcases zcY hk with h |h
  ·have e:i=k:=by omega
   rw[e]
  have l:ops[k]?=Z ops[k]:=zae (by omega);rw[tx.keep l (tx.inj B l (by omega) A)];exact Text.stay B A k (by omega) (by omega)
theorem Text.qcx{n i}: ∀k,i<=k->k<=J ops->(∀j x,i<=j->j<k->ops[j]?=Z x->aD x<=1\/ ¬zL (cg Q ops (St j) x).ws n\/lk (St (j+1)).rg n=lk (St j).rg n)->lk (St k).rg n=lk (St i).rg n
 |0,hk,_,_=>by
      have e:i=0:=by omega
      rw[e]
 |k+1,hk,hl,h=>by
  rcases zcY hk with L |aZ
  ·rw[L]
  have B:ops[k]?=Z ops[k]:=zae (by omega);rw[<-Text.qcx k (by omega) (by omega) (λj x R l=>h j x R (by omega))];by_cases U:aD ops[k]<=1
  ·obtain⟨c,l,_⟩:=rD (Q:=Q) (cf:=cf) (ops:=ops) (s:=St k) (s2:=St k) (o:=ops[k]) U (λ_ _=>rfl) rfl (.inr λg _ x _ n v _=>rfl);rw[tx.run k _ B] at l;cases c with
   |none=>cases l
   |some q=>rw[(jr l.symm).2.1]
  rcases h k _ (by omega) (by omega) B with A |A |A
  ·grind
  ·exact lA (by omega) (tx.run k _ B) A
  exact A
theorem Text.vv{i}: ∀k,i<=k->k<=J ops->(∀j x,i<=j->j<k->ops[j]?=Z x->aD x<=1)->(St k).rg=(St i).rg
 |0,hk,_,_=>by
    have e:i=0:=by omega
    rw[e]
 |k+1,hk,hl,h=>by
  rcases zcY hk with B |aZ
  ·rw[B]
  have A:ops[k]?=Z ops[k]:=zae (by omega);rw[<-Text.vv k (by omega) (by omega) (λj x L l=>h j x L (by omega))];obtain⟨c,l,_⟩:=rD (Q:=Q) (cf:=cf) (ops:=ops) (s:=St k) (s2:=St k) (o:=ops[k]) (h k _ (by omega) (by omega) A) (λ_ _=>rfl) rfl (.inr λg _ x _ n v _=>rfl);rw[tx.run k _ A] at l;cases c with
  |none=>cases l
  |some q=>rw[(jr l.symm).2.1]
omit tx in
structure Inv(ops:List Oper)(St:Nat->S)(L:Nat->Prop)(s:S):Prop where
 n:s.n=(St 0).n
 tm1: ∀i o t,ops[i]?=some o->L i->o.dst=some t->lk s.tm t=lk (St ops.length).tm t
 tm2: ∀t,(∀i o,ops[i]?=some o->L i->o.dst≠some t)->lk s.tm t=lk (St 0).tm t
 rg: ∃k,k<=ops.length/\s.rg=(St k).rg/\ ∀i o,ops[i]?=some o->1<aD o->(i<k↔L i)
omit tx in
theorem qrd{ns:List Nat}{W:List Nat×Nat×Nat}(h:P9 ns W=true){n:Nat}(B:n∈ns): ¬zL W n:=by
 unfold P9 at h;have:=za8.1 h n B;simp only[zac,zbD,Bool.and_eq_false_iff] at this;intro l;rcases l with l |l
 ·have L:=(lQ _ _).2 l;rw[L] at this;simp at this
 rcases this.2 with A |A
 ·have:=Nat.ble_eq_true_of_le l.1;rw[this] at A;cases A
 have:Nat.blt n W.2.2=true:=by simp[Nat.blt];omega
 rw[this] at A;cases A
omit tx in
theorem sb: ∀(ps:List P) (p:P) (n v:Nat),p∈ps->p.name=some (n,v)->n∈r5 ps
 | [],p,n,v,h,_=>by simp at h
 |q::r,p,n,v,h,hn=>by
  simp only[r5];rcases zao.1 h with h |h
  ·subst h;rw[hn];simp
  have:=sb r p n v h hn;split
  ·exact zaH _ this
  exact this
omit tx in
theorem jY{s:S}{o:Oper}(hk:aD o<=1){g:Option (Nat×Bool)}(h:bz ops o=some g):(cg Q ops s o).pure=true/\(aD o≠0->(cg Q ops s o).ns=r5 (o.op.operands.toList.map (s.eg g))):=by
 unfold cg;rw[h];simp only[Nat.ble_eq_true_of_le hk,zbj,zcG];intro A;have:Nat.beq (aD o) 0=false:=by
  cases l:Nat.beq (aD o) 0 with
  |false=>rfl
  |true=>exact absurd (zad l) A
 rw[this];rfl
omit tx in
theorem Bm{s:S}{o:Oper}(hk:1<aD o):(cg Q ops s o).pure=false:=by
 unfold cg;have l:Nat.ble (aD o) 1=false:=by
  cases h:Nat.ble (aD o) 1 with
  |false=>rfl
  |true=>rw[zca] at h;omega
 split
 ·rfl
 rw[l];rfl
theorem Text.go{L}(hL:Kk ops L){s}(hi:Inv ops St L s){i o}(ho:ops[i]?=Z o)(cD: ¬L i)(he: ∀e∈o.after,Region.binds .any e=O->L e.on)
  (M1:L m-> ∀x p,x<m->ops[x]?=Z p->1<aD p->L x) (EI:i=m-> ∀x p,x<m->ops[x]?=Z p->1<aD p->L x):
  ∃s1,bw Q cf ops s o=Z s1/\Inv ops St (λj=>L j\/j=i) s1:=by
 have dE:=(zab.1 ho).1;have mx:=tx.sub hL i o ho he;have qhN: ∀j x,ops[j]?=Z x->L j->mm (M.getD j 0) i=false:=λj x hx l=>by
  cases hb:mm (M.getD j 0) i with
  |false=>rfl
  |true=>exact absurd (tx.sub hL j x hx (hL j x hx l) i hb) cD
 obtain⟨n1,n3⟩:=tx.inv i (by omega);have WY: ∀t∈looks ops o,lk s.tm t=lk (St i).tm t:=by
  intro t ht;by_cases hex: ∃(k:Nat) (x:Oper),ops[k]?=Z x/\x.dst=Z t
  ·obtain⟨k,x,hk,hd⟩:=hex;have C8:=(zab.1 hk).1;by_cases X:k=i
   ·subst X;rw[hi.tm2 t (λj y l V Km=>by
     by_cases e:j=k
     ·rw[e] at V;exact cD V
     exact tx.inj l hk e Km hd),n3 t (λj y aZ l Km=>tx.inj l hk (by omega) Km hd)]
   rcases tx.rel hk ho X hd ht with⟨B,h2⟩| ⟨B,h2⟩
   ·rw[hi.tm1 k x t hk (mx k h2) hd,tx.stay hk hd _ C8 (zag _),tx.stay hk hd i B (by omega)]
   rw[hi.tm2 t (λj y l V Km=>by
    by_cases e:j=k
    ·subst e;have:=qhN j y l V;rw[h2] at this;cases this
    exact tx.inj l hk e Km hd),n3 t (λj y aZ l Km=>tx.inj l hk (by omega) Km hd)]
  rw[hi.tm2 t (λj y l _ Km=>hex ⟨j,y,l,Km⟩),n3 t (λj y _ l Km=>hex ⟨j,y,l,Km⟩)]
 have Qo:s.n=(St i).n:=by rw[hi.n,n1]
 obtain⟨k,C8,hkr,Qh⟩:=hi.rg;have WZ: ∀(R:List (Nat×En)) (q:P) (s1:S),(∀d,o.dst=Z d->lk (St (i+1)).tm d=Z q)->(⟨s.n,s.tm,R⟩:S).put o.dst q=Z s1->
   (∃k,k<=J ops/\R=(St k).rg/\ ∀j x,ops[j]?=Z x->1<aD x->(j<k↔(L j\/j=i)))->Inv ops St (λj=>L j\/j=i) s1:=by
  intro R q s1 hval qlx hrg;obtain⟨g1,g2,g3,g4⟩:=jr qlx;have keep: ∀t,o.dst≠Z t->lk s1.tm t=lk s.tm t:=λt ht=>g4 t ht;refine⟨g1.trans hi.n,λj y t l V hd=> ?_,λt ht=> ?_,?_⟩
  ·rcases V with V |rfl
   ·have cU:j≠i:=λe=>cD (e▸V);rw[keep t (tx.inj l ho cU hd),hi.tm1 j y t l V hd]
   rw[ho] at l;cases l;rw[g3 t hd,tx.stay ho hd _ dE (zag _),hval t hd]
  ·rw[keep t (ht i o ho (.inr rfl)),hi.tm2 t (λj y l V=>ht j y l (.inl V))]
  rw[g2];exact hrg
 by_cases hk:aD o<=1
 ·
  have qf4: ∀g,bz ops o=Z g->aD o≠0-> ∀j y,ops[j]?=Z y->1<aD y->(j<i/\ ¬L j\/i<=j/\L j)->
    (∀n∈(cg Q ops (St i) o).ns,lk (St (j+1)).rg n=lk (St j).rg n)\/xo Q ops (St i) o (St j).rg (St (j+1)).rg:=by
   intro g hg h0 j y l U hc;have p1:=(jY (Q:=Q) (s:=St i) hk hg).1;have byW:og (cg Q ops (St i) o) (cg Q ops (St j) y)=O\/og (cg Q ops (St j) y) (cg Q ops (St i) o)=O-> ∀n∈(cg Q ops (St i) o).ns,lk (St (j+1)).rg n=lk (St j).rg n:=by intro A n hn;refine lA (by omega) (tx.run j y l) ?_;unfold og at A;rw[p1,Bm (o:=y) (by omega)] at A;simp only[zaF,zbk,zbj,or_self] at A;exact qrd A hn
   rcases hc with⟨aZ,V⟩| ⟨hle,V⟩
   ·have qhO:mm (M.getD i 0) j=false:=by
     cases hb:mm (M.getD i 0) j with
     |false=>rfl
     |true=>exact absurd (mx j hb) V
    rcases tx.info j i y o aZ l ho (.inr hk) qhO with A |A |A |A
    ·omega
    ·exact .inl (byW (.inr A))
    ·rw[Bm (o:=y) (by omega)] at A;cases A.1
    exact A.2
   have cU:j≠i:=λe=>cD (e▸V);rcases tx.info i j o y (by omega) ho l (.inl hk) (qhN j y l V) with A |A |A |A
   ·omega
   ·exact .inl (byW (.inl A))
   ·exact A.2
   rw[Bm (o:=y) (by omega)] at A;cases A.1
  have qhP: ∀j y,ops[j]?=Z y->aD y<=1->(St (j+1)).rg=(St j).rg:=λj y l U=>by
   have J0:=(zab.1 l).1;exact tx.vv (i:=j) (j+1) (by omega) (by omega) λj' y' B h2 Wz=>by
    have:j'=j:=by omega
    subst this;rw[l] at Wz;cases Wz;exact U
  have chain: ∀{C:List (Nat×En)->Prop},(∀j y,ops[j]?=Z y->(j<i/\ ¬L j\/i<=j/\L j)->1<aD y->(C (St j).rg↔C (St (j+1)).rg))->(C (St i).rg↔C s.rg):=by
   intro C hC;rw[hkr];have go: ∀d lo,lo+d<=J ops->(∀j,lo<=j->j<lo+d-> ∀y,ops[j]?=Z y->1<aD y->(j<i/\ ¬L j\/i<=j/\L j))->(C (St lo).rg↔C (St (lo+d)).rg):=by
    intro d
    induction d with
    |zero=>intro lo _ _;exact Iff.rfl
    |succ d ih=>
     intro lo hl bB;refine(ih lo (by omega) λj B h2=>bB j B (by omega)).trans ?_;have qC:ops[lo+d]?=Z ops[lo+d]:=zae (by omega);by_cases U:aD ops[lo+d]<=1
     ·rw[show lo+(d+1)=lo+d+1 by omega,qhP _ _ qC U]
     exact hC _ _ qC (bB _ (by omega) (by omega) _ qC (by omega)) (by omega)
   rcases Nat.le_total k i with X |X
   ·have:=go (i-k) k (by omega) λj B h2 y l U=> .inl ⟨by omega,λh=>by have:=(Qh j y l U).2 h;omega⟩;rw[show k+(i-k)=i by omega] at this;exact this.symm
   have:=go (k-i) i (by omega) λj B h2 y l U=> .inr ⟨B,(Qh j y l U).1 (by omega)⟩;rw[show i+(k-i)=k by omega] at this;exact this
  have qly:(aD o=0\/ ∀g,bz ops o=Z g-> ∀x∈o.op.operands.toList,gN s.rg (St i).rg ((St i).eg g x))\/((∃t m k,o.op= .lookup t m k false)/\ ∀g,bz ops o=Z g->pv Q ((St i).wr s.rg) o g=pv Q (St i) o g):=by
   by_cases h0:aD o=0
   ·exact .inl (.inl h0)
   cases hg:bz ops o with
   |none=>exact .inl (.inr λg DB=>by cases DB)
   |some g=>
    have p2:=(jY (Q:=Q) (s:=St i) hk hg).2 h0;have agr: ∀R R':List (Nat×En),(∀n∈(cg Q ops (St i) o).ns,lk R' n=lk R n)-> ∀x∈o.op.operands.toList,gN R' R ((St i).eg g x):=λR R' hRR x hx n v hn=>by refine hRR n ?_;rw[p2];exact sb _ _ n v (za5 hx) hn
    by_cases jF: ∃t m k,o.op= .lookup t m k false
    ·refine .inr ⟨jF,λg' DB=> ?_⟩;cases DB;have:=chain (C:=λR=>pv Q ((St i).wr R) o g=pv Q (St i) o g) λj y l hc U=>by
      have e:pv Q ((St i).wr (St (j+1)).rg) o g=pv Q ((St i).wr (St j).rg) o g:=by
       rcases qf4 g hg h0 j y l U hc with A |A
       ·exact qf3 (s:=(St i).wr (St j).rg) (R:=(St (j+1)).rg) (.inr (agr _ _ A))
       exact A.2 g hg
      rw[e]
     exact this.1 rfl
    refine .inl (.inr λg' DB x hx n v hn=> ?_);cases DB;have jm:n∈(cg Q ops (St i) o).ns:=by rw[p2];exact sb _ _ n v (za5 hx) hn
    have:=chain (C:=λR=>lk R n=lk (St i).rg n) λj y l hc U=>by
     rcases qf4 g hg h0 j y l U hc with A |A
     ·rw[A n jm]
     exact absurd A.1 jF
    exact this.1 rfl
  have qlz: ∃c:Option P,bw Q cf ops (St i) o=(c.bind λq=>(St i).put o.dst q)/\bw Q cf ops s o=(c.bind λq=>s.put o.dst q):=by
   rcases qly with qhQ | ⟨jF,hpv⟩
   ·exact rD (Q:=Q) (cf:=cf) (ops:=ops) (s:=St i) (s2:=s) (o:=o) hk WY Qo qhQ
   exact Ki (Q:=Q) (cf:=cf) (ops:=ops) (s:=St i) (s2:=s) (o:=o) jF WY Qo hpv
  obtain⟨c,B,h2⟩:=qlz;rw[tx.run i o ho] at B;cases c with
  |none=>cases B
  |some q=>have B:=B.symm;obtain⟨s1,oU⟩:=Kj B Qo;refine⟨s1,by rw[h2];exact oU,WZ s.rg q s1 (jr B).2.2.1 oU ⟨k,C8,hkr,λj y l U=> ?_⟩⟩;rw[Qh j y l U];refine⟨.inl,λh=>h.resolve_right λe=> ?_⟩;subst e;rw[ho] at l;cases l;omega
 have oo: ∀j y,ops[j]?=Z y->1<aD y->(j<i↔L j):=λj y l U=>by
  constructor
  ·intro aZ;rcases tx.kinds aZ l ho with h |h |h |h
   ·exact mx j h
   ·omega
   ·omega
   exact EI h j y (by omega) l U
  intro V;rcases zc6 j i with h |h |h
  ·exact h
  ·exact absurd (h▸V) cD
  rcases tx.kinds h ho l with h' |h' |h' |h'
  ·rw[qhN j y l V] at h';cases h'
  ·omega
  ·omega
  exact absurd (M1 (h'▸V) i o (by omega) ho (by omega)) cD
 have hrg:s.rg=(St i).rg:=by
  rw[hkr];rcases Nat.le_total k i with X |X
  ·refine(tx.vv i X (by omega) (λj y B h2 l=> ?_)).symm;by_cases U:aD y<=1
   ·exact U
   have:=(Qh j y l (by omega)).2 ((oo j y l (by omega)).1 h2);omega
  refine tx.vv k X C8 (λj y B h2 l=> ?_);by_cases U:aD y<=1
  ·exact U
  have:=(oo j y l (by omega)).2 ((Qh j y l (by omega)).1 h2);omega
 obtain⟨c,B,h2⟩:=tR (Q:=Q) (cf:=cf) (ops:=ops) (s:=St i) (s2:=s) (o:=o) WY Qo hrg;rw[tx.run i o ho] at B;cases c with
 |none=>cases B
 |some x=>obtain⟨R,q⟩:=x;have B:=B.symm;obtain⟨s1,oU⟩:=Kj (s2:=⟨s.n,s.tm,R⟩) B Qo;refine⟨s1,by rw[h2];exact oU,WZ R q s1 (jr B).2.2.1 oU ⟨i+1,by omega,(jr B).2.1.symm,λj y l U=> ?_⟩⟩;rw[<-oo j y l U];omega
theorem Text.last{L s}(A:Inv ops St L s)(U: ∀i o,ops[i]?=Z o->L i):s.n=(St (J ops)).n/\s.rg=(St (J ops)).rg/\ ∀t,lk s.tm t=lk (St (J ops)).tm t:=by
 obtain⟨V,n3⟩:=tx.inv (J ops) (zag _);refine⟨by rw[A.n,V],?_,λt=> ?_⟩
 ·obtain⟨k,C8,B,Qh⟩:=A.rg;rw[B];refine(tx.vv (J ops) C8 (zag _) (λj y h1 h2 l=> ?_)).symm;by_cases X:aD y<=1
  ·exact X
  have:=(Qh j y l (by omega)).2 (U j y l);omega
 by_cases h: ∃(k:Nat) (x:Oper),ops[k]?=Z x/\x.dst=Z t
 ·obtain⟨k,x,hk,hd⟩:=h;exact A.tm1 k x t hk (U k x hk) hd
 rw[A.tm2 t (λj y l _ R=>h ⟨j,y,l,R⟩),n3 t (λj y _ l R=>h ⟨j,y,l,R⟩)]
end
end Pi
namespace Pi
open Go
theorem ax.alike{Q T F G}{w a s s2}(h:ax Q T F G w a s)(U:s.n=s2.n)(A:s.rg=s2.rg)(L: ∀t,lk s.tm t=lk s2.tm t):ax Q T F G w a s2:=
 ⟨A▸h.oR,U▸h.size,λt p R=>by rw[<-A];exact h.tm t p ((L t).trans R),λn e l=>by rw[<-A] at l⊢;exact h.rg n e l,
  λn m e e' b l B=>by rw[<-A] at l B;exact h.own n m e e' b l B,λn e b l=>by rw[<-A] at l;exact h.jb n e b l,h.gL,λn e i l=>by rw[<-A] at l;exact h.tag n e i l,h.z,h.dr,h.sz⟩
theorem ax.drawn{Q T F G}{w a s}(h:ax Q T F G w a s) k (hk:w.drawn<=k):ax Q T F G {w with drawn:=k} a s:=
 ⟨h.oR,h.size,λt p l=>bR.mono (w:=w) (w':={w with drawn:=k}) (λ_ h=>h) (λ_ _=>rfl) (Nm _ _) (h.tm t p l),λn e A=>(h.rg n e A).mono (w':={w with drawn:=k}) (λ_ h=>h) (λ_ _=>rfl) (Nm _ _) rfl (λ_ _=>rfl),
  h.own,h.jb,h.gL,h.tag,h.z,zaJ h.dr hk,h.sz⟩
theorem ET{ops h}(X:h.size=ops.size)(A: ∀i o,ops[i]?=Z o-> ∀e∈o.after,Region.binds .any e=O->e.on<i)
  (R:Region.ready .any ops h=[]): ∀i,i<ops.size->h.getD i C=O:=by
 intro i
 induction i using Nat.strongRecOn with
 |ind i ih=>
  intro U;cases V:h.getD i C with
  |true=>rfl
  |false=>have l:=zby U;have:=mem_ready.2 ⟨by grind,_,l,λe B L=>ih e.on (A i _ l e B L) (by have:=A i _ l e B L;omega)⟩;rw[R] at this;cases this
section
variable{Q:Program}{T:Tg}{cf:CF}{ops:List Oper}{M:List Nat}{St:Nat->S}{r:Option Nat}
theorem qhR(tx:Text Q cf ops M St (J ops))(gm:b7 Q T.w0 cf){Q'}: ∀fuel l a w s F G,
  l.size=J ops->fuel+l.toList.count O=J ops->Kk ops (λj=>l.getD j C=O)->Inv ops St (λj=>l.getD j C=O) s->ax Q T F G w a s->
  (∀A w',jc Q T F G w s (St (J ops)) A w'->Q' .normal A w')->wpAnyIn (wd r) 0 Q .any ops.toArray Q' fuel l a w:=by
 have lb: ∀(i:Nat) (o:Oper),ops.toArray[i]?=Z o-> ∀e∈o.after,Region.binds .any e=O->e.on<i:=λi o U e V X=>tx.back (by grind) V X;have fin: ∀(l:Array Bool) (a:Act) (w:World) (s:S) (F:Nat->Prop) (G:Nat->W),(∀i,i<J ops->l.getD i C=O)->Inv ops St (λj=>l.getD j C=O) s->ax Q T F G w a s->
   (∀A w',jc Q T F G w s (St (J ops)) A w'->Q' .normal A w')->Q' .normal a w:=by
  intro l a w s F G jE L h R;obtain⟨h1,h2,h3⟩:=tx.last L (λi o U=>jE i (zab.1 U).1);exact R a w ⟨F,G,h.alike h1 h2 h3,by rw[<-h2];exact Mo _ _ _⟩
 intro fuel
 induction fuel with
 |zero=>
  intro l a w s F G dy hc hL L h R;have jE: ∀i,i<J ops->l.getD i C=O:=λi aZ=>by
   have nJ:l.toList.count O=J l.toList:=by rw[zcV,dy];omega
   have:=List.count_eq_length.1 nJ l[i] (by simp);simp_all
  refine⟨?_,fin l a w s F G jE L h R⟩;cases hr:Region.ready .any ops.toArray l with
  |nil=>rfl
  |cons i r=>
   have hm:i∈Region.ready .any ops.toArray l:=by rw[hr];simp
   obtain⟨h0,o,U,_⟩:=mem_ready.1 hm;grind
 |succ fuel ih=>
  intro l a w s F G dy hc hL L h R;refine⟨λhr=>fin l a w s F G (λi aZ=>ET (by simp[dy]) lb hr i (by grind)) L h R,λi hm=> ?_⟩;obtain⟨h0,o,U,He⟩:=mem_ready.1 hm;have nk:ops[i]?=Z o:=by grind
  have aZ:=(zab.1 nk).1;have hl:i<l.size:=by omega
  have cD: ¬l.getD i C=O:=by grind
  obtain⟨s1,oU,I4⟩:=tx.go hL L nk cD He (λh=>by grind) (λe=>by omega);have oo: ∀j,((l.setIfInBounds i O).getD j C=O)↔(l.getD j C=O\/j=i):=λj=>by
   by_cases B:j=i
   ·simp_all
   rw[getD_set_ne C (λe=>B e.symm)];simp[B]
  have xp:(λj=>(l.setIfInBounds i O).getD j C=O)=(λj=>l.getD j C=O\/j=i):=funext λj=>propext (oo j);have DN:fuel+(l.setIfInBounds i O).toList.count O=J ops:=by
   have e:(l.setIfInBounds i O).toList=l.toList.set i O:=by simp
   rw[e,List.count_set (by grind)];have:(l.toList[i]'(by grind)==O)=C:=by simp[hl] at cD⊢;exact cD
   grind
  have iM:=eU gm h oU (r:=r) (K:=wpAnyIn (wd r) 0 Q .any ops.toArray Q' fuel (l.setIfInBounds i O)) (Q':=Q') (λA w' ⟨F',G',g1,g2⟩=>
   ih (l.setIfInBounds i O) A w' s1 F' G' (by simp[dy]) DN (by
    rw[xp];intro j x B qE e V X;rcases qE with qE |rfl
    ·exact .inl (hL j x B qE e V X)
    rw[nk] at B;cases B;exact .inl (He e V X)) (by rw[xp];exact I4) g1 (λa2 w2 hp=>R a2 w2 (hp.trans g2)))
  unfold wpOpIn;rw[U];simp only[];split
  ·grind
  rename_i hw;rw[zat hw] at iM;exact⟨λ_ _=>trivial,iM⟩
end
theorem oW{Q cf ops}: ∀l s s',ez Q cf ops l s=Z s'-> ∃St:Nat->S,St 0=s/\St (J l)=s'/\ ∀i o,l[i]?=Z o->bw Q cf ops (St i) o=Z (St (i+1))
 | [],s,s',h=>by simp[ez] at h;exact⟨λ_=>s,rfl,h,λi o A=>by simp at A⟩
 |o::l,s,s',h=>by
  simp only[ez] at h;split at h
  next s1 R=>obtain⟨St,g1,B,U⟩:=oW l s1 s' h;refine⟨λi=>match i with |0=>s |i+1=>St i,rfl,B,λi x L=> ?_⟩;grind
  cases h
theorem ot{Q cf ops}: ∀l s s' A,q9 Q cf ops l s=Z (s',A)-> ∃St:Nat->S,St 0=s/\St (J l)=s'/\(∀i o,l[i]?=Z o->bw Q cf ops (St i) o=Z (St (i+1)))/\ ∀i o,l[i]?=Z o->A[i]?=Z (oM Q ops (St i) o (St (i+1)))
 | [],s,s',A,h=>by simp[q9] at h;exact⟨λ_=>s,rfl,h.1,λi o L=>by simp at L,λi o L=>by simp at L⟩
 |o::l,s,s',A,h=>by
  simp only[q9] at h;split at h
  ·cases h
  rename_i s1 X;split at h
  next s2 B U=>
   simp at h;obtain⟨rfl,rfl⟩:=h;obtain⟨St,g1,V,g3,g4⟩:=ot l s1 s2 B U;refine⟨λi=>match i with |0=>s |i+1=>St i,rfl,V,λi x R=> ?_,λi x R=> ?_⟩
   ·grind
   grind
  cases h
theorem qcy{W n}(h:zL W n):VR W n=O:=by
 unfold VR;rcases h with h | ⟨h1,h2⟩
 ·rw[(lQ _ _).2 h];rfl
 simp_all
theorem oX: ∀ns y q,uV ns y q->(∀n∈ns,zL y.info.ws n->lk y.aft n=lk y.bef n)/\q
 | [],y,q,h=>⟨by simp,h⟩
 |n::r,y,q,h=>by
  simp only[uV] at h;cases l:VR y.info.ws n with
  |true=>rw[l] at h;obtain⟨B,A⟩:=oX r y q h.2;grind
  |false=>rw[l] at h;obtain⟨B,A⟩:=oX r y q h;grind [qcy]
theorem W2{x y}{l:Prop->Prop}(A: ∀q,l q->q){q:Prop}(h:leaves x y l q):q:=by grind [leaves,gE]
theorem Kn{x y}{l:Prop->Prop}(B: ∀q r:Prop,(q->r)->l q->l r){q r:Prop}(A:q->r)(h:leaves x y l q):leaves x y l r:=by grind [leaves,gE]
theorem Bn{x y}{l:Prop->Prop}{q:Prop}(h:leaves x y l q):(∃t n,y.ent=Z (t,n)/\x.look=Z t/\n∉x.info.ns)\/l q:=by
 unfold leaves at h;split at h
 next t n B U R=>
  cases A:(bo t B&& !gE n x.info.ns) with
  |true=>simp only[zac,zbD] at A;have L:=zad A.1;grind [lQ]
  |false=>rw[A] at h;exact .inr h
 grind
theorem Ko{Q U l dst t}{p k}(h:kj Q U dst t p k=Z l){s:S}{q i}(hq: ∀n v,q= .mp n v->n≠site dst):
  (match(ky Q t).bind λy=>e9 Q y.2 with |some z=>ff Q (s.wr l.rg) t q i C z |none=>Y)=(match(ky Q t).bind λy=>e9 Q y.2 with |some z=>ff Q (s.wr U.rg) t q i C z |none=>Y):=by
 unfold kj at h;split at h
 next V e n v A Gz=>
  split at h
  next z hz=>
   split at h
   ·rename_i Az get c ho;split at h
    ·rename_i hc;simp only[zac,zbD] at hc;obtain⟨⟨EG,hkB⟩,X⟩:=hc;have EG:=zad EG;have X:n≠site dst:=λe=>by rw[e,Nat.beq_refl] at X;cases X
     split at h
     ·rename_i s1 v1 hn;obtain⟨oU,_⟩:=S.ml hn;obtain⟨L,l8,dR,bZ⟩:=S.bY ho;have GJ:lk s1.rg n=Z L:=by grind [br]
      have hrg:l.rg=ins n ⟨L.aU,L.tag,.fY V (aW A (aK (get A) z) get) (bif (get A).isSome then c else c+1) (.mp (site dst) v1) A⟩ s1.rg:=by rw[bG h];unfold S.setObj;rw[GJ]
      simp only[Gz,zax,hz];unfold ff;split
      ·rename_i kt2 e2 m R B Qh;by_cases hmn:m=n
       ·skip
        by_cases hv:R=L.aU
        ·skip
         have o1:(s.wr l.rg).obj m L.aU=Z (.fY V (aW A (aK (get A) z) get) (bif (get A).isSome then c else c+1) (.mp (site dst) v1) A):=by grind [S.obj,S.wr,aX]
         have o2:(s.wr U.rg).obj m L.aU=Z (.map V get c C):=by grind [S.obj,S.wr]
         have hg:(aW A (aK (get A) z) get B).getD z=(get B).getD z:=by
          unfold aW;cases hd:NO A B with
          |true=>have:=(D.bU _ _).1 hd;subst this;rfl
          |false=>rfl
         grind
        have hb:bo L.aU R=C:=by grind [bo,mi]
        have o1:(s.wr l.rg).obj m R=Y:=by grind [S.obj,S.wr,aX]
        have o2:(s.wr U.rg).obj m R=Y:=by grind [S.obj,S.wr]
        rw[o1,o2]
       grind [lk,br,S.obj,S.wr]
      ·rfl
      rfl
     cases h
    cases h
   cases h
  cases h
 cases h
theorem Kp{Q cf ops s L B}{x y t n}(U:Nx x=Z t)(R:VQ y=Z (t,n))(cE:bw Q cf ops L y=Z B)(I1:n∉(cg Q ops s x).ns):xo Q ops s x L.rg B.rg:=by
 unfold Nx at U;unfold VQ at R;split at U
 next t' V xk A=>
  split at R
  next t2 ym yk l=>
   simp only[zai,zbd] at U R;subst U;obtain⟨rfl,rfl⟩:=R;refine⟨⟨_,_,_,A⟩,λg hg=> ?_⟩;have hk:aD x<=1:=by simp[aD,A]
   have X: ∀n v,s.eg g V= .mp n v->n≠site y.dst:=λn v hv e=>by refine I1 ?_;rw[(jY (Q:=Q) (s:=s) hk hg).2 (by simp[aD,A]),<-e];exact sb _ (s.eg g V) n v (za5 (by simp[A,Do])) (by rw[hv];rfl)
   have act: ∀g',hJ Q cf L y g'=Z B->pv Q (s.wr B.rg) x g=pv Q (s.wr L.rg) x g:=λg' h=>by
    have hc:iv y=Y:=by unfold iv;rw[l]
    have hna:dM Q y=Y:=by unfold dM;rw[l]
    have hpv:pv Q L y g'=Y:=by unfold pv;rw[l]
    have C9:tL y=Y:=by unfold tL;rw[l]
    unfold hJ exec at h;simp only[hc,C9] at h;unfold kz ef at h;simp only[hna,hpv,l] at h;have:=Ko (s:=s) (q:=s.eg g V) (i:=s.eg g xk) h X;unfold pv;rw[A];exact this
   grind [bw,bG]
  cases R
 cases U
theorem Qy{m M i j x y}{q:Prop}(h:jJ m M i x j y q):q:=by unfold jJ at h;grind [og,W2,oX]
theorem Og{m M i x}: ∀l A q,SJ (jJ m M i x) A l q->q
 | [],_,_,h=>h
 |_::r,A,q,h=>Og r (A+1) q (Qy h)
theorem Kq{m M i x}: ∀l A q,SJ (jJ m M i x) A l q-> ∀j y,l[j]?=Z y-> ∃B,jJ m M i x (A+j) y B
 | [],_,_,_,j,y,hy=>by simp at hy
 |z::r,A,q,h,j,y,hy=>by
  cases j with
  |zero=>simp at hy;subst hy;exact⟨_,h⟩
  |succ j=>obtain⟨B,L⟩:=Kq r (A+1) q (Qy h) j y (by grind);grind
theorem tT{m M}: ∀l A q,wZ (jJ m M) A l q-> ∀i j x y,i<j->l[i]?=Z x->l[j]?=Z y-> ∃B,jJ m M (A+i) x (A+j) y B
 | [],_,_,_,i,j,x,y,_,hx,_=>by simp at hx
 |z::r,A,q,h,i,j,x,y,rp,hx,hy=>by
  cases i with
  |zero=>
   obtain⟨j,rfl⟩: ∃L,j=L+1:=⟨j-1,by omega⟩
   obtain⟨B,R⟩:=Kq r (A+1) _ h j y (by grind);grind
  |succ i=>
   obtain⟨j,rfl⟩: ∃L,j=L+1:=⟨j-1,by omega⟩
   obtain⟨B,R⟩:=tT r (A+1) q (Og r (A+1) _ h) i j x y (by omega) (by grind) (by grind);grind
theorem Bo{m M}: ∀l A q,wZ (jJ m M) A l q->q
 | [],_,_,h=>h
 |_::r,A,q,h=>Bo r (A+1) q (Og r (A+1) _ h)
theorem tU: ∀ns y q r,(q->r)->uV ns y q->uV ns y r
 | [],_,_,_,h,hs=>h hs
 |n::ns,y,q,r,h,hs=>by
  simp only[uV] at hs⊢;cases l:VR y.info.ws n with
  |true=>rw[l] at hs;exact⟨hs.1,tU ns y q r h hs.2⟩
  |false=>rw[l] at hs;exact tU ns y q r h hs
theorem Oh{m M i j x y}{q r:Prop}(l:q->r)(h:jJ m M i x j y q):jJ m M i x j y r:=by unfold jJ at h⊢;grind [og,Kn,tU]
theorem EU{m M i x}: ∀l A q r,(q->r)->SJ (jJ m M i x) A l q->SJ (jJ m M i x) A l r
 | [],_,_,_,hqr,h=>hqr h
 |_::l,A,q,r,hqr,h=>Oh (EU l (A+1) q r hqr) h
theorem rE{m M}: ∀l A q r,(q->r)->wZ (jJ m M) A l q->wZ (jJ m M) A l r
 | [],_,_,_,hqr,h=>hqr h
 |_::l,A,q,r,hqr,h=>EU l (A+1) _ _ (rE l (A+1) q r hqr) h
theorem Bp{Q cf ops m}{M}{St:Nat->S}{i j x y}(U:bw Q cf ops (St i) x=Z (St (i+1)))(R:bw Q cf ops (St j) y=Z (St (j+1)))(X:aD x<=1\/aD y<=1)(hb:mm (M.getD j 0) i=C){q:Prop}
  (h:jJ m M i (oM Q ops (St i) x (St (i+1))) j (oM Q ops (St j) y (St (j+1))) q):
  og (cg Q ops (St i) x) (cg Q ops (St j) y)=O\/
  ((cg Q ops (St i) x).pure=O/\((∀n∈(cg Q ops (St i) x).ns,lk (St (j+1)).rg n=lk (St j).rg n)\/xo Q ops (St i) x (St j).rg (St (j+1)).rg))\/
  ((cg Q ops (St j) y).pure=O/\((∀n∈(cg Q ops (St j) y).ns,lk (St (i+1)).rg n=lk (St i).rg n)\/xo Q ops (St j) y (St i).rg (St (i+1)).rg)):=by
 unfold jJ at h;simp only[oM] at h;simp only[hb,zcZ] at h;cases V:og (cg Q ops (St i) x) (cg Q ops (St j) y) with
 |true=>simp
 |false=>
  right;rw[V] at h;cases B:(cg Q ops (St i) x).pure with
  |true=>
   cases A:(cg Q ops (St j) y).pure with
   |true=>grind [og]
   |false=>
    left;simp only[B,A,zcA,zbE] at h;refine⟨rfl,?_⟩;rcases Bn h with⟨f,hf,h1,h2,h3⟩|h
    ·grind [Kp]
    refine .inl λn hn=> ?_;by_cases L:zL (cg Q ops (St j) y).ws n
    ·grind [oX]
    exact lA (by
     by_cases hk:aD y<=1
     ·cases l:bz ops y with
      |none=>grind [bw]
      |some g=>rw[(jY hk l).1] at A;cases A
     omega) (R) L
  |false=>
   cases A:(cg Q ops (St j) y).pure with
   |true=>
    right;simp only[B,A,zcA,zbE] at h;refine⟨rfl,?_⟩;rcases Bn h with⟨f,hf,h1,h2,h3⟩|h
    ·grind [Kp]
    refine .inl λn hn=> ?_;by_cases L:zL (cg Q ops (St i) x).ws n
    ·grind [oX]
    exact lA (by
     by_cases hk:aD x<=1
     ·cases l:bz ops x with
      |none=>grind [bw]
      |some g=>rw[(jY hk l).1] at B;cases B
     omega) (U) L
   |false=>
    exfalso;rcases X with hk |hk
    ·cases l:bz ops x with
     |none=>grind [bw]
     |some g=>rw[(jY hk l).1] at B;cases B
    cases l:bz ops y with
    |none=>grind [bw]
    |some g=>rw[(jY hk l).1] at A;cases A
theorem yy{ops o}:(l5 ops o).dst=o.dst/\(l5 ops o).after=o.after/\(l5 ops o).guard=o.guard/\(l5 ops o).op=o.op:=by unfold l5;split<;>exact⟨rfl,rfl,rfl,rfl⟩
theorem qcz{ops o}(h:qcd ops o=O): ∃t l ps,o.op= .buildSlice t l ps:=by grind [qcd]
theorem Bq{ops}{i:Nat}:(dF ops).toArray[i]?=(ops.toArray[i]?).map (l5 ops):=by simp[dF]
theorem tV{ops h i}:i∈Region.ready .any (dF ops).toArray h↔i∈Region.ready .any ops.toArray h:=by rw[mem_ready,mem_ready];grind [Bq,yy,l5]
theorem Hf{ops} h:yielded (dF ops).toArray h=yielded ops.toArray h:=by funext j;unfold yielded;rw[Bq];grind [yy]
theorem qcA{Q F n ops}{Q' i K a}{w}(h:wpOpIn F n Q (dF ops).toArray Q' i K a w):wpOpIn F n Q ops.toArray Q' i K a w:=by
 unfold wpOpIn at h⊢;rw[Bq,Hf] at h;cases ho:ops.toArray[i]? with
 |none=>rw[ho] at h;exact h
 |some o=>
  rw[ho] at h;simp only[zaB] at h⊢;by_cases hv:qcd ops o=O
  ·obtain⟨t,l,ps,r6⟩:=qcz hv;have e:l5 ops o={o with type:=4000000}:=by unfold l5;rw[zau hv]
   rw[e] at h;obtain⟨dst,op,ty,A,R,L⟩:=o;subst r6;have e2: ∀B,Oper.semAt F.round a.eval ⟨dst,.buildSlice t l ps,B,A,R,L⟩=execOp a.eval ⟨dst,.buildSlice t l ps,0,A,R,L⟩:=λB=>by rw[Oper.semAt_eq _ _ _ (by simp)];rfl
   have V:Region.wanted ⟨dst,.buildSlice t l ps,4000000,A,R,L⟩ (yielded ops.toArray a.tmps)=Region.wanted ⟨dst,.buildSlice t l ps,ty,A,R,L⟩ (yielded ops.toArray a.tmps):=rfl;rw[V] at h;split at h
   ·rename_i X;rw[zau X];refine⟨h.1,?_⟩;have U:=h.2;simp only[e2] at U⊢;generalize (execOp a.eval ⟨dst,.buildSlice t l ps,0,A,R,L⟩).run Q w=r at U⊢;cases r with
    |ok x w'=>cases x<;>exact U
    |halt x w'=>cases x<;>exact U
   rename_i X;rw[zat X];exact h
  grind [l5]
theorem Kr{Q F n ops}{Q'}: ∀fuel l a w,wpAnyIn F n Q .any (dF ops).toArray Q' fuel l a w->wpAnyIn F n Q .any ops.toArray Q' fuel l a w
 |0,l,a,w,h=>by
  have B:Region.ready .any ops.toArray l=[]:=zda.2 λi A=>by have:=tV.2 A;rw[h.1] at this;cases this
  exact⟨B,h.2⟩
 |fuel+1,l,a,w,h=>by refine⟨λL=>h.1 (zda.2 λi A=>by have:=tV.1 A;rw[L] at this;cases this),λi A=> ?_⟩;exact wpOpIn_mono (λa w h=>Kr fuel _ a w h) (qcA (h.2 i (tV.2 A)))
theorem yz{Q T cf}(gm:b7 Q T.w0 cf){ops F G w}{a s s' r Q'}
  (h:ax Q T F G w a s) (A:kA Q cf ops s=Z s') (hK: ∀a' w',jc Q T F G w s s' a' w'->Q' .normal a' w'):wpAnyIn (wd r) 0 Q .any ops.toArray Q' ops.toArray.size (pt ops.toArray.size C) a {w with drawn:=w.drawn+1}:=by
 have L: ∀St,Text Q cf ops (masks ops []) St (J ops)->St 0=s->St (J ops)=s'->wpAnyIn (wd r) 0 Q .any ops.toArray Q' ops.toArray.size (pt ops.toArray.size C) a {w with drawn:=w.drawn+1}:=by
  intro St tx h0 h1;have fj:(λj=>(pt (J ops) C).getD j C=O)=λ_=>False:=by funext j;simp only[zaA,zdm];split<;>simp
  have hsr:=h.drawn _ (zb5 _);have:=qhR (T:=T) (r:=r) tx gm (Q':=Q') (J ops) (pt (J ops) C) a {w with drawn:=w.drawn+1} s F G (by simp) (by
    rw[Array.toList_replicate,List.count_replicate];simp) (by
    rw[fj];intro i o _ hf;grind) (by
    rw[fj];exact⟨by rw[h0],λi o t _ hf=>hf.elim,λt _=>by rw[h0],⟨0,by omega,by rw[h0],λi o _ _=>by simp⟩⟩) hsr
    (λa' w' hp=>hK a' w' (by obtain⟨F',G',k1,B⟩:=hp;rw[h1] at k1 B;exact⟨F',G',k1,⟨B.iK,B.lz,B.jT,B.keep,B.size,B.os,B.tape,B.output⟩⟩))
  grind
 unfold kA at A;have GO: ∀k,dW ops=k+1->km (SI (masks ops [])) 0 ops=O/\iJ (P8 ops (masks ops [])) 0 ops=O/\(k≠0->iJ (λi x j y=>mm ((masks ops []).getD j 0) i ||VP x y) 0 ops=O):=by grind [dW]
 have zero:=zaE;split at A
 ·cases A
 next hc=>
  obtain⟨c1,c2,_⟩:=GO 0 hc;split at A
  next s1 l hd=>
   split at A
   ·rename_i qhS;simp at A;subst A;obtain⟨St,g1,g2,X,g4⟩:=ot ops _ _ _ hd;refine L St ⟨λi o ho=> ?_,λi j x y V U R=>Es ?_,X,λi j x y V U R _ hb=> .inr ?_⟩ g1 g2
    ·have:=gq ops 0 c1 i o ho;rwa [zero] at this
    ·have:=hQ ops 0 c2 i j x y V U R;rwa [zero,zero] at this
    obtain⟨q,hq⟩:=tT l 0 True qhS i j _ _ V (g4 i x U) (g4 j y R);rw[zero,zero] at hq;exact Bp (X i x U) (X j y R) (by assumption) hb hq
   cases A
  cases A
 rename_i h0 h1;obtain⟨k,hk⟩: ∃k,dW ops=k+1+1:=by simp_all [dW]
 obtain⟨c1,c2,c3⟩:=GO (k+1) hk;have c3:=c3 (by omega);obtain⟨St,g1,g2,X⟩:=oW ops _ _ A;refine L St ⟨λi o ho=> ?_,λi j x y V U R=>Es ?_,X,λi j x y V U R _ hb=> .inl ?_⟩ g1 g2
 ·have:=gq ops 0 c1 i o ho;rwa [zero] at this
 ·have:=hQ ops 0 c2 i j x y V U R;rwa [zero,zero] at this
 have:=hQ ops 0 c3 i j x y V U R;simp only[zero,hb,zcZ,VP,zbn,zac] at this;grind [mi,Nat.le_of_ble_eq_true]
end Pi
namespace Pi
open Go
section
variable{Q:Program}{s:S}
theorem Tm{t p q}:KW (NF Q s t p q) (λs1=>iu Q s t p q=Z s1):=by
 unfold NF;split
 next n v i A off=>
  split
  ·exact H1
  rename_i k hk;split
  next s1 x U=>
   split
   ·rename_i ty es L;split
    ·rename_i l h;split
     next V=>refine IR (p:=λ_=>i<J es) (KW.kT λX=>by grind) λ_ R=> ?_;refine IR (ve Q ty _) λy B=>IS ?_;grind [iu,AT]
     exact H1
    exact H1
   exact H1
  exact H1
 grind [PP]
theorem Oi{dst t l p q}:KW (Gs Q s dst t l p q) (λs1=>kh Q s dst t l p q=Z s1):=by
 unfold Gs;split
 ·exact H1
 rename_i e X;split
 next i k V hk=>
  split
  next ys z R L=>
   split
   ·rename_i h;split
    ·rename_i n v len;split
     ·rename_i en B;split
      ·rename_i ty es U;split
       next hc=>refine IR (p:=λ_=>(gr len (J es)&&aB (len+J ys) i.bytes)=O) (KW.kT λh=>h) λ_ A=> ?_;grind [PP,aB,kh]
       exact H1
      exact H1
     exact H1
    ·refine IR (p:=λ_=>aB (J ys) i.bytes=O) (KW.kT λh=>h) λ_ A=> ?_;grind [PP,kh,H1]
    exact H1
   exact H1
  exact H1
 exact H1
theorem W3{dst t p q}:KW (V2 Q s dst t p q) (λs1=>uT Q s dst t p q=Z s1):=by
 unfold V2;split
 next e B l A c X=>
  split
  next i k z V U R=>
   split
   ·rename_i L;refine IR (p:=λ_=>decide (0<=l/\l<=c/\c<=9223372036854775807/\(i.bytes:Int)*c<=281474976710656)=O) (KW.kT λh=>h) λ_ h=> ?_;split
    ·simp_all [PP,uT]
    exact H1
   exact H1
  exact H1
 exact H1
theorem Tn{dst t p}:KW (NG Q s dst t p) (λs1=>pF Q s dst t p=Z s1):=by
 unfold NG;split
 next e n v k off len V=>
  split
  next A z ty es U R L=>
   split
   next B=>refine IR (p:=λ_=>off+len<=J es) (KW.kT λl=>by grind) λ_ l=>PP λs1 h=> ?_;simp_all [pF,za6]
   exact H1
  exact H1
 exact H1
theorem W4{dst t h p q}:KW (V4 Q s dst t h p q) (λs1=>uU Q s dst t h p q=Z s1):=by
 unfold V4;split
 next e n v len V=>
  split
  next k U=>
   split
   ·rename_i ys ty es R L;split
    next A=>refine IR (p:=λ_=>decide (len<=J es/\J ys<=len)=O) (KW.kT λl=>l) λ_ l=>PP λs2 B=> ?_;simp_all [uU]
    exact H1
   exact H1
  exact H1
 exact H1
theorem EV: ∀ys,jj ys=O->kS ys=Z (bytesOf ys)
 | [],_=>rfl
 |x::r,h=>by
  unfold jj at h;split at h
  ·grind
  next n A l=>obtain⟨rfl,rfl⟩:=l;simp only[kS,EV _ h];rfl
  cases h
theorem Tp{o g}:KW (NH Q s o g) (λs1=>kz Q s o g=Z s1):=by
 unfold NH;split
 ·simp[PP]
 rename_i hna;split
 next he=>
  have l:pv Q s o g=Y-> ∀s1,ef Q s o g=Z s1->kz Q s o g=Z s1:=λA s1 h=>by grind [kz]
  unfold qln at he;unfold efK;split
  ·grind [pv,IR,Tm,PP,ef]
  next t1 X x B=>
   split
   ·rename_i e U R;split
    ·rename_i ys hu hs;split
     ·rename_i V;have A:pv Q s o g=Y:=by
       have:(s.eg g x).cY=Y:=by
        cases hx:s.eg g x with
        |sl n v len=>rfl
        |nu n v k off len=>rfl
        |d y=>rw[hx] at V;cases y<;>first |rfl | (simp[P.isRow] at V)
        |_=>rw[hx] at V;simp[P.isRow] at V
       grind [pv]
      refine IR (p:=λ_=>jj ys=O) (KW.kT λhb=>hb) λ_ hb=>PP λs2 h3=>l A _ ?_;grind [ef,EV]
     exact H1
    exact H1
   grind
  next c B=>
   split
   ·rename_i L;have A:pv Q s o g=Y:=by grind [pv]
    split
    next x y t X U R=>refine Oi.mono λs1 h=>l A _ ?_;unfold ef;simp only[B,L,U,R];exact h
    exact H1
   ·rename_i L;have A:pv Q s o g=Y:=by unfold pv;simp only[B,L]
    split
    next x y t X U R=>refine W4.mono λs1 h=>l A _ ?_;unfold ef;simp only[B,L,U,R];exact h
    exact H1
   ·rename_i L;have A:pv Q s o g=Y:=by unfold pv;simp only[B,L]
    split
    next x t U R=>refine Tn.mono λs1 h=>l A _ ?_;unfold ef;simp only[B,L,U,R];exact h
    exact H1
   ·rename_i L;have A:pv Q s o g=Y:=by unfold pv;simp only[B,L]
    exact PP λs1 h=>l A _ h
   grind
  next t x y B=>
   have A:pv Q s o g=Y:=by unfold pv;rw[B]
   refine W3.mono λs1 h=>l A _ ?_;grind [ef]
  grind [pv,PP]
 grind [IR,qhB,PP,kz]
theorem W5{o g}:KW (V5 Q s o g) (λs1=>exec Q s o g=Z s1):=by
 unfold V5;cases l:tL o with
 |some r=>grind [PP,exec]
 |none=>refine Tp.mono λs1 h=> ?_;grind [exec]
end
def Ev(p:Nat->Nat->Prop):= ∃N,∀a b,N<=a->N<=b->p a b
theorem Ev.const{p:Prop}(h:p):Ev λ_ _=>p:=⟨0,λ_ _ _ _=>h⟩
theorem Ev.mono{p q}(h:Ev p)(l: ∀a b,p a b->q a b):Ev q:=by obtain⟨N,h⟩:=h;exact⟨N,λa b B A=>l a b (h a b B A)⟩
theorem Ev.and{p q}(h:Ev p)(k:Ev q):Ev λa b=>p a b/\q a b:=by obtain⟨N,h⟩:=h;obtain⟨M,k⟩:=k;exact⟨max N M,λa b A l=>⟨h a b (by omega) (by omega),k a b (by omega) (by omega)⟩⟩
theorem Ev.W6{p q r}(h:Ev p)(k:Ev q)(l: ∀a b,p a b->q a b->r a b):Ev r:=(h.and k).mono λa b x=>l a b x.1 x.2
theorem Ev.some{p}(h:Ev p): ∃a b,p a b:=by obtain⟨N,h⟩:=h;exact⟨N,N,h N N (zag _) (zag _)⟩
def tW(kf:KF)(cf:Nat->Nat->CF):= ∀f ps R,KW (kf f ps R) (λx=>Ev λa b=>cf a b f ps R=Z x)
section
variable{Q:Program}{kf:KF}{cf:Nat->Nat->CF}(eZ:tW kf cf)
include eZ
theorem W7{s dst f l}:KW (sX Q kf s dst f l) (λs1=>Ev λa b=>oe Q (cf a b) s dst f l=Z s1):=by
 unfold sX;split
 next L dA=>
  split
  ·exact H1
  rename_i s1 ps V;simp only[];split
  next R=>
   split
   ·exact H1
   rename_i R0 B;refine IR (eZ _ _ _) λx A=> ?_;split
   ·rename_i U;split
    ·exact H1
    rename_i R2 h2;split
    ·exact H1
    rename_i R3 X;refine PP λs2 h=>A.mono λa b A=> ?_;grind [oe]
   exact H1
  exact H1
 exact H1
theorem Hg{s o g}:KW (V6 Q kf s o g) (λs1=>Ev λa b=>hJ Q (cf a b) s o g=Z s1):=by
 unfold V6;split
 ·grind [W7,hJ]
 rename_i l;exact W5.mono λs1 h=>Ev.const h |>.mono λa b h=>by grind [hJ]
omit eZ in
theorem Br(t:Nat)(v:P): ∀(m:List (Nat×P)),lk m t=some v->rep t v m=m
 | [],h=>rfl
 | (k,u)::r,h=>by
  simp only[lk] at h;simp only[rep];split
  next hk=>rw[zau hk] at h;simp only[zai] at h;rw[h]
  rename_i hk;rw[zat hk] at h;rw[Br t v r h]
omit eZ in
def iA(h:List (Nat×Bool))(s:S):Prop:= ∀t r,lk h t=some r->lk s.tm t=some (.d (.bool r))
omit eZ in
theorem xq(d:Nat): ∀(B:List (Nat×Bool)) (t:Nat) (r:Bool),lk (B.filter λx=> !Nat.beq x.1 d) t=some r->t≠d/\lk B t=some r
 | [],t,r,h=>by simp[lk] at h
 | (k,u)::l,t,r,h=>by
  simp only[List.filter_cons] at h;split at h
  next hk=>
   simp only[lk] at h⊢;split
   next A=>rw[zau A] at h;have e:=zad A;subst e;refine⟨λe=> ?_,h⟩;subst e;simp at hk
   rename_i A;rw[zat A] at h;exact xq d l t r h
  rename_i hk;obtain⟨L,U⟩:=xq d l t r h;refine⟨L,?_⟩;simp only[lk];have hk:Nat.beq k d=true:=by simpa using hk
  have e:=zad hk;subst e;have:Nat.beq k t=false:=by
   cases R:Nat.beq k t with
   |false=>rfl
   |true=>exact absurd (zad R).symm L
  rw[this];exact U
omit eZ in
theorem iA.step{cf:CF}{ops:List Oper}{B:List (Nat×Bool)}{s s1:S}{o:Oper}(h:iA B s)(X:bw Q cf ops s o=some s1):iA (Gt o.dst B) s1:=by
 obtain⟨c,L,_⟩:=tR (Q:=Q) (cf:=cf) (ops:=ops) (s:=s) (s2:=s) (o:=o) (λ_ _=>rfl) rfl rfl;rw[X] at L;cases c with
 |none=>cases L
 |some x=>
  obtain⟨_,_,_,g4⟩:=jr (L.symm:(⟨s.n,s.tm,x.1⟩:S).put o.dst x.2=some s1);intro t r A;have l:o.dst≠some t/\lk B t=some r:=by
   unfold Gt at A;split at A
   next hd=>rw[hd];exact⟨by simp,A⟩
   rename_i d hd;obtain⟨U,R⟩:=xq _ _ _ _ A;rw[hd];exact⟨λe=>U (by simpa using e.symm),R⟩
  have V:=h t r l.2;rw[g4 t l.1];exact V
omit eZ in
theorem Hh{ops:List Oper}{o:Oper}(s:S):KW (V7 ops o s) (λs1=>s=s1):=by
 unfold V7;split
 ·split
  next d hd=>
   split
   next k z h=>intro E l;have:=l z rfl;rw[Br d _ _ h] at this;exact⟨s,rfl,this⟩
   exact KW.ret rfl
  exact KW.ret rfl
 exact KW.ret rfl
theorem rF{ops l s o}(A:iA l s):KW (Eu Q kf ops l s o) (λx=>(Ev λa b=>bw Q (cf a b) ops s o=Z x.1)/\iA x.2 x.1):=by
 have go: ∀{l:List (Nat×Bool)},iA l s-> ∀s1,(Ev λa b=>bw Q (cf a b) ops s o=Z s1)->((Ev λa b=>bw Q (cf a b) ops s o=Z s1)/\iA (Gt o.dst l) s1):=λA s1 h=>⟨h,by obtain⟨a,b,h⟩:=h.some;exact A.step h⟩
 unfold Eu;split
 ·exact H1
 next hg=>exact IR (Hg eZ) λs1 h=>IR (Hh s1) λs2 h2=>by grind [IS,bw]
 rename_i t X hg;split
 next r R=>
  have U:=A t r R;split
  next L=>exact IR (Hg eZ) λs1 h=>IR (Hh s1) λs2 h2=>by grind [IS,bw]
  rename_i L;exact IR (PP (p:=λs1=>s.put o.dst .skip=Z s1) λa h=>h) λs1 h=>IS (go A s1 ⟨0,λa b _ _=>by grind [bw]⟩)
 split
 next b U=>
  refine IR (KW.dec (p:=λr=>b=r) rfl) λr R=> ?_;subst R;have e:(⟨s.n,rep t (.d (.bool b)) s.tm,s.rg⟩:S)=s:=by rw[Br t _ _ U]
  rw[e];have B:iA ((t,b)::l) s:=by
   intro t' r' V;simp only[lk] at V;split at V
   ·simp_all
   exact A t' r' V
  split
  next L=>exact IR (Hg eZ) λs1 h=>IR (Hh s1) λs2 h2=>by grind [IS,bw]
  rename_i L;exact IR (PP (p:=λs1=>s.put o.dst .skip=Z s1) λa h=>h) λs1 h=>IS (go B s1 ⟨0,λa b _ _=>by grind [bw]⟩)
 next t' b' q U=>exact IR (PP (p:=λs1=>s.put o.dst .skip=Z s1) λa h=>h) λs1 h=>IS (go A s1 ⟨0,λa b _ _=>by grind [bw]⟩)
 exact H1
omit eZ in
theorem iA.nil(s:S):iA [] s:=λt r h=>by simp[lk] at h
theorem pP{ops}: ∀l h s,iA h s->KW (ly Q kf ops l h s) (λs1=>Ev λa b=>ez Q (cf a b) ops l s=Z s1)
 | [],_,s,_=>IS (Ev.const rfl)
 |o::r,h,s,eb=>by unfold ly;refine IR (rF eZ eb) λx A=> ?_;rw[S.force_eq];refine(pP r x.2 x.1 A.2).mono λs2 B=>A.1.W6 B λa b A B=> ?_;grind [ez]
theorem tX{ops}: ∀l h s,iA h s->KW (pH Q kf ops l h s) (λx=>Ev λa b=>q9 Q (cf a b) ops l s=Z x)
 | [],_,s,_=>IS (Ev.const rfl)
 |o::r,h,s,eb=>by unfold pH;refine IR (rF eZ eb) λx A=> ?_;rw[S.force_eq];refine IR (tX r x.2 x.1 A.2) λy B=>IS (A.1.W6 B λa b A B=> ?_);grind [q9]
theorem Bs{ops s}(B:dW ops=1):KW (λE=>IH (pH Q kf ops ops [] s) (λx=>λE=>q8 0 (masks ops []) x.2 (E x.1)) E) (λs1=>Ev λa b=>kA Q (cf a b) ops s=Z s1):=by
 refine IR (tX eZ ops [] _ (iA.nil _)) λx l E A=>⟨x.1,l.mono λa b l=> ?_,Bo _ _ _ A⟩
 have h:q8 0 (masks ops []) x.2 True:=rE _ _ _ _ (λ_=>trivial) A;grind [kA]
theorem Bt{ops s}(l:dW ops=2):KW (ly Q kf ops ops [] s) (λs1=>Ev λa b=>kA Q (cf a b) ops s=Z s1):=
 (pP eZ ops [] _ (iA.nil _)).mono λs1 h=>h.mono λa b h=>by grind [kA]
theorem Bu{ops A}(GO:l6 ops=A){s}:KW (Ew Q kf ops A s) (λs1=>Ev λa b=>ko Q (cf a b) ops s=Z s1):=by
 have L: ∀k,l6 ops=k->1<=k->k<=3->dW ops=k:=by grind [l6]
 have marked: ∀k,k<=1->l6 ops=k+4->dW ops=0/\dW (dF ops)=k+1:=by grind [l6,dW]
 subst GO;unfold Ew;split
 ·exact H1
 ·grind [Bs,ko]
 next B=>have h1:=marked 0 (by omega) B;grind [Bs,ko]
 ·grind [Bt,ko]
 next B=>have h1:=marked 1 (by omega) B;grind [Bt,ko]
 next B=>
  have l:dW ops=0/\dW (dF ops)=0/\ ∀m t d,Gn ops=Z (m,t,d)->Gp ops m=O:=by grind [l6,dW,dF]
  split
  next m t d X=>
   split
   ·rename_i GK U;refine IR (tX eZ ops [] _ (iA.nil _)) λx R E V=>⟨x.1,R.mono λa b R=> ?_,Bo _ _ _ V⟩
    have h:q8 m (masks ops []) x.2 True:=rE _ _ _ _ (λ_=>trivial) V;unfold ko;simp only[l.1,l.2.1];unfold uW;simp only[X,R];rw[zau ⟨l.2.2 m t d X,GK,U⟩,zau h]
   exact H1
  exact H1
 exact H1
def eP(body:Nat->Nat->S->Option (PX×S)) keep s0 x:=
 ∃N,∀a b k,N<=a->N<=b->N<=k-> ∀s,cQ keep s=Z s0->jK (body a b) keep k s=Z x
def Hi(body:S->Option (PX×S))(keep:Option (List Nat×List Nat))(s:S)(x:PX×S):Prop:=
 match x.1 with
 | .normal=> ∃s1,body s=Z (.normal,s1)/\cQ keep s1=Z x.2
 |e=> ∃s1,body s=Z (e,s1)/\dD keep s1=Z x.2
omit eZ in
theorem Tq{oO:S->K (PX×S)}{body:Nat->Nat->S->Option (PX×S)}{s:S}(B:KW (oO s) (λx=>Ev λa b=>body a b s=some x)){keep:Option (List Nat×List Nat)}:KW (w7 oO keep s) (λx=>Ev λa b=>Hi (body a b) keep s x):=by
 unfold w7;refine KW.bind B λx l=> ?_;obtain⟨e,s1⟩:=x;cases e with
 |normal=>exact KW.bind (KW.dN λa h=>h) λs2 A=>KW.ret (l.mono λa b l=>⟨s1,l,A⟩)
 |exit id=>exact KW.bind (KW.dN λa h=>h) λs2 A=>KW.ret (l.mono λa b l=>⟨s1,l,A⟩)
 |ret=>exact KW.bind (KW.dN λa h=>h) λs2 A=>KW.ret (l.mono λa b l=>⟨s1,l,A⟩)
omit eZ in
theorem eP.out{body:Nat->Nat->S->Option (PX×S)}{keep:Option (List Nat×List Nat)}{s0:S}{x:PX×S}(B:Ev λa b=>Hi (body a b) keep s0 x)(U:x.1≠ .normal):eP body keep s0 x:=by
 obtain⟨N,B⟩:=B;refine⟨N+1,λa b k X V hk s L=> ?_⟩;obtain⟨e,s2⟩:=x;have h:=B a b (by omega) (by omega);obtain⟨k,rfl⟩: ∃R,k=R+1:=⟨k-1,by omega⟩
 cases e with
 |normal=>exact absurd rfl U
 |exit id=>obtain⟨s1,A,l⟩:=h;simp only[] at A l;simp only[jK,L,A,l]
 |ret=>obtain⟨s1,A,l⟩:=h;simp only[] at A l;simp only[jK,L,A,l]
omit eZ in
theorem eP.on{body:Nat->Nat->S->Option (PX×S)}{keep:Option (List Nat×List Nat)}{s0 s2:S}{x:PX×S}(h:Ev λa b=>Hi (body a b) keep s0 (.normal,s2))(l:eP body keep s2 x):eP body keep s0 x:=by
 obtain⟨N,h⟩:=h;obtain⟨M,l⟩:=l;refine⟨max N M+1,λa b k V U hk s R=> ?_⟩;obtain⟨s1,B,A⟩:=h a b (by omega) (by omega);obtain⟨k,rfl⟩: ∃L,k=L+1:=⟨k-1,by omega⟩
 simp only[] at B A;simp only[jK,R,B];exact l a b k (by omega) (by omega) (by omega) s1 A
omit eZ in
theorem eP.ev{body:Nat->Nat->S->Option (PX×S)}{keep:Option (List Nat×List Nat)}{s s0:S}{x:PX×S}(A:cQ keep s=some s0)(h:eP body keep s0 x):Ev λa b=>jK (body a b) keep a s=some x:=by obtain⟨N,h⟩:=h;exact⟨N,λa b l B=>h a b a l B l s A⟩
omit eZ in
theorem EW{oO:S->K (PX×S)}{body:Nat->Nat->S->Option (PX×S)}(L: ∀s,KW (oO s) (λx=>Ev λa b=>body a b s=some x)){keep:Option (List Nat×List Nat)}: ∀(k:Nat) (s:S),KW (Gu oO keep k s) (λx=> ∃s0,cQ keep s=some s0/\eP body keep s0 x)
 |0,s=>KW.fail
 |k+1,s=>by
  unfold Gu;refine KW.bind (KW.dN λa h=>h) λs0 B=>KW.bind (L s0) λx l=> ?_;obtain⟨e,s1⟩:=x;cases e with
  |normal=>exact(EW L k s1).mono λy ⟨s2,g1,R⟩=>⟨s0,B,eP.on (l.mono λa b l=>⟨s1,l,g1⟩) R⟩
  |exit id=>exact KW.bind (KW.dN λa h=>h) λs2 A=>KW.ret ⟨s0,B,eP.out (l.mono λa b l=>⟨s1,l,A⟩) (by simp)⟩
  |ret=>exact KW.bind (KW.dN λa h=>h) λs2 A=>KW.ret ⟨s0,B,eP.out (l.mono λa b l=>⟨s1,l,A⟩) (by simp)⟩
def aH:Code->List Code
 | .seq a b=>aH a++aH b
 | .cond _ a b=>aH a++aH b
 | .block _ c | .scope c=>aH c
 | .loop c=>c::aH c
 |_=>[]
variable{kp:Nat->Option (List Nat×List Nat)}{hk:List (Nat×(S->K (PX×S)))}{dc:Nat->Nat}{lf:Nat}
def Oj Q (cf:Nat->Nat->CF) kp c (h:S->K (PX×S)):=
 ∀s,KW (h s) (λx=>Ev λa b=>jK (cv Q (cf a b) kp a c) (kp (No c)) a s=Z x)
theorem gF: ∀c,cC dc c=O->(∀d∈aH c,∀h,lk hk (No d)=Z h->Oj Q cf kp d h)-> ∀s,KW (gi Q kf kp hk dc lf c s) (λx=>Ev λa b=>cv Q (cf a b) kp a c s=Z x)
 | .skip,_,_,s=>IS (Ev.const rfl)
 | .label _,_,_,s=>IS (Ev.const rfl)
 | .region id ops draw,hl,_,s=>by
  unfold gi;refine IR (p:=λs1=>Ev λa b=>(if draw then ko Q (cf a b) ops.toList s else ez Q (cf a b) ops.toList ops.toList s)=Z s1) ?_ λs1 B=>IS (B.mono λa b B=> ?_)
  ·grind [Bu,mi,cC,pP,iA.nil]
  simp only[cv,B]
 | .seq x y,hl,hh,s=>by
  unfold gi;refine IR (gF x (zac _ _▸hl:_/\_).1 (λd hd=>hh d (by simp[aH,hd])) s) λz l=> ?_;obtain⟨e,s1⟩:=z;cases e with
  |normal=>exact(gF y (zac _ _▸hl:_/\_).2 (λd hd=>hh d (by simp[aH,hd])) s1).mono λu hu=>l.W6 hu λa b l hu=>by grind [cv]
  |exit id=>exact IS (l.mono λa b l=>by simp only[cv,l])
  |ret=>exact IS (l.mono λa b l=>by simp only[cv,l])
 | .cond c x y,hl,hh,s=>by
  unfold gi;split
  next b V=>
   refine IR (KW.dec (p:=λr=>b=r) rfl) λr L=> ?_;subst L;cases b with
   |true=>exact(gF x (zac _ _▸hl:_/\_).1 (λd hd=>hh d (by simp[aH,hd])) s).mono λz l=>l.mono λa b l=>by grind [cv]
   |false=>exact(gF y (zac _ _▸hl:_/\_).2 (λd hd=>hh d (by simp[aH,hd])) s).mono λz l=>l.mono λa b l=>by grind [cv]
  exact H1
 | .block id c,hl,hh,s=>by
  unfold gi;refine IR (gF c hl (λd hd=>hh d (by simpa [aH] using hd)) s) λx A=> ?_;obtain⟨e,s1⟩:=x;cases e with
  |normal=>exact IS (A.mono λa b A=>by simp only[cv,A])
  |exit oN=>
   simp only[];split
   next h=>exact IS (A.mono λa b A=>by grind [cv])
   grind [IS,cv]
  |ret=>grind [IS,cv]
 | .loop c,hl,hh,s=>by
  unfold gi;split
  next h U=>exact(hh c (by simp[aH]) h U s).mono λx A=>A.mono λa b A=>by grind [cv]
  exact(EW (body:=λa b=>cv Q (cf a b) kp a c) (λs=>gF c hl (λd hd=>hh d (by simp[aH,hd])) s) lf s).mono λx ⟨s0,g1,R⟩=>(R.ev g1).mono λa b A=>by grind [cv]
 | .scope c,hl,hh,s=>by unfold gi;exact(gF c hl (λd hd=>hh d (by simpa [aH] using hd)) s).mono λx A=>A.mono λa b A=>by grind [cv]
 | .exit id,_,_,s=>IS (Ev.const rfl)
 | .ret,_,_,s=>IS (Ev.const rfl)
 | .rangeFunc _ _ _ _,_,_,s=>H1
 | .goto _,_,_,s=>H1
 | .refuse _,_,_,s=>H1
end
section
variable{Q:Program}{kp:qB}{dc:FuncId->Nat->Nat}{lf:Nat}
theorem Ks{kf hk}(X: ∀f fn c,Q.funcs[f]?=Z fn->fn.body=Z c->cC (dc f) c=O)(eZ:tW kf (eL Q kp)) f
  (U: ∀fn c,Q.funcs[f]?=Z fn->fn.body=Z c-> ∀d∈aH c,∀h,lk hk (No d)=Z h->Oj Q (eL Q kp) (kp f) d h)
  ps R:KW (oO Q kf kp hk dc lf f ps R) (λx=>Ev λa b=>eL Q kp a b f ps R=Z x):=by
 unfold oO;split
 ·exact H1
 rename_i fn B;split
 ·exact H1
 rename_i L;split
 ·exact H1
 rename_i c A;split
 ·exact H1
 rename_i iO;refine IR (gF eZ c (X f fn c B A) (U fn c B A) _) λx l=> ?_;split
 ·exact H1
 rename_i cU;split
 next qs hq=>
  unfold uZ;refine PP λy hy=> ?_;obtain⟨N,l⟩:=l;refine⟨N+1,λa b ha hb=> ?_⟩;obtain⟨b,rfl⟩: ∃V,b=V+1:=⟨b-1,by omega⟩
  grind [eL]
 exact H1
def Qz Q kp (H:List (FuncId×bc)):=
 ∀f h,lk H f=Z h-> ∀ps R,KW (h ps R) (λx=>Ev λa b=>eL Q kp a b f ps R=Z x)
theorem Qz.nil:Qz Q kp []:=λf h l=>by simp[lk] at l
theorem zM{H}(B: ∀f fn c,Q.funcs[f]?=Z fn->fn.body=Z c->cC (dc f) c=O)(A:Qz Q kp H): ∀k,tW (runK Q kp dc H lf k) (eL Q kp)
 |0=>λf ps R=>by
  unfold runK;split
  next h l=>exact A f h l ps R
  exact H1
 |k+1=>λf ps R=>by
  unfold runK;split
  next h l=>exact A f h l ps R
  exact Ks B (zM B A k) f (λfn c _ _ d _ h l=>by simp[lk] at l) ps R
theorem EX: ∀l A,l7 dc A l=O-> ∀i fn c,l[i]?=Z fn->fn.body=Z c->cC (dc (A+i)) c=O
 | [],_,_,i,fn,c,h,_=>by simp at h
 |f::r,A,h,i,fn,c,hf,hc=>by
  simp only[l7,zac] at h;cases i with
  |zero=>grind
  |succ i=>have:=EX r (A+1) h.2 i fn c (by grind) hc;rwa [show A+1+i=A+(i+1) by omega] at this
theorem iP(h:l7 dc 0 Q.funcs.toList=O) f fn c (A:Q.funcs[f]?=Z fn)(l:fn.body=Z c):cC (dc f) c=O:=by have:=EX Q.funcs.toList 0 h f fn c (by grind) l;rwa [zaE] at this
def hY(id:Nat):List Code->Option Code
 | []=>Y
 |c::r=>if bo (No c) id then Z c else hY id r
def bA(Q:Program)(f:FuncId)(id:Nat):Code:=
 match Q.funcs[f]? with
 |Z fn=>(match fn.body with |Z c=>(hY id (aH c)).getD .skip |Y=> .skip)
 |Y=> .skip
def uniq(Q:Program)(f:FuncId):Bool:=
 match Q.funcs[f]? with
 |Z fn=>(match fn.body with |Z c=>eI ((aH c).map No)|Y=>O)
 |Y=>O
theorem iQ{d}: ∀l,(l.map No).Nodup->d∈l->hY (No d) l=Z d
 | [],_,h=>by simp at h
 |c::r,hn,h=>by
  simp only[zaS,zaU] at hn;simp only[hY];rcases zao.1 h with rfl |h
  ·simp
  split
  ·grind [mi]
  exact iQ r hn.2 h
theorem dJ: ∀(b:Code) {c d:Code},c∈aH b->d∈aH c->d∈aH b
 | .seq x y,c,d,hc,hd=>by simp only[aH,zaK] at hc⊢;exact hc.imp (dJ x · hd) (dJ y · hd)
 | .cond _ x y,c,d,hc,hd=>by simp only[aH,zaK] at hc⊢;exact hc.imp (dJ x · hd) (dJ y · hd)
 | .block _ x,c,d,hc,hd=>dJ x (by grind [aH]) hd
 | .scope x,c,d,hc,hd=>dJ x (by grind [aH]) hd
 | .loop x,c,d,hc,hd=>by
  simp only[aH,zao] at hc⊢;rcases hc with rfl |hc
  ·grind
  exact .inr (dJ x hc hd)
 | .skip,c,d,hc,_ | .label _,c,d,hc,_ | .region ..,c,d,hc,_ | .exit _,c,d,hc,_ | .ret,c,d,hc,_ | .rangeFunc ..,c,d,hc,_ | .goto _,c,d,hc,_ | .refuse _,c,d,hc,_=>by simp[aH] at hc
theorem lB{id c}: ∀l,hY id l=Z c->c∈l
 | [],h=>by simp[hY] at h
 |d::r,h=>by
  simp only[hY] at h;split at h
  ·grind
  exact zaH _ (lB r h)
theorem sc{f id d}(hu:uniq Q f=O)(hd:d∈aH (bA Q f id)):bA Q f (No d)=d:=by
 unfold bA at hd⊢;unfold uniq at hu;split at hd
 next fn A=>
  rw[A] at hu;split at hd
  next c l=>
   simp only[l] at hu⊢;cases h:hY id (aH c) with
   |none=>rw[h] at hd;simp[aH] at hd
   |some e=>rw[h] at hd;have:=dJ c (lB _ h) hd;rw[iQ _ (dj _ hu) this,zck]
  simp[aH] at hd
 simp[aH] at hd
def W8 Q kp f (h:bc):= ∀ps R,KW (h ps R) (λx=>Ev λa b=>eL Q kp a b f ps R=Z x)
theorem Qz.cons{H f h}(B:W8 Q kp f h)(L:Qz Q kp H):Qz Q kp ((f,h)::H):=by
 intro V U l ps R;simp only[lk] at l;split at l
 next A=>have A:=zad A;subst A;simp only[zai] at l;subst l;exact B ps R
 exact L V U l ps R
theorem W8.M6{f:FuncId}{fn h}(fj:Q.funcs[f]?=Z fn)(U:gE f kp.xs=O)(l: ∀ps R E,h ps R E-> ∃x,kp.X f ps R=Z x/\E x):W8 Q kp f h:=by
 intro ps R E A;obtain⟨x,V,B⟩:=l ps R E A;refine⟨x,⟨1,λa b _ l=> ?_⟩,B⟩;obtain⟨b,rfl⟩: ∃L,b=L+1:=⟨b-1,by omega⟩
 grind [eL]
theorem W8.mk{H f h hk}{k}(l:l7 dc 0 Q.funcs.toList=O)(V:Qz Q kp H)(hu:uniq Q f=O)
  (B: ∀id g,lk hk id=Z g-> ∀s,KW (g s) (λx=>Ev λa b=>jK (cv Q (eL Q kp a b) (kp f) a (bA Q f id)) (kp f id) a s=Z x))
  (U: ∀ps R E,h ps R E->oO Q (runK Q kp dc H lf k) kp hk dc lf f ps R E):W8 Q kp f h:=by
 intro ps R E A;refine Ks (iP l) (zM (iP l) V k) f (λfn c fj X d hd g L s=> ?_) ps R E (U ps R E A);have e:bA Q f (No d)=d:=by grind [uniq,bA,iQ,dj]
 have:=B _ g L s;rwa [e] at this
def roundPost(n:Nat)(I:Nat->S->Prop)(O:PX×S->Prop)(x:PX×S):Prop:=match x.1 with | .normal=> ∃m,m<n/\I m x.2 |_=>O x
theorem qcB{H c hk kp1}{l k keep}(Kt:l7 dc 0 Q.funcs.toList=true)(X:Qz Q kp H)(V:cC l c=true)
  (U: ∀d∈aH c,∀h,lk hk (No d)=Z h->Oj Q (eL Q kp) kp1 d h)
  {I O}
  (R: ∀n s,I n s->w7 (gi Q (runK Q kp dc H lf k) kp1 hk l lf c) keep s (roundPost n I O)):
  ∀n s,I n s-> ∃x,O x/\eP (λa b=>cv Q (eL Q kp a b) kp1 a c) keep s x:=by
 intro n
 induction n using Nat.strongRecOn with
 |_ n ih=>
  intro s L;obtain⟨x,B,A⟩:=Tq (body:=λa b=>cv Q (eL Q kp a b) kp1 a c) (gF (zM (iP Kt) X k) c V U s) _ (R n s L);obtain⟨e,s2⟩:=x;cases e with
  |normal=>obtain⟨m,hm,hi⟩:=A;grind [eP.on]
  |exit id=>exact⟨_,A,eP.out B (by simp)⟩
  |ret=>exact⟨_,A,eP.out B (by simp)⟩
end
end Pi
namespace Pi
open Go
theorem xr{a:Act}{dst:Option Nat}{v t}(h:dst≠Z t):(a.put dst v).tmps.getD t undef=a.tmps.getD t undef:=by
 cases dst with
 |none=>rfl
 |some d=>have hd:d≠t:=λe=>h (by rw[e]);simp only[Act.put,zaA];rw[zaO hd]
theorem qhT{a:Act}{t v}(h:t<a.tmps.size):(a.put (Z t) v).tmps.getD t undef=v:=by simp[Act.put,Array.getD,h]
theorem W9{a:Act}{t v}(h:a.tmps.getD t undef=v):a.put (Z t) v=a:=by simp only[Act.put];congr 1;refine zc0 λi=> ?_;simp only[zaA] at h;grind
theorem qcC{F n Q}{o:Oper}{a w K Q'}{t:Nat}(B:o.dst≠Z t)
  (h:o.wpIn F n Q a w (λL w'=>L.tmps.getD t undef=a.tmps.getD t undef->K L w') Q'):o.wpIn F n Q a w K Q':=by
 refine⟨h.1,?_⟩;have l:=h.2;generalize (o.semAt F.round a.eval).run Q w=r at*
 cases r with
 |ok x w'=>
  cases x<;>simp only[Oper.uponIn] at l⊢ <;>
   first
    |exact l (xr B)
    |exact⟨l.1,CallsIn.mono l.2 (λe R A=>by cases e<;>first |exact A (xr B)|exact A)⟩
    |exact⟨l.1,RowsIn.mono l.2 (λ_ _ A=>A (xr B))⟩
    |grind [xr]
 |halt x w'=>cases x<;>simp only[Oper.uponIn] at l⊢ <;>exact l
section
variable{Q:Program}{T:Tg}{F:Nat->Prop}{G:Nat->W}{w:World}{a:Act}{s:S}
theorem ax.mat(h:ax Q T F G w a s){n v o s'}(hs:s.new n o=Z (s',v)){g1 b cs t}(X: ∀A,a7 g1 o A->A=b)(hc:w.heap[b]?=Z (.cells cs t))(hF: ¬F b)(hO: ¬Own G s.rg b)
  (ho:ny Q F w (Pi.gj G n g1) (ins n ⟨v,Y,o⟩ s.rg) n o):
  ax Q T F (Pi.gj G n g1) w a s'/\(∀A,Own (Pi.gj G n g1) s'.rg A->Own G s.rg A\/A=b)/\Names G (Pi.gj G n g1) s.rg s'.rg/\lk s'.rg n=Z ⟨v,Y,o⟩:=by
 obtain⟨rfl,AW⟩:=S.ml hs;have fh:mj G s.rg n ⟨v,Y,o⟩ g1:=λe l=> .inl (AW e l);have V:=fA fh;have U: ∀m e,lk (ins n (⟨v,Y,o⟩:En) s.rg) m=Z e->(m=n/\e=⟨v,Y,o⟩)\/(n≠m/\lk s.rg m=Z e):=λm e l=>by grind [aX,br]
 have dO: ∀A,Own (Pi.gj G n g1) (ins n (⟨v,Y,o⟩:En) s.rg) A->Own G s.rg A\/A=b:=by
  rintro A ⟨m,e,l,B⟩;rcases U m e l with⟨rfl,rfl⟩| ⟨hm,l⟩
  ·rw[aM] at B;grind
  rw[bW _ (za0 hm)] at B;exact .inl ⟨m,e,l,B⟩
 refine⟨⟨⟨h.oR.1,λd hd=> ?_⟩,h.size,λt p hp=>(h.tm t p hp).mono (λ_ h=>h) (λ_ _=>rfl) V,?_,?_,?_,h.gL,?_,h.z,h.dr,h.sz⟩,dO,V,aX _ _ _⟩
 ·obtain⟨D,h1,h0,h2,h3,h4⟩:=h.oR.2 d hd;grind
 ·intro m e l;rcases U m e l with⟨rfl,rfl⟩| ⟨hm,l⟩
  ·exact ho
  exact(h.rg m e l).mono (λ_ h=>h) (λ_ _=>rfl) V (bW _ (za0 hm)) (λ_ _=>rfl)
 ·intro m1 m2 e e' A l cP L R;rcases U m1 e l with⟨rfl,rfl⟩| ⟨M1,zh⟩<;>rcases U m2 e' cP with⟨rfl,rfl⟩| ⟨EI,I2⟩
  ·rfl
  ·rw[aM] at L;rw[bW _ (za0 EI)] at R;rw[X A L] at R;exact absurd ⟨m2,e',I2,R⟩ hO
  ·rw[aM] at R;rw[bW _ (za0 M1)] at L;rw[X A R] at L;exact absurd ⟨m1,e,zh,L⟩ hO
  rw[bW _ (za0 M1)] at L;rw[bW _ (za0 EI)] at R;exact h.own _ _ _ _ A zh I2 L R
 ·intro m e A l B DE;rcases U m e l with⟨rfl,rfl⟩| ⟨hm,l⟩
  ·rw[aM] at B;rw[X A B] at DE;exact hF DE
  rw[bW _ (za0 hm)] at B;exact h.jb m e A l B DE
 intro m e i l hi hl;rcases U m e l with⟨rfl,rfl⟩| ⟨hm,l⟩
 ·cases hi
 rw[bW _ (za0 hm)];exact h.tag m e i l hi hl
theorem ax.early(h:ax Q T F G w a s){cs e d v}(hd:lk s.tm d=Y):ax Q T F G (w.alloc (.cells cs e)) (a.put (Z d) v) s/\Ext (Own G s.rg) (Own G s.rg) F F w (w.alloc (.cells cs e)):=by
 have hk: ∀b,b<w.heap.size->(w.alloc (.cells cs e)).heap[b]?=w.heap[b]?:=λb l=>cb w _ b l;have U:(w.alloc (.cells cs e)).heap.size=w.heap.size+1:=by simp
 have A:Ext (Own G s.rg) (Own G s.rg) F F w (w.alloc (.cells cs e)):=⟨λ_ h=>h,λ_ h=> .inl h,λ_=> .inl,λb l _=>hk b l,by omega,rfl,rfl,rfl⟩
 refine⟨⟨h.oR.go A,by simpa [Act.put] using h.size,λt p L=> ?_,λn e B=>(h.rg n e B).mono (λ_ h=>h) (λb l=>hk b (h.gL b l)) (Nm _ _) rfl (λb l=>hk b ((h.rg n e B).lt l)),h.own,h.jb,λb l=>by have:=h.gL b l;omega,h.tag,λb l=>⟨(h.z b l).1,(hk b (h.gL b (h.z b l).1)).trans (h.z b l).2⟩,h.dr,zaJ h.sz A.size⟩,A⟩;have R:(Z d:Option Nat)≠Z t:=λe=>by grind
 rw[xr R];exact bR.mono (λ_ h=>h) (λb l=>hk b (h.gL b l)) (Nm _ _) (h.tm t p L)
theorem Tr s n p:uS s n p Y=Z (s,p):=by
 cases p with
 |d x=>cases x<;>rfl
 |_=>rfl
theorem yA: ∀ps l s n,l.any ir=C->cT s n ps l=Z (s,ps)
 | [],_,_,_,_=>rfl
 |p::ps,l,s,n,h=>by
  have B:l.headD Y=Y:=by
   cases l with
   |nil=>rfl
   |cons t r=>simp_all
  have A:l.tail.any ir=C:=by
   cases l with
   |nil=>rfl
   |cons t r=>grind
  simp only[cT,B,Tr,yA ps l.tail s (n+1) A]
end
theorem pQ{o t d}(h:lv o=Z (t,d)):o.op= .alloc t/\o.guard=Y/\o.dst=Z d:=by grind [lv]
theorem Bv{Q cf ops s s'}{o t d}(R:lv o=Z (t,d))(GK:sV Q t=C)(h:bw Q cf ops s o=Z s'):
  ∃i A z B v,Q.info? t=Z i/\i.zero=Z A/\D.wW A=Z z/\s.new (site (Z d)) (.box t (Cs z).cells)=Z (B,v)/\B.put (Z d) (.ref (site (Z d)) v 0)=Z s':=by
 obtain⟨l,h2,h3⟩:=pQ R;have X:bz ops o=Z Y:=by unfold bz;rw[h2]
 unfold bw at h;simp only[X] at h;unfold hJ at h;have hc:iv o=Y:=by unfold iv;rw[l]
 have V:tL o=Y:=by unfold tL;rw[l]
 have U:dM Q o=Y:=by unfold dM;rw[l]
 have L:pv Q s o Y=Y:=by unfold pv;rw[l]
 simp only[hc] at h;unfold exec at h;simp only[V] at h;unfold kz at h;simp only[U,L] at h;unfold ef at h;grind [e9,pC,yA,sV]
theorem Ts{Q w}{a:Act}{o t d}(A:lv o=Z (t,d)){i h}(B:Q.info? t=Z i)(l:i.zero=Z h):
  (execOp a.eval o).run Q w= .ok (.value (.pointer (Z ⟨w.heap.size,0,Y⟩))) (w.alloc (.cells h.cells t)):=by
 obtain⟨L,_,_⟩:=pQ A;have R:(zeroValue t).run Q w= .ok h w:=by simp[zeroValue,typeInfo,B,l]
 simp[execOp,L,Instr.alloc,R,newVar,newRow]
section
variable{Q:Program}{T:Tg}{cf:CF}{ops:List Oper}{M:List Nat}{St:Nat->S}{r:Option Nat}{m:Nat}
def Eff(ops:List Oper) m (L:Nat->Prop):= ∀x p,x<m->ops[x]?=Z p->1<aD p->L x
def Tt(Q:Program)(F:Nat->Prop) G (w0 w:World)(a:Act)(s:S) t d:=
 ∃b i h,Q.info? t=Z i/\i.zero=Z h/\w.heap[b]?=Z (.cells h.cells t)/\ ¬F b/\ ¬Own G s.rg b/\w0.heap.size<=b/\b<w.heap.size/\a.tmps.getD d undef= .pointer (Z ⟨b,0,Y⟩)
theorem Tt.go{F F1 G G1 w0 w w1 a L}{s s1 t d}(h:Tt Q F G w0 w a s t d)(l:Ext (Own G s.rg) (Own G1 s1.rg) F F1 w w1)(X:L.tmps.getD d undef=a.tmps.getD d undef):Tt Q F1 G1 w0 w1 L s1 t d:=by
 obtain⟨b,i,R,h1,h2,h3,h4,A,h6,B,h8⟩:=h;refine⟨b,i,R,h1,h2,(l.keep b B A).trans h3,λV=> ?_,λU=> ?_,h6,zaR B l.size,X.trans h8⟩
 ·rcases l.lz b V with h |h |h
  ·exact h4 h
  ·exact A h
  omega
 rcases l.jT b U with h |h
 ·exact A h
 omega
theorem qhU{F0 F G0 G w0 w a}{R0 s s2 o t}{d}(ho:lv o=Z (t,d))(GK:sV Q t=C)(hs:bw Q cf ops s o=Z s2)(h:ax Q T F G w a s)
  (hp:Tt Q F G w0 w a s t d) (l:Ext (Own G0 R0) (Own G s.rg) F0 F w0 w): ∃G2,ax Q T F G2 w a s2/\Ext (Own G0 R0) (Own G2 s2.rg) F0 F w0 w:=by
 obtain⟨b,i,A,h1,h2,h3,h4,h5,h6,h7,h8⟩:=hp;obtain⟨i',zv',z,s3,v,V,U,k3,k4,k5⟩:=Bv ho GK hs;rw[h1] at V;cases V;rw[h2] at U;cases U;have MY:bf F w A z:=bf.wW _ _ k3;obtain⟨c1,c2,c3⟩:=eS MY;obtain⟨m1,m2,m3,m4⟩:=h.mat k4 (g1:= .pointer (Z ⟨b,0,Y⟩)) (b:=b) (λL hb=>by grind [a7,aI]) h3 h4 h5
  ⟨b,A.cells,aM _ _ _,h3,by rw[rf,zaa,<-c1];simp,l9 MY,λj p X=>by
   rw[rf,zaw,zap] at X;obtain⟨x,B,rfl⟩:=X;have hj3:j<A.cells.size:=by grind
   have hu:A.cells.toList[j]?=Z (A.cells.getD j undef):=by simp_all
   exact .d (c3 j _ x hu B)⟩
 obtain⟨R,p2⟩:=cL m1 k5 (v:= .pointer (Z ⟨b,0,Y⟩)) (bR.of (.ref (site (Z d)) v 0 _ ⟨_,m4,zag _,λ_ _=>⟨b,aM _ _ _,rfl⟩⟩ rfl));rw[W9 h8] at R;refine⟨_,R,?_⟩;rw[p2];exact⟨l.iK,l.lz,λL db=>by
  rcases m2 L db with h |rfl
  ·exact l.jT L h
  grind,l.keep,l.size,l.os,l.tape,l.output⟩
theorem EY l: ∀es e,e∈es->Region.binds .any e=O->mm (l0 l es) e.on=O
 | [],_,h,_=>by cases h
 |e'::r,e,h,hb=>by
  have A: ∀a b:Nat,Nat.lor a b=a |||b:=λ_ _=>rfl
  unfold l0;rcases zao.1 h with rfl |h
  ·rw[zau hb];simp
  have B:=EY l r e h hb;grind
theorem qcD(tx:Text Q cf ops M St m)(gm:b7 Q T.w0 cf){om tt V}(Ve:ops[m]?=Z om)(Xa:lv om=Z (tt,V))(GK:sV Q tt=C)(h0:lk (St 0).tm V=Y)
  (A1: ∀i o,ops[i]?=Z o->mm (M.getD i 0) m=O->Eff ops m λx=>mm (M.getD i 0) x=O)
  {F0 G0 w0 s0} {Q'} (hK: ∀a' w',jc Q T F0 G0 w0 s0 (St (J ops)) a' w'->Q' .normal a' w'):
  ∀fuel l a w s F G,
  l.size=J ops->fuel+l.toList.count O=J ops->Kk ops (λj=>l.getD j C=O)->ax Q T F G w a s->Ext (Own G0 s0.rg) (Own G s.rg) F0 F w0 w->
  ((Inv ops St (λj=>l.getD j C=O) s/\(l.getD m C=O->Eff ops m (λj=>l.getD j C=O)))\/
   (l.getD m C=O/\ ¬Eff ops m (λj=>l.getD j C=O)/\Inv ops St (λj=>l.getD j C=O/\j≠m) s/\Tt Q F G w0 w a s tt V))->
  wpAnyIn (wd r) 0 Q .any ops.toArray Q' fuel l a w:=by
 obtain⟨ho1,Xb,ho3⟩:=pQ Xa;have Vc:=(zab.1 Ve).1;have lb: ∀(i:Nat) (o:Oper),ops.toArray[i]?=Z o-> ∀e∈o.after,Region.binds .any e=O->e.on<i:=λi o ho e R B=>tx.back (by simpa using ho) R B;have fin: ∀(l:Array Bool) (a:Act) (w:World) (s:S) (F:Nat->Prop) (G:Nat->W),(∀i,i<J ops->l.getD i C=O)->ax Q T F G w a s->Ext (Own G0 s0.rg) (Own G s.rg) F0 F w0 w->
    ((Inv ops St (λj=>l.getD j C=O) s/\(l.getD m C=O->Eff ops m (λj=>l.getD j C=O)))\/(l.getD m C=O/\ ¬Eff ops m (λj=>l.getD j C=O)/\Inv ops St (λj=>l.getD j C=O/\j≠m) s/\Tt Q F G w0 w a s tt V))->Q' .normal a w:=by
  intro l a w s F G jE h hx hm;rcases hm with⟨hi,_⟩| ⟨_,cU,_⟩
  · obtain⟨U,h2,h3⟩:=tx.last hi (λi o ho=>jE i (zab.1 ho).1);exact hK a w ⟨F,G,h.alike U h2 h3,by rw[<-h2];exact hx⟩
  exact absurd (λx p _ hp _=>jE x (zab.1 hp).1) cU
 intro fuel
 induction fuel with
 |zero=>
  intro l a w s F G dy hc hL h hx hm;have jE: ∀i,i<J ops->l.getD i C=O:=λi aZ=>by
    have nJ:l.toList.count O=J l.toList:=by rw[zcV,dy];omega
    have:=List.count_eq_length.1 nJ l[i] (by simp);simp[dy,aZ,<-this]
  refine⟨?_,fin l a w s F G jE h hx hm⟩;cases hr:Region.ready .any ops.toArray l with
  |nil=>rfl
  |cons i r=>
    have hmm:i∈Region.ready .any ops.toArray l:=by rw[hr];simp
    obtain⟨h0,o,ho,_⟩:=mem_ready.1 hmm;have aZ:i<J ops:=by have:=(zar.1 ho).1;simpa using this
    have U:=jE i aZ;have hl:i<l.size:=by omega
    simp[hl] at h0 U;rw[h0] at U;cases U
 |succ fuel ih=>
  intro l a w s F G dy hc hL h hx hm;refine⟨λhr=>fin l a w s F G (λi aZ=>ET (by simp[dy]) lb hr i (by simpa using aZ)) h hx hm,λi jm=> ?_⟩;obtain⟨Qk,o,ho,He⟩:=mem_ready.1 jm;have nk:ops[i]?=Z o:=by simpa using ho
  have aZ:=(zab.1 nk).1;have hl:i<l.size:=by omega
  have cD: ¬l.getD i C=O:=by simp[hl] at Qk⊢;exact Qk
  have oo: ∀j,((l.setIfInBounds i O).getD j C=O)↔(l.getD j C=O\/j=i):=λj=>by
    by_cases L:j=i
    ·subst L;simp[hl]
    rw[getD_set_ne C (λe=>L e.symm)];simp[L]
  have DN:fuel+(l.setIfInBounds i O).toList.count O=J ops:=by
    have e:(l.setIfInBounds i O).toList=l.toList.set i O:=by simp
    rw[e,List.count_set (by simpa using hl)];have:(l.toList[i]'(by simpa using hl)==O)=C:=by simp[hl] at cD⊢;exact cD
    simp only[this];simp only[zaF,zbk,beq_self_eq_true,zbj];omega
  have xp:(λj=>(l.setIfInBounds i O).getD j C=O)=(λj=>l.getD j C=O\/j=i):=funext λj=>propext (oo j);have QA:Kk ops (λj=>l.getD j C=O\/j=i):=by
    intro j x L X e R B;rcases X with X |rfl
    ·exact .inl (hL j x L X e R B)
    rw[nk] at L;cases L;exact .inl (He e R B)
  have next: ∀(s1:S),bw Q cf ops s o=Z s1->(∀a1 w1 F1 G1,ax Q T F1 G1 w1 a1 s1->Ext (Own G0 s0.rg) (Own G1 s1.rg) F0 F1 w0 w1->Ext (Own G s.rg) (Own G1 s1.rg) F F1 w w1->(o.dst≠Z V->a1.tmps.getD V undef=a.tmps.getD V undef)->wpAnyIn (wd r) 0 Q .any ops.toArray Q' fuel (l.setIfInBounds i O) a1 w1)->
     wpOpIn (wd r) 0 Q ops.toArray Q' i (wpAnyIn (wd r) 0 Q .any ops.toArray Q' fuel (l.setIfInBounds i O)) a w:=by
    intro s1 oU oG;unfold wpOpIn;rw[ho];simp only[];by_cases hd:o.dst=Z V
    ·have iM:=eU gm h oU (r:=r) (K:=wpAnyIn (wd r) 0 Q .any ops.toArray Q' fuel (l.setIfInBounds i O)) (Q':=Q') (λa' w' ⟨F',G',g1,g2⟩=>oG a' w' F' G' g1 (hx.trans g2) g2 λcU=>absurd hd cU);split
     next hw=>rw[zau hw] at iM;exact iM
     rename_i hw;rw[zat hw] at iM;exact⟨λ_ _=>trivial,iM⟩
    have iM:=eU gm h oU (r:=r) (K:=λa' w'=>a'.tmps.getD V undef=a.tmps.getD V undef->wpAnyIn (wd r) 0 Q .any ops.toArray Q' fuel (l.setIfInBounds i O) a' w') (Q':=Q') (λa' w' ⟨F',G',g1,g2⟩ hk=>oG a' w' F' G' g1 (hx.trans g2) g2 λ_=>hk);split
    next hw=>rw[zau hw] at iM;exact qcC hd iM
    rename_i hw;rw[zat hw] at iM;exact⟨λ_ _=>trivial,iM (xr hd)⟩
  rcases hm with⟨hi,hme⟩| ⟨hLm,cU,hi,hpe⟩
  · by_cases Xc:i=m/\ ¬Eff ops m (λj=>l.getD j C=O)
    ·
     obtain⟨rfl,cU⟩:=Xc;rw[Ve] at nk;cases nk;obtain⟨ii,zv,z,s3,v,k1,k2,_⟩:=Bv Xa GK (tx.run i om Ve);have Xd:lk s.tm V=Y:=by rw[hi.tm2 V (λj y L X hd=>tx.inj L Ve (λe=>cD (e▸X)) hd ho3)];exact h0
     have cE:=Ts (a:=a) (w:=w) Xa k1 k2;obtain⟨e1,e2⟩:=h.early (cs:=zv.cells) (e:=tt) (v:= .pointer (Z ⟨w.heap.size,0,Y⟩)) Xd;unfold wpOpIn;rw[ho];simp only[];rw[zau (by simp[Region.wanted,Xb])];refine vp (λc hc=>by rw[ho1] at hc;cases hc) ?_;rw[cE,Oper.uponIn_value,ho3];refine ih _ _ _ s F G (by simp[dy]) DN (by rw[xp];exact QA) e1 (hx.trans e2) (.inr ⟨(oo i).2 (.inr rfl),λhE=>cU λx p hxm hp hk=>((oo x).1 (hE x p hxm hp hk)).resolve_right (by omega),?_,?_⟩)
     ·have e:(λj=>(l.setIfInBounds i O).getD j C=O/\j≠i)=λj=>l.getD j C=O:=funext λj=>propext ⟨λA=>((oo j).1 A.1).resolve_right A.2,λA=>⟨(oo j).2 (.inl A),λe=>cD (e▸A)⟩⟩;rw[e];exact hi
     have htd:V<a.tmps.size:=by
      obtain⟨R',q',qcE⟩:=tx.step Ve;rw[ho3] at qcE;have xt:V<(St i).n:=by
       simp only[S.put] at qcE;split at qcE
       next B=>simp[Nat.blt] at B;omega
       cases qcE
      have U9:=(tx.inv i (by omega)).1;have hn3:=hi.n;have:=h.size;omega
     exact⟨w.heap.size,ii,zv,k1,k2,heap_alloc_new w _,λhf=>by have:=h.gL _ hf;omega,λhO=>by obtain⟨n,e,R,B⟩:=hO;have:=(h.rg n e R).lt B;omega,hx.size,by simp,qhT htd⟩
    have EI:i=m-> ∀x p,x<m->ops[x]?=Z p->1<aD p->l.getD x C=O:=λe x p U h2 h3=>zbz λhc=>Xc ⟨e,λhE=>hc (hE x p U h2 h3)⟩;obtain⟨s1,oU,I4⟩:=tx.go hL hi nk cD He hme EI;refine next s1 oU λa1 w1 F1 G1 g1 g2 _ _=>ih _ _ _ s1 F1 G1 (by simp[dy]) DN (by rw[xp];exact QA) g1 g2 (.inl ⟨by rw[xp];exact I4,λhmm x p U h2 h3=>(oo x).2 ?_⟩);rcases(oo m).1 hmm with hmm |e
    ·exact .inl (hme hmm x p U h2 h3)
    exact .inl (EI e.symm x p U h2 h3)
  have jN:i≠m:=λe=>cD (e▸hLm);have DO: ∀(j:Nat) (x:Oper),ops[j]?=Z x->(∀e∈x.after,Region.binds .any e=O->l.getD e.on C=O)-> ∀e∈x.after,Region.binds .any e=O->e.on≠m:=by
   intro j x L Km e R B hem;have qhO:mm (M.getD j 0) m=O:=by rw[tx.mask L];have:=EY M x.after.toList e (by simpa using R) B;rwa [hem] at this
   exact cU λy p U h2 h3=>tx.sub hL j x L Km y (A1 j x L qhO y p U h2 h3)
  have hL2:Kk ops (λj=>l.getD j C=O/\j≠m):=λj x L X e R B=>⟨hL j x L X.1 e R B,DO j x L (hL j x L X.1) e R B⟩
  obtain⟨s1,oU,I4⟩:=tx.go hL2 hi nk (λA=>cD A.1) (λe R B=>⟨He e R B,DO i o nk He e R B⟩) (λA=>absurd rfl A.2) (λe=>absurd e jN);have qrg:o.dst≠Z V:=λhd=>tx.inj nk Ve jN hd ho3;have qlB:(λj=>(l.getD j C=O/\j≠m)\/j=i)=λj=>(l.setIfInBounds i O).getD j C=O/\j≠m:=funext λj=>propext ⟨λA=>A.elim (λA=>⟨(oo j).2 (.inl A.1),A.2⟩) (λe=>⟨(oo j).2 (.inr e),by rw[e];exact jN⟩),λA=>((oo j).1 A.1).elim (λU=> .inl ⟨U,A.2⟩) .inr⟩;refine next s1 oU λa1 w1 F1 G1 g1 g2 g3 g4=> ?_;have ou:=hpe.go g3 (g4 qrg);rw[qlB] at I4;have qhV:=(oo m).2 (.inl hLm);by_cases hE:Eff ops m (λj=>(l.setIfInBounds i O).getD j C=O)
  ·have qlC:Kk ops (λj=>(l.setIfInBounds i O).getD j C=O):=by rw[xp];exact QA
   have qrh:Kk ops (λj=>(l.setIfInBounds i O).getD j C=O/\j≠m):=by
    rw[<-qlB];intro j x L X e R B;rcases X with X |rfl
    ·exact .inl (hL2 j x L X e R B)
    rw[nk] at L;cases L;exact .inl ⟨He e R B,DO _ _ nk He e R B⟩
   obtain⟨s2,hs2,hi2⟩:=tx.go qrh I4 Ve (λA=>A.2 rfl) (λe R B=>⟨qlC m om Ve qhV e R B,λe'=>by have:=tx.back Ve R B;omega⟩) (λA=>absurd rfl A.2) (λ_ x p U h2 h3=>⟨hE x p U h2 h3,by omega⟩);obtain⟨G2,q1,q2⟩:=qhU Xa GK hs2 g1 ou g2;refine ih _ _ _ s2 F1 G2 (by simp[dy]) DN qlC q1 q2 (.inl ⟨?_,λ_=>hE⟩);have e:(λj=>((l.setIfInBounds i O).getD j C=O/\j≠m)\/j=m)=λj=>(l.setIfInBounds i O).getD j C=O:=funext λj=>propext ⟨λA=>A.elim (·.1) (λe=>e▸qhV),λA=>(Classical.em (j=m)).elim .inr λhn=> .inl ⟨A,hn⟩⟩;rw[<-e];exact hi2
  exact ih _ _ _ s1 F1 G1 (by simp[dy]) DN (by rw[xp];exact QA) g1 g2 (.inr ⟨qhV,hE,I4,ou⟩)
end
theorem yB{ops M}: ∀l j m t d,w6 ops M j l=Z (m,t,d)->j<=m/\ ∃o,l[m-j]?=Z o/\lv o=Z (t,d)
 | [],_,_,_,_,h=>by cases h
 |o::r,j,m,t,d,h=>by
  unfold w6 at h;have more:w6 ops M (j+1) r=Z (m,t,d)->j<=m/\ ∃p,(o::r)[m-j]?=Z p/\lv p=Z (t,d):=λh=>by obtain⟨U,p,L,B⟩:=yB r (j+1) m t d h;exact⟨by omega,p,by rw[show m-j=(m-(j+1))+1 by omega,zcE];exact L,B⟩
  split at h
  next R V A=>
   split at h
   ·exact more h
   cases h;exact⟨zag _,o,by simp,A⟩
  exact more h
theorem Ku{Q T cf}(gm:b7 Q T.w0 cf){ops F G w}{a s s' r Q'}
  (h:ax Q T F G w a s) (A:uW Q cf ops s=Z s') (hK: ∀V w',jc Q T F G w s s' V w'->Q' .normal V w'):wpAnyIn (wd r) 0 Q .any ops.toArray Q' ops.toArray.size (pt ops.toArray.size C) a {w with drawn:=w.drawn+1}:=by
 unfold uW at A;split at A
 next m t d hl=>
  split at A
  next hc=>
   obtain⟨qC,GK,htd⟩:=hc;split at A
   ·rename_i s1 l hd;split at A
    ·rename_i qhS;simp at A;subst A;obtain⟨_,om,Ve,Xa⟩:=yB ops 0 m t d hl;rw[Nat.sub_zero] at Ve;simp only[Gp,zac] at qC;obtain⟨⟨c1,c2⟩,c3⟩:=qC;have zero:=zaE;obtain⟨St,g1,g2,g3,g4⟩:=ot ops _ _ _ hd;have tx:Text Q cf ops (masks ops []) St m:=⟨λi o ho=>by have:=gq ops 0 c1 i o ho;rwa [zero] at this,λi j x y X R U=>by have:=hQ ops 0 c2 i j x y X R U;rwa [zero,zero] at this,g3,λi j x y X R U kU hb=> .inr (by obtain⟨q,hq⟩:=tT l 0 True qhS i j _ _ X (g4 i x R) (g4 j y U);rw[zero,zero] at hq;exact Bp (g3 i x R) (g3 j y U) kU hb hq)⟩
     have A1: ∀i o,ops[i]?=Z o->mm ((masks ops []).getD i 0) m=O->Eff ops m λx=>mm ((masks ops []).getD i 0) x=O:=by
      intro i o ho hb x p R hp hk;have h1:=gq ops 0 c3 i o ho;rw[zero] at h1;simp only[VO,hb,Bool.not_true,zcZ] at h1;have L:=gq ops 0 h1 x p hp;rw[zero] at L;simp only[zbn,zca] at L;rcases L with(L |L)|L
      ·omega
      ·omega
      exact L
     have fj:(λj=>(pt ops.length C).getD j C=O)=λ_=>False:=by funext j;simp only[zaA,zdm];split<;>simp
     have qri: ∀j,(pt ops.length C).getD j C=O->False:=λj hj=>by have:=congrFun fj j;simp only[eq_iff_iff,iff_false] at this;exact this hj
     have hsr:=h.drawn _ (zb5 _);have:=qcD (T:=T) (r:=r) tx gm Ve Xa GK (by rw[g1];exact htd) A1 (F0:=F) (G0:=G) (w0:={w with drawn:=w.drawn+1}) (s0:=s) (Q':=Q')
      (λV w' hp=>hK V w' (by obtain⟨F',G',k1,B⟩:=hp;rw[g2] at k1 B;exact⟨F',G',k1,⟨B.iK,B.lz,B.jT,B.keep,B.size,B.os,B.tape,B.output⟩⟩))
      ops.length (pt ops.length C) a {w with drawn:=w.drawn+1} s F G (by simp) (by
       rw[Array.toList_replicate,List.count_replicate];simp) (by
       rw[fj];intro i o _ hf;exact hf.elim) hsr (Mo _ _ _)
      (.inl ⟨by rw[fj];exact⟨by rw[g1],λi o t _ hf=>hf.elim,λt _=>by rw[g1],⟨0,by omega,by rw[g1],λi o _ _=>by simp⟩⟩,λhm=>(qri _ hm).elim⟩)
     simpa using this
    cases A
   cases A
  cases A
 cases A
theorem Ol{Q T cf}(B:b7 Q T.w0 cf)(R:Q.follows .mixedOrders=O){ops F G w}{a s s' r id}{Q'}
  (h:ax Q T F G w a s) (l:ko Q cf ops s=Z s') (A: ∀L w',jc Q T F G w s s' L w'->Q' .normal L w'):(Code.region id ops.toArray O).wpIn (wd r) 0 Q Q' a w:=by
 refine wpIn_region_any R ?_;unfold ko at l;split at l
 ·split at l
  ·exact Ku B h l A
  have:=yz (r:=r) (Q':=Q') B h l A;have e:(dF ops).toArray.size=ops.toArray.size:=by simp[dF]
  rw[e] at this;exact Kr _ _ _ _ this
 exact yz B h l A
end Pi
namespace Pi
open Go
def PX.gu:PX->Exit
 | .normal=> .normal
 | .exit id=> .exit id
 | .ret=> .ret
section
variable{Q:Program}{T:Tg}{cf:CF}{kp:Nat->Option (List Nat×List Nat)}{lf:Nat}{r:Option Nat}
theorem eA{F G w a}{s s0 keep}(h:ax Q T F G w a s)(l:cQ keep s=Z s0): ∃G0,ax Q T F G0 w a s0/\Ext (Own G s.rg) (Own G0 s0.rg) F F w w:=by unfold cQ at l;grind [WL,Mo]
theorem Kv{c body keep}
  (R: ∀s e s',body s=Z (e,s')-> ∀F G w a Q',ax Q T F G w a s->(∀B w',jc Q T F G w s s' B w'->Q' e.gu B w')->c.wpIn (wd r) 0 Q Q' a w):
  ∀k s e s',jK body keep k s=Z (e,s')-> ∀F G w a Q',ax Q T F G w a s->(∀B w',jc Q T F G w s s' B w'->Q' e.gu B w')->Code.roundsIn (wd r) 0 Q c Q' k a w
 |0,s,e,s',A,F,G,w,a,Q',h,hK=>by simp[jK] at A
 |k+1,s,e,s',A,F,G,w,a,Q',h,hK=>by
  simp only[jK] at A;split at A
  ·cases A
  rename_i s0 Xd;obtain⟨G0,g1,g2⟩:=eA h Xd;cases L:body s0 with
  |none=>grind
  |some r=>
   obtain⟨e1,s1⟩:=r;simp only[L] at A;have out: ∀e1,body s0=Z (e1,s1)->(match dD keep s1 with |some s2=>Z (e1,s2)|none=>Y)=Z (e,s')->(∀B w',jc Q T F G0 w s0 s1 B w'->Q' e1.gu B w'):=λe1 L A B w' X=>by
    split at A
    next s2 h2=>obtain⟨rfl,rfl⟩:=A;obtain⟨F1,G1,V,U⟩:=X;obtain⟨G2,m1,m2⟩:=eA (keep:=keep.map λl=>(l.2,l.2)) V (by cases keep<;>exact h2);exact hK B w' ⟨F1,G2,m1,(g2.trans U).trans m2⟩
    cases A
   cases e1 with
   |normal=>refine R s0 .normal s1 L F G0 w a _ g1 (λB w' ⟨F1,G1,V,U⟩=> ?_);show Code.roundsIn (wd r) 0 Q c Q' k B w';exact Kv R k s1 e s' A F1 G1 w' B Q' V (λa2 w2 X=>hK a2 w2 (jc.trans (g2.trans U) X))
   |exit id=>exact R s0 _ s1 L F G0 w a _ g1 (out _ L A)
   |ret=>exact R s0 _ s1 L F G0 w a _ g1 (out _ L A)
theorem gw(U:b7 Q T.w0 cf)(hdr:Q.follows .mixedOrders=O): ∀c s e s',cv Q cf kp lf c s=Z (e,s')-> ∀F G w a Q',ax Q T F G w a s->
  (∀L w',jc Q T F G w s s' L w'->Q' e.gu L w')->c.wpIn (wd r) 0 Q Q' a w
 | .skip,s,e,s',A,F,G,w,a,Q',h,hK=>by obtain⟨rfl,rfl⟩:=A;exact wpIn_skip (hK a w ⟨F,G,h,Mo _ _ _⟩)
 | .label l,s,e,s',A,F,G,w,a,Q',h,hK=>by obtain⟨rfl,rfl⟩:=A;exact wpIn_label (hK a w ⟨F,G,h,Mo _ _ _⟩)
 | .region id ops draw,s,e,s',A,F,G,w,a,Q',h,hK=>by
  simp only[cv] at A;cases draw with
  |false=>
   split at A
   next s1 X=>simp at A;obtain⟨rfl,rfl⟩:=A;exact wpIn_region_list (by simpa using vq U ops.toList F G w a s s1 h X (Q':=Q') hK)
   cases A
  |true=>
   split at A
   next s1 X=>obtain⟨rfl,rfl⟩:=A;simpa using Ol (id:=id) U hdr h X hK
   cases A
 | .seq x y,s,e,s',A,F,G,w,a,Q',h,hK=>by
  simp only[cv] at A;refine wpIn_seq ?_;cases V:cv Q cf kp lf x s with
  |none=>grind
  |some r=>
   obtain⟨e1,s1⟩:=r;simp only[V] at A;cases e1 with
   |normal=>exact gw U hdr x s .normal s1 V F G w a _ h (λL w' ⟨F1,G1,k1,k2⟩=>gw U hdr y s1 e s' A F1 G1 w' L Q' k1 (λa2 w2 R=>hK a2 w2 (jc.trans k2 R)))
   |exit id=>simp at A;obtain⟨rfl,rfl⟩:=A;exact gw U hdr x s _ s1 V F G w a _ h (λL w' R=>hK L w' R)
   |ret=>simp at A;obtain⟨rfl,rfl⟩:=A;exact gw U hdr x s _ s1 V F G w a _ h (λL w' R=>hK L w' R)
 | .cond c x y,s,e,s',A,F,G,w,a,Q',h,hK=>by
  simp only[cv] at A;split at A
  next b hb=>
   have hv:a.eval c= .bool b:=by have:=AG h c;rw[hb] at this;exact aL.cY (p:= .d (.bool b)) this rfl
   refine wpIn_cond hv ?_;cases b with
   |true=>exact gw U hdr x s e s' (by grind) F G w a Q' h hK
   |false=>exact gw U hdr y s e s' (by grind) F G w a Q' h hK
  cases A
 | .block id c,s,e,s',A,F,G,w,a,Q',h,hK=>by
  simp only[cv] at A;refine wpIn_block ?_;cases V:cv Q cf kp lf c s with
  |none=>grind
  |some r=>
   obtain⟨e1,s1⟩:=r;simp only[V] at A;refine gw U hdr c s e1 s1 V F G w a _ h (λL w' R=> ?_);cases e1 with
   |normal=>obtain⟨rfl,rfl⟩:=A;exact hK L w' R
   |ret=>obtain⟨rfl,rfl⟩:=A;exact hK L w' R
   |exit oN=>
    simp only at A;split at A
    ·rename_i B;have B:oN=id:=by simpa using B
     obtain⟨rfl,rfl⟩:=A;simp only[PX.gu,Exit.inBlock,B,zbj];exact hK L w' R
    rename_i B;have B: ¬oN=id:=by simpa using B
    obtain⟨rfl,rfl⟩:=A;simp only[PX.gu,Exit.inBlock,B,zbk];exact hK L w' R
 | .loop c,s,e,s',A,F,G,w,a,Q',h,hK=>by exact wpIn_loop_rounds lf (Kv (λs e s' A=>gw U hdr c s e s' A) lf s e s' A F G w a Q' h hK)
 | .scope c,s,e,s',A,F,G,w,a,Q',h,hK=>by refine gU (gw U hdr c s e s' A F G w a _ h (λL w' R=> ?_));have:=hK L w' R;cases e<;>simpa [PX.gu,Exit.noGoto] using this
 | .exit id,s,e,s',A,F,G,w,a,Q',h,hK=>by obtain⟨rfl,rfl⟩:=A;exact wpIn_exit (hK a w ⟨F,G,h,Mo _ _ _⟩)
 | .ret,s,e,s',A,F,G,w,a,Q',h,hK=>by obtain⟨rfl,rfl⟩:=A;exact wpIn_ret (hK a w ⟨F,G,h,Mo _ _ _⟩)
 | .rangeFunc _ _ _ _,s,e,s',A,F,G,w,a,Q',h,hK=>by simp[cv] at A
 | .goto _,s,e,s',A,F,G,w,a,Q',h,hK=>by simp[cv] at A
 | .refuse _,s,e,s',A,F,G,w,a,Q',h,hK=>by simp[cv] at A
def oY(h:Array W):ResultVar->Sem W
 | .tmp t=>pure (h.getD t undef)
 | .cell ad t=>do loadVar t (<-asAddr (h.getD ad undef))
theorem Xe{F G w a}{s}(h:ax Q T F G w a s) t:aL F w G s.rg (a.tmps.getD t undef) (((lk s.tm t).getD .bad).under Y):=
 bg h (g:=Y) trivial (.tmp t)
theorem Om{F G w a}{s}(h:ax Q T F G w a s){r p}(A:zA Q s r=Z p):
  ∃v,(oY a.tmps r).run Q w= .ok v w/\aL F w G s.rg v p:=by
 cases r with
 |tmp t=>simp only[zA,zai] at A;subst A;exact⟨_,rfl,Xe h t⟩
 |cell ad t=>
  obtain⟨u,l,U⟩:=JV h (Xe h ad) A;refine⟨u,?_,U⟩;have R: ∃x,a.tmps.getD ad undef= .pointer (Z x):=by
   cases L:a.tmps.getD ad undef with
   |pointer o=>
    cases o with
    |some x=>simp
    |none=>rw[L] at l;simp[Instr.loadAt,Instr.sureAddr] at l
   |_=>rw[L] at l;simp[Instr.loadAt,Instr.sureAddr] at l
  obtain⟨x,B⟩:=R;rw[B] at l;simp only[Instr.loadAt,Instr.sureAddr,Sem.run_bind,Sem.run_pure,Result.andThen_ok] at l;simp[oY,B,asAddr,l]
theorem yC{F G w a}{s}(h:ax Q T F G w a s): ∀rs ps,cO Q s rs=Z ps->
  ∃vs,(rs.mapM (oY a.tmps)).run Q w= .ok vs w/\J vs=J ps/\ ∀(i:Nat) (v:W) (c:P),vs[i]?=Z v->ps[i]?=Z c->aL F w G s.rg v c
 | [],ps,hr=>by simp_all [cO]
 |r::rs,ps,hr=>by
  simp only[cO] at hr;cases A:zA Q s r with
  |none=>grind
  |some p=>
   cases l:cO Q s rs with
   |none=>grind
   |some qs=>simp[A,l] at hr;subst hr;obtain⟨v,g1,V⟩:=Om h A;obtain⟨vs,R,B,L⟩:=yC h rs qs l;refine⟨v::vs,by simp_all,by simp[B],λi u c hu U=> ?_⟩;grind
theorem mA: ∀ps l t p,lk (eO l ps) t=Z p->l<=t/\ps[t-l]?=Z p
 | [],l,t,p,h=>by simp[eO,lk] at h
 |q::ps,l,t,p,h=>by
  simp only[eO,lk] at h;split at h
  ·simp_all
  obtain⟨B,A⟩:=mA ps (l+1) t p h;grind
theorem Tv{F G w R}{t v p}(h:aL F w G R v p):aL F w G R v (Ny Q t p):=by
 unfold Ny;split
 ·cases h with
  |d h=>
   cases h;split
   ·split
    ·exact .d (.Qd Y _ 0)
    exact .d .cd
   exact .d .cd
 exact h
theorem yD: ∀h ps,J (lx Q h ps)=J ps
 | [],ps=>by rfl
 |t::h,[]=>by rfl
 |t::h,p::ps=>by simp[lx,yD h ps]
theorem Bw{F G w R}: ∀(l:List I) (ps:List P) (vs:List W),
  (∀(i:Nat) (v:W) (c:P),vs[i]?=Z v->ps[i]?=Z c->aL F w G R v c)-> ∀(i:Nat) (v:W) (c:P),vs[i]?=Z v->(lx Q l ps)[i]?=Z c->aL F w G R v c
 | [],ps,vs,h=>by simpa [lx] using h
 |_::_,[],_,_=>λi v c _ A=>by simp[lx] at A
 |t::l,p::ps,[],h=>λi v c B=>by simp at B
 |t::l,p::ps,v::vs,h=>λi u c hu A=>by
  cases i with
  |zero=>grind [lx,Tv]
  |succ i=>exact Bw l ps vs (λi v c B A=>h (i+1) v c (by grind) (by grind)) i u c (by grind) (by simpa [lx] using A)
theorem pR{F G w a}{s}(h:ax Q T F G w a s){fn ps}(l:cO Q s fn.results.toList=Z ps):
  ∃vs,(results fn a.tmps).run Q w= .ok (if hh:vs.toArray.size=1 then vs.toArray[0] else .tuple vs.toArray) w/\J vs=J ps/\ ∀(i:Nat) (v:W) (c:P),vs[i]?=Z v->ps[i]?=Z c->aL F w G s.rg v c:=by
 obtain⟨vs,L,B,A⟩:=yC h fn.results.toList ps l;refine⟨vs,?_,B,A⟩;have e:(fn.results.mapM (oY a.tmps)).run Q w= .ok vs.toArray w:=by rw[Array.mapM_eq_mapM_toList];simp[L]
 have R:results fn a.tmps=(do let vs<-fn.results.mapM (oY a.tmps);pure (if h:vs.size=1 then vs[0] else .tuple vs)):=by rfl
 rw[R,Sem.run_bind,e];rfl
theorem qhW{F G w R}{vs ps}(l:J vs=J ps)(h: ∀(i:Nat) (v:W) (c:P),vs[i]?=Z v->ps[i]?=Z c->aL F w G R v c):
  aL F w G R (if hh:vs.toArray.size=1 then vs.toArray[0] else .tuple vs.toArray) (VS ps):=by
 match vs,ps,l,h with
 | [v],[p],_,h=>exact h 0 v p rfl rfl
 | [],[],l,h=>exact .cy [] [] rfl (λi v c A=>by simp at A)
 |v1::v2::vs,p1::p2::ps,l,h=>exact .cy _ _ l h
theorem Bx{T G w a}: ∀ps l s F s' qs vs,ax Q T F G w a s->uX Q s l ps=Z (s',qs)->J vs=J ps->
  (∀(i:Nat) (v:W) (c:P),vs[i]?=Z v->ps[i]?=Z c->aL F w G s.rg v c)->
  ∃F',ax Q T F' G w a s'/\Ext (Own G s.rg) (Own G s'.rg) F F' w w/\Names G G s.rg s'.rg/\(∀b,F b->F' b)/\J vs=J qs/\ ∀(i:Nat) (v:W) (c:P),vs[i]?=Z v->qs[i]?=Z c->aL F' w G s'.rg v c
 | [],l,s,F,s',xs,vs,h,hs,hl,hv=>by grind [uX,Mo,Nm]
 |p::ps,l,s,F,s',xs,vs,h,hs,hl,hv=>by
  cases vs with
  |nil=>simp at hl
  |cons v vs=>
   simp only[uX] at hs;split at hs
   ·cases hs
   rename_i s1 q h1;split at hs
   ·rename_i s2 A h2;simp at hs;obtain⟨rfl,rfl⟩:=hs;obtain⟨F1,a1,a2,V,U,a5⟩:=EM h h1 (hv 0 v p (by simp) (by simp));obtain⟨F2,b1,b2,R,L,b5,b6⟩:=Bx ps l.tail s1 F1 s2 A vs a1 h2 (by grind)
     (λi u c hu B=>(hv (i+1) u c (by grind) (by grind)).mono U (λ_ _=>rfl) V)
    refine⟨F2,b1,a2.trans b2,V.trans R,λb X=>L b (U b X),by grind,λi u c hu B=> ?_⟩;cases i with
    |zero=>simp at hu B;subst hu;subst B;exact a5.mono L (λ_ _=>rfl) R
    |succ i=>grind
   cases hs
theorem xu{F G w a}{s}(h:ax Q T F G w a s){m B qs p}{A}(l:finish Q m B qs s=Z (p,A))
  {vs} (hl:J vs=J qs) (hv: ∀(i:Nat) (v:W) (c:P),vs[i]?=Z v->qs[i]?=Z c->aL F w G s.rg v c):
  ∃F' X,de Q T F' X w A/\aL F' w X A (if hh:vs.toArray.size=1 then vs.toArray[0] else .tuple vs.toArray) p/\Ext (Own G s.rg) (Own X A) F F' w w:=by
 unfold finish at l;split at l
 ·cases l
 rename_i s0 U Hj;obtain⟨F1,j1,j2,j3,j4,j5,j6⟩:=Bx _ _ s F s0 U vs h Hj hl hv;split at l
 ·cases l
 rename_i s1 L ho;obtain⟨G1,h1,h2,h3,h4,h5⟩:=ri _ _ _ s0 G s1 L vs j1 ho j5 j6;simp only at l;split at l
 next mr=>
  split at l
  next R hR=>obtain⟨rfl,rfl⟩:=l;obtain⟨k1,k2,k3⟩:=h1.heap.sub hR mr;refine⟨F1,_,by grind,pL k2 (qhW h4 h5),(j2.trans h2).trans ⟨λ_ h=>h,λ_ h=> .inl h,λb V=> ?_,λ_ _ _=>rfl,zag _,rfl,rfl,rfl⟩⟩;obtain⟨n,e,_,he,V⟩:=k3 b V;exact .inl ⟨n,e,he,V⟩
  cases l
 cases l
theorem de.lo{val w0 x y A l}{F G w R}(h:de Q ⟨val,w0,x,A⟩ F G w R)(B:y<=w.heap.size:=by exact za4 _):de Q ⟨val,w0,y,l⟩ F G w R:=
 ⟨.nil,h.size,h.tm,h.rg,h.own,h.jb,h.gL,h.tag,h.z,h.dr,B⟩
theorem ax.lo{val w0 x y A l}{F G w t}{s}(h:ax Q ⟨val,w0,x,A⟩ F G w ⟨t,[]⟩ s)(B:y<=w.heap.size):ax Q ⟨val,w0,y,l⟩ F G w ⟨t,[]⟩ s:=
 ⟨.nil,h.size,h.tm,h.rg,h.own,h.jb,h.gL,h.tag,h.z,h.dr,B⟩
theorem ax.shut{T F G w}{t d X s}(h:ax Q T F G w ⟨t,d::X⟩ s):
  ∃D,d={target:= .collected D,args:= #[]}/\(Instr.takeDeferred D).run Q w= .ok [] (w.putObj D (.deferred Y))/\ax Q T F G (w.putObj D (.deferred Y)) ⟨t,X⟩ s/\
   ∀own0 F0 w1,w1.heap.size<=T.lo->Ext own0 (Own G s.rg) F0 F w1 w->Ext own0 (Own G s.rg) F0 F w1 (w.putObj D (.deferred Y)):=by
 obtain⟨mr,hm⟩:=h.oR;have B:=zaU.1 mr;obtain⟨D,h1,h0,h2,h3,h4⟩:=hm d (by simp);have R: ∀b,b≠D->(w.putObj D (.deferred Y)).heap[b]?=w.heap[b]?:=λb l=>by simp only[World.putObj];rw[zaO (za0 l)]
 have L: ∀b,F b->(w.putObj D (.deferred Y)).heap[b]?=w.heap[b]?:=λb l=>R b λe=>h3 (e▸l);have V:(w.putObj D (.deferred Y)).heap.size=w.heap.size:=by simp
 refine⟨D,h1,run_takeDeferred h2,⟨⟨B.2,λd' Kl=> ?_⟩,h.size,λt p hp=>bR.mono (λ_ h=>h) L (Nm _ _) (h.tm t p hp),
  λn e U=>(h.rg n e U).mono (λ_ h=>h) L (Nm _ _) rfl (λb l=>R b λe'=>h4 ⟨n,e,U,e'▸l⟩),h.own,h.jb,λb l=>by rw[V];exact h.gL b l,h.tag,
  λb l=>⟨(h.z b l).1,(L b (h.z b l).1).trans (h.z b l).2⟩,h.dr,by rw[V];exact h.sz⟩,λown0 F0 w1 SP A=> ?_⟩
 ·grind
 exact⟨A.iK,A.lz,A.jT,λb l hn=>(R b (by omega)).trans (A.keep b l hn),by grind,A.os,A.tape,A.output⟩
theorem vw{T F G t}{s fn own0 F0 w1}(L:w1.heap.size<=T.lo){R n}
  (B: ∀l,ax Q T F G l ⟨t,[]⟩ s->Ext own0 (Own G s.rg) F0 F w1 l-> ∃v,(results fn t).run Q l= .ok v l/\R (.returned v) l):
  ∀A w,ax Q T F G w ⟨t,A⟩ s->Ext own0 (Own G s.rg) F0 F w1 w->LeavesInM Fence.wide n Q fn t R A .returning w
 | [],w,h,hx=>B w h hx
 |d::A,w,h,hx=>by obtain⟨D,h1,X,V,U⟩:=h.shut;exact⟨λe=>(by cases e),.inl ⟨D,_,by rw[h1],X,vw L B A _ V (U _ _ _ L hx)⟩⟩
theorem js{f fn c l}{w R}(A:Q.funcs[f]?=Z fn)(B:fn.body=Z c)
  (h:c.wpIn (wd Y) 0 Q (bodyPostM Fence.wide 0 Q fn R) {tmps:=l++pt (fn.ntmps-l.size) undef,defers:=[]} w):Calls Q f l w R:=
 callsIn_wide.1 (callsIn_of_wp_marks A B trivial h)
theorem tY k h ps:J (iw k Q h ps)=J ps:=by
 cases k with
 |none=>exact yD h ps
 |some _=>rfl
theorem xv{F G w R} k l ps (vs:List W)
  (h: ∀(i:Nat) (v:W) (c:P),vs[i]?=Z v->ps[i]?=Z c->aL F w G R v c): ∀(i:Nat) (v:W) (c:P),vs[i]?=Z v->(iw k Q l ps)[i]?=Z c->aL F w G R v c:=by
 cases k with
 |none=>exact Bw l ps vs h
 |some _=>exact h
theorem lC{kp w0}(hX:b7 Q w0 kp.X)(hdr:Q.follows .mixedOrders=O): ∀k,b7 Q w0 (eL Q kp lf k)
 |0=>λA ps R p L h=>by simp[eL] at h
 |k+1=>λA ps R p L l F G w vs hH hl hv=>by
  have ih:=lC (kp:=kp) hX hdr k;simp only[eL] at l;split at l
  ·cases l
  rename_i fn fj;split at l
  ·exact hX A ps R p L l F G w vs hH hl hv
  split at l
  ·cases l
  rename_i c hc;split at l
  ·cases l
  rename_i iO;have iO:(fn.name== "runtime.NumGoroutine")=C:=by grind
  left;refine⟨by simp[callFunc,fj,hc];grind,?_⟩;refine js fj hc ?_;have hl':J vs=J (iw (kp A 999999) Q fn.params.toList ps):=by rw[tY];exact hl
  have Ey:=xv (Q:=Q) (kp A 999999) fn.params.toList ps vs hv;have tZ:ax Q ⟨G,w0,w.heap.size,O⟩ F G w {tmps:=(⟨vs⟩:Array W)++pt (fn.ntmps-(⟨vs⟩:Array W).size) undef,defers:=[]} ⟨fn.ntmps,eO 0 (iw (kp A 999999) Q fn.params.toList ps),R⟩:=by refine(de.lo hH (zag _)).state rfl .nil (by simp;omega) (λt p hp=> ?_);obtain⟨_,h2⟩:=mA _ 0 t p hp;grind [fB,bR.of]
  have fin: ∀(s1:S) (qs:List P),cO Q s1 fn.results.toList=Z qs->finish Q (J R) fn.resultTypes.toList qs s1=Z (p,L)-> ∀B w',jc Q ⟨G,w0,w.heap.size,O⟩ F G w ⟨fn.ntmps,eO 0 (iw (kp A 999999) Q fn.params.toList ps),R⟩ s1 B w'->
    LeavesInM Fence.wide 0 Q fn B.tmps (λe w'=> ∃v2,e= .returned v2/\ ∃F' U,de Q ⟨G,w0,0,C⟩ F' U w' L/\aL F' w' U L v2 p/\Ext (Own G R) (Own U L) F F' w w') B.defers .returning w':=by
   intro s1 qs V Vb B w' ⟨F',U,h1,h2⟩;refine vw (T:=⟨G,w0,w.heap.size,O⟩) (own0:=Own G R) (F0:=F) (w1:=w) (zag _) (λw2 h3 h4=> ?_) B.defers w' h1 h2;obtain⟨us,g1,g2,g3⟩:=pR h3 V;obtain⟨F2,G2,k1,k2,k3⟩:=xu h3 Vb g2 g3;exact⟨_,g1,_,rfl,F2,G2,k1.lo,k2,h4.trans k3⟩
  cases hx:cv Q (eL Q kp lf k) (kp A) lf c ⟨fn.ntmps,eO 0 (iw (kp A 999999) Q fn.params.toList ps),R⟩ with
  |none=>grind
  |some r=>
   obtain⟨e,s1⟩:=r;simp only[hx] at l;have Hj: ∃qs,cO Q s1 fn.results.toList=Z qs/\finish Q (J R) fn.resultTypes.toList qs s1=Z (p,L):=by
    cases e<;>simp only at l<;>try (grind)
    all_goals
     grind
   obtain⟨qs,V,Vb⟩:=Hj;refine gw (r:=Y) (T:=⟨G,w0,w.heap.size,O⟩) ih hdr c _ e s1 hx F G w _ _ tZ (λB w' hp=> ?_);have:=fin s1 qs V Vb B w' hp;cases e with
   |normal=>exact this
   |ret=>exact this
   |exit id=>simp at l
end
end Pi
namespace Pi
open Go
def mB(Q:Program):Nat->I->Bool
 |0,_=>C
 |n+1,t=>match Q.underlying t with
  |Z .bool |Z (.int _)|Z .string=>O
  |Z (.slice e)=>mB Q n e&&Nat.blt 0 (Q.cellsOf e)
  |Z (.struct fs)=>qV Q 0 fs.toList (Q.cellsOf t)&&fs.toList.all λf=>mB Q n f.type
  |_=>C
def Fit(Q:Program):Nat->I->List D->Prop
 |0,_,_=>False
 |n+1,t,xs=>match Q.underlying t with
  |Z .bool=> ∃b,xs=[.bool b]
  |Z (.int k)=> ∃m,xs=[.int k m]/\(Lit.int k m).wf=O
  |Z .string=> ∃l,xs=[.str l]/\J l<=maxLen
  |Z (.slice e)=> ∃es,xs=[.sl (Q.cellsOf e) es]/\J es<=maxLen/\ ∀y∈es,Fit Q n e y.cells/\((dZ Q e=O/\ ∃cs,y= .agg cs)\/(dZ Q e=C/\y.b9=O))
  |Z (.struct fs)=>J xs=Q.cellsOf t/\ ∀f∈fs.toList,Fit Q n f.type ((xs.drop f.offset).take (Q.cellsOf f.type))
  |_=>False
section
variable{H:Type}{enc:I×W->H}{Q:Program}{w:World}
def Kw w cs xs:=
 (J xs)=J cs/\(∀c∈xs,c.b9=O)/\ ∀(i:Nat) (v:W) (c:D),cs[i]?=Z v->xs[i]?=Z c->bf (· <w.heap.size) w v c
theorem yE{n} l cs (V:J cs=l): ∀A off,qV Q off A l=O->off<=l->
  (∀f∈A,∃xs,Kw w ((cs.drop f.offset).take (Q.cellsOf f.type)) xs/\Fit Q n f.type xs)->
  ∃xs,Kw w (cs.drop off) xs/\ ∀f∈A,off<=f.offset/\Fit Q n f.type ((xs.drop (f.offset-off)).take (Q.cellsOf f.type))
 | [],off,ht,hle,_=>by have:=zad ht;refine⟨[],⟨by simp;omega,by simp,λi v c h1 X=>by simp at X⟩,by simp⟩
 |f::r,off,ht,hle,hf=>by
  simp only[qV,zac] at ht;have ho:=zad ht.1;have R:off+Q.cellsOf f.type<=l:=by
   have: ∀(A:List Field) (o:Nat),qV Q o A l=O->o<=l:=by
    intro A
    induction A with
    |nil=>intro o h;exact Nat.le_of_eq (zad h)
    |cons g gs ih=>intro o h;simp only[qV,zac] at h;have:=ih _ h.2;omega
   exact this r _ ht.2
  obtain⟨xs,⟨h1,X,h3⟩,h4⟩:=hf f (by simp);obtain⟨ys,⟨g1,g2,g3⟩,g4⟩:=yE l cs V r _ ht.2 R (λg L=>hf g (by simp[L]));rw[ho] at h1 h3;have hl:J xs=Q.cellsOf f.type:=by rw[h1];simp;omega
  refine⟨xs++ys,⟨?_,?_,?_⟩,?_⟩
  ·simp[g1,hl];omega
  ·intro c B;rcases zaK.1 B with h |h
   ·exact X c h
   exact g2 c h
  ·intro i v c U B;by_cases hi:i<J xs
   ·rw[zaP hi] at B;refine h3 i v c ?_ B;rw[List.getElem?_take_of_lt (by omega)];exact U
   rw[zaZ (by omega)] at B;refine g3 (i-J xs) v c ?_ B;rw[zcc] at U⊢;rw[<-U];congr 1;omega
  intro g L;rcases zao.1 L with rfl |L
  ·refine⟨by omega,?_⟩;rw[ho];simp only[zcP,zcT];rw[<-hl,zbH]
   ·exact h4
   rfl
  obtain⟨k1,k2⟩:=g4 g L;refine⟨by omega,?_⟩;have e:(xs++ys).drop (g.offset-off)=ys.drop (g.offset-(off+Q.cellsOf f.type)):=by rw[List.drop_append,zcK (by omega),zbt];congr 1;omega
  rw[e];exact k2
theorem Hk{t}:dZ Q t=match Q.underlying t with |Z (.struct _)|Z (.array _ _)=>O |_=>C:=rfl
theorem Kx{m t xs}(h:Fit Q m t xs)(l:dZ Q t=C): ∃c,xs=[c]:=by
 cases m with
 |zero=>exact h.elim
 |succ m=>
  unfold Fit at h;rw[Hk] at l;split at h
  ·obtain⟨b,rfl⟩:=h;exact⟨_,rfl⟩
  ·obtain⟨b,rfl,_⟩:=h;exact⟨_,rfl⟩
  ·obtain⟨b,rfl,_⟩:=h;exact⟨_,rfl⟩
  ·obtain⟨es,rfl,_⟩:=h;exact⟨_,rfl⟩
  next hu=>rw[hu] at l;simp at l
  exact h.elim
theorem Xf: ∀m n t cs x,DataW.trod enc Q w 0 (λ_=>O) O n t cs=Z x->mB Q m t=O-> ∃xs,Kw w cs xs/\Fit Q m t xs:=by
 intro m
 induction m with
 |zero=>intro n t cs x _ h;simp[mB] at h
 |succ m ih=>
  intro n t cs x U X;have one: ∀(v:W) (c:D),c.b9=O->bf (· <w.heap.size) w v c->Kw w [v] [c]:=λv c hc hr=>⟨rfl,by simpa using hc,λi v' c' B V=>by
   cases i with
   |zero=>simp at B V;subst B;subst V;exact hr
   |succ i=>simp at B⟩
  unfold mB at X;split at X
  next hu=>obtain⟨b,rfl,_⟩:=DataW.trod_bool hu U;exact⟨[.bool b],one _ _ rfl (.bool b),by unfold Fit;rw[hu];exact⟨b,rfl⟩⟩
  next k hu=>obtain⟨b,rfl,_,hw⟩:=DataW.trod_int hu U;exact⟨[.int k b],one _ _ rfl (.int k b),by unfold Fit;rw[hu];exact⟨b,rfl,hw⟩⟩
  next hu=>obtain⟨b,rfl,_,hw⟩:=DataW.trod_string hu U;exact⟨[.str b.data.toList],one _ _ rfl (.str b.data.toList),by unfold Fit;rw[hu];exact⟨_,rfl,hw⟩⟩
  next e hu=>
   simp only[zac] at X;have hk:0<Q.cellsOf e:=by have:=X.2;simp[Nat.blt] at this;omega
   rcases DataW.trod_slice hu U with⟨rfl,_⟩| ⟨a,len,cap,elems,rest,n',rfl,rfl,_,hb,MZ,yf,Gv,xb,_,_⟩
   ·exact⟨[.sl (Q.cellsOf e) []],one _ _ rfl (.Qd Y _ 0),by unfold Fit;rw[hu];exact⟨[],rfl,by simp,by simp⟩⟩
   have each: ∀i,i<len-> ∃(A:List W) (xs:List D),w.cells? 0 (a.add (i*Q.cellsOf e)) (Q.cellsOf e)=Z A/\Kw w A xs/\Fit Q m e xs:=λi L=>by
    have B:=xb i L;have aZ:i<J elems:=by omega
    rw[zae aZ,zbs] at B;obtain⟨A,V,h3⟩:=B;obtain⟨xs,h4,h5⟩:=ih _ _ _ _ h3 X.1;exact⟨A,xs,V,h4,h5⟩
   have mk: ∀l,l<=len-> ∃es:List D,J es=l/\ ∀i,i<l-> ∃(A:List W) (y:D),es[i]?=Z y/\w.cells? 0 (a.add (i*Q.cellsOf e)) (Q.cellsOf e)=Z A/\Kw w A y.cells/\Fit Q m e y.cells/\
     ((dZ Q e=O/\ ∃cs,y= .agg cs)\/(dZ Q e=C/\y.b9=O)):=by
    intro l
    induction l with
    |zero=>intro _;exact⟨[],rfl,λi L=>by omega⟩
    |succ l ihl=>
     intro hl;obtain⟨es,B,V⟩:=ihl (by omega);obtain⟨A,xs,h3,h4,h5⟩:=each l (by omega);have hy: ∃y:D,y.cells=xs/\((dZ Q e=O/\ ∃cs,y= .agg cs)\/(dZ Q e=C/\y.b9=O)):=by
      cases ha:dZ Q e with
      |true=>exact⟨.agg xs,rfl,.inl ⟨rfl,_,rfl⟩⟩
      |false=>obtain⟨c,rfl⟩:=Kx h5 ha;have hc:=h4.2.1 c (by simp);refine⟨c,?_,.inr ⟨rfl,hc⟩⟩;cases c<;>first |rfl |simp[D.b9] at hc
     obtain⟨y,M0,hy2⟩:=hy;refine⟨es++[y],by simp[B],λi L=> ?_⟩;by_cases dE:i<l
     ·obtain⟨qrj,y',R,k2⟩:=V i dE;exact⟨qrj,y',by rw[zaP (by omega)];exact R,k2⟩
     have e1:i=l:=by omega
     subst e1;exact⟨A,y,by rw[zaZ (by omega)];simp[B],h3,by rw[M0];exact h4,by rw[M0];exact h5,hy2⟩
   obtain⟨es,Da,jE⟩:=mk len (zag _);have J4:Fit Q (m+1) t [.sl (Q.cellsOf e) es]:=by unfold Fit;rw[hu];refine⟨es,rfl,by omega,λy hy=> ?_⟩;obtain⟨i,L,rfl⟩:=zaM hy;obtain⟨A,y',R,_,_,k4,k5⟩:=jE i (by omega);rw[zae L] at R;cases R;exact⟨k4,k5⟩
   refine⟨[.sl (Q.cellsOf e) es],one _ _ rfl ?_,J4⟩;by_cases h0:len=0
   ·subst h0;have:=zaz Da;subst this;exact .Qd _ _ _
   obtain⟨N0,y0,_,M7,oi,hf0,_⟩:=jE 0 (by omega);obtain⟨_,qlD,qhX⟩:=World.cells?_some M7;have hblk:a.block<w.heap.size:=by have:=World.cells?_block M7 hk;simpa [Addr.add] using this
   have qf5:a.spot=Y:=by
    have B:=qhX 0 hk;have V:w.cell? ((a.add (0*Q.cellsOf e)).add 0)=Z N0[0]:=by rw[B];simp[qlD,hk]
    have:=World.cell?_spot V;simpa [Addr.add] using this
   obtain⟨b,off,spot⟩:=a;simp only at qf5 hblk;subst qf5;have dy: ∀i,i<J es-> ∀x,es[i]?=Z x->J x.cells=Q.cellsOf e:=λi L x U=>by obtain⟨A,y',R,k2,k3,_,_⟩:=jE i (by omega);rw[U] at R;cases R;rw[k3.1];exact(World.cells?_some k2).2.1
   have qlE: ∀q,q<J es*Q.cellsOf e-> ∃A y,es[q/Q.cellsOf e]?=Z y/\w.cells? 0 ((⟨b,off,Y⟩:Addr).add (q/Q.cellsOf e*Q.cellsOf e)) (Q.cellsOf e)=Z A/\Kw w A y.cells/\w.cell? ⟨b,off+q,Y⟩=A[q%Q.cellsOf e]?/\J A=Q.cellsOf e:=λq hq=>by
    have hdiv:q/Q.cellsOf e<J es:=by rw[zcN hk];exact hq
    obtain⟨A,y',R,k2,k3,_,_⟩:=jE (q/Q.cellsOf e) (by omega);obtain⟨_,Db,hc2⟩:=World.cells?_some k2;refine⟨A,y',R,k2,k3,?_,Db⟩;have:=hc2 (q%Q.cellsOf e) (zc5 _ hk);rw[<-this];have e:=zdj q (Q.cellsOf e);rw[zcj] at e;rw[dU,dU,zbK,e]
   rw[<-Da];refine .Qe b off (Q.cellsOf e) cap es (λq=>(w.cell? ⟨b,off+q,Y⟩).getD undef) (by omega) hblk (λx U=> ?_) (λx U=> ?_) (λq hq=> ?_) (λi j x c U hc=> ?_)
   ·obtain⟨i,L,rfl⟩:=zaM U;exact dy i L _ (zae L)
   ·obtain⟨i,L,rfl⟩:=zaM U;obtain⟨A,y',R,_,k3,_,_⟩:=jE i (by omega);rw[zae L] at R;cases R;exact k3.2.1
   ·obtain⟨A,y,_,_,_,k4,k5⟩:=qlE q hq;have hm:=zc5 q hk;rw[k4];simp[k5,hm]
   have L:=(zab.1 U).1;have hj:j<Q.cellsOf e:=by have B:=dy i L x U;have V:=(zab.1 hc).1;omega
   have hq:i*Q.cellsOf e+j<J es*Q.cellsOf e:=by
    calc i*Q.cellsOf e+j<i*Q.cellsOf e+Q.cellsOf e:=by omega
     _=(i+1)*Q.cellsOf e:=by rw[zaV,zbw]
     _<=J es*Q.cellsOf e:=zaq _ L
   obtain⟨A,y,R,_,k3,k4,k5⟩:=qlE _ hq;have e1:(i*Q.cellsOf e+j)/Q.cellsOf e=i:=by rw[zcj,Nat.mul_add_div hk,Nat.div_eq_of_lt hj,zb9]
   have e2:(i*Q.cellsOf e+j)%Q.cellsOf e=j:=by rw[zcj,Nat.mul_add_mod,Nat.mod_eq_of_lt hj]
   rw[e1,U] at R;cases R;rw[e2] at k4;show bf _ w ((w.cell? ⟨b,off+(i*Q.cellsOf e+j),Y⟩).getD undef) c;rw[k4];have Wz:j<J A:=by omega
   refine k3.2.2 j _ c ?_ hc;simp[Wz]
  next fs hu=>
   simp only[zac] at X;obtain⟨xs,n',rfl,rfl,hl,hn,hf⟩:=DataW.trod_struct hu U;have key: ∀f∈fs.toList,∃ys,Kw w ((cs.drop f.offset).take (Q.cellsOf f.type)) ys/\Fit Q m f.type ys:=λf hf'=>by
    obtain⟨i,L,rfl⟩:=zaM hf';have zG:i<fs.size:=by simpa using L
    have B:=hf i fs[i] (zby zG);have aZ:i<J xs:=by omega
    rw[zae aZ] at B;have hpl:=za8.1 X.2 _ hf';simp only[Array.getElem_toList] at hpl⊢;exact ih _ _ _ _ B hpl
   obtain⟨ys,B,V⟩:=yE (Q:=Q) (n:=m) (Q.cellsOf t) cs hl fs.toList 0 X.1 (za4 _) key;simp only[zcT] at B;refine⟨ys,B,?_⟩;unfold Fit;rw[hu];exact⟨by rw[B.1,hl],λf hf'=>by simpa using(V f hf').2⟩
  cases X
end
end Pi
namespace Pi
open Go Go.ChangeShapes Go.WideShapes Go.RowKit
def DP Q m t (x:D):=Fit Q m t x.cells/\((dZ Q t=O/\ ∃cs,x= .agg cs)\/(dZ Q t=C/\x.b9=O))
def ua(Q:Program)(m:Nat):List I->List D->Prop
 | [],[]=>True
 |t::ts,x::xs=>DP Q m t x/\ua Q m ts xs
 |_,_=>False
section
variable{Q:Program}{m:Nat}{t:I}{x:D}
theorem Xg{k}(hu:Q.underlying t=Z (.int k))(h:DP Q (m+1) t x): ∃n,x= .int k n/\(Lit.int k n).wf=O:=by
 obtain⟨l,B⟩:=h;unfold Fit at l;rw[hu] at l;obtain⟨b,L,A⟩:=l;rcases B with⟨ha,cs,rfl⟩| ⟨_,hc⟩
 ·simp[dZ,hu] at ha
 refine⟨b,?_,A⟩;cases x<;>simp_all [D.cells,D.b9]
theorem On{e k}(hu:Q.underlying t=Z (.slice e))(hk:Q.cellsOf e=k)(h:DP Q (m+1) t x): ∃es,x= .sl k es/\J es<=maxLen/\ ∀y∈es,DP Q m e y:=by
 obtain⟨l,L⟩:=h;unfold Fit at l;rw[hu] at l;obtain⟨es,R,B,A⟩:=l;subst hk;rcases L with⟨ha,cs,rfl⟩| ⟨_,hc⟩
 ·simp[dZ,hu] at ha
 refine⟨es,?_,B,A⟩;cases x<;>simp_all [D.cells,D.b9]
theorem Ky{A k}(hu:Q.underlying t=Z (.struct A))(hk:Q.cellsOf t=k)(h:DP Q (m+1) t x): ∃cs,x= .agg cs/\J cs=k/\ ∀f∈A.toList,Fit Q m f.type ((cs.drop f.offset).take (Q.cellsOf f.type)):=by
 obtain⟨l,B⟩:=h;unfold Fit at l;rw[hu] at l;subst hk;rcases B with⟨ha,cs,rfl⟩| ⟨ha,hc⟩
 ·exact⟨cs,rfl,l.1,l.2⟩
 simp[dZ,hu] at ha
theorem vz{k c}(hu:Q.underlying t=Z (.int k))(h:Fit Q (m+1) t [c]): ∃n,c= .int k n/\(Lit.int k n).wf=O:=by unfold Fit at h;rw[hu] at h;obtain⟨b,A,l⟩:=h;exact⟨b,by simpa using A,l⟩
theorem Xh{c}(hu:Q.underlying t=Z .bool)(h:Fit Q (m+1) t [c]): ∃n,c= .bool n:=by unfold Fit at h;rw[hu] at h;obtain⟨b,l⟩:=h;exact⟨b,by simpa using l⟩
end
section
variable{H:Type}{enc:I×W->H}{Q:Program}{w:World}
theorem cells_one{v c:W}(h:v.cells.toList=[c])(l: ∀cs,v≠ .agg cs):v=c:=by cases v<;>first |exact absurd rfl (l _)| (simp[W.cells] at h;exact h)
theorem qcF{m t v d}{ps base}(U:mB Q m t=O)(l:W.okWide Q w .any base t v)(h:DataW.Trod enc Q w 0 (λ_=>O) O t v d ps):
  ∃x,bf (· <w.heap.size) w v x/\DP Q m t x:=by
 obtain⟨n,hn⟩:=h;obtain⟨xs,B,V⟩:=Xf m n t _ _ hn U;cases A:dZ Q t with
 |true=>
  have X: ∃cs,v= .agg cs:=by
   rw[Hk] at A;unfold W.okWide at l;split at A
   next hu=>rw[hu] at l;obtain⟨cs,rfl,_⟩:=l;exact⟨cs,rfl⟩
   next hu=>rw[hu] at l;obtain⟨cs,rfl,_⟩:=l;exact⟨cs,rfl⟩
   cases A
  obtain⟨⟨cs⟩,rfl⟩:=X;exact⟨.agg xs,.agg cs xs B.1.symm B.2.1 B.2.2,V,.inl ⟨A,_,rfl⟩⟩
 |false=>
  obtain⟨c,rfl⟩:=Kx V A;have X: ∀cs,v≠ .agg cs:=by
   intro cs e;subst e;cases m with
   |zero=>exact V.elim
   |succ m=>
    unfold mB at U;unfold W.okWide at l;split at U
    next hu=>simp[hu,Cell.okWide,Cell.ok] at l
    next hu=>simp[hu,Cell.okWide,Cell.ok] at l
    next hu=>simp[hu,Cell.okWide,Cell.ok] at l
    next hu=>simp[hu,Cell.okWide,Cell.ok] at l
    next hu=>rw[Hk,hu] at A;cases A
    cases U
  have L:=B.1;obtain⟨u,hu⟩: ∃u,v.cells.toList=[u]:=by
   cases R:v.cells.toList with
   |nil=>rw[R] at L;simp at L
   |cons u r=>rw[R] at L;simp at L;subst L;exact⟨u,rfl⟩
  have e:=cells_one hu X;subst e;have R:=B.2.1 c (by simp);have kM:c.cells=[c]:=by cases c<;>first |rfl |simp[D.b9] at R
  exact⟨c,B.2.2 0 v c (by rw[hu];rfl) rfl,by rw[kM];exact V,.inr ⟨A,R⟩⟩
theorem Kz{m base}: ∀l vs X ps,(∀t∈l,mB Q m t=O)->(∀(j:Nat) t v,l[j]?=Z t->vs[j]?=Z v->W.okWide Q w .any base t v)->
  DataW.TrodAll enc Q w 0 (λ_=>O) O l vs X ps-> ∃xs,J xs=J vs/\(∀(i:Nat) v x,vs[i]?=Z v->xs[i]?=Z x->bf (· <w.heap.size) w v x)/\ua Q m l xs
 | [],vs,X,ps,_,_,h=>by obtain⟨rfl,_,_⟩:=trodAll_nil h;exact⟨[],rfl,λi v x U=>by simp at U,trivial⟩
 |t::l,vs,X,ps,hp,qC,h=>by
  obtain⟨v,B,d,V,p,q,rfl,rfl,rfl,U,h2⟩:=trodAll_cons h;obtain⟨x,g1,g2⟩:=qcF (hp t (by simp)) (qC 0 t v rfl rfl) U;obtain⟨xs,k1,k2,k3⟩:=Kz l B V q (λu hu=>hp u (by simp[hu])) (λj u L hu A=>qC (j+1) u L (by simpa using hu) (by simpa using A)) h2;refine⟨x::xs,by simp[k1],λi L y A R=> ?_,g2,k3⟩;cases i with
  |zero=>simp at A R;subst A;subst R;exact g1
  |succ i=>exact k2 i L y (by simpa using A) (by simpa using R)
theorem EZ{W W'}(V:laidOutB Q=O)(X:Below W.heap.size W W'){U}: ∀A vs B ps,(∀t∈A,Q.readableRec t=O/\t<Q.types.size)->
  DataW.TrodAll enc Q W 0 (λ_=>O) O A vs B ps->(∀p∈ps,p.block<W.heap.size)->(∀p∈ps,U p.block=O)->DataW.TrodAll enc Q W' 0 U O A vs B ps
 | [],vs,B,ps,_,h,_,_=>by obtain⟨rfl,rfl,rfl⟩:=trodAll_nil h;exact trodAll_mk0
 |t::A,vs,B,ps,hr,h,aZ,NT=>by obtain⟨v,L,d,R,p,q,rfl,rfl,rfl,h1,h2⟩:=trodAll_cons h;refine⟨p,q,WideElems.Trod_stays V (hr t (by simp)).1 (hr t (by simp)).2 h1 (λx l=>X.same (aZ x (by simp[l]))) (λx l=>NT x (by simp[l])),?_,rfl⟩;exact EZ V X A L R q (λu hu=>hr u (by simp[hu])) h2 (λx l=>aZ x (by simp[l])) (λx l=>NT x (by simp[l]))
theorem Xi{f}{s:ChangeSpec}{apart B l R W W' h L gs}{A tb}(hl:laidOutB Q=O)(hb:Below W.heap.size W W')
  (Xj: ∀t∈f.params.toList,Q.readableRec t=O/\t<Q.types.size) (KA:s.vars=[]) (KB:f.resultTypes= #[tb]) (htb:Q.underlying tb=Z .bool)
  (AW:s.fn H L={results:=[.lit (.bool O)],args:=L})
  (hW:DataW.Whole enc Q f.params.toList s.vars apart W h.toList L gs A):s.post enc Q f apart B l R W h (.bool O) W':=by
 have hW':=hW;obtain⟨p,q,hA,hV,rfl,hz,hn⟩:=hW;rw[KA] at hV;obtain⟨rfl,rfl⟩:=trodVars_none hV;have aZ: ∀x∈p,x.block<W.heap.size:=λx X=>by simpa using hW'.lt x (by simpa using X)
 have NT:s.fn H (L++[])={results:=[.lit (.bool O)],args:=L}:=by rw[zaL];exact AW
 have V: ∀(b:Nat) (U:Nat->Bool) (hd:Bool),DataW.TrodAll enc Q W' b U hd f.resultTypes.toList ((Value.bool O).resultList f.resultTypes.size) [.lit (.bool O)] []:=λb U hd=>by rw[KB];exact⟨[],[],shut_bool htb O,rfl,rfl⟩
 have keep: ∀U:Nat->Bool,(∀x∈p,U x.block=O)->DataW.TrodAll enc Q W' 0 U O f.params.toList h.toList L p:=λU hs=>EZ hl hb _ _ _ _ Xj hA aZ hs;refine⟨L,[],p++[],[],p,[],hW',?_,?_,?_,hb.frame _,λ_=>⟨?_,?_⟩⟩
 ·rw[NT];exact V _ _ _
 ·rw[NT];exact keep _ (λx X=>by simpa using aZ x X)
 ·rw[NT,KA];rfl
 ·exact ok_one KB rfl (okWide_bool_mk htb O)
 refine⟨_,[],p++[],⟨[]++p,[],trodAll_append (keep _ (λ_ _=>rfl)) (V _ _ _),by rw[KA];rfl,by simp,?_,?_⟩,λx X _=>X⟩
 ·intro b off hp;have hp':MemPlace.cell b off∈p:=by simpa using hp
  rw[hb.frozen (p:=⟨b,off,Y⟩) (aZ _ hp')];exact hz b off (by simpa using hp')
 intro ha;simpa using hn ha
end
theorem Hl{Q kp}(hm:Q.follows .mixedOrders=O){lf k f fn}(fj:Q.funcs[f]?=Z fn)(dt:fn.body.isSome=O)(iO:(fn.name== "runtime.NumGoroutine")=C)
  {xs p V} (cE:eL Q kp lf k f (xs.map Cs) []=Z (p,V)) {w} (hX:b7 Q {w with drawn:=0} kp.X) {vs} (B:J xs=J vs) (NJ: ∀(i:Nat) v x,vs[i]?=Z v->xs[i]?=Z x->bf (· <w.heap.size) w v x):
  Calls Q f ⟨vs⟩ w (λe w'=> ∃v F' G',e= .returned v/\aL F' w' G' V v p/\Below w.heap.size w w'):=by
 have hH:de Q ⟨λ_=>undef,{w with drawn:=0},0,C⟩ (· <w.heap.size) (λ_=>undef) w []:=
  ⟨.nil,za4 _,λt p hp=>by simp[lk] at hp,λn e l=>by simp[lk] at l,λn m e e' b l=>by simp[lk] at l,λn e b l=>by simp[lk] at l,λb A=>A,λn e i l=>by simp[lk] at l,λb A=>⟨A,rfl⟩,za4 _,za4 _⟩
 have bF:=lC hX hm k f (xs.map Cs) [] p V cE (· <w.heap.size) (λ_=>undef) w vs hH (by simp[B]) (λi v c hv L=>by
  rw[zaw] at L;cases U:xs[i]? with
  |none=>rw[U] at L;cases L
  |some x=>rw[U] at L;cases L;exact .d (NJ i v x hv U))
 have jM:(callFunc f ⟨vs⟩).run Q w= .ok (.enter f ⟨vs⟩) w:=by
  simp[callFunc,fj];rw[zat (by simpa using iO)];cases A:fn.body with
  |none=>rw[A] at dt;cases dt
  |some c=>simp
 rcases bF with⟨_,h⟩| ⟨v,w',h,_⟩
 ·refine h.mono λe w' ⟨v,l,F',G',h1,h2,R⟩=>⟨v,F',G',l,h2,R.os,R.tape,R.output,R.size,λb A=>R.keep b A (λ⟨n,e,l,_⟩=>by simp[lk] at l)⟩
 rw[jM] at h;cases h
theorem yF{H:Type}{enc:I×W->H}{Q w}: ∀l vs A ps,DataW.TrodAll enc Q w 0 (λ_=>O) O l vs A ps->J A=J l
 | [],vs,A,ps,h=>by obtain⟨_,rfl,_⟩:=trodAll_nil h;rfl
 |t::l,vs,A,ps,h=>by obtain⟨v,B,d,L,p,q,rfl,rfl,rfl,U,R⟩:=trodAll_cons h;simp[yF l B L q R]
def noX:CF:=λ_ _ _=>Y
theorem xw Q w:b7 Q w noX:=λl ps R p A h=>by simp[noX] at h
theorem Hm{Q kp}(hm:Q.follows .mixedOrders=O){m f fn}(fj:Q.funcs[f]?=Z fn)(dt:fn.body.isSome=O)(iO:(fn.name== "runtime.NumGoroutine")=C)
  {H:Type} {enc:I×Value->H} {s:ChangeSpec} {apart B l U tb} (hl:laidOutB Q=O) (Xj: ∀t∈fn.params.toList,Q.readableRec t=O/\t<Q.types.size) (qhY: ∀t∈fn.params.toList,mB Q m t=O) (KA:s.vars=[]) (KB:fn.resultTypes= #[tb]) (htb:Q.underlying tb=Z .bool)
  {W} (hX:b7 Q {W with drawn:=0} kp.X) {base h L gs A} (V: ∀(j:Nat) t v,fn.params[j]?=Z t->h[j]?=Z v->Value.okWide Q W .any base t v)
  (hW:DataW.Whole enc Q fn.params.toList s.vars apart W h.toList L gs A) (AW: ∀L,J L=J fn.params.toList->s.fn H L={results:=[.lit (.bool O)],args:=L})
  (cE: ∀xs,ua Q m fn.params.toList xs-> ∃lf k R,eL Q kp lf k f (xs.map Cs) []=Z (.d (.bool O),R)):
  Calls Q f h W λe W'=> ∃v,e= .returned v/\s.post enc Q fn apart B l U W h v W':=by
 obtain⟨p,q,hA,hV,_⟩:=id hW;obtain⟨xs,h1,h2,h3⟩:=Kz (Q:=Q) (w:=W) (base:=base) fn.params.toList h.toList L p qhY (λj t v ht hv=>V j t v (by simpa using ht) (by simpa using hv)) hA;obtain⟨lf,k,R,hR⟩:=cE xs h3;have hc:=Hl hm fj dt iO hR hX (vs:=h.toList) h1 h2;refine hc.mono λe W' ⟨v,F',G',he,hp,hb⟩=>⟨v,he,?_⟩
 have:=aL.cY (p:= .d (.bool O)) hp rfl;subst this;exact Xi hl hb Xj KA KB htb (AW L (yF _ _ _ _ hA)) hW
end Pi
namespace Pi
open Go Go.RowKit
section
variable{Q:Program}{w0 w:World}{F:Nat->Prop}{G:Nat->W}{f:FuncId}{vs:List W}
theorem de.later{T}(h:de Q T F G w []){w'}(U:T.w0.drawn=0)(B:Below w.heap.size w w'):de Q T F G w' []:=
 ⟨.nil,za4 _,λt p L=>by simp[lk] at L,λn e l=>by simp[lk] at l,λn m e e' b l=>by simp[lk] at l,λn e b l=>by simp[lk] at l,
  λb R=>zaR (h.gL b R) B.size,λn e i l=>by simp[lk] at l,λb A=>⟨(h.z b A).1,(B.block b (h.gL b (h.z b A).1)).trans (h.z b A).2⟩,by rw[U];exact za4 _,zaJ h.sz B.size⟩
theorem qcG G b: ¬Own G [] b:=λ⟨n,e,h,_⟩=>by simp[lk] at h
theorem oZ{T}(V:T.w0.drawn=0)(U:de Q T F G w [])(R:(callFunc f ⟨vs⟩).run Q w= .ok (.enter f ⟨vs⟩) w){p}
  (h:Calls Q f ⟨vs⟩ w λe w'=> ∃v,e= .returned v/\Below w.heap.size w w'/\ ∀F G,aL F w' G [] v p):
  jq Q f ⟨vs⟩ w (λv w'=> ∃F' A,de Q T F' A w' []/\aL F' w' A [] v p/\Ext (Own G []) (Own A []) F F' w w'):=by
 refine .inl ⟨R,h.mono λe w' ⟨v,L,l,B⟩=>⟨v,L,F,G,U.later V l,B F G,⟨λ_ h=>h,λ_ h=> .inl h,λb h=>absurd h (qcG G b),λb X _=>l.block b X,l.size,l.os,l.tape,l.output⟩⟩⟩
end
end Pi
namespace Pi
open Go
abbrev ob b (A:Prop):=cond b A False
theorem ao{b}{A:Prop}(l:b=O)(h:A):cond b A False:=by subst l;exact h
theorem az{b}{A B:Prop}(l:b=O->A)(h:b=C->B):cond b A B:=by cases b with |true=>exact l rfl |false=>exact h rfl
theorem nM{b}{A B:Prop}(l:b=O)(h:A):cond b A B:=by subst l;exact h
theorem nN{b}{A B:Prop}(l:b=C)(h:B):cond b A B:=by subst l;exact h
theorem qhZ{Q:Program}(l:List I) A (h:(bo (J A) (J l)&&A.all λt=>Q.readableRec t&&Nat.blt t Q.types.size)=O): ∀t∈A,Q.readableRec t=O/\t<Q.types.size:=λt B=>by simp only[zac] at h;have:=za8.1 h.2 t B;simp only[zac] at this;exact⟨this.1,zbL this.2⟩
theorem qcH{Q m}(l:List I) A (h:(bo (J A) (J l)&&A.all λt=>mB Q m t)=O): ∀t∈A,mB Q m t=O:=λt B=>by simp only[zac] at h;exact za8.1 h.2 t B
theorem fitAll_cons{Q m t l}: ∀{xs:List D},ua Q m (t::l) xs-> ∃x r,xs=x::r/\DP Q m t x/\ua Q m l r
 | [],h=>h.elim
 |x::r,h=>⟨x,r,rfl,h.1,h.2⟩
theorem fitAll_nil{Q m}: ∀{xs:List D},ua Q m [] xs->xs=[]
 | [],_=>rfl
 |_::_,h=>h.elim
def EqP(a b:List P):=a=b
def EqR(a b:List (Nat×En)):=a=b
def bD(b:UInt8):D:= .int .u8 b.toNat
@[simp] theorem Hn: ∀l k,bytesOf (l.take k)=(bytesOf l).take k
 | [],k=>by simp[bytesOf]
 |x::r,0=>by simp[bytesOf]
 |x::r,k+1=>by simp[bytesOf,Hn r k]
@[simp] theorem Ho: ∀l k,bytesOf (l.drop k)=(bytesOf l).drop k
 | [],k=>by simp[bytesOf]
 |x::r,0=>by simp
 |x::r,k+1=>by simp[bytesOf,Ho r k]
@[simp] theorem By: ∀l m,bytesOf (l++m)=bytesOf l++bytesOf m
 | [],m=>rfl
 |x::r,m=>by simp[bytesOf,By r m]
@[simp] theorem KC: ∀s,bytesOf (s.map bD)=s
 | []=>rfl
 |b::r=>by simp[bytesOf,KC r,AC,bD]
theorem yG: ∀l k,jj l=O->jj (l.take k)=O
 | [],k,_=>by simp[jj]
 |x::r,0,_=>by simp[jj]
 |x::r,k+1,h=>by
  cases x with
  |int kd n=>cases kd<;>simp[jj] at h⊢;exact yG r k h
  |_=>simp[jj] at h
@[simp] theorem Bz: ∀s:List UInt8,jj (s.map bD)=O
 | []=>rfl
 |b::r=>by simp[jj,Bz r,bD]
@[simp] theorem Vf (s:List UInt8) n:jj ((s.map bD).take n)=O:=yG _ _ (Bz s)
theorem aA{α:Type}(f:α->D) l i (h:i<J l):BC (l.map f) i=f l[i]:=by simp[BC,h]
theorem bP{n b}(h:n*b<=140737488355328)(l:n<=9223372036854775807):aB n b=O:=by simp[aB,h,l]
def ah(keep:Option (List Nat×List Nat))(g:S->K (PX×S)):S->K (PX×S):=λs E=>match cQ keep s with |Z s0=>g s0 E |Y=>False
theorem KD{body keep g}(h: ∀s0,KW (g s0) (λx=>eP body keep s0 x)) s:KW (ah keep g s) (λx=>Ev λa b=>jK (body a b) keep a s=Z x):=λE l=>by
 unfold ah at l;split at l
 next s0 L=>obtain⟨x,B,A⟩:=h s0 E l;exact⟨x,B.ev L,A⟩
 exact l.elim
theorem QB{Q kp f}: ∀id g,lk ([]:List (Nat×(S->K (PX×S)))) id=Z g-> ∀s,KW (g s) (λx=>Ev λa b=>jK (cv Q (eL Q kp a b) (kp f) a (bA Q f id)) (kp f id) a s=Z x):=λid g h=>by simp[lk] at h
theorem qcI{Q kp}{f id:Nat}{g:S->K (PX×S)}(h: ∀s,KW (g s) (λx=>Ev λa b=>jK (cv Q (eL Q kp a b) (kp f) a (bA Q f id)) (kp f id) a s=Z x)){r}
  (R: ∀id g,lk r id=Z g-> ∀s,KW (g s) (λx=>Ev λa b=>jK (cv Q (eL Q kp a b) (kp f) a (bA Q f id)) (kp f id) a s=Z x)):
  ∀l B,lk ((id,g)::r) l=Z B-> ∀s,KW (B s) (λx=>Ev λa b=>jK (cv Q (eL Q kp a b) (kp f) a (bA Q f l)) (kp f l) a s=Z x):=λl B A=>by
 simp only[lk] at A;split at A
 next L=>have L:=zad L;subst L;simp only[zai] at A;subst A;exact h
 exact R l B A
end Pi
namespace Pi
open Go
abbrev TF:=List P->List (Nat×En)->Option (P×List (Nat×En))
def xOf:List (Nat×TF)->CF
 | [],_,_,_=>Y
 | (n,g)::r,f,ps,R=>if bo n f then g ps R else xOf r f ps R
def zN Q w0 (A:Nat)(g:TF):=
 w0.drawn=0-> ∀ps R p h,g ps R=Z (p,h)-> ∀(F:Nat->Prop) (G:Nat->W) (w:World) (vs:List W),de Q ⟨G,w0,0,C⟩ F G w R->J vs=J ps->
  (∀(i:Nat) (v:W) (c:P),vs[i]?=Z v->ps[i]?=Z c->aL F w G R v c)->
  jq Q A ⟨vs⟩ w (λv w'=> ∃F' l,de Q ⟨G,w0,0,C⟩ F' l w' h/\aL F' w' l h v p/\Ext (Own G R) (Own l h) F F' w w')
inductive Tw(Q:Program)(w0:World):List (Nat×TF)->Prop
 |nil:Tw Q w0 []
 |cons {n:Nat} {g:TF} {r:List (Nat×TF)} (h:zN Q w0 n g) (hr:Tw Q w0 r):Tw Q w0 ((n,g)::r)
theorem Tw.ok{Q w0 l}(U:w0.drawn=0)(h:Tw Q w0 l):b7 Q w0 (xOf l):=by
 induction h with
 |nil=>intro f ps R p L h;cases h
 |cons h hr ih=>
  intro f ps R p L A;unfold xOf at A;split at A
  next B=>have B:=zad B;subst B;exact h U ps R p L A
  exact ih f ps R p L A
theorem hZ{w:World}{b cs T l}(h:w.heap[b]?=Z (.cells cs T l)) i:w.cell? ⟨b,i,Y⟩=cs[i]?:=by simp[World.cell?,h]
theorem vA{cs:Array W}{i}(h:i<cs.size):cs[i]?=Z (cs.getD i undef):=by simp[h]
theorem enters{Q f fn}(B:Q.funcs[f]?=Z fn)(h:fn.body.isSome=O)(l:(fn.name== "runtime.NumGoroutine")=C) vs  w:(callFunc f vs).run Q w= .ok (.enter f vs) w:=by
 simp[callFunc,B];rw[zat (by simpa using l)];cases A:fn.body with
 |none=>rw[A] at h;cases h
 |some c=>simp
end Pi
namespace Pi
open Go Go.RowKit
section
variable{Q:Program}
def DQ Q kp g x y i:=Ev λlf k=>eL Q kp lf k g [.d x,.d y] []=Z (.d (.int DD i),[])
noncomputable def nz Q kp g x y:=by classical exact if h: ∃i,DQ Q kp g x y i then h.choose else 0
structure nO(Q:Program)(kp:qB)(g:FuncId)(es:List D)(cf:D->D->Int):Prop where
 fn: ∃fn,Q.funcs[g]?=Z fn/\fn.body.isSome=O/\(fn.name== "runtime.NumGoroutine")=C
 ag: ∀x∈es,∃cs,x= .agg cs
 len:J es<4611686018427387904
 run: ∀x∈es,∀y∈es,DQ Q kp g x y (cf x y)
 KE: ∀x∈es,¬cf x x<0
 tr: ∀x∈es,∀y∈es,∀z∈es,cf x y<0->cf y z<0->cf x z<0
 ntr: ∀x∈es,∀y∈es,∀z∈es,¬cf x y<0-> ¬cf y z<0-> ¬cf x z<0
def el(es:List D) i:=es.getD (if i<J es then i else 0) .cd
theorem ow{es}(h:0<J es) i:el es i∈es:=by
 unfold el;split
 next l=>rw[zaj,zae l];exact zay l
 rw[zaj,zae h];exact zay h
def lg(cf:D->D->Int) es:=
 if 0<J es then(Go.Sort.pdq (Go.Proofs.ltOf λi j:Nat=>cf (el es i) (el es j)) (te (J es)) 0 (J es) (Lib.bitLen (J es)) O O).toList.map (el es) else []
theorem Oo{kp g es cf}(h:nO Q kp g es cf)(l:0<J es):Go.Sort.SWO (Go.Proofs.ltOf λi j:Nat=>cf (el es i) (el es j)):=by
 constructor
 ·intro x;exact za7 (h.KE _ (ow l x))
 ·intro x y z B A;exact za6 (h.tr _ (ow l x) _ (ow l y) _ (ow l z) (zbF B) (zbF A))
 intro x y z B A;exact za7 (h.ntr _ (ow l x) _ (ow l y) _ (ow l z) (zc1 B) (zc1 A))
theorem pS{kp g es cf}(h:nO Q kp g es cf):(lg cf es).Perm es/\(lg cf es).Pairwise λa b=> ¬cf b a<0:=by
 by_cases U:0<J es
 ·obtain⟨B,l⟩:=Go.Sort.pdq_sorts (Go.Proofs.ltOf λi j:Nat=>cf (el es i) (el es j)) (Oo h U) (te (J es)) 0 (J es) (Lib.bitLen (J es)) O O (za4 _) (by simp) (Or.inl rfl);unfold lg;rw[zau U];generalize Go.Sort.pdq (Go.Proofs.ltOf λi j:Nat=>cf (el es i) (el es j)) (te (J es)) 0 (J es) (Lib.bitLen (J es)) O O=d at B l;obtain⟨A,_,L⟩:=B;simp only[zcH] at A;have e1:d.extract 0 (J es)=d:=by rw[<-A];simp
  have e2:(te (J es)).extract 0 (J es)=te (J es):=by simp
  rw[e1,e2] at L;constructor
  ·have:=L.map (el es);refine this.trans (List.Perm.of_eq ?_);apply zbU
   ·simp
   intro i B l;simp[el,l]
  rw[za1,zba];intro i j X R V;have:=l i j (za4 _) V (by simpa [A] using R);rw[zct d i (by simpa using X),zct d j (by simpa using R)] at this;simpa [Go.Proofs.ltOf] using this
 have:es=[]:=zaz (by omega);subst this;exact⟨List.Perm.refl _,List.Pairwise.nil⟩
open Classical in
noncomputable def rG(Q:Program)(kp:qB)(ty:TypeId):TF
 | [.sl n v len,.fn g []],R=>match lk R n with
  |some e=>(match e.obj with
   | .arr ty' false es=>if v=e.aU/\ty'=ty/\len<=es.length/\nO Q kp g (es.take len) (nz Q kp g) then some (.cy [],ins n ⟨e.aU,e.tag,.arr ty false (lg (nz Q kp g) (es.take len)++es.drop len)⟩ R) else none
   |_=>none)
  |none=>none
 |_,_=>none
theorem DQ.one{kp g x y i j}(h:DQ Q kp g x y i)(B:DQ Q kp g x y j):i=j:=by obtain⟨a,b,A,l⟩:=(Ev.and h B).some;rw[A] at l;simpa using l
theorem QC{kp g x y i}(h:DQ Q kp g x y i):nz Q kp g x y=i:=by
 unfold nz;have l: ∃i,DQ Q kp g x y i:=⟨i,h⟩
 rw[dif_pos l];exact l.choose_spec.one h
theorem nO.cf{kp g es cf}(h:nO Q kp g es cf):nO Q kp g es (nz Q kp g):=by have e: ∀x∈es,∀y∈es,nz Q kp g x y=cf x y:=λx l y A=>QC (h.run x l y A);refine⟨h.fn,h.ag,h.len,λx l y A=>by rw[e x l y A];exact h.run x l y A,λx l=>by rw[e x l x l];exact h.KE x l,λx l y A z B=>by rw[e x l y A,e y A z B,e x l z B];exact h.tr x l y A z B,λx l y A z B=>by rw[e x l y A,e y A z B,e x l z B];exact h.ntr x l y A z B⟩
def qh0(Q:Program)(kp:qB)(ty:I):bc:=λps R E=> ∃n g e es tl cf,ps=[.sl n e.aU (J es),.fn g []]/\lk R n=Z e/\e.obj= .arr ty C (es++tl)/\nO Q kp g es cf/\
 ∀h:List D,h.Perm es->h.Pairwise (λa b=> ¬cf b a<0)->E (.cy [],ins n ⟨e.aU,e.tag,.arr ty C (h++tl)⟩ R)
def qf6(Q:Program)(kp:qB)(ty:I):bc:=λps R E=> ∃n g e es cf,ps=[.sl n e.aU (J es),.fn g []]/\lk R n=Z e/\e.obj= .arr ty C es/\nO Q kp g es cf/\
 ∀h:List D,h.Perm es->h.Pairwise (λa b=> ¬cf b a<0)->E (.cy [],ins n ⟨e.aU,e.tag,.arr ty C h⟩ R)
theorem KG{kp ty ps R}{E}(h:qh0 Q kp ty ps R E): ∃x,rG Q kp ty ps R=Z x/\E x:=by
 obtain⟨n,g,e,es,tl,cf,rfl,U,bZ,L,dV⟩:=h;have l:=L.cf;refine⟨_,?_,dV (lg (nz Q kp g) es) (pS l).1 ?_⟩
 ·unfold rG;simp only[U,bZ];rw[zbH rfl,List.drop_left' rfl,zau ⟨rfl,rfl,by rw[zaf];exact zdf _ _,l⟩]
 refine List.Pairwise.imp_of_mem ?_ (pS l).2;intro a b X V A;have B:=(pS l).1.mem_iff.1 X;have db:=(pS l).1.mem_iff.1 V;rwa [QC (L.run b db a B)] at A
theorem jZ{kp ty ps R}{E}(h:qf6 Q kp ty ps R E): ∃x,rG Q kp ty ps R=Z x/\E x:=by obtain⟨n,g,e,es,cf,rfl,l,X,A,U⟩:=h;refine KG ⟨n,g,e,es,[],cf,rfl,l,by rw[X,zaL],A,λV L B=> ?_⟩;rw[zaL];exact U V L B
theorem DR{w w'}(h:Go.RowKit.Below w.heap.size w w')(hd:w.drawn<=w'.drawn): ∃q os,w'=Go.Sort.grow (w.drewN q) os:=by
 refine⟨w'.drawn-w.drawn,w'.heap.extract w.heap.size w'.heap.size,?_⟩;have e:w'.heap=w.heap++w'.heap.extract w.heap.size w'.heap.size:=by
  apply zc0;intro i;by_cases l:i<w.heap.size
  ·rw[zb0 l];exact h.block i l
  rw[Array.getElem?_append_right (by omega),Array.getElem?_extract];simp only[Nat.min_self];split
  ·congr 1;omega
  exact zcL (by omega)
 cases w' with
 |mk heap tape drawn os output=>have L:=h.os;have B:=h.tape;have A:=h.output;simp only at L B A e hd;subst L B A;unfold Go.Sort.grow World.drewN;simp only;rw[<-e,Nat.add_sub_cancel' hd]
theorem Tx{kp}(hm:Q.follows .mixedOrders=O){g fn}(fj:Q.funcs[g]?=Z fn)(dt:fn.body.isSome=O)(iO:(fn.name== "runtime.NumGoroutine")=C)
  {x y i} (cE:DQ Q kp g x y i) {w} (hX:b7 Q w kp.X) {L B} (h1:bf (· <w.heap.size) w L x) (V:bf (· <w.heap.size) w B y):
  Calls Q g #[L,B] w (λe w'=>e= .returned (.int DD i)/\ ∃q os,w'=Go.Sort.grow (w.drewN q) os):=by
 obtain⟨lf,k,cE⟩:=cE.some;have hH:de Q ⟨λ_=>undef,w,0,C⟩ (· <w.heap.size) (λ_=>undef) w []:=
  ⟨.nil,za4 _,λt p hp=>by simp[lk] at hp,λn e l=>by simp[lk] at l,λn m e e' b l=>by simp[lk] at l,λn e b l=>by simp[lk] at l,λb A=>A,λn e i l=>by simp[lk] at l,λb A=>⟨A,rfl⟩,zag _,za4 _⟩
 have bF:=lC hX hm k g [.d x,.d y] [] _ _ cE (· <w.heap.size) (λ_=>undef) w [L,B] hH rfl (λj v c R hc=>by
  match j with
  |0=>cases R;cases hc;exact .d h1
  |1=>cases R;cases hc;exact .d V
  |j+2=>cases R)
 have jM:(callFunc g ⟨[L,B]⟩).run Q w= .ok (.enter g ⟨[L,B]⟩) w:=by
  simp[callFunc,fj];rw[zat (by simpa using iO)];cases A:fn.body with
  |none=>rw[A] at dt;cases dt
  |some c=>simp
 rcases bF with⟨_,h⟩| ⟨v,w',h,_⟩
 ·refine h.mono λe w' ⟨v,l,F',G',h1,V,U⟩=> ?_;have R:=aL.cY (p:= .d (.int DD i)) V rfl;subst R;exact⟨l,DR ⟨U.os,U.tape,U.output,U.size,λb A=>U.keep b A (λ⟨n,e,l,_⟩=>by simp[lk] at l)⟩ h1.dr⟩
 rw[jM] at h;cases h
open Go.Sort Go.Proofs in
theorem kX{enc:Nat->List Value}{k:Nat}{w:World}{b m:Nat}{dk:Array Nat}{os:Array Go.Obj}{c:Nat}(h:c<w.heap.size)(l:c≠b):(sortWorldK enc k w b 0 m dk os).heap[c]?=w.heap[c]?:=by unfold sortWorldK grow;simp only;rw[zb0 (by rw[size_putRowK];exact h)];unfold putRowK putRow mapBlock;simp only[zbN];rw[zat (za0 l)];rfl
open Go.Sort Go.Proofs in
theorem BA{enc:Nat->List Value}{k:Nat}{w:World}{b m:Nat}{dk:Array Nat}{os:Array Go.Obj}{cs:Array Value}{ty:TypeId}(h:w.heap[b]?=some (.cells cs ty (0,0))):
  ∃l,(sortWorldK enc k w b 0 m dk os).heap[b]?=some (.cells l ty (0,0))/\l.size=cs.size/\ ∀p,dk.size*k<=p->l[p]?=cs[p]?:=by
 have A:=(zar.1 h).1;unfold sortWorldK grow;simp only;rw[zb0 (by rw[size_putRowK];exact A)];unfold putRowK putRow mapBlock;simp only[zbN];have B:(Go.Sort.ahead w m).heap[b]?=some (.cells cs ty (0,0)):=h;rw[zau trivial,B];refine⟨_,rfl,by simp[putCells],λp L=> ?_⟩;unfold putCells;rw[Array.getElem?_mapIdx,size_flatK];have: ¬(0<=p/\p<0+dk.size*k):=by omega
 cases cs[p]? with
 |none=>rfl
 |some x=>exact congrArg some (zat this)
def sJ n k (cs:Array W) i:=(List.range k).map λj=>cs.getD ((if i<n then i else 0)*k+j) undef
theorem QD{F F' w w' cs k}{es}(hE:nw F w cs k es)(h0:0<J es)(hF: ∀c,F c->F' c)(V: ∀c,F c->w'.heap[c]?=w.heap[c]?)(ha: ∀x∈es,∃cs,x= .agg cs) i:
  bf F' w' (.agg (sJ (J es) k cs i).toArray) (el es i):=by
 have hi:(if i<J es then i else 0)<J es:=by split<;>assumption
 have U:es[if i<J es then i else 0]?=Z (el es i):=by unfold el;rw[zaj,zae hi];rfl
 obtain⟨xs,B⟩:=ha _ (ow h0 i);obtain⟨h,L,A⟩:=hE _ _ U;rw[B] at h L A⊢;refine .agg _ xs (by simp only[D.cells] at h;simp[sJ,h]) L λj v c l R=> ?_;simp only[D.cells] at h A;have X:j<k:=by rw[<-h];exact(zab.1 R).1
 unfold sJ at l;rw[zaw,List.getElem?_range X] at l;simp only[zaB,zai] at l;subst l;exact(A j c R).mono hF V
theorem qcJ{F w cs k}{es}(X:nw F w cs k es)(h0:0<J es) i: ∀v∈sJ (J es) k cs i,v.oneCell'=O:=by
 intro v A;have V:(if i<J es then i else 0)<J es:=by split<;>assumption
 obtain⟨U,R,L⟩:=X _ _ (zae V);unfold sJ at A;obtain⟨j,h,rfl⟩:=zal.1 A;have h:=List.mem_range.1 h;have B:=zae (l:=es[if i<J es then i else 0].cells) (by rw[U];exact h);exact(L j _ B).pI (R _ (zas B))
open Go.Sort Go.Proofs Go.Shelf in
set_option maxHeartbeats 1000000 in
theorem o4{kp:qB}(hX: ∀w,b7 Q w kp.X){ρ:Ren}(L:SlLaysF0.n6 Q ρ){f:FuncId}(hf:f=ρ.f 6)(fj: ∀(vs:Array Value) (w:World),(callFunc f vs).run Q w= .ok (.enter f vs) w){ty:TypeId}{k:Nat}(hk:sz Q ty=some k)
  (aE: ∀w,(isAgg (ρ.t 24)).run Q w= .ok true w) (zE: ∀w,(Go.sizeOf (ρ.t 24)).run Q w= .ok k w) (w0:World):zN Q w0 f (rG Q kp ty):=by
 intro h0 ps R p R1 h F G w vs hH hl hv;unfold rG at h;split at h
 next n v len g=>
  split at h
  next e he=>
   split at h
   ·rename_i A es0 bZ;split at h
    ·rename_i l;obtain⟨rfl,rfl,hlen,l⟩:=l;obtain⟨es,tl,rfl,rfl⟩: ∃es tl,es0=es++tl/\len=es.length:=⟨es0.take len,es0.drop len,(zbg _ _).symm,by rw[zaG];omega⟩
     rw[zbH rfl] at l;rw[zbH rfl,List.drop_left' rfl] at h;simp only[zai,zbd] at h;obtain⟨rfl,rfl⟩:=h
     match vs,hl,hv with
     | [u0,u1],_,hv=>
      have hp0:=hv 0 u0 _ rfl rfl;have ou:=hv 1 u1 _ rfl rfl;have hO:=hH.rg n e he;rw[bZ] at hO;cases hp0 with
      |sl _ _ _ _ h1 hr=>
       cases ou with
       |fn _ ws _ hws _=>
        have:=zaz (by simpa using hws);subst this;obtain⟨a,N,cap,hG,rfl,_⟩:=hr.at he rfl (by rw[bZ];rfl);have fh:mj G R n ⟨e.aU,e.tag,.arr A false (lg (nz Q kp g) es++tl)⟩ (G n):=λe1 zh=>by rw[he] at zh;cases zh;exact .inr ⟨rfl,λ_=>⟨by rw[bZ];rfl,rfl⟩⟩
        have fin: ∀(w':World),w.drawn<=w'.drawn->(∀c,c<w.heap.size-> ¬(∃e',lk R n=some e'/\a7 (G n) e'.obj c)->w'.heap[c]?=w.heap[c]?)->w.heap.size<=w'.heap.size->w'.os=w.os->w'.tape=w.tape->w'.output=w.output->
          ny Q F w' G (ins n ⟨e.aU,e.tag,.arr A false (lg (nz Q kp g) es++tl)⟩ R) n (.arr A false (lg (nz Q kp g) es++tl))->
          ∃F' G',de Q ⟨G,w0,0,false⟩ F' G' w' (ins n ⟨e.aU,e.tag,.arr A false (lg (nz Q kp g) es++tl)⟩ R)/\aL F' w' G' (ins n ⟨e.aU,e.tag,.arr A false (lg (nz Q kp g) es++tl)⟩ R) (.tuple #[]) (.cy [])/\Ext (Own G R) (Own G' (ins n ⟨e.aU,e.tag,.arr A false (lg (nz Q kp g) es++tl)⟩ R)) F F' w w':=by
         intro w' hd eT dy Wm htp bF J5;obtain⟨d1,d2⟩:=ax.gj hH (e1:=⟨e.aU,e.tag,.arr A false (lg (nz Q kp g) es++tl)⟩) (g1:=G n) (w':=w') (hdr:=hd) fh eT dy Wm htp bF
          (λc l=> .inr ⟨e,he,by rw[bZ];exact l⟩) (by rw[bH];exact J5) (λi hi _=>hH.tag n e i he hi (by rw[bZ];rfl))
         rw[bH] at d1 d2;exact⟨F,G,d1,.cy [] [] rfl (λi v c hv _=>by simp at hv),d2⟩
        by_cases hn:0<es.length
        ·obtain⟨b,iZ,cs,k',kq,hh,jL,ix,hle,yf,dy,_,hE⟩: ∃b cap cs k,G n= .slice (some ⟨b,0,none⟩) (es++tl).length cap/\w.heap[b]?=some (.cells cs A (0,0))/\sz Q A=some k/\0<k/\(es++tl).length<=cap/\cap<=maxLen/\cs.size=cap*k/\(false=true->F b)/\nw F w cs k (es++tl):=by
          rcases hO with⟨_,Qp⟩|hO
          ·rw[(List.append_eq_nil_iff.1 Qp).1] at hn;simp at hn
          exact hO
         rw[hk] at jL;cases jL;rw[hG] at kq;cases kq;have hE0:=hE;have hE:nw F w cs k es:=λi x V=>hE0 i x (by rw[zaP (zab.1 V).1];exact V);have qhG:=hle;have hle:es.length<=cap:=by rw[zaf] at qhG;omega
         have rj:=(zar.1 hh).1;have Ws:=hH.jb n e b he (by rw[bZ];simp[a7,hG,aI]);have qlF: ∀c,F c->c≠b:=λc l e'=>Ws (e'▸l);obtain⟨fn,g1,g2,g3⟩:=l.fn;have eg: ∀B w,(callFunc g B).run Q w= .ok (.enter g B) w:=λB w=>enters g1 g2 g3 B w;have Wj:CmpLays Q g #[] (sJ es.length k cs) k (λi j:Nat=>nz Q kp g (el es i) (el es j)) b 0 (Array.range es.length).size w:=by intro m os dk hs x y;have hFw: ∀c,F c->(sortWorldK (sJ es.length k cs) k w b 0 m dk os).heap[c]?=w.heap[c]?:=λc l=>kX (hH.gL c l) (qlF c l);have hFs: ∀c,F c->c<(sortWorldK (sJ es.length k cs) k w b 0 m dk os).heap.size:=λc l=>zaR (hH.gL c l) (size_sortWorldK_c _ _ _ _ _ _ _ _);exact Tx L.mixed g1 g2 g3 (l.run _ (ow hn x) _ (ow hn y)) (hX _) (QD hE hn hFs hFw l.ag x) (QD hE hn hFs hFw l.ag y)
         have hHo:HoldsK (sJ es.length k cs) k w b 0 (Array.range es.length):=by
          intro j hj;have hj:j<es.length*k:=by simpa using hj
          have hjk:=Nat.div_lt_of_lt_mul (by rw[zcj];exact hj);have hjm:j%k<k:=zc5 _ ix;have hjs:j<cs.size:=by rw[dy];exact zaR hj (zaq k hle)
          refine⟨?_,by simp[World.frozen?,hh]⟩;rw[hZ hh,get_flatK _ _ _ _ (by simpa using hj)];rw[zct (Array.range es.length) (j/k) (by simpa using hjk),Array.getElem_range];unfold sJ;rw[zct _ (j%k) (by simpa using hjm)];simp only[List.getElem_map,List.getElem_range,zau hjk,id];rw[zaE,zcj,zdj];exact vA hjs
         have jM:=AnyQ.slices_SortFunc_eq L k aE zE (sJ es.length k cs) (λx=>by simp[sJ]) (qcJ hE hn) (λi j:Nat=>nz Q kp g (el es i) (el es j)) (Oo l hn) g #[] b 0 cap (Array.range es.length) w eg Wj hHo rj (by simp only[zcH];exact l.len);obtain⟨s1,_⟩:=pdq_sorts (Go.Proofs.ltOf λi j:Nat=>nz Q kp g (el es i) (el es j)) (Oo l hn) (Array.range es.length) 0 es.length (Lib.bitLen es.length) true true (za4 _) (by simp) (Or.inl rfl);simp only[zcH] at jM;have hsD:lg (nz Q kp g) es=(pdq (Go.Proofs.ltOf λi j:Nat=>nz Q kp g (el es i) (el es j)) (Array.range es.length) 0 es.length (Lib.bitLen es.length) true true).toList.map (el es):=by unfold lg;rw[zau hn]
         generalize pdq (Go.Proofs.ltOf λi j:Nat=>nz Q kp g (el es i) (el es j)) (Array.range es.length) 0 es.length (Lib.bitLen es.length) true true=dk at jM s1 hsD;obtain⟨p1,_,_⟩:=s1;simp only[zcH] at p1;refine .inl ⟨fj _ w,?_⟩;rw[hf];refine jM.mono λe' w' ⟨cP,n',os,zO⟩=>⟨_,cP,?_⟩
         subst zO;have KH:(lg (nz Q kp g) es).length=es.length:=by rw[hsD];simp[p1]
         have hFw: ∀c,F c->(sortWorldK (sJ es.length k cs) k w b 0 n' dk os).heap[c]?=w.heap[c]?:=λc l=>kX (hH.gL c l) (qlF c l);refine fin _ (by unfold sortWorldK grow putRowK putRow mapBlock Go.Sort.ahead;exact zdf _ _) (λc l cD=>kX l (λe'=>cD ⟨e,he,by rw[e',bZ];simp[a7,hG,aI]⟩)) (size_sortWorldK_c _ _ _ _ _ _ _ _) rfl rfl rfl ?_;obtain⟨nj,hh',hs',hs2⟩:=BA (enc:=sJ es.length k cs) (k:=k) (m:=n') (dk:=dk) (os:=os) hh;refine .inr ⟨b,cap,nj,k,by rw[zaf,KH,<-zaf];exact hG,hh',hk,ix,by rw[zaf,KH,<-zaf];exact qhG,yf,by rw[hs'];exact dy,(λh=>by cases h),?_⟩;have qrk:=holdsK_sortWorldK_c (sJ es.length k cs) k w b 0 (Array.range es.length) dk n' os hHo rj (by simp[p1]);intro i x V;by_cases zl:es.length<=i
         ·rw[zaZ (by rw[KH];exact zl),KH] at V;obtain⟨q1,q2,q3⟩:=hE0 i x (by rw[zaZ zl];exact V);refine⟨q1,q2,λj c hjc=> ?_⟩;have hp:dk.size*k<=i*k+j:=by rw[p1];exact zaJ (zaq k zl) (zdf _ _)
          rw[zaA,hs2 _ hp,<-zaA];exact(q3 j c hjc).mono (λ_ h=>h) hFw
         rw[zaP (by rw[KH];omega),hsD,zaw] at V;have U:i<dk.size:=by
          by_cases U:i<dk.size
          ·exact U
          rw[zbq (by simpa using U)] at V;cases V
         have hdi:dk.toList[i]?=some dk[i]!:=by rw[zbM,zby U,zct dk i U]
         rw[hdi] at V;simp only[zaB,zai] at V;subst V;have hii:(if dk[i]!<es.length then dk[i]! else 0)<es.length:=by split<;>assumption
         obtain⟨q1,q2,q3⟩:=hE _ _ (show es[if dk[i]!<es.length then dk[i]! else 0]?=some (el es dk[i]!) by unfold el;rw[zaj,zae hii];rfl);refine⟨q1,q2,λj c hjc=> ?_⟩;have hj:j<k:=by rw[<-q1];exact(zab.1 hjc).1
         have:=(HoldsK.cell qrk U hj).1;rw[hZ hh'] at this;unfold sJ at this;rw[zct _ j (by simpa using hj)] at this;simp only[List.getElem_map,List.getElem_range] at this;rw[zaE] at this;rw[zaA,this];exact(q3 j c hjc).mono (λ_ h=>h) hFw
        have Qp:es=[]:=zaz (by omega);subst Qp;refine .inl ⟨fj _ w,?_⟩;rw[hf];refine(AnyF.slices_SortFunc_none L a cap (.func (.func g) #[] ⟨[]⟩) w).mono λe' w' ⟨cP,zO⟩=>⟨_,cP,?_⟩
        subst zO;refine fin w' (zag _) (λc l _=>rfl) (zag _) rfl rfl rfl ?_;have hsD:lg (nz Q kp g) []=[]:=rfl;rw[hsD];rw[zbt] at hO⊢;rcases hO with⟨hg,_⟩| ⟨b,iZ,cs,k',kq,hh,jL,ix,hle,yf,dy,h7,hE⟩
        ·exact .inl ⟨hg,by assumption⟩
        exact .inr ⟨b,iZ,cs,k',kq,hh,jL,ix,hle,yf,dy,h7,hE⟩
    cases h
   cases h
  cases h
 cases h
end
end Pi
namespace Pi
open Go
theorem qcK Q kf kp xs X Y hk dc lf:
 oO Q kf ⟨kp,xs,X⟩ hk dc lf=oO Q kf ⟨kp,xs,Y⟩ hk dc lf:=rfl
theorem Oq Q kp xs X Y dc H lf: ∀k,
  runK Q ⟨kp,xs,X⟩ dc H lf k=runK Q ⟨kp,xs,Y⟩ dc H lf k
 |0=>rfl
 |k+1=>by funext f ps R;unfold runK;rw[Oq Q kp xs X Y dc H lf k,qcK Q _ kp xs X Y]
end Pi
namespace Pi
open Go Go.ChangeShapes Go.WideShapes Go.RowKit
mutual
def qf7:D->Nat
 | .str l=>J l
 | .sl _ es=>qf8 es
 | .agg cs=>Xk cs
 |_=>0
def qf8:List D->Nat
 | []=>0
 |x::r=>1+qf7 x+qf8 r
def Xk:List D->Nat
 | []=>0
 |x::r=>qf7 x+Xk r
end
mutual
def qlG{H:Type}:DataW H->Nat
 | .lit (.string bytes)=>J bytes+1
 | .slice elems spare=>Hp elems+Hp spare+1
 | .agg parts=>Hp parts+1
 |_=>1
def Hp{H:Type}:List (DataW H)->Nat
 | []=>0
 |d::r=>qlG d+Hp r
end
section
variable{H:Type}{enc:I×W->H}{Q:Program}{w:World}
end
end Pi
