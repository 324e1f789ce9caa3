/- The text PiDrawOk2. -/
import Derived.Test.YtngoddkencoalaaGreatDoorPiDrawOk
import Derived.Orders
namespace Pi
open Go
theorem aB.alike {Q:Program} {T:Tg} {F:Nat->Prop} {G:Nat->Value} {w:World} {a:Act} {s s2:S} (h:aB Q T F G w a s) (hn:s.n=s2.n) (hr:s.rg=s2.rg) (ht: ∀t,lk s.tm t=lk s2.tm t):aB Q T F G w a s2:=
 ⟨hr▸h.qV,hn▸h.size,fun t p hp=>by rw[<-hr];exact h.tm t p ((ht t).trans hp),fun n e he=>by rw[<-hr] at he⊢;exact h.rg n e he,
  fun n m e e' b he cF=>by rw[<-hr] at he cF;exact h.own n m e e' b he cF,fun n e b he=>by rw[<-hr] at he;exact h.lr n e b he,h.iR,fun n e i he=>by rw[<-hr] at he;exact h.tag n e i he,h.z,h.dr,h.sz⟩
theorem aB.drawn {Q:Program} {T:Tg} {F:Nat->Prop} {G:Nat->Value} {w:World} {a:Act} {s:S} (h:aB Q T F G w a s) (k:Nat) (hk:w.drawn<=k):aB Q T F G {w with drawn:=k} a s:=
 ⟨h.qV,h.size,fun t p hp=>cr.mono (w:=w) (w':={w with drawn:=k}) (fun _ h=>h) (fun _ _=>rfl) (Names.refl _ _) (h.tm t p hp),fun n e he=>(h.rg n e he).mono (w':={w with drawn:=k}) (fun _ h=>h) (fun _ _=>rfl) (Names.refl _ _) rfl (fun _ _=>rfl),
  h.own,h.lr,h.iR,h.tag,h.z,Nat.le_trans h.dr hk,h.sz⟩
theorem zY {ops:Array Oper} {listed:Array Bool} (cJ:listed.size=ops.size) (jx: ∀(i:Nat) (o:Oper),ops[i]?=some o-> ∀e∈o.after,Region.binds .any e=true->e.on<i)
  (hr:Region.ready .any ops listed=[]): ∀i,i<ops.size->listed.getD i false=true:=by
 intro i
 induction i using Nat.strongRecOn with
 |ind i ih=>
  intro hi
  cases hb:listed.getD i false with
  |true=>rfl
  |false=>
   have ho:ops[i]?=some ops[i]:=Array.getElem?_eq_getElem hi
   have:i∈Region.ready .any ops listed:=mem_ready.2 ⟨by
    have hl:i<listed.size:=by omega
    simp[hl] at hb⊢
    exact hb,_,ho,fun e he Bi=>ih e.on (jx i _ ho e he Bi) (by have:=jx i _ ho e he Bi;omega)⟩
   rw[hr] at this
   cases this
section
variable {Q:Program} {T:Tg} {cf:CF} {ops:List Oper} {M:List Nat} {St:Nat->S} {r:Option Nat}
theorem qaa (tx:Text Q cf ops M St ops.length) (iV:db Q T.w0 cf) {Q':Exit->Act->World->Prop}: ∀(fuel:Nat) (listed:Array Bool) (a:Act) (w:World) (s:S) (F:Nat->Prop) (G:Nat->Value),
  listed.size=ops.length->fuel+listed.toList.count true=ops.length->DT ops (fun j=>listed.getD j false=true)->Inv ops St (fun j=>listed.getD j false=true) s->aB Q T F G w a s->
  (∀a' w',iv Q T F G w s (St ops.length) a' w'->Q' .normal a' w')->wpAnyIn (wd r) 0 Q .any ops.toArray Q' fuel listed a w:=by
 have jx: ∀(i:Nat) (o:Oper),ops.toArray[i]?=some o-> ∀e∈o.after,Region.binds .any e=true->e.on<i:=fun i o ho e he hb=>tx.back (by simpa using ho) he hb
 have fin: ∀(listed:Array Bool) (a:Act) (w:World) (s:S) (F:Nat->Prop) (G:Nat->Value),(∀i,i<ops.length->listed.getD i false=true)->Inv ops St (fun j=>listed.getD j false=true) s->aB Q T F G w a s->
   (∀a' w',iv Q T F G w s (St ops.length) a' w'->Q' .normal a' w')->Q' .normal a w:=by
  intro listed a w s F G gB hi h hK
  obtain⟨h1,h2,h3⟩:=tx.last hi (fun i o ho=>gB i (List.getElem?_eq_some_iff.1 ho).1)
  exact hK a w ⟨F,G,h.alike h1 h2 h3,by rw[<-h2];exact Ext.refl _ _ _⟩
 intro fuel
 induction fuel with
 |zero=>
  intro listed a w s F G cJ hc hL hi h hK
  have gB: ∀i,i<ops.length->listed.getD i false=true:=fun i bk=>by
   have qt:listed.toList.count true=listed.toList.length:=by rw[Array.length_toList,cJ];omega
   have:=List.count_eq_length.1 qt listed[i] (by simp)
   simp[cJ,bk,<-this]
  refine⟨?_,fin listed a w s F G gB hi h hK⟩
  cases hr:Region.ready .any ops.toArray listed with
  |nil=>rfl
  |cons i r=>
   have hm:i∈Region.ready .any ops.toArray listed:=by rw[hr];simp
   obtain⟨h0,o,ho,_⟩:=mem_ready.1 hm
   have bk:i<ops.length:=by
    have:=(Array.getElem?_eq_some_iff.1 ho).1
    simpa using this
   have h1:=gB i bk
   have hl:i<listed.size:=by omega
   simp[hl] at h0 h1
   rw[h0] at h1
   cases h1
 |succ fuel ih=>
  intro listed a w s F G cJ hc hL hi h hK
  refine⟨fun hr=>fin listed a w s F G (fun i bk=>zY (by simp[cJ]) jx hr i (by simpa using bk)) hi h hK,fun i hm=> ?_⟩
  obtain⟨h0,o,ho,BJ⟩:=mem_ready.1 hm
  have lW:ops[i]?=some o:=by simpa using ho
  have bk:i<ops.length:=(List.getElem?_eq_some_iff.1 lW).1
  have hl:i<listed.size:=by omega
  have b9: ¬listed.getD i false=true:=by
   simp[hl] at h0⊢
   exact h0
  obtain⟨s1,pX,Sl⟩:=tx.go hL hi lW b9 BJ (fun h=>by simp[Array.getD,cJ] at h) (fun e=>by omega)
  have oO: ∀j,((listed.setIfInBounds i true).getD j false=true)↔(listed.getD j false=true\/j=i):=fun j=>by
   by_cases hj:j=i
   ·subst hj;simp[hl]
   ·rw[getD_set_ne false (fun e=>hj e.symm)];simp[hj]
  have yX:(fun j=>(listed.setIfInBounds i true).getD j false=true)=(fun j=>listed.getD j false=true\/j=i):=funext fun j=>propext (oO j)
  have KE:fuel+(listed.setIfInBounds i true).toList.count true=ops.length:=by
   have e:(listed.setIfInBounds i true).toList=listed.toList.set i true:=by simp
   rw[e,List.count_set (by simpa using hl)]
   have:(listed.toList[i]'(by simpa using hl)==true)=false:=by
    simp[hl] at b9⊢
    exact b9
   simp only[this]
   simp only[Bool.false_eq_true,if_false,beq_self_eq_true,if_true]
   omega
  have jj:=jN iV h pX (r:=r) (K:=wpAnyIn (wd r) 0 Q .any ops.toArray Q' fuel (listed.setIfInBounds i true)) (Q':=Q') (fun a' w' ⟨F',G',g1,g2⟩=>
   ih (listed.setIfInBounds i true) a' w' s1 F' G' (by simp[cJ]) KE (by
    rw[yX]
    intro j x hj nS e he hb
    rcases nS with nS |rfl
    ·exact .inl (hL j x hj nS e he hb)
    ·rw[lW] at hj;cases hj
     exact .inl (BJ e he hb)) (by rw[yX];exact Sl) g1 (fun a2 w2 hp=>hK a2 w2 (hp.trans g2)))
  unfold wpOpIn
  rw[ho]
  simp only[]
  split
  ·rename_i hw;rw[if_pos hw] at jj;exact jj
  ·rename_i hw;rw[if_neg hw] at jj;exact⟨fun _ _=>trivial,jj⟩
end
theorem lX {Q:Program} {cf:CF} {ops:List Oper}: ∀(l:List Oper) (s s':S),dh Q cf ops l s=some s'-> ∃St:Nat->S,St 0=s/\St l.length=s'/\ ∀i o,l[i]?=some o->br Q cf ops (St i) o=some (St (i+1))
 | [],s,s',h=>by
  simp[dh] at h
  exact⟨fun _=>s,rfl,h,fun i o ho=>by simp at ho⟩
 |o::l,s,s',h=>by
  simp only[dh] at h
  split at h
  ·rename_i s1 h1
   obtain⟨St,g1,g2,g3⟩:=lX l s1 s' h
   refine⟨fun i=>match i with |0=>s |i+1=>St i,rfl,g2,fun i x hx=> ?_⟩
   cases i with
   |zero=>simp at hx;subst hx;simp only[g1];exact h1
   |succ i=>exact g3 i x (by simpa using hx)
  ·cases h
theorem lz {Q:Program} {cf:CF} {ops:List Oper}: ∀(l:List Oper) (s s':S) (is:List Step),ot Q cf ops l s=some (s',is)-> ∃St:Nat->S,St 0=s/\St l.length=s'/\(∀i o,l[i]?=some o->br Q cf ops (St i) o=some (St (i+1)))/\ ∀(i:Nat) (o:Oper),l[i]?=some o->is[i]?=some (lP Q ops (St i) o (St (i+1)))
 | [],s,s',is,h=>by
  simp[ot] at h
  exact⟨fun _=>s,rfl,h.1,fun i o ho=>by simp at ho,fun i o ho=>by simp at ho⟩
 |o::l,s,s',is,h=>by
  simp only[ot] at h
  split at h
  ·cases h
  ·rename_i s1 h1
   split at h
   ·rename_i s2 is2 h2
    simp at h
    obtain⟨rfl,rfl⟩:=h
    obtain⟨St,g1,g2,g3,g4⟩:=lz l s1 s2 is2 h2
    refine⟨fun i=>match i with |0=>s |i+1=>St i,rfl,g2,fun i x hx=> ?_,fun i x hx=> ?_⟩
    ·cases i with
     |zero=>simp at hx;subst hx;simp only[g1];exact h1
     |succ i=>exact g3 i x (by simpa using hx)
    ·cases i with
     |zero=>simp at hx;subst hx;simp only[g1];rfl
     |succ i=>simpa using g4 i x (by simpa using hx)
   ·cases h
theorem TE {W:List Nat×Nat×Nat} {n:Nat} (h:ua W n):MX W n=true:=by
 unfold MX
 rcases h with h | ⟨h1,h2⟩
 ·rw[(jM _ _).2 h];rfl
 ·have e1:Nat.ble W.2.1 n=true:=Nat.ble_eq_true_of_le h1
  have e2:Nat.blt n W.2.2=true:=by simp[Nat.blt];omega
  rw[e1,e2];simp
theorem jO: ∀(ns:List Nat) (y:Step) (q:Prop),rV ns y q->(∀n∈ns,ua y.info.ws n->lk y.aft n=lk y.bef n)/\q
 | [],y,q,h=>⟨by simp,h⟩
 |n::r,y,q,h=>by
  simp only[rV] at h
  cases hb:MX y.info.ws n with
  |true=>
   rw[hb] at h
   obtain⟨h1,h2⟩:=jO r y q h.2
   refine⟨fun m hm hw=> ?_,h2⟩
   rcases List.mem_cons.1 hm with rfl |hm
   ·exact h.1
   ·exact h1 m hm hw
  |false=>
   rw[hb] at h
   obtain⟨h1,h2⟩:=jO r y q h
   refine⟨fun m hm hw=> ?_,h2⟩
   rcases List.mem_cons.1 hm with rfl |hm
   ·rw[TE hw] at hb;cases hb
   ·exact h1 m hm hw
theorem DV {x y:Step} {same:Prop->Prop} (hs: ∀q,same q->q) {q:Prop} (h:leaves x y same q):q:=by
 unfold leaves at h
 split at h
 ·rename_i t n t' _ _
  cases hb:(Nat.beq t t'&& !gw n x.info.ns) with
  |true=>rw[hb] at h;exact h
  |false=>rw[hb] at h;exact hs q h
 ·exact hs q h
theorem ug {x y:Step} {same:Prop->Prop} (hs: ∀q r:Prop,(q->r)->same q->same r) {q r:Prop} (yY:q->r) (h:leaves x y same q):leaves x y same r:=by
 unfold leaves at h⊢
 split at h
 ·rename_i t n t' _ _
  cases hb:(Nat.beq t t'&& !gw n x.info.ns) with
  |true=>rw[hb] at h;exact yY h
  |false=>rw[hb] at h;exact hs q r yY h
 ·exact hs q r yY h
theorem wS {x y:Step} {same:Prop->Prop} {q:Prop} (h:leaves x y same q):(∃t n,y.ent=some (t,n)/\x.look=some t/\n∉x.info.ns)\/same q:=by
 unfold leaves at h
 split at h
 ·rename_i t n t' h1 h2
  cases hb:(Nat.beq t t'&& !gw n x.info.ns) with
  |true=>
   simp only[Bool.and_eq_true,Bool.not_eq_true'] at hb
   have ht:=Nat.eq_of_beq_eq_true hb.1
   subst ht
   exact .inl ⟨t,n,h1,h2,fun hm=>by rw[(jM _ _).2 hm] at hb;cases hb.2⟩
  |false=>rw[hb] at h;exact .inr h
 ·exact .inr h
theorem DW {Q:Program} {sy Mr:S} {dst:Option Nat} {t:TypeId} {p k:P} (h:iG Q sy dst t p k=some Mr) {s:S} {q i:P} (hq: ∀n v,q= .mp n v->n≠site dst):
  (match(jt Q t).bind fun y=>dY Q y.2 with |some z=>ec Q (s.wr Mr.rg) t q i false z |none=>none)=(match(jt Q t).bind fun y=>dY Q y.2 with |some z=>ec Q (s.wr sy.rg) t q i false z |none=>none):=by
 unfold iG at h
 split at h
 ·rename_i kt e n v kd wh
  split at h
  ·rename_i z hz
   split at h
   ·rename_i yE get c ho
    split at h
    ·rename_i hc
     simp only[Bool.and_eq_true,Bool.not_eq_true'] at hc
     obtain⟨⟨Bb,Nl⟩,Bn⟩:=hc
     have Bb:=Nat.eq_of_beq_eq_true Bb
     subst Bb
     have Bn:n≠site dst:=fun e=>by rw[e,Nat.beq_refl] at Bn;cases Bn
     split at h
     ·rename_i s1 v1 hn
      obtain⟨pX,_⟩:=S.ki hn
      obtain⟨en,jC,dI,bR⟩:=S.bF ho
      have yQ:lk s1.rg n=some en:=by rw[pX];exact(bG _ _ (Ne.symm Bn)).trans jC
      have Y9:Mr.rg=ins n ⟨en.aU,en.tag,.jA kt (cO kd (cm (get kd) z) get) (bif (get kd).isSome then c else c+1) (.mp (site dst) v1) kd⟩ s1.rg:=by
       rw[bs h]
       unfold S.setObj
       rw[yQ]
      simp only[wh,Option.bind_some,hz]
      unfold ec
      rw[wh]
      split
      ·rename_i kt2 e2 m vm kd2 Fu
       simp only[Option.some.injEq,Prod.mk.injEq] at Fu
       obtain⟨rfl,rfl⟩:=Fu
       have hm:=hq m vm rfl
       by_cases hmn:m=n
       ·subst hmn
        by_cases hv:vm=en.aU
        ·subst hv
         have o1:(s.wr Mr.rg).obj m en.aU=some (.jA kt (cO kd (cm (get kd) z) get) (bif (get kd).isSome then c else c+1) (.mp (site dst) v1) kd):=by
          unfold S.obj S.wr
          simp only[Y9,bA,Nat.beq_refl,if_true]
         have o2:(s.wr sy.rg).obj m en.aU=some (.map kt get c false):=by
          unfold S.obj S.wr
          simp only[jC,Nat.beq_refl,if_true,bR]
         rw[o1,o2]
         have hg:(cO kd (cm (get kd) z) get kd2).getD z=(get kd2).getD z:=by
          unfold cO
          cases hd:D.nD kd kd2 with
          |true=>
           have:=(D.gA _ _).1 hd
           subst this
           rfl
          |false=>rfl
         simp only[Bool.not_false,Bool.true_and,hg,Bool.false_eq_true,if_false]
        ·have hb:Nat.beq en.aU vm=false:=by
          cases hb:Nat.beq en.aU vm with
          |false=>rfl
          |true=>exact absurd (Nat.eq_of_beq_eq_true hb).symm hv
         have o1:(s.wr Mr.rg).obj m vm=none:=by
          unfold S.obj S.wr
          simp only[Y9,bA,hb,Bool.false_eq_true,if_false]
         have o2:(s.wr sy.rg).obj m vm=none:=by
          unfold S.obj S.wr
          simp only[jC,hb,Bool.false_eq_true,if_false]
         rw[o1,o2]
       ·have:lk Mr.rg m=lk sy.rg m:=by
         rw[Y9,bG _ _ (Ne.symm hmn),pX]
         exact bG _ _ (Ne.symm hm)
        have:(s.wr Mr.rg).obj m vm=(s.wr sy.rg).obj m vm:=by
         unfold S.obj S.wr
         simp only[this]
        rw[this]
      ·rfl
      ·rfl
     ·cases h
    ·cases h
   ·cases h
  ·cases h
 ·cases h
theorem DX {Q:Program} {cf:CF} {ops:List Oper} {s sy Mr:S} {x y:Oper} {t:TypeId} {n:Nat} (hx:FX x=some t) (hy:MW y=some (t,n)) (bE:br Q cf ops sy y=some Mr) (Bn:n∉(bK Q ops s x).ns):s6 Q ops s x sy.rg Mr.rg:=by
 unfold FX at hx
 unfold MW at hy
 split at hx
 ·rename_i t' xm xk hxo
  split at hy
  ·rename_i t2 ym yk hyo
   simp only[Option.some.injEq,Prod.mk.injEq] at hx hy
   subst hx
   obtain⟨rfl,rfl⟩:=hy
   refine⟨⟨_,_,_,hxo⟩,fun g hg=> ?_⟩
   have hk:aA x<=1:=by simp[aA,hxo]
   have Tx: ∀n v,s.eg g xm= .mp n v->n≠site y.dst:=fun n v hv e=>by
    refine Bn ?_
    rw[(ix (Q:=Q) (s:=s) hk hg).2 (by simp[aA,hxo]),<-e]
    exact pF _ (s.eg g xm) n v (List.mem_map_of_mem (by simp[hxo,Op.operands])) (by rw[hv];rfl)
   have act: ∀g',fH Q cf sy y g'=some Mr->pv Q (s.wr Mr.rg) x g=pv Q (s.wr sy.rg) x g:=fun g' h=>by
    have hc:fY y=none:=by unfold fY;rw[hyo]
    have Mn:cP Q y=none:=by unfold cP;rw[hyo]
    have Si:pv Q sy y g'=none:=by unfold pv;rw[hyo]
    have zZ:qS y=none:=by unfold qS;rw[hyo]
    unfold fH exec at h
    simp only[hc,zZ] at h
    unfold iO ef at h
    simp only[Mn,Si,hyo] at h
    have:=DW (s:=s) (q:=s.eg g xm) (i:=s.eg g xk) h Tx
    unfold pv
    rw[hxo]
    exact this
   unfold br at bE
   split at bE
   ·cases bE
   ·exact act _ bE
   ·split at bE
    ·split at bE
     ·exact act _ bE
     ·rw[bs bE]
    ·rw[bs bE]
    ·cases bE
  ·cases hy
 ·cases hx
theorem Ix {m:Nat} {M:List Nat} {i j:Nat} {x y:Step} {q:Prop} (h:hJ m M i x j y q):q:=by
 unfold hJ at h
 cases h1:(Nat.testBit (M.getD j 0) i ||lq x.info y.info) with
 |true=>rw[h1] at h;exact h
 |false=>
  rw[h1] at h
  simp only[cond_false] at h
  cases h2:x.info.pure<;>cases h3:y.info.pure<;>simp only[h2,h3,cond_true,cond_false] at h
  ·cases hb:Nat.beq j m with
   |true=>rw[hb] at h;exact h
   |false=>rw[hb] at h;exact h.elim
  ·exact DV (fun q h=>(jO _ _ q h).2) h
  ·exact DV (fun q h=>(jO _ _ q h).2) h
  ·exact h
theorem GF {m:Nat} {M:List Nat} {i:Nat} {x:Step}: ∀(l:List Step) (j0:Nat) (q:Prop),J3 (hJ m M i x) j0 l q->q
 | [],_,_,h=>h
 |_::r,j0,q,h=>GF r (j0+1) q (Ix h)
theorem DY {m:Nat} {M:List Nat} {i:Nat} {x:Step}: ∀(l:List Step) (j0:Nat) (q:Prop),J3 (hJ m M i x) j0 l q-> ∀j y,l[j]?=some y-> ∃q',hJ m M i x (j0+j) y q'
 | [],_,_,_,j,y,hy=>by simp at hy
 |z::r,j0,q,h,j,y,hy=>by
  cases j with
  |zero=>simp at hy;subst hy;exact⟨_,h⟩
  |succ j=>
   obtain⟨q',hq⟩:=DY r (j0+1) q (Ix h) j y (by simpa using hy)
   exact⟨q',by rwa [show j0+1+j=j0+(j+1) by omega] at hq⟩
theorem q7 {m:Nat} {M:List Nat}: ∀(l:List Step) (i0:Nat) (q:Prop),qT (hJ m M) i0 l q-> ∀i j x y,i<j->l[i]?=some x->l[j]?=some y-> ∃q',hJ m M (i0+i) x (i0+j) y q'
 | [],_,_,_,i,j,x,y,_,hx,_=>by simp at hx
 |z::r,i0,q,h,i,j,x,y,gn,hx,hy=>by
  simp only[qT] at h
  cases i with
  |zero=>
   simp at hx
   subst hx
   obtain⟨j,rfl⟩: ∃j',j=j'+1:=⟨j-1,by omega⟩
   obtain⟨q',hq⟩:=DY r (i0+1) _ h j y (by simpa using hy)
   exact⟨q',by rwa [show i0+1+j=i0+(j+1) by omega] at hq⟩
  |succ i=>
   obtain⟨j,rfl⟩: ∃j',j=j'+1:=⟨j-1,by omega⟩
   obtain⟨q',hq⟩:=q7 r (i0+1) q (GF r (i0+1) _ h) i j x y (by omega) (by simpa using hx) (by simpa using hy)
   exact⟨q',by rwa [show i0+1+i=i0+(i+1) by omega,show i0+1+j=i0+(j+1) by omega] at hq⟩
theorem wT {m:Nat} {M:List Nat}: ∀(l:List Step) (i0:Nat) (q:Prop),qT (hJ m M) i0 l q->q
 | [],_,_,h=>h
 |_::r,i0,q,h=>wT r (i0+1) q (GF r (i0+1) _ h)
theorem mS: ∀(ns:List Nat) (y:Step) (q r:Prop),(q->r)->rV ns y q->rV ns y r
 | [],_,_,_,h,hs=>h hs
 |n::ns,y,q,r,h,hs=>by
  simp only[rV] at hs⊢
  cases hb:MX y.info.ws n with
  |true=>rw[hb] at hs;exact⟨hs.1,mS ns y q r h hs.2⟩
  |false=>rw[hb] at hs;exact mS ns y q r h hs
theorem GG {m:Nat} {M:List Nat} {i j:Nat} {x y:Step} {q r:Prop} (yY:q->r) (h:hJ m M i x j y q):hJ m M i x j y r:=by
 unfold hJ at h⊢
 cases h1:(Nat.testBit (M.getD j 0) i ||lq x.info y.info) with
 |true=>rw[h1] at h;exact yY h
 |false=>
  rw[h1] at h
  simp only[cond_false] at h⊢
  cases h2:x.info.pure<;>cases h3:y.info.pure<;>simp only[h2,h3,cond_true,cond_false] at h⊢
  ·cases hb:Nat.beq j m with
   |true=>rw[hb] at h;exact yY h
   |false=>rw[hb] at h;exact h.elim
  ·exact ug (fun q r yY h=>mS _ _ _ _ yY h) yY h
  ·exact ug (fun q r yY h=>mS _ _ _ _ yY h) yY h
  ·exact yY h
theorem z6 {m:Nat} {M:List Nat} {i:Nat} {x:Step}: ∀(l:List Step) (j0:Nat) (q r:Prop),(q->r)->J3 (hJ m M i x) j0 l q->J3 (hJ m M i x) j0 l r
 | [],_,_,_,yY,h=>yY h
 |_::l,j0,q,r,yY,h=>GG (z6 l (j0+1) q r yY) h
theorem oP {m:Nat} {M:List Nat}: ∀(l:List Step) (i0:Nat) (q r:Prop),(q->r)->qT (hJ m M) i0 l q->qT (hJ m M) i0 l r
 | [],_,_,_,yY,h=>yY h
 |_::l,i0,q,r,yY,h=>z6 l (i0+1) _ _ (oP l (i0+1) q r yY) h
theorem wU {Q:Program} {cf:CF} {ops:List Oper} {m:Nat} {M:List Nat} {St:Nat->S} {i j:Nat} {x y:Oper} (hsx:br Q cf ops (St i) x=some (St (i+1))) (hsy:br Q cf ops (St j) y=some (St (j+1))) (jh:aA x<=1\/aA y<=1) (hb:Nat.testBit (M.getD j 0) i=false) {q:Prop}
  (hq:hJ m M i (lP Q ops (St i) x (St (i+1))) j (lP Q ops (St j) y (St (j+1))) q):
  lq (bK Q ops (St i) x) (bK Q ops (St j) y)=true\/
  ((bK Q ops (St i) x).pure=true/\((∀n∈(bK Q ops (St i) x).ns,lk (St (j+1)).rg n=lk (St j).rg n)\/s6 Q ops (St i) x (St j).rg (St (j+1)).rg))\/
  ((bK Q ops (St j) y).pure=true/\((∀n∈(bK Q ops (St j) y).ns,lk (St (i+1)).rg n=lk (St i).rg n)\/s6 Q ops (St j) y (St i).rg (St (i+1)).rg)):=by
 unfold hJ at hq
 simp only[lP] at hq
 simp only[hb,Bool.false_or] at hq
 cases hap:lq (bK Q ops (St i) x) (bK Q ops (St j) y) with
 |true=>exact .inl rfl
 |false=>
  right
  rw[hap] at hq
  simp only[cond_false] at hq
  cases Bj:(bK Q ops (St i) x).pure with
  |true=>
   cases uQ:(bK Q ops (St j) y).pure with
   |true=>simp[lq,Bj,uQ] at hap
   |false=>
    left
    simp only[Bj,uQ,cond_true,cond_false] at hq
    refine⟨rfl,?_⟩
    rcases wS hq with⟨f,hf,h1,h2,h3⟩|hq
    ·exact .inr (DX h2 h1 (hsy) h3)
    refine .inl fun n hn=> ?_
    by_cases hw:ua (bK Q ops (St j) y).ws n
    ·exact(jO _ _ _ hq).1 n hn hw
    ·exact jE (by
      by_cases hk:aA y<=1
      ·cases hg:bj ops y with
       |none=>have:=hsy;unfold br at this;rw[hg] at this;cases this
       |some g=>rw[(ix hk hg).1] at uQ;cases uQ
      ·omega) (hsy) hw
  |false=>
   cases uQ:(bK Q ops (St j) y).pure with
   |true=>
    right
    simp only[Bj,uQ,cond_true,cond_false] at hq
    refine⟨rfl,?_⟩
    rcases wS hq with⟨f,hf,h1,h2,h3⟩|hq
    ·exact .inr (DX h2 h1 (hsx) h3)
    refine .inl fun n hn=> ?_
    by_cases hw:ua (bK Q ops (St i) x).ws n
    ·exact(jO _ _ _ hq).1 n hn hw
    ·exact jE (by
      by_cases hk:aA x<=1
      ·cases hg:bj ops x with
       |none=>have:=hsx;unfold br at this;rw[hg] at this;cases this
       |some g=>rw[(ix hk hg).1] at Bj;cases Bj
      ·omega) (hsx) hw
   |false=>
    exfalso
    rcases jh with hk |hk
    ·cases hg:bj ops x with
     |none=>have:=hsx;unfold br at this;rw[hg] at this;cases this
     |some g=>rw[(ix hk hg).1] at Bj;cases Bj
    ·cases hg:bj ops y with
     |none=>have:=hsy;unfold br at this;rw[hg] at this;cases this
     |some g=>rw[(ix hk hg).1] at uQ;cases uQ
theorem oQ {ops:List Oper} {o:Oper}:(jf ops o).dst=o.dst/\(jf ops o).after=o.after/\(jf ops o).guard=o.guard/\(jf ops o).op=o.op:=by
 unfold jf
 split<;>exact⟨rfl,rfl,rfl,rfl⟩
theorem TG {ops:List Oper} {o:Oper} (h:S3 ops o=true): ∃t l ps,o.op= .buildSlice t l ps/\o.guard=none:=by
 unfold S3 at h
 split at h
 ·rename_i ho _ hg
  exact⟨_,_,_,ho,hg⟩
 ·cases h
theorem wV {ops:List Oper} {i:Nat}:(cI ops).toArray[i]?=(ops.toArray[i]?).map (jf ops):=by
 simp[cI]
theorem q8 {ops:List Oper} {listed:Array Bool} {i:Nat}:i∈Region.ready .any (cI ops).toArray listed↔i∈Region.ready .any ops.toArray listed:=by
 rw[mem_ready,mem_ready]
 refine and_congr Iff.rfl ?_
 rw[wV]
 constructor
 ·rintro⟨o,ho,h⟩
  rw[Option.map_eq_some_iff] at ho
  obtain⟨x,hx,rfl⟩:=ho
  exact⟨x,hx,fun e he=>h e (by rw[oQ.2.1];exact he)⟩
 ·rintro⟨o,ho,h⟩
  exact⟨jf ops o,by rw[ho];rfl,fun e he=>h e (by rw[oQ.2.1] at he;exact he)⟩
theorem BK {ops:List Oper} (tmps:Array Value):yielded (cI ops).toArray tmps=yielded ops.toArray tmps:=by
 funext j
 unfold yielded
 rw[wV]
 cases ops.toArray[j]? with
 |none=>rfl
 |some o=>simp only[Option.map_some,Option.bind_some,oQ.1]
theorem TH {Q:Program} {F:Fence} {n:Nat} {ops:List Oper} {Q':Exit->Act->World->Prop} {i:Nat} {K:Act->World->Prop} {a:Act} {w:World} (h:wpOpIn F n Q (cI ops).toArray Q' i K a w):wpOpIn F n Q ops.toArray Q' i K a w:=by
 unfold wpOpIn at h⊢
 rw[wV,BK] at h
 cases ho:ops.toArray[i]? with
 |none=>rw[ho] at h;exact h
 |some o=>
  rw[ho] at h
  simp only[Option.map_some] at h⊢
  by_cases hv:S3 ops o=true
  ·obtain⟨t,l,ps,tQ,Gt⟩:=TG hv
   have e:jf ops o={o with type:=4000000}:=by unfold jf;rw[if_pos hv]
   rw[e] at h
   obtain⟨dst,op,ty,pos,af,gd⟩:=o
   simp only at tQ Gt
   subst tQ Gt
   rw[if_pos (by rfl)] at h⊢
   have e2: ∀ty',Oper.semAt F.round a.eval ⟨dst,.buildSlice t l ps,ty',pos,af,none⟩=execOp a.eval ⟨dst,.buildSlice t l ps,0,pos,af,none⟩:=fun ty'=>by
    rw[Oper.semAt_eq _ _ _ (by intro c hc;cases hc)]
    rfl
   refine⟨h.1,?_⟩
   have h2:=h.2
   simp only[e2] at h2⊢
   generalize (execOp a.eval ⟨dst,.buildSlice t l ps,0,pos,af,none⟩).run Q w=r at h2⊢
   cases r with
   |ok x w'=>cases x<;>exact h2
   |halt x w'=>cases x<;>exact h2
  ·have e:jf ops o=o:=by unfold jf;rw[if_neg hv]
   rw[e] at h
   exact h
theorem DZ {Q:Program} {F:Fence} {n:Nat} {ops:List Oper} {Q':Exit->Act->World->Prop}: ∀(fuel:Nat) (listed:Array Bool) (a:Act) (w:World),wpAnyIn F n Q .any (cI ops).toArray Q' fuel listed a w->wpAnyIn F n Q .any ops.toArray Q' fuel listed a w
 |0,listed,a,w,h=>by
  have qf1:Region.ready .any ops.toArray listed=[]:=List.eq_nil_iff_forall_not_mem.2 fun i hi=>by
   have:=q8.2 hi
   rw[h.1] at this
   cases this
  exact⟨qf1,h.2⟩
 |fuel+1,listed,a,w,h=>by
  refine⟨fun hr=>h.1 (List.eq_nil_iff_forall_not_mem.2 fun i hi=>by
   have:=q8.1 hi
   rw[hr] at this
   cases this),fun i hi=> ?_⟩
  exact wpOpIn_mono (fun a w h=>DZ fuel _ a w h) (TH (h.2 i (q8.2 hi)))
theorem uh {Q:Program} {T:Tg} {cf:CF} (iV:db Q T.w0 cf) {ops:List Oper} {F:Nat->Prop} {G:Nat->Value} {w:World} {a:Act} {s s':S} {r:Option Nat} {Q':Exit->Act->World->Prop}
  (h:aB Q T F G w a s) (hs:iP Q cf ops s=some s') (hK: ∀a' w',iv Q T F G w s s' a' w'->Q' .normal a' w'):wpAnyIn (wd r) 0 Q .any ops.toArray Q' ops.toArray.size (Array.replicate ops.toArray.size false) a {w with drawn:=w.drawn+1}:=by
 have main: ∀St,Text Q cf ops (masks ops []) St ops.length->St 0=s->St ops.length=s'->wpAnyIn (wd r) 0 Q .any ops.toArray Q' ops.toArray.size (Array.replicate ops.toArray.size false) a {w with drawn:=w.drawn+1}:=by
  intro St tx h0 h1
  have eJ:(fun j=>(Array.replicate ops.length false).getD j false=true)=fun _=>False:=by
   funext j
   simp only[Array.getD_eq_getD_getElem?,Array.getElem?_replicate]
   split<;>simp
  have hsr:aB Q T F G {w with drawn:=w.drawn+1} a s:=h.drawn _ (Nat.le_succ _)
  have:=qaa (T:=T) (r:=r) tx iV (Q':=Q') ops.length (Array.replicate ops.length false) a {w with drawn:=w.drawn+1} s F G (by simp) (by
    rw[Array.toList_replicate,List.count_replicate];simp) (by
    rw[eJ];intro i o _ hf;exact hf.elim) (by
    rw[eJ]
    exact⟨by rw[h0],fun i o t _ hf=>hf.elim,fun t _=>by rw[h0],⟨0,by omega,by rw[h0],fun i o _ _=>by simp⟩⟩) hsr
    (fun a' w' hp=>hK a' w' (by
     obtain⟨F',G',k1,k2⟩:=hp
     rw[h1] at k1 k2
     exact⟨F',G',k1,⟨k2.j7,k2.lS,k2.kU,k2.keep,k2.size,k2.os,k2.tape,k2.output⟩⟩))
  simpa using this
 unfold iP at hs
 have Bv: ∀k,cg ops=k+1->iH (J2 (masks ops [])) 0 ops=true/\gg (Ib ops (masks ops [])) 0 ops=true/\(k≠0->gg (fun i x j y=>Nat.testBit ((masks ops []).getD j 0) i ||MV x y) 0 ops=true):=by
  intro k hk
  unfold cg at hk
  split at hk
  ·rename_i hb
   simp only[Bool.and_eq_true] at hb
   refine⟨hb.1,hb.2,fun fJ=> ?_⟩
   split at hk
   ·assumption
   ·omega
  ·omega
 have zero: ∀i:Nat,0+i=i:=Nat.zero_add
 split at hs
 ·cases hs
 ·rename_i hc
  obtain⟨c1,c2,_⟩:=Bv 0 hc
  split at hs
  ·rename_i s1 l hd
   split at hs
   ·rename_i qab
    simp at hs
    subst hs
    obtain⟨St,g1,g2,g3,g4⟩:=lz ops _ _ _ hd
    refine main St ⟨fun i o ho=> ?_,fun i j x y gn hx hy=>zy ?_,g3,fun i j x y gn hx hy _ hb=> .inr ?_⟩ g1 g2
    ·have:=fc ops 0 c1 i o ho;rwa [zero] at this
    ·have:=fL ops 0 c2 i j x y gn hx hy;rwa [zero,zero] at this
    ·obtain⟨q,hq⟩:=q7 l 0 True qab i j _ _ gn (g4 i x hx) (g4 j y hy)
     rw[zero,zero] at hq
     exact wU (g3 i x hx) (g3 j y hy) (by assumption) hb hq
   ·cases hs
  ·cases hs
 ·rename_i h0 h1
  obtain⟨k,hk⟩: ∃k,cg ops=k+1+1:=by
   cases hd:cg ops with
   |zero=>exact absurd hd h0
   |succ k=>cases k with
    |zero=>exact absurd hd h1
    |succ k=>exact⟨k,rfl⟩
  obtain⟨c1,c2,c3⟩:=Bv (k+1) hk
  have c3:=c3 (by omega)
  obtain⟨St,g1,g2,g3⟩:=lX ops _ _ hs
  refine main St ⟨fun i o ho=> ?_,fun i j x y gn hx hy=>zy ?_,g3,fun i j x y gn hx hy _ hb=> .inl ?_⟩ g1 g2
  ·have:=fc ops 0 c1 i o ho;rwa [zero] at this
  ·have:=fL ops 0 c2 i j x y gn hx hy;rwa [zero,zero] at this
  ·have:=fL ops 0 c3 i j x y gn hx hy
   simp only[zero,hb,Bool.false_or,MV,Bool.or_eq_true,Bool.and_eq_true] at this
   rcases this with(h1 |h1)|h1
   ·exact .inl (Nat.eq_of_beq_eq_true h1)
   ·exact .inr (.inl (Nat.eq_of_beq_eq_true h1))
   ·exact .inr (.inr ⟨Nat.le_of_ble_eq_true h1.1,Nat.le_of_ble_eq_true h1.2⟩)
end Pi
