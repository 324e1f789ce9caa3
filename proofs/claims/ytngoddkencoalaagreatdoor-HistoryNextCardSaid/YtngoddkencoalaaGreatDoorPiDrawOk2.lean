/- The text PiDrawOk2. -/
import Derived.Test.YtngoddkencoalaaGreatDoorPiDrawOk
import Derived.Orders
namespace Pi
open Go
theorem aC.alike {Q:Program} {T:Tg} {F:Nat->Prop} {G:Nat->Value} {w:World} {a:Act} {s s2:S} (h:aC Q T F G w a s) (hn:s.n=s2.n) (hr:s.rg=s2.rg) (ht: ∀t,lk s.tm t=lk s2.tm t):aC Q T F G w a s2:=
 ⟨hr▸h.rf,hn▸h.size,fun t p hp=>by rw[<-hr];exact h.tm t p ((ht t).trans hp),fun n e he=>by rw[<-hr] at he⊢;exact h.rg n e he,
  fun n m e e' b he cI=>by rw[<-hr] at he cI;exact h.own n m e e' b he cI,fun n e b he=>by rw[<-hr] at he;exact h.mq n e b he,h.jm,fun n e i he=>by rw[<-hr] at he;exact h.tag n e i he,h.z,h.dr,h.sz⟩
theorem aC.drawn {Q:Program} {T:Tg} {F:Nat->Prop} {G:Nat->Value} {w:World} {a:Act} {s:S} (h:aC Q T F G w a s) (k:Nat) (hk:w.drawn<=k):aC Q T F G {w with drawn:=k} a s:=
 ⟨h.rf,h.size,fun t p hp=>ct.mono (w:=w) (w':={w with drawn:=k}) (fun _ h=>h) (fun _ _=>rfl) (Names.refl _ _) (h.tm t p hp),fun n e he=>(h.rg n e he).mono (w':={w with drawn:=k}) (fun _ h=>h) (fun _ _=>rfl) (Names.refl _ _) rfl (fun _ _=>rfl),
  h.own,h.mq,h.jm,h.tag,h.z,zaI h.dr hk,h.sz⟩
theorem AX {ops:Array Oper} {listed:Array Bool} (dq:listed.size=ops.size) (jV: ∀(i:Nat) (o:Oper),ops[i]?=some o-> ∀e∈o.after,Region.binds .any e=true->e.on<i)
  (hr:Region.ready .any ops listed=[]): ∀i,i<ops.size->listed.getD i false=true:=by
 intro i
 induction i using Nat.strongRecOn with
 |ind i ih=>
  intro hi
  cases hb:listed.getD i false with
  |true=>rfl
  |false=>
   have ho:ops[i]?=some ops[i]:=zbK hi
   have:i∈Region.ready .any ops listed:=mem_ready.2 ⟨by
    grind,_,ho,fun e he HM=>ih e.on (jV i _ ho e he HM) (by have:=jV i _ ho e he HM;omega)⟩
   rw[hr] at this
   cases this
section
variable {Q:Program} {T:Tg} {cf:CF} {ops:List Oper} {M:List Nat} {St:Nat->S} {r:Option Nat}
theorem qbL (tx:Text Q cf ops M St ops.length) (jq:dt Q T.w0 cf) {Q':Exit->Act->World->Prop}: ∀(fuel:Nat) (listed:Array Bool) (a:Act) (w:World) (s:S) (F:Nat->Prop) (G:Nat->Value),
  listed.size=ops.length->fuel+listed.toList.count true=ops.length->EX ops (fun j=>listed.getD j false=true)->Inv ops St (fun j=>listed.getD j false=true) s->aC Q T F G w a s->
  (∀a' w',iM Q T F G w s (St ops.length) a' w'->Q' .normal a' w')->wpAnyIn (wd r) 0 Q .any ops.toArray Q' fuel listed a w:=by
 have jV: ∀(i:Nat) (o:Oper),ops.toArray[i]?=some o-> ∀e∈o.after,Region.binds .any e=true->e.on<i:=fun i o ho e he hb=>tx.back (by grind) he hb
 have fin: ∀(listed:Array Bool) (a:Act) (w:World) (s:S) (F:Nat->Prop) (G:Nat->Value),(∀i,i<ops.length->listed.getD i false=true)->Inv ops St (fun j=>listed.getD j false=true) s->aC Q T F G w a s->
   (∀a' w',iM Q T F G w s (St ops.length) a' w'->Q' .normal a' w')->Q' .normal a w:=by
  intro listed a w s F G il hi h hK
  obtain⟨h1,h2,h3⟩:=tx.last hi (fun i o ho=>il i (zad.1 ho).1)
  exact hK a w ⟨F,G,h.alike h1 h2 h3,by rw[<-h2];exact Ext.refl _ _ _⟩
 intro fuel
 induction fuel with
 |zero=>
  intro listed a w s F G dq hc hL hi h hK
  have il: ∀i,i<ops.length->listed.getD i false=true:=fun i bG=>by
   have qP:listed.toList.count true=listed.toList.length:=by rw[zcK,dq];omega
   have:=List.count_eq_length.1 qP listed[i] (by simp)
   simp_all
  refine⟨?_,fin listed a w s F G il hi h hK⟩
  cases hr:Region.ready .any ops.toArray listed with
  |nil=>rfl
  |cons i r=>
   have hm:i∈Region.ready .any ops.toArray listed:=by rw[hr];simp
   obtain⟨h0,o,ho,_⟩:=mem_ready.1 hm
   grind
 |succ fuel ih=>
  intro listed a w s F G dq hc hL hi h hK
  refine⟨fun hr=>fin listed a w s F G (fun i bG=>AX (by simp[dq]) jV hr i (by grind)) hi h hK,fun i hm=> ?_⟩
  obtain⟨h0,o,ho,CH⟩:=mem_ready.1 hm
  have gf:ops[i]?=some o:=by grind
  have bG:i<ops.length:=(zad.1 gf).1
  have hl:i<listed.size:=by omega
  have bZ: ¬listed.getD i false=true:=by
   grind
  obtain⟨s1,r0,N9⟩:=tx.go hL hi gf bZ CH (fun h=>by grind) (fun e=>by omega)
  have pz: ∀j,((listed.setIfInBounds i true).getD j false=true)↔(listed.getD j false=true\/j=i):=fun j=>by
   by_cases hj:j=i
   ·simp_all
   ·rw[getD_set_ne false (fun e=>hj e.symm)];simp[hj]
  have zS:(fun j=>(listed.setIfInBounds i true).getD j false=true)=(fun j=>listed.getD j false=true\/j=i):=funext fun j=>propext (pz j)
  have Mp:fuel+(listed.setIfInBounds i true).toList.count true=ops.length:=by
   have e:(listed.setIfInBounds i true).toList=listed.toList.set i true:=by simp
   rw[e,List.count_set (by grind)]
   have:(listed.toList[i]'(by grind)==true)=false:=by
    simp[hl] at bZ⊢
    exact bZ
   grind
  have kO:=kz jq h r0 (r:=r) (K:=wpAnyIn (wd r) 0 Q .any ops.toArray Q' fuel (listed.setIfInBounds i true)) (Q':=Q') (fun a' w' ⟨F',G',g1,g2⟩=>
   ih (listed.setIfInBounds i true) a' w' s1 F' G' (by simp[dq]) Mp (by
    rw[zS]
    intro j x hj ov e he hb
    rcases ov with ov |rfl
    ·exact .inl (hL j x hj ov e he hb)
    ·rw[gf] at hj;cases hj
     exact .inl (CH e he hb)) (by rw[zS];exact N9) g1 (fun a2 w2 hp=>hK a2 w2 (hp.trans g2)))
  unfold wpOpIn
  rw[ho]
  simp only[]
  split
  ·grind
  ·rename_i hw;rw[zam hw] at kO;exact⟨fun _ _=>trivial,kO⟩
end
theorem mH {Q:Program} {cf:CF} {ops:List Oper}: ∀(l:List Oper) (s s':S),dv Q cf ops l s=some s'-> ∃St:Nat->S,St 0=s/\St l.length=s'/\ ∀i o,l[i]?=some o->bu Q cf ops (St i) o=some (St (i+1))
 | [],s,s',h=>by
  simp[dv] at h
  exact⟨fun _=>s,rfl,h,fun i o ho=>by simp at ho⟩
 |o::l,s,s',h=>by
  simp only[dv] at h
  split at h
  ·rename_i s1 h1
   obtain⟨St,g1,g2,g3⟩:=mH l s1 s' h
   refine⟨fun i=>match i with |0=>s |i+1=>St i,rfl,g2,fun i x hx=> ?_⟩
   grind
  ·cases h
theorem me {Q:Program} {cf:CF} {ops:List Oper}: ∀(l:List Oper) (s s':S) (is:List Step),o6 Q cf ops l s=some (s',is)-> ∃St:Nat->S,St 0=s/\St l.length=s'/\(∀i o,l[i]?=some o->bu Q cf ops (St i) o=some (St (i+1)))/\ ∀(i:Nat) (o:Oper),l[i]?=some o->is[i]?=some (mA Q ops (St i) o (St (i+1)))
 | [],s,s',is,h=>by
  simp[o6] at h
  exact⟨fun _=>s,rfl,h.1,fun i o ho=>by simp at ho,fun i o ho=>by simp at ho⟩
 |o::l,s,s',is,h=>by
  simp only[o6] at h
  split at h
  ·cases h
  ·rename_i s1 h1
   split at h
   ·rename_i s2 is2 h2
    simp at h
    obtain⟨rfl,rfl⟩:=h
    obtain⟨St,g1,g2,g3,g4⟩:=me l s1 s2 is2 h2
    refine⟨fun i=>match i with |0=>s |i+1=>St i,rfl,g2,fun i x hx=> ?_,fun i x hx=> ?_⟩
    ·grind
    grind
   ·cases h
theorem Wd {W:List Nat×Nat×Nat} {n:Nat} (h:wk W n):OO W n=true:=by
 unfold OO
 rcases h with h | ⟨h1,h2⟩
 ·rw[(kx _ _).2 h];rfl
 simp_all
theorem mI: ∀(ns:List Nat) (y:Step) (q:Prop),se ns y q->(∀n∈ns,wk y.info.ws n->lk y.aft n=lk y.bef n)/\q
 | [],y,q,h=>⟨by simp,h⟩
 |n::r,y,q,h=>by
  simp only[se] at h
  cases hb:OO y.info.ws n with
  |true=>
   rw[hb] at h
   obtain⟨h1,h2⟩:=mI r y q h.2
   grind
  |false=>
   rw[hb] at h
   obtain⟨h1,h2⟩:=mI r y q h
   grind [Wd]
theorem PV {x y:Step} {same:Prop->Prop} (hs: ∀q,same q->q) {q:Prop} (h:leaves x y same q):q:=by
 grind [leaves,gR]
theorem EZ {x y:Step} {same:Prop->Prop} (hs: ∀q r:Prop,(q->r)->same q->same r) {q r:Prop} (Wf:q->r) (h:leaves x y same q):leaves x y same r:=by
 grind [leaves,gR]
theorem xF {x y:Step} {same:Prop->Prop} {q:Prop} (h:leaves x y same q):(∃t n,y.ent=some (t,n)/\x.look=some t/\n∉x.info.ns)\/same q:=by
 unfold leaves at h
 split at h
 ·rename_i t n t' h1 h2
  cases hb:(Nat.beq t t'&& !gR n x.info.ns) with
  |true=>
   simp only[zab,zbs] at hb
   have ht:=zaf hb.1
   grind [kx]
  |false=>rw[hb] at h;exact .inr h
 grind
theorem E0 {Q:Program} {sy U3:S} {dst:Option Nat} {t:TypeId} {p k:P} (h:jb Q sy dst t p k=some U3) {s:S} {q i:P} (hq: ∀n v,q= .mp n v->n≠site dst):
  (match(jT Q t).bind fun y=>ey Q y.2 with |some z=>eB Q (s.wr U3.rg) t q i false z |none=>none)=(match(jT Q t).bind fun y=>ey Q y.2 with |some z=>eB Q (s.wr sy.rg) t q i false z |none=>none):=by
 unfold jb at h
 split at h
 ·rename_i kt e n v kd Cg
  split at h
  ·rename_i z hz
   split at h
   ·rename_i zA get c ho
    split at h
    ·rename_i hc
     simp only[zab,zbs] at hc
     obtain⟨⟨DQ,UX⟩,EB⟩:=hc
     have DQ:=zaf DQ
     have EB:n≠site dst:=fun e=>by rw[e,Nat.beq_refl] at EB;cases EB
     split at h
     ·rename_i s1 v1 hn
      obtain⟨r0,_⟩:=S.kV hn
      obtain⟨en,mF,dP,bV⟩:=S.bH ho
      have Cq:lk s1.rg n=some en:=by grind [bU]
      have hrg:U3.rg=ins n ⟨en.aX,en.tag,.jZ kt (cY kd (cD (get kd) z) get) (bif (get kd).isSome then c else c+1) (.mp (site dst) v1) kd⟩ s1.rg:=by
       rw[bw h]
       unfold S.setObj
       rw[Cq]
      simp only[Cg,zau,hz]
      unfold eB
      split
      ·rename_i kt2 e2 m vm kd2 J9
       by_cases hmn:m=n
       ·skip
        by_cases hv:vm=en.aX
        ·skip
         have o1:(s.wr U3.rg).obj m en.aX=some (.jZ kt (cY kd (cD (get kd) z) get) (bif (get kd).isSome then c else c+1) (.mp (site dst) v1) kd):=by
          grind [S.obj,S.wr,bA]
         have o2:(s.wr sy.rg).obj m en.aX=some (.map kt get c false):=by
          grind [S.obj,S.wr]
         have hg:(cY kd (cD (get kd) z) get kd2).getD z=(get kd2).getD z:=by
          unfold cY
          cases hd:D.nZ kd kd2 with
          |true=>
           have:=(D.gU _ _).1 hd
           subst this
           rfl
          |false=>rfl
         grind
        ·have hb:Nat.beq en.aX vm=false:=by
          grind [Nat.beq,Nat.eq_of_beq_eq_true]
         have o1:(s.wr U3.rg).obj m vm=none:=by
          grind [S.obj,S.wr,bA]
         have o2:(s.wr sy.rg).obj m vm=none:=by
          grind [S.obj,S.wr]
         rw[o1,o2]
       grind [lk,bU,S.obj,S.wr]
      ·rfl
      ·rfl
     ·cases h
    ·cases h
   ·cases h
  ·cases h
 ·cases h
theorem E1 {Q:Program} {cf:CF} {ops:List Oper} {s sy U3:S} {x y:Oper} {t:TypeId} {n:Nat} (hx:Hw x=some t) (hy:ON y=some (t,n)) (bX:bu Q cf ops sy y=some U3) (EB:n∉(bK Q ops s x).ns):tP Q ops s x sy.rg U3.rg:=by
 unfold Hw at hx
 unfold ON at hy
 split at hx
 ·rename_i t' xm xk hxo
  split at hy
  ·rename_i t2 ym yk hyo
   simp only[zal,zbB] at hx hy
   subst hx
   obtain⟨rfl,rfl⟩:=hy
   refine⟨⟨_,_,_,hxo⟩,fun g hg=> ?_⟩
   have hk:aB x<=1:=by simp[aB,hxo]
   have V6: ∀n v,s.eg g xm= .mp n v->n≠site y.dst:=fun n v hv e=>by
    refine EB ?_
    rw[(iO (Q:=Q) (s:=s) hk hg).2 (by simp[aB,hxo]),<-e]
    exact qc _ (s.eg g xm) n v (za6 (by simp[hxo,Op.operands])) (by rw[hv];rfl)
   have act: ∀g',fY Q cf sy y g'=some U3->pv Q (s.wr U3.rg) x g=pv Q (s.wr sy.rg) x g:=fun g' h=>by
    have hc:gx y=none:=by unfold gx;rw[hyo]
    have UZ:cZ Q y=none:=by unfold cZ;rw[hyo]
    have U1:pv Q sy y g'=none:=by unfold pv;rw[hyo]
    have AY:rb y=none:=by unfold rb;rw[hyo]
    unfold fY exec at h
    simp only[hc,AY] at h
    unfold jk ef at h
    simp only[UZ,U1,hyo] at h
    have:=E0 (s:=s) (q:=s.eg g xm) (i:=s.eg g xk) h V6
    unfold pv
    rw[hxo]
    exact this
   grind [bu,bw]
  ·cases hy
 ·cases hx
theorem Ko {m:Nat} {M:List Nat} {i j:Nat} {x y:Step} {q:Prop} (h:ix m M i x j y q):q:=by
 unfold ix at h
 grind [l9,PV,mI]
theorem H9 {m:Nat} {M:List Nat} {i:Nat} {x:Step}: ∀(l:List Step) (j0:Nat) (q:Prop),LM (ix m M i x) j0 l q->q
 | [],_,_,h=>h
 |_::r,j0,q,h=>H9 r (j0+1) q (Ko h)
theorem E2 {m:Nat} {M:List Nat} {i:Nat} {x:Step}: ∀(l:List Step) (j0:Nat) (q:Prop),LM (ix m M i x) j0 l q-> ∀j y,l[j]?=some y-> ∃q',ix m M i x (j0+j) y q'
 | [],_,_,_,j,y,hy=>by simp at hy
 |z::r,j0,q,h,j,y,hy=>by
  cases j with
  |zero=>simp at hy;subst hy;exact⟨_,h⟩
  |succ j=>
   obtain⟨q',hq⟩:=E2 r (j0+1) q (Ko h) j y (by grind)
   grind
theorem rp {m:Nat} {M:List Nat}: ∀(l:List Step) (i0:Nat) (q:Prop),tH (ix m M) i0 l q-> ∀i j x y,i<j->l[i]?=some x->l[j]?=some y-> ∃q',ix m M (i0+i) x (i0+j) y q'
 | [],_,_,_,i,j,x,y,_,hx,_=>by simp at hx
 |z::r,i0,q,h,i,j,x,y,qq,hx,hy=>by
  cases i with
  |zero=>
   obtain⟨j,rfl⟩: ∃j',j=j'+1:=⟨j-1,by omega⟩
   obtain⟨q',hq⟩:=E2 r (i0+1) _ h j y (by grind)
   grind
  |succ i=>
   obtain⟨j,rfl⟩: ∃j',j=j'+1:=⟨j-1,by omega⟩
   obtain⟨q',hq⟩:=rp r (i0+1) q (H9 r (i0+1) _ h) i j x y (by omega) (by grind) (by grind)
   grind
theorem xG {m:Nat} {M:List Nat}: ∀(l:List Step) (i0:Nat) (q:Prop),tH (ix m M) i0 l q->q
 | [],_,_,h=>h
 |_::r,i0,q,h=>xG r (i0+1) q (H9 r (i0+1) _ h)
theorem rq: ∀(ns:List Nat) (y:Step) (q r:Prop),(q->r)->se ns y q->se ns y r
 | [],_,_,_,h,hs=>h hs
 |n::ns,y,q,r,h,hs=>by
  simp only[se] at hs⊢
  cases hb:OO y.info.ws n with
  |true=>rw[hb] at hs;exact⟨hs.1,rq ns y q r h hs.2⟩
  |false=>rw[hb] at hs;exact rq ns y q r h hs
theorem Ia {m:Nat} {M:List Nat} {i j:Nat} {x y:Step} {q r:Prop} (Wf:q->r) (h:ix m M i x j y q):ix m M i x j y r:=by
 unfold ix at h⊢
 grind [l9,EZ,rq]
theorem AZ {m:Nat} {M:List Nat} {i:Nat} {x:Step}: ∀(l:List Step) (j0:Nat) (q r:Prop),(q->r)->LM (ix m M i x) j0 l q->LM (ix m M i x) j0 l r
 | [],_,_,_,Wf,h=>Wf h
 |_::l,j0,q,r,Wf,h=>Ia (AZ l (j0+1) q r Wf) h
theorem pA {m:Nat} {M:List Nat}: ∀(l:List Step) (i0:Nat) (q r:Prop),(q->r)->tH (ix m M) i0 l q->tH (ix m M) i0 l r
 | [],_,_,_,Wf,h=>Wf h
 |_::l,i0,q,r,Wf,h=>AZ l (i0+1) _ _ (pA l (i0+1) q r Wf) h
theorem xH {Q:Program} {cf:CF} {ops:List Oper} {m:Nat} {M:List Nat} {St:Nat->S} {i j:Nat} {x y:Oper} (hsx:bu Q cf ops (St i) x=some (St (i+1))) (hsy:bu Q cf ops (St j) y=some (St (j+1))) (jH:aB x<=1\/aB y<=1) (hb:Nat.testBit (M.getD j 0) i=false) {q:Prop}
  (hq:ix m M i (mA Q ops (St i) x (St (i+1))) j (mA Q ops (St j) y (St (j+1))) q):
  l9 (bK Q ops (St i) x) (bK Q ops (St j) y)=true\/
  ((bK Q ops (St i) x).pure=true/\((∀n∈(bK Q ops (St i) x).ns,lk (St (j+1)).rg n=lk (St j).rg n)\/tP Q ops (St i) x (St j).rg (St (j+1)).rg))\/
  ((bK Q ops (St j) y).pure=true/\((∀n∈(bK Q ops (St j) y).ns,lk (St (i+1)).rg n=lk (St i).rg n)\/tP Q ops (St j) y (St i).rg (St (i+1)).rg)):=by
 unfold ix at hq
 simp only[mA] at hq
 simp only[hb,zbo] at hq
 cases hap:l9 (bK Q ops (St i) x) (bK Q ops (St j) y) with
 |true=>simp
 |false=>
  right
  rw[hap] at hq
  cases Ch:(bK Q ops (St i) x).pure with
  |true=>
   cases zG:(bK Q ops (St j) y).pure with
   |true=>grind [l9]
   |false=>
    left
    simp only[Ch,zG,zbS,zbn] at hq
    refine⟨rfl,?_⟩
    rcases xF hq with⟨f,hf,h1,h2,h3⟩|hq
    ·grind [E1]
    refine .inl fun n hn=> ?_
    by_cases hw:wk (bK Q ops (St j) y).ws n
    ·grind [mI]
    ·exact j9 (by
      by_cases hk:aB y<=1
      ·cases hg:bn ops y with
       |none=>grind [bu]
       |some g=>rw[(iO hk hg).1] at zG;cases zG
      ·omega) (hsy) hw
  |false=>
   cases zG:(bK Q ops (St j) y).pure with
   |true=>
    right
    simp only[Ch,zG,zbS,zbn] at hq
    refine⟨rfl,?_⟩
    rcases xF hq with⟨f,hf,h1,h2,h3⟩|hq
    ·grind [E1]
    refine .inl fun n hn=> ?_
    by_cases hw:wk (bK Q ops (St i) x).ws n
    ·grind [mI]
    ·exact j9 (by
      by_cases hk:aB x<=1
      ·cases hg:bn ops x with
       |none=>grind [bu]
       |some g=>rw[(iO hk hg).1] at Ch;cases Ch
      ·omega) (hsx) hw
   |false=>
    exfalso
    rcases jH with hk |hk
    ·cases hg:bn ops x with
     |none=>grind [bu]
     |some g=>rw[(iO hk hg).1] at Ch;cases Ch
    ·cases hg:bn ops y with
     |none=>grind [bu]
     |some g=>rw[(iO hk hg).1] at zG;cases zG
theorem uS {ops:List Oper} {o:Oper}:(kK ops o).dst=o.dst/\(kK ops o).after=o.after/\(kK ops o).guard=o.guard/\(kK ops o).op=o.op:=by
 unfold kK
 split<;>exact⟨rfl,rfl,rfl,rfl⟩
theorem Wg {ops:List Oper} {o:Oper} (h:VI ops o=true): ∃t l ps,o.op= .buildSlice t l ps/\o.guard=none:=by
 grind [VI]
theorem xI {ops:List Oper} {i:Nat}:(cR ops).toArray[i]?=(ops.toArray[i]?).map (kK ops):=by
 simp[cR]
theorem rr {ops:List Oper} {listed:Array Bool} {i:Nat}:i∈Region.ready .any (cR ops).toArray listed↔i∈Region.ready .any ops.toArray listed:=by
 rw[mem_ready,mem_ready]
 grind [xI,uS,kK]
theorem CI {ops:List Oper} (tmps:Array Value):yielded (cR ops).toArray tmps=yielded ops.toArray tmps:=by
 funext j
 unfold yielded
 rw[xI]
 grind [uS]
theorem Wh {Q:Program} {F:Fence} {n:Nat} {ops:List Oper} {Q':Exit->Act->World->Prop} {i:Nat} {K:Act->World->Prop} {a:Act} {w:World} (h:wpOpIn F n Q (cR ops).toArray Q' i K a w):wpOpIn F n Q ops.toArray Q' i K a w:=by
 unfold wpOpIn at h⊢
 rw[xI,CI] at h
 cases ho:ops.toArray[i]? with
 |none=>rw[ho] at h;exact h
 |some o=>
  rw[ho] at h
  simp only[zaK] at h⊢
  by_cases hv:VI ops o=true
  ·obtain⟨t,l,ps,sr,Kl⟩:=Wg hv
   have e:kK ops o={o with type:=4000000}:=by unfold kK;rw[zao hv]
   rw[e] at h
   obtain⟨dst,op,ty,pos,af,gd⟩:=o
   subst sr Kl
   have e2: ∀ty',Oper.semAt F.round a.eval ⟨dst,.buildSlice t l ps,ty',pos,af,none⟩=execOp a.eval ⟨dst,.buildSlice t l ps,0,pos,af,none⟩:=fun ty'=>by
    rw[Oper.semAt_eq _ _ _ (by simp)]
    rfl
   refine⟨h.1,?_⟩
   have h2:=h.2
   simp only[e2] at h2⊢
   generalize (execOp a.eval ⟨dst,.buildSlice t l ps,0,pos,af,none⟩).run Q w=r at h2⊢
   cases r with
   |ok x w'=>cases x<;>exact h2
   |halt x w'=>cases x<;>exact h2
  grind [kK]
theorem E3 {Q:Program} {F:Fence} {n:Nat} {ops:List Oper} {Q':Exit->Act->World->Prop}: ∀(fuel:Nat) (listed:Array Bool) (a:Act) (w:World),wpAnyIn F n Q .any (cR ops).toArray Q' fuel listed a w->wpAnyIn F n Q .any ops.toArray Q' fuel listed a w
 |0,listed,a,w,h=>by
  have qhM:Region.ready .any ops.toArray listed=[]:=zcW.2 fun i hi=>by
   have:=rr.2 hi
   rw[h.1] at this
   cases this
  exact⟨qhM,h.2⟩
 |fuel+1,listed,a,w,h=>by
  refine⟨fun hr=>h.1 (zcW.2 fun i hi=>by
   have:=rr.1 hi
   rw[hr] at this
   cases this),fun i hi=> ?_⟩
  exact wpOpIn_mono (fun a w h=>E3 fuel _ a w h) (Wh (h.2 i (rr.2 hi)))
theorem uT {Q:Program} {T:Tg} {cf:CF} (jq:dt Q T.w0 cf) {ops:List Oper} {F:Nat->Prop} {G:Nat->Value} {w:World} {a:Act} {s s':S} {r:Option Nat} {Q':Exit->Act->World->Prop}
  (h:aC Q T F G w a s) (hs:jl Q cf ops s=some s') (hK: ∀a' w',iM Q T F G w s s' a' w'->Q' .normal a' w'):wpAnyIn (wd r) 0 Q .any ops.toArray Q' ops.toArray.size (Array.replicate ops.toArray.size false) a {w with drawn:=w.drawn+1}:=by
 have main: ∀St,Text Q cf ops (masks ops []) St ops.length->St 0=s->St ops.length=s'->wpAnyIn (wd r) 0 Q .any ops.toArray Q' ops.toArray.size (Array.replicate ops.toArray.size false) a {w with drawn:=w.drawn+1}:=by
  intro St tx h0 h1
  have fX:(fun j=>(Array.replicate ops.length false).getD j false=true)=fun _=>False:=by
   funext j
   simp only[zaD,zc7]
   split<;>simp
  have hsr:aC Q T F G {w with drawn:=w.drawn+1} a s:=h.drawn _ (zc2 _)
  have:=qbL (T:=T) (r:=r) tx jq (Q':=Q') ops.length (Array.replicate ops.length false) a {w with drawn:=w.drawn+1} s F G (by simp) (by
    rw[Array.toList_replicate,List.count_replicate];simp) (by
    rw[fX];intro i o _ hf;grind) (by
    rw[fX]
    exact⟨by rw[h0],fun i o t _ hf=>hf.elim,fun t _=>by rw[h0],⟨0,by omega,by rw[h0],fun i o _ _=>by simp⟩⟩) hsr
    (fun a' w' hp=>hK a' w' (by
     obtain⟨F',G',k1,k2⟩:=hp
     rw[h1] at k1 k2
     exact⟨F',G',k1,⟨k2.kN,k2.mD,k2.lD,k2.keep,k2.size,k2.os,k2.tape,k2.output⟩⟩))
  grind
 unfold jl at hs
 have Cr: ∀k,dh ops=k+1->jc (LL (masks ops [])) 0 ops=true/\gE (J1 ops (masks ops [])) 0 ops=true/\(k≠0->gE (fun i x j y=>Nat.testBit ((masks ops []).getD j 0) i ||OM x y) 0 ops=true):=by
  grind [dh]
 have zero: ∀i:Nat,0+i=i:=zaF
 split at hs
 ·cases hs
 ·rename_i hc
  obtain⟨c1,c2,_⟩:=Cr 0 hc
  split at hs
  ·rename_i s1 l hd
   split at hs
   ·rename_i qbM
    simp at hs
    subst hs
    obtain⟨St,g1,g2,g3,g4⟩:=me ops _ _ _ hd
    refine main St ⟨fun i o ho=> ?_,fun i j x y qq hx hy=>Ax ?_,g3,fun i j x y qq hx hy _ hb=> .inr ?_⟩ g1 g2
    ·have:=fm ops 0 c1 i o ho;rwa [zero] at this
    ·have:=gb ops 0 c2 i j x y qq hx hy;rwa [zero,zero] at this
    ·obtain⟨q,hq⟩:=rp l 0 True qbM i j _ _ qq (g4 i x hx) (g4 j y hy)
     rw[zero,zero] at hq
     exact xH (g3 i x hx) (g3 j y hy) (by assumption) hb hq
   ·cases hs
  ·cases hs
 ·rename_i h0 h1
  obtain⟨k,hk⟩: ∃k,dh ops=k+1+1:=by
   simp_all [dh]
  obtain⟨c1,c2,c3⟩:=Cr (k+1) hk
  have c3:=c3 (by omega)
  obtain⟨St,g1,g2,g3⟩:=mH ops _ _ hs
  refine main St ⟨fun i o ho=> ?_,fun i j x y qq hx hy=>Ax ?_,g3,fun i j x y qq hx hy _ hb=> .inl ?_⟩ g1 g2
  ·have:=fm ops 0 c1 i o ho;rwa [zero] at this
  ·have:=gb ops 0 c2 i j x y qq hx hy;rwa [zero,zero] at this
  ·have:=gb ops 0 c3 i j x y qq hx hy
   simp only[zero,hb,zbo,OM,za9,zab] at this
   grind [Nat.eq_of_beq_eq_true,Nat.le_of_ble_eq_true]
end Pi
