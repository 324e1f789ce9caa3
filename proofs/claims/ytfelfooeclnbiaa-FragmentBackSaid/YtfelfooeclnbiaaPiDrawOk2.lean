/- The text PiDrawOk2. -/
import Derived.Test.YtfelfooeclnbiaaPiDrawOk
import Derived.Orders
namespace Pi
open Go
theorem ar.alike{Q:Program}{T:Tg}{F:Nat->Prop}{G:Nat->Value}{w:World}{a:Act}{s s2:S}(h:ar Q T F G w a s)(hn:s.n=s2.n)(hr:s.rg=s2.rg)(ht: ∀t,lk s.tm t=lk s2.tm t):ar Q T F G w a s2:=
 ⟨hr▸h.r4,hn▸h.size,λt p hp=>by rw[<-hr];exact h.tm t p ((ht t).trans hp),λn e he=>by rw[<-hr] at he⊢;exact h.rg n e he,
  λn m e e' b he bb=>by rw[<-hr] at he bb;exact h.own n m e e' b he bb,λn e b he=>by rw[<-hr] at he;exact h.iO n e b he,h.gK,λn e i he=>by rw[<-hr] at he;exact h.tag n e i he,h.z,h.dr,h.sz⟩
theorem ar.drawn{Q:Program}{T:Tg}{F:Nat->Prop}{G:Nat->Value}{w:World}{a:Act}{s:S}(h:ar Q T F G w a s)(k:Nat)(hk:w.drawn<=k):ar Q T F G {w with drawn:=k} a s:=
 ⟨h.r4,h.size,λt p hp=>bx.mono (w:=w) (w':={w with drawn:=k}) (λ_ h=>h) (λ_ _=>rfl) (Names.refl _ _) (h.tm t p hp),λn e he=>(h.rg n e he).mono (w':={w with drawn:=k}) (λ_ h=>h) (λ_ _=>rfl) (Names.refl _ _) rfl (λ_ _=>rfl),
  h.own,h.iO,h.gK,h.tag,h.z,zaB h.dr hk,h.sz⟩
theorem oJ{ops:Array Oper}{aj:Array Bool}(bM:aj.size=ops.size)(gw: ∀(i:Nat) (o:Oper),ops[i]?=some o-> ∀e∈o.after,Region.binds .any e=true->e.on<i)
  (hr:Region.ready .any ops aj=[]): ∀i,i<ops.size->aj.getD i false=true:=by
 intro i
 induction i using Nat.strongRecOn with
 |ind i ih=>
  intro hi;cases hb:aj.getD i false with
  |true=>rfl
  |false=>have ho:ops[i]?=some ops[i]:=zbf hi;have:i∈Region.ready .any ops aj:=mem_ready.2 ⟨by grind,_,ho,λe he sd=>ih e.on (gw i _ ho e he sd) (by have:=gw i _ ho e he sd;omega)⟩;rw[hr] at this;cases this
section
variable{Q:Program}{T:Tg}{cf:CF}{ops:List Oper}{M:List Nat}{St:Nat->S}{r:Option Nat}
theorem A6(tx:Text Q cf ops M St ops.length)(iG:iR Q T.w0 cf){Q':Exit->Act->World->Prop}: ∀(fuel:Nat) (aj:Array Bool) (a:Act) (w:World) (s:S) (F:Nat->Prop) (G:Nat->Value),
  aj.size=ops.length->fuel+aj.toList.count true=ops.length->qW ops (λj=>aj.getD j false=true)->Inv ops St (λj=>aj.getD j false=true) s->ar Q T F G w a s->
  (∀a' w',gi Q T F G w s (St ops.length) a' w'->Q' .normal a' w')->wpAnyIn (wd r) 0 Q .any ops.toArray Q' fuel aj a w:=by
 have gw: ∀(i:Nat) (o:Oper),ops.toArray[i]?=some o-> ∀e∈o.after,Region.binds .any e=true->e.on<i:=λi o ho e he hb=>tx.back (by grind) he hb;have fin: ∀(aj:Array Bool) (a:Act) (w:World) (s:S) (F:Nat->Prop) (G:Nat->Value),(∀i,i<ops.length->aj.getD i false=true)->Inv ops St (λj=>aj.getD j false=true) s->ar Q T F G w a s->
   (∀a' w',gi Q T F G w s (St ops.length) a' w'->Q' .normal a' w')->Q' .normal a w:=by
  intro aj a w s F G dk hi h hK;obtain⟨h1,h2,h3⟩:=tx.last hi (λi o ho=>dk i (zaa.1 ho).1);exact hK a w ⟨F,G,h.alike h1 h2 h3,by rw[<-h2];exact Ext.refl _ _ _⟩
 intro fuel
 induction fuel with
 |zero=>
  intro aj a w s F G bM hc hL hi h hK;have dk: ∀i,i<ops.length->aj.getD i false=true:=λi bA=>by
   have Ad:aj.toList.count true=aj.toList.length:=by rw[zbQ,bM];omega
   have:=List.count_eq_length.1 Ad aj[i] (by simp);simp_all
  refine⟨?_,fin aj a w s F G dk hi h hK⟩;cases hr:Region.ready .any ops.toArray aj with
  |nil=>rfl
  |cons i r=>
   have hm:i∈Region.ready .any ops.toArray aj:=by rw[hr];simp
   obtain⟨h0,o,ho,_⟩:=mem_ready.1 hm;grind
 |succ fuel ih=>
  intro aj a w s F G bM hc hL hi h hK;refine⟨λhr=>fin aj a w s F G (λi bA=>oJ (by simp[bM]) gw hr i (by grind)) hi h hK,λi hm=> ?_⟩;obtain⟨h0,o,ho,pR⟩:=mem_ready.1 hm;have pQ:ops[i]?=some o:=by grind
  have bA:i<ops.length:=(zaa.1 pQ).1;have hl:i<aj.size:=by omega
  have dY: ¬aj.getD i false=true:=by grind
  obtain⟨s1,ny,u2⟩:=tx.go hL hi pQ dY pR (λh=>by grind) (λe=>by omega);have ij: ∀j,((aj.setIfInBounds i true).getD j false=true)↔(aj.getD j false=true\/j=i):=λj=>by
   by_cases hj:j=i
   ·simp_all
   rw[getD_set_ne false (λe=>hj e.symm)];simp[hj]
  have qY:(λj=>(aj.setIfInBounds i true).getD j false=true)=(λj=>aj.getD j false=true\/j=i):=funext λj=>propext (ij j);have u6:fuel+(aj.setIfInBounds i true).toList.count true=ops.length:=by
   have e:(aj.setIfInBounds i true).toList=aj.toList.set i true:=by simp
   rw[e,List.count_set (by grind)];have:(aj.toList[i]'(by grind)==true)=false:=by simp[hl] at dY⊢;exact dY
   grind
  have gH:=iH iG h ny (r:=r) (K:=wpAnyIn (wd r) 0 Q .any ops.toArray Q' fuel (aj.setIfInBounds i true)) (Q':=Q') (λa' w' ⟨F',G',g1,g2⟩=>
   ih (aj.setIfInBounds i true) a' w' s1 F' G' (by simp[bM]) u6 (by
    rw[qY];intro j x hj gI e he hb;rcases gI with gI |rfl
    ·exact .inl (hL j x hj gI e he hb)
    rw[pQ] at hj;cases hj;exact .inl (pR e he hb)) (by rw[qY];exact u2) g1 (λa2 w2 hp=>hK a2 w2 (hp.trans g2)))
  unfold wpOpIn;rw[ho];simp only[];split
  ·grind
  rename_i hw;rw[zay hw] at gH;exact⟨λ_ _=>trivial,gH⟩
end
theorem fJ{Q:Program}{cf:CF}{ops:List Oper}: ∀(l:List Oper) (s s':S),bC Q cf ops l s=some s'-> ∃St:Nat->S,St 0=s/\St l.length=s'/\ ∀i o,l[i]?=some o->aE Q cf ops (St i) o=some (St (i+1))
 | [],s,s',h=>by simp[bC] at h;exact⟨λ_=>s,rfl,h,λi o ho=>by simp at ho⟩
 |o::l,s,s',h=>by
  simp only[bC] at h;split at h
  next s1 h1=>obtain⟨St,g1,g2,g3⟩:=fJ l s1 s' h;refine⟨λi=>match i with |0=>s |i+1=>St i,rfl,g2,λi x hx=> ?_⟩;grind
  cases h
theorem fu{Q:Program}{cf:CF}{ops:List Oper}: ∀(l:List Oper) (s s':S) (is:List Step),gV Q cf ops l s=some (s',is)-> ∃St:Nat->S,St 0=s/\St l.length=s'/\(∀i o,l[i]?=some o->aE Q cf ops (St i) o=some (St (i+1)))/\ ∀(i:Nat) (o:Oper),l[i]?=some o->is[i]?=some (fC Q ops (St i) o (St (i+1)))
 | [],s,s',is,h=>by simp[gV] at h;exact⟨λ_=>s,rfl,h.1,λi o ho=>by simp at ho,λi o ho=>by simp at ho⟩
 |o::l,s,s',is,h=>by
  simp only[gV] at h;split at h
  ·cases h
  rename_i s1 h1;split at h
  next s2 Hr h2=>
   simp at h;obtain⟨rfl,rfl⟩:=h;obtain⟨St,g1,g2,g3,g4⟩:=fu l s1 s2 Hr h2;refine⟨λi=>match i with |0=>s |i+1=>St i,rfl,g2,λi x hx=> ?_,λi x hx=> ?_⟩
   ·grind
   grind
  cases h
theorem zi{W:List Nat×Nat×Nat}{n:Nat}(h:l5 W n):v8 W n=true:=by
 unfold v8;rcases h with h | ⟨h1,h2⟩
 ·rw[(ey _ _).2 h];rfl
 simp_all
theorem fK: ∀(ns:List Nat) (y:Step) (q:Prop),jO ns y q->(∀n∈ns,l5 y.info.ws n->lk y.FU n=lk y.FT n)/\q
 | [],y,q,h=>⟨by simp,h⟩
 |n::r,y,q,h=>by
  simp only[jO] at h;cases hb:v8 y.info.ws n with
  |true=>rw[hb] at h;obtain⟨h1,h2⟩:=fK r y q h.2;grind
  |false=>rw[hb] at h;obtain⟨h1,h2⟩:=fK r y q h;grind [zi]
theorem xv{x y:Step}{same:Prop->Prop}(hs: ∀q,same q->q){q:Prop}(h:leaves x y same q):q:=by grind [leaves,dR]
theorem qZ{x y:Step}{same:Prop->Prop}(hs: ∀q r:Prop,(q->r)->same q->same r){q r:Prop}(zj:q->r)(h:leaves x y same q):leaves x y same r:=by grind [leaves,dR]
theorem mV{x y:Step}{same:Prop->Prop}{q:Prop}(h:leaves x y same q):(∃t n,y.FV=some (t,n)/\x.look=some t/\n∉x.info.ns)\/same q:=by
 unfold leaves at h;split at h
 next t n t' h1 h2=>
  cases hb:(Nat.beq t t'&& !dR n x.info.ns) with
  |true=>simp only[zac,zaV] at hb;have ht:=zab hb.1;grind [ey]
  |false=>rw[hb] at h;exact .inr h
 grind
theorem q4{Q:Program}{sy yq:S}{dst:Option Nat}{t:TypeId}{p k:P}(h:dE Q sy dst t p k=some yq){s:S}{q i:P}(hq: ∀n v,q= .mp n v->n≠site dst):
  (match(cC Q t).bind λy=>bV Q y.2 with |some z=>bL Q (s.wr yq.rg) t q i false z |none=>none)=(match(cC Q t).bind λy=>bV Q y.2 with |some z=>bL Q (s.wr sy.rg) t q i false z |none=>none):=by
 unfold dE at h;split at h
 next kt e n v kd nK=>
  split at h
  next z hz=>
   split at h
   ·rename_i gJ get c ho;split at h
    ·rename_i hc;simp only[zac,zaV] at hc;obtain⟨⟨kX,sb⟩,rG⟩:=hc;have kX:=zab kX;have rG:n≠site dst:=λe=>by rw[e,Nat.beq_refl] at rG;cases rG
     split at h
     ·rename_i s1 v1 hn;obtain⟨ny,_⟩:=S.eS hn;obtain⟨en,dZ,bP,aO⟩:=S.aJ ho;have su:lk s1.rg n=some en:=by grind [aS]
      have DL:yq.rg=ins n ⟨en.ay,en.tag,.eb kt (cN kd (gE (get kd) z) get) (bif (get kd).isSome then c else c+1) (.mp (site dst) v1) kd⟩ s1.rg:=by rw[aB h];unfold S.setObj;rw[su]
      simp only[nK,zai,hz];unfold bL;split
      ·rename_i yK e2 m vm EV tu;by_cases Ic:m=n
       ·skip
        by_cases hv:vm=en.ay
        ·skip
         have o1:(s.wr yq.rg).obj m en.ay=some (.eb kt (cN kd (gE (get kd) z) get) (bif (get kd).isSome then c else c+1) (.mp (site dst) v1) kd):=by grind [S.obj,S.wr,aK]
         have o2:(s.wr sy.rg).obj m en.ay=some (.map kt get c false):=by grind [S.obj,S.wr]
         have hg:(cN kd (gE (get kd) z) get EV).getD z=(get EV).getD z:=by
          unfold cN;cases hd:D.fy kd EV with
          |true=>have:=(D.b7 _ _).1 hd;subst this;rfl
          |false=>rfl
         grind
        have hb:Nat.beq en.ay vm=false:=by grind [Nat.beq,Nat.eq_of_beq_eq_true]
        have o1:(s.wr yq.rg).obj m vm=none:=by grind [S.obj,S.wr,aK]
        have o2:(s.wr sy.rg).obj m vm=none:=by grind [S.obj,S.wr]
        rw[o1,o2]
       grind [lk,aS,S.obj,S.wr]
      ·rfl
      rfl
     cases h
    cases h
   cases h
  cases h
 cases h
theorem q5{Q:Program}{cf:CF}{ops:List Oper}{s sy yq:S}{x y:Oper}{t:TypeId}{n:Nat}(hx:rS x=some t)(hy:v7 y=some (t,n))(a8:aE Q cf ops sy y=some yq)(rG:n∉(aL Q ops s x).ns):kJ Q ops s x sy.rg yq.rg:=by
 unfold rS at hx;unfold v7 at hy;split at hx
 next t' xm xk CM=>
  split at hy
  next t2 ym yk CN=>
   simp only[zae,za4] at hx hy;subst hx;obtain⟨rfl,rfl⟩:=hy;refine⟨⟨_,_,_,CM⟩,λg hg=> ?_⟩;have hk:ak x<=1:=by simp[ak,CM]
   have zd: ∀n v,s.eg g xm= .mp n v->n≠site y.dst:=λn v hv e=>by refine rG ?_;rw[(dz (Q:=Q) (s:=s) hk hg).2 (by simp[ak,CM]),<-e];exact iI _ (s.eg g xm) n v (zbi (by simp[CM,Op.operands])) (by rw[hv];rfl)
   have act: ∀g',cG Q cf sy y g'=some yq->pv Q (s.wr yq.rg) x g=pv Q (s.wr sy.rg) x g:=λg' h=>by
    have hc:eJ y=none:=by unfold eJ;rw[CN]
    have yj:bm Q y=none:=by unfold bm;rw[CN]
    have yn:pv Q sy y g'=none:=by unfold pv;rw[CN]
    have Hs:jl y=none:=by unfold jl;rw[CN]
    unfold cG exec at h;simp only[hc,Hs] at h;unfold dL ef at h;simp only[yj,yn,CN] at h;have:=q4 (s:=s) (q:=s.eg g xm) (i:=s.eg g xk) h zd;unfold pv;rw[CM];exact this
   grind [aE,aB]
  cases hy
 cases hx
theorem tO{m:Nat}{M:List Nat}{i j:Nat}{x y:Step}{q:Prop}(h:dn m M i x j y q):q:=by unfold dn at h;grind [fk,xv,fK]
theorem sN{m:Nat}{M:List Nat}{i:Nat}{x:Step}: ∀(l:List Step) (j0:Nat) (q:Prop),uo (dn m M i x) j0 l q->q
 | [],_,_,h=>h
 |_::r,j0,q,h=>sN r (j0+1) q (tO h)
theorem q6{m:Nat}{M:List Nat}{i:Nat}{x:Step}: ∀(l:List Step) (j0:Nat) (q:Prop),uo (dn m M i x) j0 l q-> ∀j y,l[j]?=some y-> ∃q',dn m M i x (j0+j) y q'
 | [],_,_,_,j,y,hy=>by simp at hy
 |z::r,j0,q,h,j,y,hy=>by
  cases j with
  |zero=>simp at hy;subst hy;exact⟨_,h⟩
  |succ j=>obtain⟨q',hq⟩:=q6 r (j0+1) q (tO h) j y (by grind);grind
theorem jA{m:Nat}{M:List Nat}: ∀(l:List Step) (i0:Nat) (q:Prop),ku (dn m M) i0 l q-> ∀i j x y,i<j->l[i]?=some x->l[j]?=some y-> ∃q',dn m M (i0+i) x (i0+j) y q'
 | [],_,_,_,i,j,x,y,_,hx,_=>by simp at hx
 |z::r,i0,q,h,i,j,x,y,je,hx,hy=>by
  cases i with
  |zero=>
   obtain⟨j,rfl⟩: ∃j',j=j'+1:=⟨j-1,by omega⟩
   obtain⟨q',hq⟩:=q6 r (i0+1) _ h j y (by grind);grind
  |succ i=>
   obtain⟨j,rfl⟩: ∃j',j=j'+1:=⟨j-1,by omega⟩
   obtain⟨q',hq⟩:=jA r (i0+1) q (sN r (i0+1) _ h) i j x y (by omega) (by grind) (by grind);grind
theorem mW{m:Nat}{M:List Nat}: ∀(l:List Step) (i0:Nat) (q:Prop),ku (dn m M) i0 l q->q
 | [],_,_,h=>h
 |_::r,i0,q,h=>mW r (i0+1) q (sN r (i0+1) _ h)
theorem jB: ∀(ns:List Nat) (y:Step) (q r:Prop),(q->r)->jO ns y q->jO ns y r
 | [],_,_,_,h,hs=>h hs
 |n::ns,y,q,r,h,hs=>by
  simp only[jO] at hs⊢;cases hb:v8 y.info.ws n with
  |true=>rw[hb] at hs;exact⟨hs.1,jB ns y q r h hs.2⟩
  |false=>rw[hb] at hs;exact jB ns y q r h hs
theorem sO{m:Nat}{M:List Nat}{i j:Nat}{x y:Step}{q r:Prop}(zj:q->r)(h:dn m M i x j y q):dn m M i x j y r:=by unfold dn at h⊢;grind [fk,qZ,jB]
theorem oK{m:Nat}{M:List Nat}{i:Nat}{x:Step}: ∀(l:List Step) (j0:Nat) (q r:Prop),(q->r)->uo (dn m M i x) j0 l q->uo (dn m M i x) j0 l r
 | [],_,_,_,zj,h=>zj h
 |_::l,j0,q,r,zj,h=>sO (oK l (j0+1) q r zj) h
theorem ik{m:Nat}{M:List Nat}: ∀(l:List Step) (i0:Nat) (q r:Prop),(q->r)->ku (dn m M) i0 l q->ku (dn m M) i0 l r
 | [],_,_,_,zj,h=>zj h
 |_::l,i0,q,r,zj,h=>oK l (i0+1) _ _ (ik l (i0+1) q r zj) h
theorem mX{Q:Program}{cf:CF}{ops:List Oper}{m:Nat}{M:List Nat}{St:Nat->S}{i j:Nat}{x y:Oper}(Ht:aE Q cf ops (St i) x=some (St (i+1)))(Hu:aE Q cf ops (St j) y=some (St (j+1)))(dT:ak x<=1\/ak y<=1)(hb:Nat.testBit (M.getD j 0) i=false){q:Prop}
  (hq:dn m M i (fC Q ops (St i) x (St (i+1))) j (fC Q ops (St j) y (St (j+1))) q):
  fk (aL Q ops (St i) x) (aL Q ops (St j) y)=true\/
  ((aL Q ops (St i) x).pure=true/\((∀n∈(aL Q ops (St i) x).ns,lk (St (j+1)).rg n=lk (St j).rg n)\/kJ Q ops (St i) x (St j).rg (St (j+1)).rg))\/
  ((aL Q ops (St j) y).pure=true/\((∀n∈(aL Q ops (St j) y).ns,lk (St (i+1)).rg n=lk (St i).rg n)\/kJ Q ops (St j) y (St i).rg (St (i+1)).rg)):=by
 unfold dn at hq;simp only[fC] at hq;simp only[hb,zcg] at hq;cases Hv:fk (aL Q ops (St i) x) (aL Q ops (St j) y) with
 |true=>simp
 |false=>
  right;rw[Hv] at hq;cases Ab:(aL Q ops (St i) x).pure with
  |true=>
   cases uC:(aL Q ops (St j) y).pure with
   |true=>grind [fk]
   |false=>
    left;simp only[Ab,uC,zaM,zaL] at hq;refine⟨rfl,?_⟩;rcases mV hq with⟨f,hf,h1,h2,h3⟩|hq
    ·grind [q5]
    refine .inl λn hn=> ?_;by_cases hw:l5 (aL Q ops (St j) y).ws n
    ·grind [fK]
    exact eu (by
     by_cases hk:ak y<=1
     ·cases hg:aA ops y with
      |none=>grind [aE]
      |some g=>rw[(dz hk hg).1] at uC;cases uC
     omega) (Hu) hw
  |false=>
   cases uC:(aL Q ops (St j) y).pure with
   |true=>
    right;simp only[Ab,uC,zaM,zaL] at hq;refine⟨rfl,?_⟩;rcases mV hq with⟨f,hf,h1,h2,h3⟩|hq
    ·grind [q5]
    refine .inl λn hn=> ?_;by_cases hw:l5 (aL Q ops (St i) x).ws n
    ·grind [fK]
    exact eu (by
     by_cases hk:ak x<=1
     ·cases hg:aA ops x with
      |none=>grind [aE]
      |some g=>rw[(dz hk hg).1] at Ab;cases Ab
     omega) (Ht) hw
   |false=>
    exfalso;rcases dT with hk |hk
    ·cases hg:aA ops x with
     |none=>grind [aE]
     |some g=>rw[(dz hk hg).1] at Ab;cases Ab
    cases hg:aA ops y with
    |none=>grind [aE]
    |some g=>rw[(dz hk hg).1] at uC;cases uC
theorem lu{ops:List Oper}{o:Oper}:(eL ops o).dst=o.dst/\(eL ops o).after=o.after/\(eL ops o).guard=o.guard/\(eL ops o).op=o.op:=by unfold eL;split<;>exact⟨rfl,rfl,rfl,rfl⟩
theorem zk{ops:List Oper}{o:Oper}(h:yC ops o=true): ∃t l ps,o.op= .buildSlice t l ps/\o.guard=none:=by grind [yC]
theorem mY{ops:List Oper}{i:Nat}:(bg ops).toArray[i]?=(ops.toArray[i]?).map (eL ops):=by simp[bg]
theorem jC{ops:List Oper}{aj:Array Bool}{i:Nat}:i∈Region.ready .any (bg ops).toArray aj↔i∈Region.ready .any ops.toArray aj:=by rw[mem_ready,mem_ready];grind [mY,lu,eL]
theorem pS{ops:List Oper}(tmps:Array Value):yielded (bg ops).toArray tmps=yielded ops.toArray tmps:=by funext j;unfold yielded;rw[mY];grind [lu]
theorem zl{Q:Program}{F:Fence}{n:Nat}{ops:List Oper}{Q':Exit->Act->World->Prop}{i:Nat}{K:Act->World->Prop}{a:Act}{w:World}(h:wpOpIn F n Q (bg ops).toArray Q' i K a w):wpOpIn F n Q ops.toArray Q' i K a w:=by
 unfold wpOpIn at h⊢;rw[mY,pS] at h;cases ho:ops.toArray[i]? with
 |none=>rw[ho] at h;exact h
 |some o=>
  rw[ho] at h;simp only[zap] at h⊢;by_cases hv:yC ops o=true
  ·obtain⟨t,l,ps,Er,BY⟩:=zk hv;have e:eL ops o={o with type:=4000000}:=by unfold eL;rw[zau hv]
   rw[e] at h;obtain⟨dst,op,ty,pos,af,gd⟩:=o;subst Er BY;have e2: ∀ty',Oper.semAt F.round a.eval ⟨dst,.buildSlice t l ps,ty',pos,af,none⟩=execOp a.eval ⟨dst,.buildSlice t l ps,0,pos,af,none⟩:=λty'=>by rw[Oper.semAt_eq _ _ _ (by simp)];rfl
   refine⟨h.1,?_⟩;have h2:=h.2;simp only[e2] at h2⊢;generalize (execOp a.eval ⟨dst,.buildSlice t l ps,0,pos,af,none⟩).run Q w=r at h2⊢;cases r with
   |ok x w'=>cases x<;>exact h2
   |halt x w'=>cases x<;>exact h2
  grind [eL]
theorem q7{Q:Program}{F:Fence}{n:Nat}{ops:List Oper}{Q':Exit->Act->World->Prop}: ∀(fuel:Nat) (aj:Array Bool) (a:Act) (w:World),wpAnyIn F n Q .any (bg ops).toArray Q' fuel aj a w->wpAnyIn F n Q .any ops.toArray Q' fuel aj a w
 |0,aj,a,w,h=>by
  have EW:Region.ready .any ops.toArray aj=[]:=zb0.2 λi hi=>by have:=jC.2 hi;rw[h.1] at this;cases this
  exact⟨EW,h.2⟩
 |fuel+1,aj,a,w,h=>by refine⟨λhr=>h.1 (zb0.2 λi hi=>by have:=jC.1 hi;rw[hr] at this;cases this),λi hi=> ?_⟩;exact wpOpIn_mono (λa w h=>q7 fuel _ a w h) (zl (h.2 i (jC.2 hi)))
theorem lv{Q:Program}{T:Tg}{cf:CF}(iG:iR Q T.w0 cf){ops:List Oper}{F:Nat->Prop}{G:Nat->Value}{w:World}{a:Act}{s s':S}{r:Option Nat}{Q':Exit->Act->World->Prop}
  (h:ar Q T F G w a s) (hs:dM Q cf ops s=some s') (hK: ∀a' w',gi Q T F G w s s' a' w'->Q' .normal a' w'):wpAnyIn (wd r) 0 Q .any ops.toArray Q' ops.toArray.size (Array.replicate ops.toArray.size false) a {w with drawn:=w.drawn+1}:=by
 have main: ∀St,Text Q cf ops (masks ops []) St ops.length->St 0=s->St ops.length=s'->wpAnyIn (wd r) 0 Q .any ops.toArray Q' ops.toArray.size (Array.replicate ops.toArray.size false) a {w with drawn:=w.drawn+1}:=by
  intro St tx h0 h1;have jt:(λj=>(Array.replicate ops.length false).getD j false=true)=λ_=>False:=by funext j;simp only[zam,zce];split<;>simp
  have EX:ar Q T F G {w with drawn:=w.drawn+1} a s:=h.drawn _ (zbR _);have:=A6 (T:=T) (r:=r) tx iG (Q':=Q') ops.length (Array.replicate ops.length false) a {w with drawn:=w.drawn+1} s F G (by simp) (by
    rw[Array.toList_replicate,List.count_replicate];simp) (by
    rw[jt];intro i o _ hf;grind) (by
    rw[jt];exact⟨by rw[h0],λi o t _ hf=>hf.elim,λt _=>by rw[h0],⟨0,by omega,by rw[h0],λi o _ _=>by simp⟩⟩) EX
    (λa' w' hp=>hK a' w' (by obtain⟨F',G',k1,k2⟩:=hp;rw[h1] at k1 k2;exact⟨F',G',k1,⟨k2.gZ,k2.mc,k2.jU,k2.keep,k2.size,k2.os,k2.tape,k2.output⟩⟩))
  grind
 unfold dM at hs;have pA: ∀k,bw ops=k+1->dG (um (masks ops [])) 0 ops=true/\cS (s9 ops (masks ops [])) 0 ops=true/\(k≠0->cS (λi x j y=>Nat.testBit ((masks ops []).getD j 0) i ||vZ x y) 0 ops=true):=by grind [bw]
 have zero: ∀i:Nat,0+i=i:=zbk;split at hs
 ·cases hs
 next hc=>
  obtain⟨c1,c2,_⟩:=pA 0 hc;split at hs
  next s1 l hd=>
   split at hs
   ·rename_i A7;simp at hs;subst hs;obtain⟨St,g1,g2,g3,g4⟩:=fu ops _ _ _ hd;refine main St ⟨λi o ho=> ?_,λi j x y je hx hy=>n8 ?_,g3,λi j x y je hx hy _ hb=> .inr ?_⟩ g1 g2
    ·have:=cx ops 0 c1 i o ho;rwa [zero] at this
    ·have:=cI ops 0 c2 i j x y je hx hy;rwa [zero,zero] at this
    obtain⟨q,hq⟩:=jA l 0 True A7 i j _ _ je (g4 i x hx) (g4 j y hy);rw[zero,zero] at hq;exact mX (g3 i x hx) (g3 j y hy) (by assumption) hb hq
   cases hs
  cases hs
 rename_i h0 h1;obtain⟨k,hk⟩: ∃k,bw ops=k+1+1:=by simp_all [bw]
 obtain⟨c1,c2,c3⟩:=pA (k+1) hk;have c3:=c3 (by omega);obtain⟨St,g1,g2,g3⟩:=fJ ops _ _ hs;refine main St ⟨λi o ho=> ?_,λi j x y je hx hy=>n8 ?_,g3,λi j x y je hx hy _ hb=> .inl ?_⟩ g1 g2
 ·have:=cx ops 0 c1 i o ho;rwa [zero] at this
 ·have:=cI ops 0 c2 i j x y je hx hy;rwa [zero,zero] at this
 have:=cI ops 0 c3 i j x y je hx hy;simp only[zero,hb,zcg,vZ,zbu,zac] at this;grind [Nat.eq_of_beq_eq_true,Nat.le_of_ble_eq_true]
end Pi
