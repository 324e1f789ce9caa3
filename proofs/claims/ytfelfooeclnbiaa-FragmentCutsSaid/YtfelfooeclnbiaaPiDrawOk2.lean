/- The text PiDrawOk2. -/
import Derived.Test.YtfelfooeclnbiaaPiDrawOk
import Derived.Orders
namespace Pi
open Go
theorem ar.alike{Q:Program}{T:Tg}{F:Nat->Prop}{G:Nat->Value}{w:World}{a:Act}{s s2:S}(h:ar Q T F G w a s)(hn:s.n=s2.n)(hr:s.rg=s2.rg)(ht: ∀t,lk s.tm t=lk s2.tm t):ar Q T F G w a s2:=
 ⟨hr▸h.qX,hn▸h.size,λt p hp=>by rw[<-hr];exact h.tm t p ((ht t).trans hp),λn e he=>by rw[<-hr] at he⊢;exact h.rg n e he,
  λn m e e' b he aW=>by rw[<-hr] at he aW;exact h.own n m e e' b he aW,λn e b he=>by rw[<-hr] at he;exact h.hS n e b he,h.fL,λn e i he=>by rw[<-hr] at he;exact h.tag n e i he,h.z,h.dr,h.sz⟩
theorem ar.drawn{Q:Program}{T:Tg}{F:Nat->Prop}{G:Nat->Value}{w:World}{a:Act}{s:S}(h:ar Q T F G w a s)(k:Nat)(hk:w.drawn<=k):ar Q T F G {w with drawn:=k} a s:=
 ⟨h.qX,h.size,λt p hp=>bj.mono (w:=w) (w':={w with drawn:=k}) (λ_ h=>h) (λ_ _=>rfl) (Names.refl _ _) (h.tm t p hp),λn e he=>(h.rg n e he).mono (w':={w with drawn:=k}) (λ_ h=>h) (λ_ _=>rfl) (Names.refl _ _) rfl (λ_ _=>rfl),
  h.own,h.hS,h.fL,h.tag,h.z,zaA h.dr hk,h.sz⟩
theorem nP{ops:Array Oper}{aj:Array Bool}(bn:aj.size=ops.size)(fZ: ∀(i:Nat) (o:Oper),ops[i]?=some o-> ∀e∈o.after,Region.binds .any e=true->e.on<i)
  (hr:Region.ready .any ops aj=[]): ∀i,i<ops.size->aj.getD i false=true:=by
 intro i
 induction i using Nat.strongRecOn with
 |ind i ih=>
  intro hi;cases hb:aj.getD i false with
  |true=>rfl
  |false=>have ho:ops[i]?=some ops[i]:=zaW hi;have:i∈Region.ready .any ops aj:=mem_ready.2 ⟨by grind,_,ho,λe he q9=>ih e.on (fZ i _ ho e he q9) (by have:=fZ i _ ho e he q9;omega)⟩;rw[hr] at this;cases this
section
variable{Q:Program}{T:Tg}{cf:CF}{ops:List Oper}{M:List Nat}{St:Nat->S}{r:Option Nat}
theorem y7(tx:Text Q cf ops M St ops.length)(hZ:gl Q T.w0 cf){Q':Exit->Act->World->Prop}: ∀(fuel:Nat) (aj:Array Bool) (a:Act) (w:World) (s:S) (F:Nat->Prop) (G:Nat->Value),
  aj.size=ops.length->fuel+aj.toList.count true=ops.length->p9 ops (λj=>aj.getD j false=true)->Inv ops St (λj=>aj.getD j false=true) s->ar Q T F G w a s->
  (∀a' w',fQ Q T F G w s (St ops.length) a' w'->Q' .normal a' w')->wpAnyIn (wd r) 0 Q .any ops.toArray Q' fuel aj a w:=by
 have fZ: ∀(i:Nat) (o:Oper),ops.toArray[i]?=some o-> ∀e∈o.after,Region.binds .any e=true->e.on<i:=λi o ho e he hb=>tx.back (by grind) he hb;have fin: ∀(aj:Array Bool) (a:Act) (w:World) (s:S) (F:Nat->Prop) (G:Nat->Value),(∀i,i<ops.length->aj.getD i false=true)->Inv ops St (λj=>aj.getD j false=true) s->ar Q T F G w a s->
   (∀a' w',fQ Q T F G w s (St ops.length) a' w'->Q' .normal a' w')->Q' .normal a w:=by
  intro aj a w s F G cY hi h hK;obtain⟨h1,h2,h3⟩:=tx.last hi (λi o ho=>cY i (zaa.1 ho).1);exact hK a w ⟨F,G,h.alike h1 h2 h3,by rw[<-h2];exact Ext.refl _ _ _⟩
 intro fuel
 induction fuel with
 |zero=>
  intro aj a w s F G bn hc hL hi h hK;have cY: ∀i,i<ops.length->aj.getD i false=true:=λi bm=>by
   have yf:aj.toList.count true=aj.toList.length:=by rw[zbI,bn];omega
   have:=List.count_eq_length.1 yf aj[i] (by simp);simp_all
  refine⟨?_,fin aj a w s F G cY hi h hK⟩;cases hr:Region.ready .any ops.toArray aj with
  |nil=>rfl
  |cons i r=>
   have hm:i∈Region.ready .any ops.toArray aj:=by rw[hr];simp
   obtain⟨h0,o,ho,_⟩:=mem_ready.1 hm;grind
 |succ fuel ih=>
  intro aj a w s F G bn hc hL hi h hK;refine⟨λhr=>fin aj a w s F G (λi bm=>nP (by simp[bn]) fZ hr i (by grind)) hi h hK,λi hm=> ?_⟩;obtain⟨h0,o,ho,oW⟩:=mem_ready.1 hm;have oV:ops[i]?=some o:=by grind
  have bm:i<ops.length:=(zaa.1 oV).1;have hl:i<aj.size:=by omega
  have dH: ¬aj.getD i false=true:=by grind
  obtain⟨s1,mJ,y8⟩:=tx.go hL hi oV dH oW (λh=>by grind) (λe=>by omega);have gW: ∀j,((aj.setIfInBounds i true).getD j false=true)↔(aj.getD j false=true\/j=i):=λj=>by
   by_cases hj:j=i
   ·simp_all
   rw[getD_set_ne false (λe=>hj e.symm)];simp[hj]
  have qb:(λj=>(aj.setIfInBounds i true).getD j false=true)=(λj=>aj.getD j false=true\/j=i):=funext λj=>propext (gW j);have tM:fuel+(aj.setIfInBounds i true).toList.count true=ops.length:=by
   have e:(aj.setIfInBounds i true).toList=aj.toList.set i true:=by simp
   rw[e,List.count_set (by grind)];have:(aj.toList[i]'(by grind)==true)=false:=by simp[hl] at dH⊢;exact dH
   grind
  have gj:=h9 hZ h mJ (r:=r) (K:=wpAnyIn (wd r) 0 Q .any ops.toArray Q' fuel (aj.setIfInBounds i true)) (Q':=Q') (λa' w' ⟨F',G',g1,g2⟩=>
   ih (aj.setIfInBounds i true) a' w' s1 F' G' (by simp[bn]) tM (by
    rw[qb];intro j x hj gm e he hb;rcases gm with gm |rfl
    ·exact .inl (hL j x hj gm e he hb)
    rw[oV] at hj;cases hj;exact .inl (oW e he hb)) (by rw[qb];exact y8) g1 (λa2 w2 hp=>hK a2 w2 (hp.trans g2)))
  unfold wpOpIn;rw[ho];simp only[];split
  ·grind
  rename_i hw;rw[zaB hw] at gj;exact⟨λ_ _=>trivial,gj⟩
end
theorem fw{Q:Program}{cf:CF}{ops:List Oper}: ∀(l:List Oper) (s s':S),bp Q cf ops l s=some s'-> ∃St:Nat->S,St 0=s/\St l.length=s'/\ ∀i o,l[i]?=some o->aC Q cf ops (St i) o=some (St (i+1))
 | [],s,s',h=>by simp[bp] at h;exact⟨λ_=>s,rfl,h,λi o ho=>by simp at ho⟩
 |o::l,s,s',h=>by
  simp only[bp] at h;split at h
  next s1 h1=>obtain⟨St,g1,g2,g3⟩:=fw l s1 s' h;refine⟨λi=>match i with |0=>s |i+1=>St i,rfl,g2,λi x hx=> ?_⟩;grind
  cases h
theorem fc{Q:Program}{cf:CF}{ops:List Oper}: ∀(l:List Oper) (s s':S) (is:List Step),gD Q cf ops l s=some (s',is)-> ∃St:Nat->S,St 0=s/\St l.length=s'/\(∀i o,l[i]?=some o->aC Q cf ops (St i) o=some (St (i+1)))/\ ∀(i:Nat) (o:Oper),l[i]?=some o->is[i]?=some (fh Q ops (St i) o (St (i+1)))
 | [],s,s',is,h=>by simp[gD] at h;exact⟨λ_=>s,rfl,h.1,λi o ho=>by simp at ho,λi o ho=>by simp at ho⟩
 |o::l,s,s',is,h=>by
  simp only[gD] at h;split at h
  ·cases h
  rename_i s1 h1;split at h
  next s2 Ea h2=>
   simp at h;obtain⟨rfl,rfl⟩:=h;obtain⟨St,g1,g2,g3,g4⟩:=fc l s1 s2 Ea h2;refine⟨λi=>match i with |0=>s |i+1=>St i,rfl,g2,λi x hx=> ?_,λi x hx=> ?_⟩
   ·grind
   grind
  cases h
theorem xC{W:List Nat×Nat×Nat}{n:Nat}(h:lx W n):uD W n=true:=by
 unfold uD;rcases h with h | ⟨h1,h2⟩
 ·rw[(dZ _ _).2 h];rfl
 simp_all
theorem fx: ∀(ns:List Nat) (y:Step) (q:Prop),jl ns y q->(∀n∈ns,lx y.info.ws n->lk y.CK n=lk y.CJ n)/\q
 | [],y,q,h=>⟨by simp,h⟩
 |n::r,y,q,h=>by
  simp only[jl] at h;cases hb:uD y.info.ws n with
  |true=>rw[hb] at h;obtain⟨h1,h2⟩:=fx r y q h.2;grind
  |false=>rw[hb] at h;obtain⟨h1,h2⟩:=fx r y q h;grind [xC]
theorem v7{x y:Step}{same:Prop->Prop}(hs: ∀q,same q->q){q:Prop}(h:leaves x y same q):q:=by grind [leaves,dJ]
theorem qc{x y:Step}{same:Prop->Prop}(hs: ∀q r:Prop,(q->r)->same q->same r){q r:Prop}(xD:q->r)(h:leaves x y same q):leaves x y same r:=by grind [leaves,dJ]
theorem mf{x y:Step}{same:Prop->Prop}{q:Prop}(h:leaves x y same q):(∃t n,y.CL=some (t,n)/\x.look=some t/\n∉x.info.ns)\/same q:=by
 unfold leaves at h;split at h
 next t n t' h1 h2=>
  cases hb:(Nat.beq t t'&& !dJ n x.info.ns) with
  |true=>simp only[zad,zaX] at hb;have ht:=zac hb.1;grind [dZ]
  |false=>rw[hb] at h;exact .inr h
 grind
theorem qd{Q:Program}{sy wR:S}{dst:Option Nat}{t:TypeId}{p k:P}(h:dw Q sy dst t p k=some wR){s:S}{q i:P}(hq: ∀n v,q= .mp n v->n≠site dst):
  (match(cm Q t).bind λy=>bK Q y.2 with |some z=>bA Q (s.wr wR.rg) t q i false z |none=>none)=(match(cm Q t).bind λy=>bK Q y.2 with |some z=>bA Q (s.wr sy.rg) t q i false z |none=>none):=by
 unfold dw at h;split at h
 next kt e n v kd mR=>
  split at h
  next z hz=>
   split at h
   ·rename_i gn get c ho;split at h
    ·rename_i hc;simp only[zad,zaX] at hc;obtain⟨⟨ki,q8⟩,qG⟩:=hc;have ki:=zac ki;have qG:n≠site dst:=λe=>by rw[e,Nat.beq_refl] at qG;cases qG
     split at h
     ·rename_i s1 v1 hn;obtain⟨mJ,_⟩:=S.eD hn;obtain⟨en,dQ,bE,aN⟩:=S.aJ ho;have rm:lk s1.rg n=some en:=by grind [aQ]
      have Bv:wR.rg=ins n ⟨en.aw,en.tag,.dS kt (cA kd (iI (get kd) z) get) (bif (get kd).isSome then c else c+1) (.mp (site dst) v1) kd⟩ s1.rg:=by rw[aA h];unfold S.setObj;rw[rm]
      simp only[mR,zai,hz];unfold bA;split
      ·rename_i w8 e2 m vm Cg sd;by_cases EY:m=n
       ·skip
        by_cases hv:vm=en.aw
        ·skip
         have o1:(s.wr wR.rg).obj m en.aw=some (.dS kt (cA kd (iI (get kd) z) get) (bif (get kd).isSome then c else c+1) (.mp (site dst) v1) kd):=by grind [S.obj,S.wr,aK]
         have o2:(s.wr sy.rg).obj m en.aw=some (.map kt get c false):=by grind [S.obj,S.wr]
         have hg:(cA kd (iI (get kd) z) get Cg).getD z=(get Cg).getD z:=by
          unfold cA;cases hd:D.iH kd Cg with
          |true=>have:=(D.dB _ _).1 hd;subst this;rfl
          |false=>rfl
         grind
        have hb:Nat.beq en.aw vm=false:=by grind [Nat.beq,Nat.eq_of_beq_eq_true]
        have o1:(s.wr wR.rg).obj m vm=none:=by grind [S.obj,S.wr,aK]
        have o2:(s.wr sy.rg).obj m vm=none:=by grind [S.obj,S.wr]
        rw[o1,o2]
       grind [lk,aQ,S.obj,S.wr]
      ·rfl
      rfl
     cases h
    cases h
   cases h
  cases h
 cases h
theorem qe{Q:Program}{cf:CF}{ops:List Oper}{s sy wR:S}{x y:Oper}{t:TypeId}{n:Nat}(hx:qN x=some t)(hy:uC y=some (t,n))(aU:aC Q cf ops sy y=some wR)(qG:n∉(aL Q ops s x).ns):jX Q ops s x sy.rg wR.rg:=by
 unfold qN at hx;unfold uC at hy;split at hx
 next t' xm xk AK=>
  split at hy
  next t2 ym yk AL=>
   simp only[zae,zaQ] at hx hy;subst hx;obtain⟨rfl,rfl⟩:=hy;refine⟨⟨_,_,_,AK⟩,λg hg=> ?_⟩;have hk:ak x<=1:=by simp[ak,AK]
   have xv: ∀n v,s.eg g xm= .mp n v->n≠site y.dst:=λn v hv e=>by refine qG ?_;rw[(dp (Q:=Q) (s:=s) hk hg).2 (by simp[ak,AK]),<-e];exact ia _ (s.eg g xm) n v (zba (by simp[AK,Op.operands])) (by rw[hv];rfl)
   have act: ∀g',ct Q cf sy y g'=some wR->pv Q (s.wr wR.rg) x g=pv Q (s.wr sy.rg) x g:=λg' h=>by
    have hc:ep y=none:=by unfold ep;rw[AL]
    have wM:bb Q y=none:=by unfold bb;rw[AL]
    have wO:pv Q sy y g'=none:=by unfold pv;rw[AL]
    have Eb:iL y=none:=by unfold iL;rw[AL]
    unfold ct exec at h;simp only[hc,Eb] at h;unfold dE ef at h;simp only[wM,wO,AL] at h;have:=qd (s:=s) (q:=s.eg g xm) (i:=s.eg g xk) h xv;unfold pv;rw[AK];exact this
   grind [aC,aA]
  cases hy
 cases hx
theorem sC{m:Nat}{M:List Nat}{i j:Nat}{x y:Step}{q:Prop}(h:c7 m M i x j y q):q:=by unfold c7 at h;grind [eY,v7,fx]
theorem rH{m:Nat}{M:List Nat}{i:Nat}{x:Step}: ∀(l:List Step) (j0:Nat) (q:Prop),sQ (c7 m M i x) j0 l q->q
 | [],_,_,h=>h
 |_::r,j0,q,h=>rH r (j0+1) q (sC h)
theorem qf{m:Nat}{M:List Nat}{i:Nat}{x:Step}: ∀(l:List Step) (j0:Nat) (q:Prop),sQ (c7 m M i x) j0 l q-> ∀j y,l[j]?=some y-> ∃q',c7 m M i x (j0+j) y q'
 | [],_,_,_,j,y,hy=>by simp at hy
 |z::r,j0,q,h,j,y,hy=>by
  cases j with
  |zero=>simp at hy;subst hy;exact⟨_,h⟩
  |succ j=>obtain⟨q',hq⟩:=qf r (j0+1) q (sC h) j y (by grind);grind
theorem iY{m:Nat}{M:List Nat}: ∀(l:List Step) (i0:Nat) (q:Prop),jM (c7 m M) i0 l q-> ∀i j x y,i<j->l[i]?=some x->l[j]?=some y-> ∃q',c7 m M (i0+i) x (i0+j) y q'
 | [],_,_,_,i,j,x,y,_,hx,_=>by simp at hx
 |z::r,i0,q,h,i,j,x,y,iA,hx,hy=>by
  cases i with
  |zero=>
   obtain⟨j,rfl⟩: ∃j',j=j'+1:=⟨j-1,by omega⟩
   obtain⟨q',hq⟩:=qf r (i0+1) _ h j y (by grind);grind
  |succ i=>
   obtain⟨j,rfl⟩: ∃j',j=j'+1:=⟨j-1,by omega⟩
   obtain⟨q',hq⟩:=iY r (i0+1) q (rH r (i0+1) _ h) i j x y (by omega) (by grind) (by grind);grind
theorem mg{m:Nat}{M:List Nat}: ∀(l:List Step) (i0:Nat) (q:Prop),jM (c7 m M) i0 l q->q
 | [],_,_,h=>h
 |_::r,i0,q,h=>mg r (i0+1) q (rH r (i0+1) _ h)
theorem iZ: ∀(ns:List Nat) (y:Step) (q r:Prop),(q->r)->jl ns y q->jl ns y r
 | [],_,_,_,h,hs=>h hs
 |n::ns,y,q,r,h,hs=>by
  simp only[jl] at hs⊢;cases hb:uD y.info.ws n with
  |true=>rw[hb] at hs;exact⟨hs.1,iZ ns y q r h hs.2⟩
  |false=>rw[hb] at hs;exact iZ ns y q r h hs
theorem rI{m:Nat}{M:List Nat}{i j:Nat}{x y:Step}{q r:Prop}(xD:q->r)(h:c7 m M i x j y q):c7 m M i x j y r:=by unfold c7 at h⊢;grind [eY,qc,iZ]
theorem nQ{m:Nat}{M:List Nat}{i:Nat}{x:Step}: ∀(l:List Step) (j0:Nat) (q r:Prop),(q->r)->sQ (c7 m M i x) j0 l q->sQ (c7 m M i x) j0 l r
 | [],_,_,_,xD,h=>xD h
 |_::l,j0,q,r,xD,h=>rI (nQ l (j0+1) q r xD) h
theorem gX{m:Nat}{M:List Nat}: ∀(l:List Step) (i0:Nat) (q r:Prop),(q->r)->jM (c7 m M) i0 l q->jM (c7 m M) i0 l r
 | [],_,_,_,xD,h=>xD h
 |_::l,i0,q,r,xD,h=>nQ l (i0+1) _ _ (gX l (i0+1) q r xD) h
theorem mh{Q:Program}{cf:CF}{ops:List Oper}{m:Nat}{M:List Nat}{St:Nat->S}{i j:Nat}{x y:Oper}(Ec:aC Q cf ops (St i) x=some (St (i+1)))(Ed:aC Q cf ops (St j) y=some (St (j+1)))(dK:ak x<=1\/ak y<=1)(hb:Nat.testBit (M.getD j 0) i=false){q:Prop}
  (hq:c7 m M i (fh Q ops (St i) x (St (i+1))) j (fh Q ops (St j) y (St (j+1))) q):
  eY (aL Q ops (St i) x) (aL Q ops (St j) y)=true\/
  ((aL Q ops (St i) x).pure=true/\((∀n∈(aL Q ops (St i) x).ns,lk (St (j+1)).rg n=lk (St j).rg n)\/jX Q ops (St i) x (St j).rg (St (j+1)).rg))\/
  ((aL Q ops (St j) y).pure=true/\((∀n∈(aL Q ops (St j) y).ns,lk (St (i+1)).rg n=lk (St i).rg n)\/jX Q ops (St j) y (St i).rg (St (i+1)).rg)):=by
 unfold c7 at hq;simp only[fh] at hq;simp only[hb,zcb] at hq;cases Ee:eY (aL Q ops (St i) x) (aL Q ops (St j) y) with
 |true=>simp
 |false=>
  right;rw[Ee] at hq;cases yc:(aL Q ops (St i) x).pure with
  |true=>
   cases s6:(aL Q ops (St j) y).pure with
   |true=>grind [eY]
   |false=>
    left;simp only[yc,s6,zby,zbr] at hq;refine⟨rfl,?_⟩;rcases mf hq with⟨f,hf,h1,h2,h3⟩|hq
    ·grind [qe]
    refine .inl λn hn=> ?_;by_cases hw:lx (aL Q ops (St j) y).ws n
    ·grind [fx]
    exact dX (by
     by_cases hk:ak y<=1
     ·cases hg:az ops y with
      |none=>grind [aC]
      |some g=>rw[(dp hk hg).1] at s6;cases s6
     omega) (Ed) hw
  |false=>
   cases s6:(aL Q ops (St j) y).pure with
   |true=>
    right;simp only[yc,s6,zby,zbr] at hq;refine⟨rfl,?_⟩;rcases mf hq with⟨f,hf,h1,h2,h3⟩|hq
    ·grind [qe]
    refine .inl λn hn=> ?_;by_cases hw:lx (aL Q ops (St i) x).ws n
    ·grind [fx]
    exact dX (by
     by_cases hk:ak x<=1
     ·cases hg:az ops x with
      |none=>grind [aC]
      |some g=>rw[(dp hk hg).1] at yc;cases yc
     omega) (Ec) hw
   |false=>
    exfalso;rcases dK with hk |hk
    ·cases hg:az ops x with
     |none=>grind [aC]
     |some g=>rw[(dp hk hg).1] at yc;cases yc
    cases hg:az ops y with
    |none=>grind [aC]
    |some g=>rw[(dp hk hg).1] at s6;cases s6
theorem kH{ops:List Oper}{o:Oper}:(eu ops o).dst=o.dst/\(eu ops o).after=o.after/\(eu ops o).guard=o.guard/\(eu ops o).op=o.op:=by unfold eu;split<;>exact⟨rfl,rfl,rfl,rfl⟩
theorem xE{ops:List Oper}{o:Oper}(h:wV ops o=true): ∃t l ps,o.op= .buildSlice t l ps/\o.guard=none:=by grind [wV]
theorem mj{ops:List Oper}{i:Nat}:(aZ ops).toArray[i]?=(ops.toArray[i]?).map (eu ops):=by simp[aZ]
theorem ja{ops:List Oper}{aj:Array Bool}{i:Nat}:i∈Region.ready .any (aZ ops).toArray aj↔i∈Region.ready .any ops.toArray aj:=by rw[mem_ready,mem_ready];grind [mj,kH,eu]
theorem oX{ops:List Oper}(tmps:Array Value):yielded (aZ ops).toArray tmps=yielded ops.toArray tmps:=by funext j;unfold yielded;rw[mj];grind [kH]
theorem xF{Q:Program}{F:Fence}{n:Nat}{ops:List Oper}{Q':Exit->Act->World->Prop}{i:Nat}{K:Act->World->Prop}{a:Act}{w:World}(h:wpOpIn F n Q (aZ ops).toArray Q' i K a w):wpOpIn F n Q ops.toArray Q' i K a w:=by
 unfold wpOpIn at h⊢;rw[mj,oX] at h;cases ho:ops.toArray[i]? with
 |none=>rw[ho] at h;exact h
 |some o=>
  rw[ho] at h;simp only[zan] at h⊢;by_cases hv:wV ops o=true
  ·obtain⟨t,l,ps,BP,zY⟩:=xE hv;have e:eu ops o={o with type:=4000000}:=by unfold eu;rw[zax hv]
   rw[e] at h;obtain⟨dst,op,ty,pos,af,gd⟩:=o;subst BP zY;have e2: ∀ty',Oper.semAt F.round a.eval ⟨dst,.buildSlice t l ps,ty',pos,af,none⟩=execOp a.eval ⟨dst,.buildSlice t l ps,0,pos,af,none⟩:=λty'=>by rw[Oper.semAt_eq _ _ _ (by simp)];rfl
   refine⟨h.1,?_⟩;have h2:=h.2;simp only[e2] at h2⊢;generalize (execOp a.eval ⟨dst,.buildSlice t l ps,0,pos,af,none⟩).run Q w=r at h2⊢;cases r with
   |ok x w'=>cases x<;>exact h2
   |halt x w'=>cases x<;>exact h2
  grind [eu]
theorem qg{Q:Program}{F:Fence}{n:Nat}{ops:List Oper}{Q':Exit->Act->World->Prop}: ∀(fuel:Nat) (aj:Array Bool) (a:Act) (w:World),wpAnyIn F n Q .any (aZ ops).toArray Q' fuel aj a w->wpAnyIn F n Q .any ops.toArray Q' fuel aj a w
 |0,aj,a,w,h=>by
  have Ch:Region.ready .any ops.toArray aj=[]:=zbQ.2 λi hi=>by have:=ja.2 hi;rw[h.1] at this;cases this
  exact⟨Ch,h.2⟩
 |fuel+1,aj,a,w,h=>by refine⟨λhr=>h.1 (zbQ.2 λi hi=>by have:=ja.1 hi;rw[hr] at this;cases this),λi hi=> ?_⟩;exact wpOpIn_mono (λa w h=>qg fuel _ a w h) (xF (h.2 i (ja.2 hi)))
theorem kI{Q:Program}{T:Tg}{cf:CF}(hZ:gl Q T.w0 cf){ops:List Oper}{F:Nat->Prop}{G:Nat->Value}{w:World}{a:Act}{s s':S}{r:Option Nat}{Q':Exit->Act->World->Prop}
  (h:ar Q T F G w a s) (hs:dF Q cf ops s=some s') (hK: ∀a' w',fQ Q T F G w s s' a' w'->Q' .normal a' w'):wpAnyIn (wd r) 0 Q .any ops.toArray Q' ops.toArray.size (Array.replicate ops.toArray.size false) a {w with drawn:=w.drawn+1}:=by
 have main: ∀St,Text Q cf ops (masks ops []) St ops.length->St 0=s->St ops.length=s'->wpAnyIn (wd r) 0 Q .any ops.toArray Q' ops.toArray.size (Array.replicate ops.toArray.size false) a {w with drawn:=w.drawn+1}:=by
  intro St tx h0 h1;have gq:(λj=>(Array.replicate ops.length false).getD j false=true)=λ_=>False:=by funext j;simp only[zak,zb9];split<;>simp
  have Ci:ar Q T F G {w with drawn:=w.drawn+1} a s:=h.drawn _ (zbJ _);have:=y7 (T:=T) (r:=r) tx hZ (Q':=Q') ops.length (Array.replicate ops.length false) a {w with drawn:=w.drawn+1} s F G (by simp) (by
    rw[Array.toList_replicate,List.count_replicate];simp) (by
    rw[gq];intro i o _ hf;grind) (by
    rw[gq];exact⟨by rw[h0],λi o t _ hf=>hf.elim,λt _=>by rw[h0],⟨0,by omega,by rw[h0],λi o _ _=>by simp⟩⟩) Ci
    (λa' w' hp=>hK a' w' (by obtain⟨F',G',k1,k2⟩:=hp;rw[h1] at k1 k2;exact⟨F',G',k1,⟨k2.gG,k2.lD,k2.jr,k2.keep,k2.size,k2.os,k2.tape,k2.output⟩⟩))
  grind
 unfold dF at hs;have oG: ∀k,bh ops=k+1->dy (sP (masks ops [])) 0 ops=true/\cG (rY ops (masks ops [])) 0 ops=true/\(k≠0->cG (λi x j y=>Nat.testBit ((masks ops []).getD j 0) i ||uB x y) 0 ops=true):=by grind [bh]
 have zero: ∀i:Nat,0+i=i:=za4;split at hs
 ·cases hs
 next hc=>
  obtain⟨c1,c2,_⟩:=oG 0 hc;split at hs
  next s1 l hd=>
   split at hs
   ·rename_i y9;simp at hs;subst hs;obtain⟨St,g1,g2,g3,g4⟩:=fc ops _ _ _ hd;refine main St ⟨λi o ho=> ?_,λi j x y iA hx hy=>nr ?_,g3,λi j x y iA hx hy _ hb=> .inr ?_⟩ g1 g2
    ·have:=ca ops 0 c1 i o ho;rwa [zero] at this
    ·have:=cv ops 0 c2 i j x y iA hx hy;rwa [zero,zero] at this
    obtain⟨q,hq⟩:=iY l 0 True y9 i j _ _ iA (g4 i x hx) (g4 j y hy);rw[zero,zero] at hq;exact mh (g3 i x hx) (g3 j y hy) (by assumption) hb hq
   cases hs
  cases hs
 rename_i h0 h1;obtain⟨k,hk⟩: ∃k,bh ops=k+1+1:=by simp_all [bh]
 obtain⟨c1,c2,c3⟩:=oG (k+1) hk;have c3:=c3 (by omega);obtain⟨St,g1,g2,g3⟩:=fw ops _ _ hs;refine main St ⟨λi o ho=> ?_,λi j x y iA hx hy=>nr ?_,g3,λi j x y iA hx hy _ hb=> .inl ?_⟩ g1 g2
 ·have:=ca ops 0 c1 i o ho;rwa [zero] at this
 ·have:=cv ops 0 c2 i j x y iA hx hy;rwa [zero,zero] at this
 have:=cv ops 0 c3 i j x y iA hx hy;simp only[zero,hb,zcb,uB,zbm,zad] at this;grind [Nat.eq_of_beq_eq_true,Nat.le_of_ble_eq_true]
end Pi
