/- The text PiDrawOk2. -/
import Derived.Test.YtpiohccneeblhaaPiDrawOk
import Derived.Orders
namespace Pi
open Go
theorem aq.alike{Q:Program}{T:Tg}{F:Nat->Prop}{G:Nat->Value}{w:World}{a:Act}{s s2:S}(h:aq Q T F G w a s)(hn:s.n=s2.n)(hr:s.rg=s2.rg)(ht: ∀t,lk s.tm t=lk s2.tm t):aq Q T F G w a s2:=
 ⟨hr▸h.mf,hn▸h.size,λt p hp=>by rw[<-hr];exact h.tm t p ((ht t).trans hp),λn e he=>by rw[<-hr] at he⊢;exact h.rg n e he,
  λn m e e' b he bb=>by rw[<-hr] at he bb;exact h.own n m e e' b he bb,λn e b he=>by rw[<-hr] at he;exact h.gG n e b he,h.fw,λn e i he=>by rw[<-hr] at he;exact h.tag n e i he,h.z,h.dr,h.sz⟩
theorem aq.drawn{Q:Program}{T:Tg}{F:Nat->Prop}{G:Nat->Value}{w:World}{a:Act}{s:S}(h:aq Q T F G w a s)(k:Nat)(hk:w.drawn<=k):aq Q T F G {w with drawn:=k} a s:=
 ⟨h.mf,h.size,λt p hp=>bt.mono (w:=w) (w':={w with drawn:=k}) (λ_ h=>h) (λ_ _=>rfl) (Names.refl _ _) (h.tm t p hp),λn e he=>(h.rg n e he).mono (w':={w with drawn:=k}) (λ_ h=>h) (λ_ _=>rfl) (Names.refl _ _) rfl (λ_ _=>rfl),
  h.own,h.gG,h.fw,h.tag,h.z,zaN h.dr hk,h.sz⟩
theorem sG{ops:Array Oper}{ak:Array Bool}(cp:ak.size=ops.size)(fX: ∀(i:Nat) (o:Oper),ops[i]?=some o-> ∀e∈o.after,Region.binds .any e=true->e.on<i)
  (hr:Region.ready .any ops ak=[]): ∀i,i<ops.size->ak.getD i false=true:=by
 intro i
 induction i using Nat.strongRecOn with
 |ind i ih=>
  intro hi;cases hb:ak.getD i false with
  |true=>rfl
  |false=>have ho:ops[i]?=some ops[i]:=zba hi;have:i∈Region.ready .any ops ak:=mem_ready.2 ⟨by grind,_,ho,λe he xM=>ih e.on (fX i _ ho e he xM) (by have:=fX i _ ho e he xM;omega)⟩;rw[hr] at this;cases this
section
variable{Q:Program}{T:Tg}{cf:CF}{ops:List Oper}{M:List Nat}{St:Nat->S}{r:Option Nat}
theorem Ht(tx:Text Q cf ops M St ops.length)(fG:cL Q T.w0 cf){Q':Exit->Act->World->Prop}: ∀(fuel:Nat) (ak:Array Bool) (a:Act) (w:World) (s:S) (F:Nat->Prop) (G:Nat->Value),
  ak.size=ops.length->fuel+ak.toList.count true=ops.length->wg ops (λj=>ak.getD j false=true)->Inv ops St (λj=>ak.getD j false=true) s->aq Q T F G w a s->
  (∀a' w',fh Q T F G w s (St ops.length) a' w'->Q' .normal a' w')->wpAnyIn (wd r) 0 Q .any ops.toArray Q' fuel ak a w:=by
 have fX: ∀(i:Nat) (o:Oper),ops.toArray[i]?=some o-> ∀e∈o.after,Region.binds .any e=true->e.on<i:=λi o ho e he hb=>tx.back (by grind) he hb;have fin: ∀(ak:Array Bool) (a:Act) (w:World) (s:S) (F:Nat->Prop) (G:Nat->Value),(∀i,i<ops.length->ak.getD i false=true)->Inv ops St (λj=>ak.getD j false=true) s->aq Q T F G w a s->
   (∀a' w',fh Q T F G w s (St ops.length) a' w'->Q' .normal a' w')->Q' .normal a w:=by
  intro ak a w s F G eW hi h hK;obtain⟨h1,h2,h3⟩:=tx.last hi (λi o ho=>eW i (zaa.1 ho).1);exact hK a w ⟨F,G,h.alike h1 h2 h3,by rw[<-h2];exact Ext.refl _ _ _⟩
 intro fuel
 induction fuel with
 |zero=>
  intro ak a w s F G cp hc hL hi h hK;have eW: ∀i,i<ops.length->ak.getD i false=true:=λi bj=>by
   have tU:ak.toList.count true=ak.toList.length:=by rw[zci,cp];omega
   have:=List.count_eq_length.1 tU ak[i] (by simp);simp_all
  refine⟨?_,fin ak a w s F G eW hi h hK⟩;cases hr:Region.ready .any ops.toArray ak with
  |nil=>rfl
  |cons i r=>
   have hm:i∈Region.ready .any ops.toArray ak:=by rw[hr];simp
   obtain⟨h0,o,ho,_⟩:=mem_ready.1 hm;grind
 |succ fuel ih=>
  intro ak a w s F G cp hc hL hi h hK;refine⟨λhr=>fin ak a w s F G (λi bj=>sG (by simp[cp]) fX hr i (by grind)) hi h hK,λi hm=> ?_⟩;obtain⟨h0,o,ho,um⟩:=mem_ready.1 hm;have eZ:ops[i]?=some o:=by grind
  have bj:i<ops.length:=(zaa.1 eZ).1;have hl:i<ak.size:=by omega
  have bg: ¬ak.getD i false=true:=by grind
  obtain⟨s1,mH,By⟩:=tx.go hL hi eZ bg um (λh=>by grind) (λe=>by omega);have kN: ∀j,((ak.setIfInBounds i true).getD j false=true)↔(ak.getD j false=true\/j=i):=λj=>by
   by_cases hj:j=i
   ·simp_all
   rw[getD_set_ne false (λe=>hj e.symm)];simp[hj]
  have rN:(λj=>(ak.setIfInBounds i true).getD j false=true)=(λj=>ak.getD j false=true\/j=i):=funext λj=>propext (kN j);have AL:fuel+(ak.setIfInBounds i true).toList.count true=ops.length:=by
   have e:(ak.setIfInBounds i true).toList=ak.toList.set i true:=by simp
   rw[e,List.count_set (by grind)];have:(ak.toList[i]'(by grind)==true)=false:=by simp[hl] at bg⊢;exact bg
   grind
  have iO:=gq fG h mH (r:=r) (K:=wpAnyIn (wd r) 0 Q .any ops.toArray Q' fuel (ak.setIfInBounds i true)) (Q':=Q') (λa' w' ⟨F',G',g1,g2⟩=>
   ih (ak.setIfInBounds i true) a' w' s1 F' G' (by simp[cp]) AL (by
    rw[rN];intro j x hj jU e he hb;rcases jU with jU |rfl
    ·exact .inl (hL j x hj jU e he hb)
    rw[eZ] at hj;cases hj;exact .inl (um e he hb)) (by rw[rN];exact By) g1 (λa2 w2 hp=>hK a2 w2 (hp.trans g2)))
  unfold wpOpIn;rw[ho];simp only[];split
  ·grind
  rename_i hw;rw[zaB hw] at iO;exact⟨λ_ _=>trivial,iO⟩
end
theorem iW{Q:Program}{cf:CF}{ops:List Oper}: ∀(l:List Oper) (s s':S),cn Q cf ops l s=some s'-> ∃St:Nat->S,St 0=s/\St l.length=s'/\ ∀i o,l[i]?=some o->aM Q cf ops (St i) o=some (St (i+1))
 | [],s,s',h=>by simp[cn] at h;exact⟨λ_=>s,rfl,h,λi o ho=>by simp at ho⟩
 |o::l,s,s',h=>by
  simp only[cn] at h;split at h
  next s1 h1=>obtain⟨St,g1,g2,g3⟩:=iW l s1 s' h;refine⟨λi=>match i with |0=>s |i+1=>St i,rfl,g2,λi x hx=> ?_⟩;grind
  cases h
theorem iI{Q:Program}{cf:CF}{ops:List Oper}: ∀(l:List Oper) (s s':S) (is:List Step),kj Q cf ops l s=some (s',is)-> ∃St:Nat->S,St 0=s/\St l.length=s'/\(∀i o,l[i]?=some o->aM Q cf ops (St i) o=some (St (i+1)))/\ ∀(i:Nat) (o:Oper),l[i]?=some o->is[i]?=some (iL Q ops (St i) o (St (i+1)))
 | [],s,s',is,h=>by simp[kj] at h;exact⟨λ_=>s,rfl,h.1,λi o ho=>by simp at ho,λi o ho=>by simp at ho⟩
 |o::l,s,s',is,h=>by
  simp only[kj] at h;split at h
  ·cases h
  rename_i s1 h1;split at h
  next s2 PF h2=>
   simp at h;obtain⟨rfl,rfl⟩:=h;obtain⟨St,g1,g2,g3,g4⟩:=iI l s1 s2 PF h2;refine⟨λi=>match i with |0=>s |i+1=>St i,rfl,g2,λi x hx=> ?_,λi x hx=> ?_⟩
   ·grind
   grind
  cases h
theorem Fa{W:List Nat×Nat×Nat}{n:Nat}(h:o6 W n):BR W n=true:=by
 unfold BR;rcases h with h | ⟨h1,h2⟩
 ·rw[(gn _ _).2 h];rfl
 simp_all
theorem iX: ∀(ns:List Nat) (y:Step) (q:Prop),mw ns y q->(∀n∈ns,o6 y.info.ws n->lk y.Ob n=lk y.Oa n)/\q
 | [],y,q,h=>⟨by simp,h⟩
 |n::r,y,q,h=>by
  simp only[mw] at h;cases hb:BR y.info.ws n with
  |true=>rw[hb] at h;obtain⟨h1,h2⟩:=iX r y q h.2;grind
  |false=>rw[hb] at h;obtain⟨h1,h2⟩:=iX r y q h;grind [Fa]
theorem C1{x y:Step}{same:Prop->Prop}(hs: ∀q,same q->q){q:Prop}(h:leaves x y same q):q:=by grind [leaves,eV]
theorem wj{x y:Step}{same:Prop->Prop}(hs: ∀q r:Prop,(q->r)->same q->same r){q r:Prop}(Fb:q->r)(h:leaves x y same q):leaves x y same r:=by grind [leaves,eV]
theorem qo{x y:Step}{same:Prop->Prop}{q:Prop}(h:leaves x y same q):(∃t n,y.Oc=some (t,n)/\x.look=some t/\n∉x.info.ns)\/same q:=by
 unfold leaves at h;split at h
 next t n t' h1 h2=>
  cases hb:(Nat.beq t t'&& !eV n x.info.ns) with
  |true=>simp only[zad,zbn] at hb;have ht:=zab hb.1;grind [gn]
  |false=>rw[hb] at h;exact .inr h
 grind
theorem wk{Q:Program}{sy Eg:S}{dst:Option Nat}{t:TypeId}{p k:P}(h:fr Q sy dst t p k=some Eg){s:S}{q i:P}(hq: ∀n v,q= .mp n v->n≠site dst):
  (match(dF Q t).bind λy=>cQ Q y.2 with |some z=>ct Q (s.wr Eg.rg) t q i false z |none=>none)=(match(dF Q t).bind λy=>cQ Q y.2 with |some z=>ct Q (s.wr sy.rg) t q i false z |none=>none):=by
 unfold fr at h;split at h
 next kt e n v kd ru=>
  split at h
  next z hz=>
   split at h
   ·rename_i jY get c ho;split at h
    ·rename_i hc;simp only[zad,zbn] at hc;obtain⟨⟨nI,yV⟩,vH⟩:=hc;have nI:=zab nI;have vH:n≠site dst:=λe=>by rw[e,Nat.beq_refl] at vH;cases vH
     split at h
     ·rename_i s1 v1 hn;obtain⟨mH,_⟩:=S.gO hn;obtain⟨en,eP,bN,aP⟩:=S.aJ ho;have tV:lk s1.rg n=some en:=by grind [aV]
      have Lv:Eg.rg=ins n ⟨en.az,en.tag,.fZ kt (dR kd (jR (get kd) z) get) (bif (get kd).isSome then c else c+1) (.mp (site dst) v1) kd⟩ s1.rg:=by rw[aE h];unfold S.setObj;rw[tV]
      simp only[ru,zam,hz];unfold ct;split
      ·rename_i EI e2 m vm MJ yU;by_cases QY:m=n
       ·skip
        by_cases hv:vm=en.az
        ·skip
         have o1:(s.wr Eg.rg).obj m en.az=some (.fZ kt (dR kd (jR (get kd) z) get) (bif (get kd).isSome then c else c+1) (.mp (site dst) v1) kd):=by grind [S.obj,S.wr,aH]
         have o2:(s.wr sy.rg).obj m en.az=some (.map kt get c false):=by grind [S.obj,S.wr]
         have hg:(dR kd (jR (get kd) z) get MJ).getD z=(get MJ).getD z:=by
          unfold dR;cases hd:D.cP kd MJ with
          |true=>have:=(D.aY _ _).1 hd;subst this;rfl
          |false=>rfl
         grind
        have hb:Nat.beq en.az vm=false:=by grind [Nat.beq,Nat.eq_of_beq_eq_true]
        have o1:(s.wr Eg.rg).obj m vm=none:=by grind [S.obj,S.wr,aH]
        have o2:(s.wr sy.rg).obj m vm=none:=by grind [S.obj,S.wr]
        rw[o1,o2]
       grind [lk,aV,S.obj,S.wr]
      ·rfl
      rfl
     cases h
    cases h
   cases h
  cases h
 cases h
theorem wm{Q:Program}{cf:CF}{ops:List Oper}{s sy Eg:S}{x y:Oper}{t:TypeId}{n:Nat}(hx:xu x=some t)(hy:BQ y=some (t,n))(aX:aM Q cf ops sy y=some Eg)(vH:n∉(aQ Q ops s x).ns):nz Q ops s x sy.rg Eg.rg:=by
 unfold xu at hx;unfold BQ at hy;split at hx
 next t' xm xk J4=>
  split at hy
  next t2 ym yk J5=>
   simp only[zaf,za9] at hx hy;subst hx;obtain⟨rfl,rfl⟩:=hy;refine⟨⟨_,_,_,J4⟩,λg hg=> ?_⟩;have hk:ar x<=1:=by simp[ar,J4]
   have E3: ∀n v,s.eg g xm= .mp n v->n≠site y.dst:=λn v hv e=>by refine vH ?_;rw[(fk (Q:=Q) (s:=s) hk hg).2 (by simp[ar,J4]),<-e];exact lb _ (s.eg g xm) n v (zbr (by simp[J4,Op.operands])) (by rw[hv];rfl)
   have act: ∀g',dL Q cf sy y g'=some Eg->pv Q (s.wr Eg.rg) x g=pv Q (s.wr sy.rg) x g:=λg' h=>by
    have hc:dU y=none:=by unfold dU;rw[J5]
    have Ec:bT Q y=none:=by unfold bT;rw[J5]
    have Ee:pv Q sy y g'=none:=by unfold pv;rw[J5]
    have sH:lN y=none:=by unfold lN;rw[J5]
    unfold dL exec at h;simp only[hc,sH] at h;unfold fA ef at h;simp only[Ec,Ee,J5] at h;have:=wk (s:=s) (q:=s.eg g xm) (i:=s.eg g xk) h E3;unfold pv;rw[J4];exact this
   grind [aM,aE]
  cases hy
 cases hx
theorem zp{m:Nat}{M:List Nat}{i j:Nat}{x y:Step}{q:Prop}(h:eY m M i x j y q):q:=by unfold eY at h;grind [iB,C1,iX]
theorem yn{m:Nat}{M:List Nat}{i:Nat}{x:Step}: ∀(l:List Step) (j0:Nat) (q:Prop),zW (eY m M i x) j0 l q->q
 | [],_,_,h=>h
 |_::r,j0,q,h=>yn r (j0+1) q (zp h)
theorem wo{m:Nat}{M:List Nat}{i:Nat}{x:Step}: ∀(l:List Step) (j0:Nat) (q:Prop),zW (eY m M i x) j0 l q-> ∀j y,l[j]?=some y-> ∃q',eY m M i x (j0+j) y q'
 | [],_,_,_,j,y,hy=>by simp at hy
 |z::r,j0,q,h,j,y,hy=>by
  cases j with
  |zero=>simp at hy;subst hy;exact⟨_,h⟩
  |succ j=>obtain⟨q',hq⟩:=wo r (j0+1) q (zp h) j y (by grind);grind
theorem lX{m:Nat}{M:List Nat}: ∀(l:List Step) (i0:Nat) (q:Prop),nk (eY m M) i0 l q-> ∀i j x y,i<j->l[i]?=some x->l[j]?=some y-> ∃q',eY m M (i0+i) x (i0+j) y q'
 | [],_,_,_,i,j,x,y,_,hx,_=>by simp at hx
 |z::r,i0,q,h,i,j,x,y,ng,hx,hy=>by
  cases i with
  |zero=>
   obtain⟨j,rfl⟩: ∃j',j=j'+1:=⟨j-1,by omega⟩
   obtain⟨q',hq⟩:=wo r (i0+1) _ h j y (by grind);grind
  |succ i=>
   obtain⟨j,rfl⟩: ∃j',j=j'+1:=⟨j-1,by omega⟩
   obtain⟨q',hq⟩:=lX r (i0+1) q (yn r (i0+1) _ h) i j x y (by omega) (by grind) (by grind);grind
theorem qp{m:Nat}{M:List Nat}: ∀(l:List Step) (i0:Nat) (q:Prop),nk (eY m M) i0 l q->q
 | [],_,_,h=>h
 |_::r,i0,q,h=>qp r (i0+1) q (yn r (i0+1) _ h)
theorem lY: ∀(ns:List Nat) (y:Step) (q r:Prop),(q->r)->mw ns y q->mw ns y r
 | [],_,_,_,h,hs=>h hs
 |n::ns,y,q,r,h,hs=>by
  simp only[mw] at hs⊢;cases hb:BR y.info.ws n with
  |true=>rw[hb] at hs;exact⟨hs.1,lY ns y q r h hs.2⟩
  |false=>rw[hb] at hs;exact lY ns y q r h hs
theorem yo{m:Nat}{M:List Nat}{i j:Nat}{x y:Step}{q r:Prop}(Fb:q->r)(h:eY m M i x j y q):eY m M i x j y r:=by unfold eY at h⊢;grind [iB,wj,lY]
theorem sI{m:Nat}{M:List Nat}{i:Nat}{x:Step}: ∀(l:List Step) (j0:Nat) (q r:Prop),(q->r)->zW (eY m M i x) j0 l q->zW (eY m M i x) j0 l r
 | [],_,_,_,Fb,h=>Fb h
 |_::l,j0,q,r,Fb,h=>yo (sI l (j0+1) q r Fb) h
theorem kO{m:Nat}{M:List Nat}: ∀(l:List Step) (i0:Nat) (q r:Prop),(q->r)->nk (eY m M) i0 l q->nk (eY m M) i0 l r
 | [],_,_,_,Fb,h=>Fb h
 |_::l,i0,q,r,Fb,h=>sI l (i0+1) _ _ (kO l (i0+1) q r Fb) h
theorem qq{Q:Program}{cf:CF}{ops:List Oper}{m:Nat}{M:List Nat}{St:Nat->S}{i j:Nat}{x y:Oper}(PG:aM Q cf ops (St i) x=some (St (i+1)))(PH:aM Q cf ops (St j) y=some (St (j+1)))(dW:ar x<=1\/ar y<=1)(hb:Nat.testBit (M.getD j 0) i=false){q:Prop}
  (hq:eY m M i (iL Q ops (St i) x (St (i+1))) j (iL Q ops (St j) y (St (j+1))) q):
  iB (aQ Q ops (St i) x) (aQ Q ops (St j) y)=true\/
  ((aQ Q ops (St i) x).pure=true/\((∀n∈(aQ Q ops (St i) x).ns,lk (St (j+1)).rg n=lk (St j).rg n)\/nz Q ops (St i) x (St j).rg (St (j+1)).rg))\/
  ((aQ Q ops (St j) y).pure=true/\((∀n∈(aQ Q ops (St j) y).ns,lk (St (i+1)).rg n=lk (St i).rg n)\/nz Q ops (St j) y (St i).rg (St (i+1)).rg)):=by
 unfold eY at hq;simp only[iL] at hq;simp only[hb,zcA] at hq;cases MK:iB (aQ Q ops (St i) x) (aQ Q ops (St j) y) with
 |true=>simp
 |false=>
  right;rw[MK] at hq;cases Bt:(aQ Q ops (St i) x).pure with
  |true=>
   cases rv:(aQ Q ops (St j) y).pure with
   |true=>grind [iB]
   |false=>
    left;simp only[Bt,rv,zbk,zbi] at hq;refine⟨rfl,?_⟩;rcases qo hq with⟨f,hf,h1,h2,h3⟩|hq
    ·grind [wm]
    refine .inl λn hn=> ?_;by_cases hw:o6 (aQ Q ops (St j) y).ws n
    ·grind [iX]
    exact gh (by
     by_cases hk:ar y<=1
     ·cases hg:aG ops y with
      |none=>grind [aM]
      |some g=>rw[(fk hk hg).1] at rv;cases rv
     omega) (PH) hw
  |false=>
   cases rv:(aQ Q ops (St j) y).pure with
   |true=>
    right;simp only[Bt,rv,zbk,zbi] at hq;refine⟨rfl,?_⟩;rcases qo hq with⟨f,hf,h1,h2,h3⟩|hq
    ·grind [wm]
    refine .inl λn hn=> ?_;by_cases hw:o6 (aQ Q ops (St i) x).ws n
    ·grind [iX]
    exact gh (by
     by_cases hk:ar x<=1
     ·cases hg:aG ops x with
      |none=>grind [aM]
      |some g=>rw[(fk hk hg).1] at Bt;cases Bt
     omega) (PG) hw
   |false=>
    exfalso;rcases dW with hk |hk
    ·cases hg:aG ops x with
     |none=>grind [aM]
     |some g=>rw[(fk hk hg).1] at Bt;cases Bt
    cases hg:aG ops y with
    |none=>grind [aM]
    |some g=>rw[(fk hk hg).1] at rv;cases rv
theorem nU{ops:List Oper}{o:Oper}:(gD ops o).dst=o.dst/\(gD ops o).after=o.after/\(gD ops o).guard=o.guard/\(gD ops o).op=o.op:=by unfold gD;split<;>exact⟨rfl,rfl,rfl,rfl⟩
theorem Fc{ops:List Oper}{o:Oper}(h:EB ops o=true): ∃t l ps,o.op= .buildSlice t l ps:=by grind [EB]
theorem qt{ops:List Oper}{i:Nat}:(bO ops).toArray[i]?=(ops.toArray[i]?).map (gD ops):=by simp[bO]
theorem lZ{ops:List Oper}{ak:Array Bool}{i:Nat}:i∈Region.ready .any (bO ops).toArray ak↔i∈Region.ready .any ops.toArray ak:=by rw[mem_ready,mem_ready];grind [qt,nU,gD]
theorem uo{ops:List Oper}(tmps:Array Value):yielded (bO ops).toArray tmps=yielded ops.toArray tmps:=by funext j;unfold yielded;rw[qt];grind [nU]
theorem Fe{Q:Program}{F:Fence}{n:Nat}{ops:List Oper}{Q':Exit->Act->World->Prop}{i:Nat}{K:Act->World->Prop}{a:Act}{w:World}(h:wpOpIn F n Q (bO ops).toArray Q' i K a w):wpOpIn F n Q ops.toArray Q' i K a w:=by
 unfold wpOpIn at h⊢;rw[qt,uo] at h;cases ho:ops.toArray[i]? with
 |none=>rw[ho] at h;exact h
 |some o=>
  rw[ho] at h;simp only[zaA] at h⊢;by_cases hv:EB ops o=true
  ·obtain⟨t,l,ps,nc⟩:=Fc hv;have e:gD ops o={o with type:=4000000}:=by unfold gD;rw[zat hv]
   rw[e] at h;obtain⟨dst,op,ty,pos,af,gd⟩:=o;subst nc;have e2: ∀ty',Oper.semAt F.round a.eval ⟨dst,.buildSlice t l ps,ty',pos,af,gd⟩=execOp a.eval ⟨dst,.buildSlice t l ps,0,pos,af,gd⟩:=λty'=>by rw[Oper.semAt_eq _ _ _ (by simp)];rfl
   have J6:Region.wanted ⟨dst,.buildSlice t l ps,4000000,pos,af,gd⟩ (yielded ops.toArray a.tmps)=Region.wanted ⟨dst,.buildSlice t l ps,ty,pos,af,gd⟩ (yielded ops.toArray a.tmps):=rfl;rw[J6] at h;split at h
   ·rename_i hw;rw[zat hw];refine⟨h.1,?_⟩;have h2:=h.2;simp only[e2] at h2⊢;generalize (execOp a.eval ⟨dst,.buildSlice t l ps,0,pos,af,gd⟩).run Q w=r at h2⊢;cases r with
    |ok x w'=>cases x<;>exact h2
    |halt x w'=>cases x<;>exact h2
   rename_i hw;rw[zaB hw];exact h
  grind [gD]
theorem wq{Q:Program}{F:Fence}{n:Nat}{ops:List Oper}{Q':Exit->Act->World->Prop}: ∀(fuel:Nat) (ak:Array Bool) (a:Act) (w:World),wpAnyIn F n Q .any (bO ops).toArray Q' fuel ak a w->wpAnyIn F n Q .any ops.toArray Q' fuel ak a w
 |0,ak,a,w,h=>by
  have ML:Region.ready .any ops.toArray ak=[]:=zcq.2 λi hi=>by have:=lZ.2 hi;rw[h.1] at this;cases this
  exact⟨ML,h.2⟩
 |fuel+1,ak,a,w,h=>by refine⟨λhr=>h.1 (zcq.2 λi hi=>by have:=lZ.1 hi;rw[hr] at this;cases this),λi hi=> ?_⟩;exact wpOpIn_mono (λa w h=>wq fuel _ a w h) (Fe (h.2 i (lZ.2 hi)))
theorem nV{Q:Program}{T:Tg}{cf:CF}(fG:cL Q T.w0 cf){ops:List Oper}{F:Nat->Prop}{G:Nat->Value}{w:World}{a:Act}{s s':S}{r:Option Nat}{Q':Exit->Act->World->Prop}
  (h:aq Q T F G w a s) (hs:fB Q cf ops s=some s') (hK: ∀a' w',fh Q T F G w s s' a' w'->Q' .normal a' w'):wpAnyIn (wd r) 0 Q .any ops.toArray Q' ops.toArray.size (Array.replicate ops.toArray.size false) a {w with drawn:=w.drawn+1}:=by
 have main: ∀St,Text Q cf ops (masks ops []) St ops.length->St 0=s->St ops.length=s'->wpAnyIn (wd r) 0 Q .any ops.toArray Q' ops.toArray.size (Array.replicate ops.toArray.size false) a {w with drawn:=w.drawn+1}:=by
  intro St tx h0 h1;have fg:(λj=>(Array.replicate ops.length false).getD j false=true)=λ_=>False:=by funext j;simp only[zav,zcz];split<;>simp
  have MN:aq Q T F G {w with drawn:=w.drawn+1} a s:=h.drawn _ (zbq _);have:=Ht (T:=T) (r:=r) tx fG (Q':=Q') ops.length (Array.replicate ops.length false) a {w with drawn:=w.drawn+1} s F G (by simp) (by
    rw[Array.toList_replicate,List.count_replicate];simp) (by
    rw[fg];intro i o _ hf;grind) (by
    rw[fg];exact⟨by rw[h0],λi o t _ hf=>hf.elim,λt _=>by rw[h0],⟨0,by omega,by rw[h0],λi o _ _=>by simp⟩⟩) MN
    (λa' w' hp=>hK a' w' (by obtain⟨F',G',k1,k2⟩:=hp;rw[h1] at k1 k2;exact⟨F',G',k1,⟨k2.fV,k2.iN,k2.fe,k2.keep,k2.size,k2.os,k2.tape,k2.output⟩⟩))
  grind
 unfold fB at hs;have tW: ∀k,b9 ops=k+1->ft (zV (masks ops [])) 0 ops=true/\eo (yN ops (masks ops [])) 0 ops=true/\(k≠0->eo (λi x j y=>Nat.testBit ((masks ops []).getD j 0) i ||BP x y) 0 ops=true):=by grind [b9]
 have zero: ∀i:Nat,0+i=i:=zbK;split at hs
 ·cases hs
 next hc=>
  obtain⟨c1,c2,_⟩:=tW 0 hc;split at hs
  next s1 l hd=>
   split at hs
   ·rename_i Hu;simp at hs;subst hs;obtain⟨St,g1,g2,g3,g4⟩:=iI ops _ _ _ hd;refine main St ⟨λi o ho=> ?_,λi j x y ng hx hy=>r5 ?_,g3,λi j x y ng hx hy _ hb=> .inr ?_⟩ g1 g2
    ·have:=dw ops 0 c1 i o ho;rwa [zero] at this
    ·have:=dN ops 0 c2 i j x y ng hx hy;rwa [zero,zero] at this
    obtain⟨q,hq⟩:=lX l 0 True Hu i j _ _ ng (g4 i x hx) (g4 j y hy);rw[zero,zero] at hq;exact qq (g3 i x hx) (g3 j y hy) (by assumption) hb hq
   cases hs
  cases hs
 rename_i h0 h1;obtain⟨k,hk⟩: ∃k,b9 ops=k+1+1:=by simp_all [b9]
 obtain⟨c1,c2,c3⟩:=tW (k+1) hk;have c3:=c3 (by omega);obtain⟨St,g1,g2,g3⟩:=iW ops _ _ hs;refine main St ⟨λi o ho=> ?_,λi j x y ng hx hy=>r5 ?_,g3,λi j x y ng hx hy _ hb=> .inl ?_⟩ g1 g2
 ·have:=dw ops 0 c1 i o ho;rwa [zero] at this
 ·have:=dN ops 0 c2 i j x y ng hx hy;rwa [zero,zero] at this
 have:=dN ops 0 c3 i j x y ng hx hy;simp only[zero,hb,zcA,BP,zbR,zad] at this;grind [Nat.eq_of_beq_eq_true,Nat.le_of_ble_eq_true]
end Pi
