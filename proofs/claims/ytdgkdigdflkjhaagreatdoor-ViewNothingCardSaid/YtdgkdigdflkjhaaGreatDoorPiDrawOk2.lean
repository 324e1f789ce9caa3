/- The text PiDrawOk2. -/
import Derived.Test.YtdgkdigdflkjhaaGreatDoorPiDrawOk
import Derived.Orders
namespace Pi
open Go
theorem aC.alike{Q T F G}{w a s s2}(h:aC Q T F G w a s)(hn:s.n=s2.n)(hr:s.rg=s2.rg)(ht: ∀t,lk s.tm t=lk s2.tm t):aC Q T F G w a s2:=
 ⟨hr▸h.s7,hn▸h.size,λt p hp=>by rw[<-hr];exact h.tm t p ((ht t).trans hp),λn e he=>by rw[<-hr] at he⊢;exact h.rg n e he,
  λn m e e' b he cR=>by rw[<-hr] at he cR;exact h.own n m e e' b he cR,λn e b he=>by rw[<-hr] at he;exact h.nA n e b he,h.jE,λn e i he=>by rw[<-hr] at he;exact h.tag n e i he,h.z,h.dr,h.sz⟩
theorem aC.drawn{Q T F G}{w a s}(h:aC Q T F G w a s) k (hk:w.drawn<=k):aC Q T F G {w with drawn:=k} a s:=
 ⟨h.s7,h.size,λt p hp=>cE.mono (w:=w) (w':={w with drawn:=k}) (λ_ h=>h) (λ_ _=>rfl) (Names.refl _ _) (h.tm t p hp),λn e he=>(h.rg n e he).mono (w':={w with drawn:=k}) (λ_ h=>h) (λ_ _=>rfl) (Names.refl _ _) rfl (λ_ _=>rfl),
  h.own,h.nA,h.jE,h.tag,h.z,zaL h.dr hk,h.sz⟩
theorem DI{ops listed}(dS:listed.size=ops.size)(kI: ∀i o,ops[i]?=some o-> ∀e∈o.after,Region.binds .any e=true->e.on<i)
  (hr:Region.ready .any ops listed=[]): ∀i,i<ops.size->listed.getD i false=true:=by
 intro i
 induction i using Nat.strongRecOn with
 |ind i ih=>
  intro hi;cases hb:listed.getD i false with
  |true=>rfl
  |false=>have ho:ops[i]?=some ops[i]:=zbN hi;have:i∈Region.ready .any ops listed:=mem_ready.2 ⟨by grind,_,ho,λe he LB=>ih e.on (kI i _ ho e he LB) (by have:=kI i _ ho e he LB;omega)⟩;rw[hr] at this;cases this
section
variable{Q:Program}{T:Tg}{cf:CF}{ops:List Oper}{M:List Nat}{St:Nat->S}{r:Option Nat}
theorem qfH(tx:Text Q cf ops M St ops.length)(jO:cz Q T.w0 cf){Q'}: ∀fuel listed a w s F G,
  listed.size=ops.length->fuel+listed.toList.count true=ops.length->Is ops (λj=>listed.getD j false=true)->Inv ops St (λj=>listed.getD j false=true) s->aC Q T F G w a s->
  (∀a' w',jo Q T F G w s (St ops.length) a' w'->Q' .normal a' w')->wpAnyIn (wd r) 0 Q .any ops.toArray Q' fuel listed a w:=by
 have kI: ∀(i:Nat) (o:Oper),ops.toArray[i]?=some o-> ∀e∈o.after,Region.binds .any e=true->e.on<i:=λi o ho e he hb=>tx.back (by grind) he hb;have fin: ∀(listed:Array Bool) (a:Act) (w:World) (s:S) (F:Nat->Prop) (G:Nat->Value),(∀i,i<ops.length->listed.getD i false=true)->Inv ops St (λj=>listed.getD j false=true) s->aC Q T F G w a s->
   (∀a' w',jo Q T F G w s (St ops.length) a' w'->Q' .normal a' w')->Q' .normal a w:=by
  intro listed a w s F G ix hi h hK;obtain⟨h1,h2,h3⟩:=tx.last hi (λi o ho=>ix i (zae.1 ho).1);exact hK a w ⟨F,G,h.alike h1 h2 h3,by rw[<-h2];exact Ext.refl _ _ _⟩
 intro fuel
 induction fuel with
 |zero=>
  intro listed a w s F G dS hc hL hi h hK;have ix: ∀i,i<ops.length->listed.getD i false=true:=λi bK=>by
   have oN:listed.toList.count true=listed.toList.length:=by rw[zc5,dS];omega
   have:=List.count_eq_length.1 oN listed[i] (by simp);simp_all
  refine⟨?_,fin listed a w s F G ix hi h hK⟩;cases hr:Region.ready .any ops.toArray listed with
  |nil=>rfl
  |cons i r=>
   have hm:i∈Region.ready .any ops.toArray listed:=by rw[hr];simp
   obtain⟨h0,o,ho,_⟩:=mem_ready.1 hm;grind
 |succ fuel ih=>
  intro listed a w s F G dS hc hL hi h hK;refine⟨λhr=>fin listed a w s F G (λi bK=>DI (by simp[dS]) kI hr i (by grind)) hi h hK,λi hm=> ?_⟩;obtain⟨h0,o,ho,Fz⟩:=mem_ready.1 hm;have gK:ops[i]?=some o:=by grind
  have bK:i<ops.length:=(zae.1 gK).1;have hl:i<listed.size:=by omega
  have bI: ¬listed.getD i false=true:=by grind
  obtain⟨s1,s9,Hk⟩:=tx.go hL hi gK bI Fz (λh=>by grind) (λe=>by omega);have lS: ∀j,((listed.setIfInBounds i true).getD j false=true)↔(listed.getD j false=true\/j=i):=λj=>by
   by_cases hj:j=i
   ·simp_all
   rw[getD_set_ne false (λe=>hj e.symm)];simp[hj]
  have wg:(λj=>(listed.setIfInBounds i true).getD j false=true)=(λj=>listed.getD j false=true\/j=i):=funext λj=>propext (lS j);have CC:fuel+(listed.setIfInBounds i true).toList.count true=ops.length:=by
   have e:(listed.setIfInBounds i true).toList=listed.toList.set i true:=by simp
   rw[e,List.count_set (by grind)];have:(listed.toList[i]'(by grind)==true)=false:=by simp[hl] at bI⊢;exact bI
   grind
  have kH:=lg jO h s9 (r:=r) (K:=wpAnyIn (wd r) 0 Q .any ops.toArray Q' fuel (listed.setIfInBounds i true)) (Q':=Q') (λa' w' ⟨F',G',g1,g2⟩=>
   ih (listed.setIfInBounds i true) a' w' s1 F' G' (by simp[dS]) CC (by
    rw[wg];intro j x hj p8 e he hb;rcases p8 with p8 |rfl
    ·exact .inl (hL j x hj p8 e he hb)
    rw[gK] at hj;cases hj;exact .inl (Fz e he hb)) (by rw[wg];exact Hk) g1 (λa2 w2 hp=>hK a2 w2 (hp.trans g2)))
  unfold wpOpIn;rw[ho];simp only[];split
  ·grind
  rename_i hw;rw[zan hw] at kH;exact⟨λ_ _=>trivial,kH⟩
end
theorem oh{Q cf ops}: ∀l s s',dF Q cf ops l s=some s'-> ∃St:Nat->S,St 0=s/\St l.length=s'/\ ∀i o,l[i]?=some o->bu Q cf ops (St i) o=some (St (i+1))
 | [],s,s',h=>by simp[dF] at h;exact⟨λ_=>s,rfl,h,λi o ho=>by simp at ho⟩
 |o::l,s,s',h=>by
  simp only[dF] at h;split at h
  next s1 h1=>obtain⟨St,g1,g2,g3⟩:=oh l s1 s' h;refine⟨λi=>match i with |0=>s |i+1=>St i,rfl,g2,λi x hx=> ?_⟩;grind
  cases h
theorem nG{Q cf ops}: ∀l s s' is,qz Q cf ops l s=some (s',is)-> ∃St:Nat->S,St 0=s/\St l.length=s'/\(∀i o,l[i]?=some o->bu Q cf ops (St i) o=some (St (i+1)))/\ ∀i o,l[i]?=some o->is[i]?=some (nZ Q ops (St i) o (St (i+1)))
 | [],s,s',is,h=>by simp[qz] at h;exact⟨λ_=>s,rfl,h.1,λi o ho=>by simp at ho,λi o ho=>by simp at ho⟩
 |o::l,s,s',is,h=>by
  simp only[qz] at h;split at h
  ·cases h
  rename_i s1 h1;split at h
  next s2 is2 h2=>
   simp at h;obtain⟨rfl,rfl⟩:=h;obtain⟨St,g1,g2,g3,g4⟩:=nG l s1 s2 is2 h2;refine⟨λi=>match i with |0=>s |i+1=>St i,rfl,g2,λi x hx=> ?_,λi x hx=> ?_⟩
   ·grind
   grind
  cases h
theorem qaz{W n}(h:yK W n):Tx W n=true:=by
 unfold Tx;rcases h with h | ⟨h1,h2⟩
 ·rw[(lb _ _).2 h];rfl
 simp_all
theorem oi: ∀ns y q,uo ns y q->(∀n∈ns,yK y.info.ws n->lk y.aft n=lk y.bef n)/\q
 | [],y,q,h=>⟨by simp,h⟩
 |n::r,y,q,h=>by
  simp only[uo] at h;cases hb:Tx y.info.ws n with
  |true=>rw[hb] at h;obtain⟨h1,h2⟩:=oi r y q h.2;grind
  |false=>rw[hb] at h;obtain⟨h1,h2⟩:=oi r y q h;grind [qaz]
theorem UC{x y}{same:Prop->Prop}(hs: ∀q,same q->q){q:Prop}(h:leaves x y same q):q:=by grind [leaves,iw]
theorem Iw{x y}{same:Prop->Prop}(hs: ∀q r:Prop,(q->r)->same q->same r){q r:Prop}(hqr:q->r)(h:leaves x y same q):leaves x y same r:=by grind [leaves,iw]
theorem Ai{x y}{same:Prop->Prop}{q:Prop}(h:leaves x y same q):(∃t n,y.ent=some (t,n)/\x.look=some t/\n∉x.info.ns)\/same q:=by
 unfold leaves at h;split at h
 next t n t' h1 h2=>
  cases hb:(Nat.beq t t'&& !iw n x.info.ns) with
  |true=>simp only[zac,zbv] at hb;have ht:=zag hb.1;grind [lb]
  |false=>rw[hb] at h;exact .inr h
 grind
theorem Ix{Q sy sy' dst t}{p k}(h:jA Q sy dst t p k=some sy'){s:S}{q i}(hq: ∀n v,q= .mp n v->n≠site dst):
  (match(jJ Q t).bind λy=>eK Q y.2 with |some z=>eM Q (s.wr sy'.rg) t q i false z |none=>none)=(match(jJ Q t).bind λy=>eK Q y.2 with |some z=>eM Q (s.wr sy.rg) t q i false z |none=>none):=by
 unfold jA at h;split at h
 next kt e n v kd Hg=>
  split at h
  next z hz=>
   split at h
   ·rename_i zq get c ho;split at h
    ·rename_i hc;simp only[zac,zbv] at hc;obtain⟨⟨Du,hkB⟩,Hh⟩:=hc;have Du:=zag Du;have Hh:n≠site dst:=λe=>by rw[e,Nat.beq_refl] at Hh;cases Hh
     split at h
     ·rename_i s1 v1 hn;obtain⟨s9,_⟩:=S.lP hn;obtain⟨en,lJ,eb,b8⟩:=S.bM ho;have Fj:lk s1.rg n=some en:=by grind [cc]
      have hrg:sy'.rg=ins n ⟨en.aV,en.tag,.kM kt (aX kd (aQ (get kd) z) get) (bif (get kd).isSome then c else c+1) (.mp (site dst) v1) kd⟩ s1.rg:=by rw[bz h];unfold S.setObj;rw[Fj]
      simp only[Hg,zaw,hz];unfold eM;split
      ·rename_i kt2 e2 m vm kd2 NJ;by_cases hmn:m=n
       ·skip
        by_cases hv:vm=en.aV
        ·skip
         have o1:(s.wr sy'.rg).obj m en.aV=some (.kM kt (aX kd (aQ (get kd) z) get) (bif (get kd).isSome then c else c+1) (.mp (site dst) v1) kd):=by grind [S.obj,S.wr,bE]
         have o2:(s.wr sy.rg).obj m en.aV=some (.map kt get c false):=by grind [S.obj,S.wr]
         have hg:(aX kd (aQ (get kd) z) get kd2).getD z=(get kd2).getD z:=by
          unfold aX;cases hd:D.gH kd kd2 with
          |true=>have:=(D.bS _ _).1 hd;subst this;rfl
          |false=>rfl
         grind
        have hb:Nat.beq en.aV vm=false:=by grind [Nat.beq,Nat.eq_of_beq_eq_true]
        have o1:(s.wr sy'.rg).obj m vm=none:=by grind [S.obj,S.wr,bE]
        have o2:(s.wr sy.rg).obj m vm=none:=by grind [S.obj,S.wr]
        rw[o1,o2]
       grind [lk,cc,S.obj,S.wr]
      ·rfl
      rfl
     cases h
    cases h
   cases h
  cases h
 cases h
theorem Iy{Q cf ops s sy sy'}{x y t n}(hx:Lm x=some t)(hy:Tw y=some (t,n))(ca:bu Q cf ops sy y=some sy')(Hh:n∉(bP Q ops s x).ns):wb Q ops s x sy.rg sy'.rg:=by
 unfold Lm at hx;unfold Tw at hy;split at hx
 next t' xm xk hxo=>
  split at hy
  next t2 ym yk hyo=>
   simp only[zam,zbt] at hx hy;subst hx;obtain⟨rfl,rfl⟩:=hy;refine⟨⟨_,_,_,hxo⟩,λg hg=> ?_⟩;have hk:aB x<=1:=by simp[aB,hxo]
   have qat: ∀n v,s.eg g xm= .mp n v->n≠site y.dst:=λn v hv e=>by refine Hh ?_;rw[(jr (Q:=Q) (s:=s) hk hg).2 (by simp[aB,hxo]),<-e];exact rB _ (s.eg g xm) n v (zaU (by simp[hxo,Op.operands])) (by rw[hv];rfl)
   have act: ∀g',gI Q cf sy y g'=some sy'->pv Q (s.wr sy'.rg) x g=pv Q (s.wr sy.rg) x g:=λg' h=>by
    have hc:gV y=none:=by unfold gV;rw[hyo]
    have hna:dn Q y=none:=by unfold dn;rw[hyo]
    have hpv:pv Q sy y g'=none:=by unfold pv;rw[hyo]
    have BS:sZ y=none:=by unfold sZ;rw[hyo]
    unfold gI exec at h;simp only[hc,BS] at h;unfold jK ef at h;simp only[hna,hpv,hyo] at h;have:=Ix (s:=s) (q:=s.eg g xm) (i:=s.eg g xk) h qat;unfold pv;rw[hxo];exact this
   grind [bu,bz]
  cases hy
 cases hx
theorem NY{m M i j x y}{q:Prop}(h:jb m M i x j y q):q:=by unfold jb at h;grind [ny,UC,oi]
theorem L4{m M i x}: ∀l j0 q,Qe (jb m M i x) j0 l q->q
 | [],_,_,h=>h
 |_::r,j0,q,h=>L4 r (j0+1) q (NY h)
theorem Iz{m M i x}: ∀l j0 q,Qe (jb m M i x) j0 l q-> ∀j y,l[j]?=some y-> ∃q',jb m M i x (j0+j) y q'
 | [],_,_,_,j,y,hy=>by simp at hy
 |z::r,j0,q,h,j,y,hy=>by
  cases j with
  |zero=>simp at hy;subst hy;exact⟨_,h⟩
  |succ j=>obtain⟨q',hq⟩:=Iz r (j0+1) q (NY h) j y (by grind);grind
theorem tu{m M}: ∀l i0 q,vS (jb m M) i0 l q-> ∀i j x y,i<j->l[i]?=some x->l[j]?=some y-> ∃q',jb m M (i0+i) x (i0+j) y q'
 | [],_,_,_,i,j,x,y,_,hx,_=>by simp at hx
 |z::r,i0,q,h,i,j,x,y,rY,hx,hy=>by
  cases i with
  |zero=>
   obtain⟨j,rfl⟩: ∃j',j=j'+1:=⟨j-1,by omega⟩
   obtain⟨q',hq⟩:=Iz r (i0+1) _ h j y (by grind);grind
  |succ i=>
   obtain⟨j,rfl⟩: ∃j',j=j'+1:=⟨j-1,by omega⟩
   obtain⟨q',hq⟩:=tu r (i0+1) q (L4 r (i0+1) _ h) i j x y (by omega) (by grind) (by grind);grind
theorem Aj{m M}: ∀l i0 q,vS (jb m M) i0 l q->q
 | [],_,_,h=>h
 |_::r,i0,q,h=>Aj r (i0+1) q (L4 r (i0+1) _ h)
theorem tv: ∀ns y q r,(q->r)->uo ns y q->uo ns y r
 | [],_,_,_,h,hs=>h hs
 |n::ns,y,q,r,h,hs=>by
  simp only[uo] at hs⊢;cases hb:Tx y.info.ws n with
  |true=>rw[hb] at hs;exact⟨hs.1,tv ns y q r h hs.2⟩
  |false=>rw[hb] at hs;exact tv ns y q r h hs
theorem L5{m M i j x y}{q r:Prop}(hqr:q->r)(h:jb m M i x j y q):jb m M i x j y r:=by unfold jb at h⊢;grind [ny,Iw,tv]
theorem DJ{m M i x}: ∀l j0 q r,(q->r)->Qe (jb m M i x) j0 l q->Qe (jb m M i x) j0 l r
 | [],_,_,_,hqr,h=>hqr h
 |_::l,j0,q,r,hqr,h=>L5 (DJ l (j0+1) q r hqr) h
theorem qS{m M}: ∀l i0 q r,(q->r)->vS (jb m M) i0 l q->vS (jb m M) i0 l r
 | [],_,_,_,hqr,h=>hqr h
 |_::l,i0,q,r,hqr,h=>DJ l (i0+1) _ _ (qS l (i0+1) q r hqr) h
theorem Ak{Q cf ops m}{M}{St:Nat->S}{i j x y}(hsx:bu Q cf ops (St i) x=some (St (i+1)))(hsy:bu Q cf ops (St j) y=some (St (j+1)))(kj:aB x<=1\/aB y<=1)(hb:Nat.testBit (M.getD j 0) i=false){q:Prop}
  (hq:jb m M i (nZ Q ops (St i) x (St (i+1))) j (nZ Q ops (St j) y (St (j+1))) q):
  ny (bP Q ops (St i) x) (bP Q ops (St j) y)=true\/
  ((bP Q ops (St i) x).pure=true/\((∀n∈(bP Q ops (St i) x).ns,lk (St (j+1)).rg n=lk (St j).rg n)\/wb Q ops (St i) x (St j).rg (St (j+1)).rg))\/
  ((bP Q ops (St j) y).pure=true/\((∀n∈(bP Q ops (St j) y).ns,lk (St (i+1)).rg n=lk (St i).rg n)\/wb Q ops (St j) y (St i).rg (St (i+1)).rg)):=by
 unfold jb at hq;simp only[nZ] at hq;simp only[hb,zby] at hq;cases hap:ny (bP Q ops (St i) x) (bP Q ops (St j) y) with
 |true=>simp
 |false=>
  right;rw[hap] at hq;cases Co:(bP Q ops (St i) x).pure with
  |true=>
   cases Cp:(bP Q ops (St j) y).pure with
   |true=>grind [ny]
   |false=>
    left;simp only[Co,Cp,zbY,zbl] at hq;refine⟨rfl,?_⟩;rcases Ai hq with⟨f,hf,h1,h2,h3⟩|hq
    ·grind [Iy]
    refine .inl λn hn=> ?_;by_cases hw:yK (bP Q ops (St j) y).ws n
    ·grind [oi]
    exact kQ (by
     by_cases hk:aB y<=1
     ·cases hg:br ops y with
      |none=>grind [bu]
      |some g=>rw[(jr hk hg).1] at Cp;cases Cp
     omega) (hsy) hw
  |false=>
   cases Cp:(bP Q ops (St j) y).pure with
   |true=>
    right;simp only[Co,Cp,zbY,zbl] at hq;refine⟨rfl,?_⟩;rcases Ai hq with⟨f,hf,h1,h2,h3⟩|hq
    ·grind [Iy]
    refine .inl λn hn=> ?_;by_cases hw:yK (bP Q ops (St i) x).ws n
    ·grind [oi]
    exact kQ (by
     by_cases hk:aB x<=1
     ·cases hg:br ops x with
      |none=>grind [bu]
      |some g=>rw[(jr hk hg).1] at Co;cases Co
     omega) (hsx) hw
   |false=>
    exfalso;rcases kj with hk |hk
    ·cases hg:br ops x with
     |none=>grind [bu]
     |some g=>rw[(jr hk hg).1] at Co;cases Co
    cases hg:br ops y with
    |none=>grind [bu]
    |some g=>rw[(jr hk hg).1] at Cp;cases Cp
theorem xi{ops o}:(lC ops o).dst=o.dst/\(lC ops o).after=o.after/\(lC ops o).guard=o.guard/\(lC ops o).op=o.op:=by unfold lC;split<;>exact⟨rfl,rfl,rfl,rfl⟩
theorem qaA{ops o}(h:qad ops o=true): ∃t l ps,o.op= .buildSlice t l ps:=by grind [qad]
theorem Al{ops}{i:Nat}:(da ops).toArray[i]?=(ops.toArray[i]?).map (lC ops):=by simp[da]
theorem tA{ops listed i}:i∈Region.ready .any (da ops).toArray listed↔i∈Region.ready .any ops.toArray listed:=by rw[mem_ready,mem_ready];grind [Al,xi,lC]
theorem FA{ops} tmps:yielded (da ops).toArray tmps=yielded ops.toArray tmps:=by funext j;unfold yielded;rw[Al];grind [xi]
theorem qaB{Q F n ops}{Q' i K a}{w}(h:wpOpIn F n Q (da ops).toArray Q' i K a w):wpOpIn F n Q ops.toArray Q' i K a w:=by
 unfold wpOpIn at h⊢;rw[Al,FA] at h;cases ho:ops.toArray[i]? with
 |none=>rw[ho] at h;exact h
 |some o=>
  rw[ho] at h;simp only[zaH] at h⊢;by_cases hv:qad ops o=true
  ·obtain⟨t,l,ps,ux⟩:=qaA hv;have e:lC ops o={o with type:=4000000}:=by unfold lC;rw[zap hv]
   rw[e] at h;obtain⟨dst,op,ty,pos,af,gd⟩:=o;subst ux;have e2: ∀ty',Oper.semAt F.round a.eval ⟨dst,.buildSlice t l ps,ty',pos,af,gd⟩=execOp a.eval ⟨dst,.buildSlice t l ps,0,pos,af,gd⟩:=λty'=>by rw[Oper.semAt_eq _ _ _ (by simp)];rfl
   have qiF:Region.wanted ⟨dst,.buildSlice t l ps,4000000,pos,af,gd⟩ (yielded ops.toArray a.tmps)=Region.wanted ⟨dst,.buildSlice t l ps,ty,pos,af,gd⟩ (yielded ops.toArray a.tmps):=rfl;rw[qiF] at h;split at h
   ·rename_i hw;rw[zap hw];refine⟨h.1,?_⟩;have h2:=h.2;simp only[e2] at h2⊢;generalize (execOp a.eval ⟨dst,.buildSlice t l ps,0,pos,af,gd⟩).run Q w=r at h2⊢;cases r with
    |ok x w'=>cases x<;>exact h2
    |halt x w'=>cases x<;>exact h2
   rename_i hw;rw[zan hw];exact h
  grind [lC]
theorem IA{Q F n ops}{Q'}: ∀fuel listed a w,wpAnyIn F n Q .any (da ops).toArray Q' fuel listed a w->wpAnyIn F n Q .any ops.toArray Q' fuel listed a w
 |0,listed,a,w,h=>by
  have qnm:Region.ready .any ops.toArray listed=[]:=zdm.2 λi hi=>by have:=tA.2 hi;rw[h.1] at this;cases this
  exact⟨qnm,h.2⟩
 |fuel+1,listed,a,w,h=>by refine⟨λhr=>h.1 (zdm.2 λi hi=>by have:=tA.1 hi;rw[hr] at this;cases this),λi hi=> ?_⟩;exact wpOpIn_mono (λa w h=>IA fuel _ a w h) (qaB (h.2 i (tA.2 hi)))
theorem xj{Q T cf}(jO:cz Q T.w0 cf){ops F G w}{a s s' r Q'}
  (h:aC Q T F G w a s) (hs:jL Q cf ops s=some s') (hK: ∀a' w',jo Q T F G w s s' a' w'->Q' .normal a' w'):wpAnyIn (wd r) 0 Q .any ops.toArray Q' ops.toArray.size (Array.replicate ops.toArray.size false) a {w with drawn:=w.drawn+1}:=by
 have main: ∀St,Text Q cf ops (masks ops []) St ops.length->St 0=s->St ops.length=s'->wpAnyIn (wd r) 0 Q .any ops.toArray Q' ops.toArray.size (Array.replicate ops.toArray.size false) a {w with drawn:=w.drawn+1}:=by
  intro St tx h0 h1;have gC:(λj=>(Array.replicate ops.length false).getD j false=true)=λ_=>False:=by funext j;simp only[zaF,zdz];split<;>simp
  have hsr:aC Q T F G {w with drawn:=w.drawn+1} a s:=h.drawn _ (zdv _);have:=qfH (T:=T) (r:=r) tx jO (Q':=Q') ops.length (Array.replicate ops.length false) a {w with drawn:=w.drawn+1} s F G (by simp) (by
    rw[Array.toList_replicate,List.count_replicate];simp) (by
    rw[gC];intro i o _ hf;grind) (by
    rw[gC];exact⟨by rw[h0],λi o t _ hf=>hf.elim,λt _=>by rw[h0],⟨0,by omega,by rw[h0],λi o _ _=>by simp⟩⟩) hsr
    (λa' w' hp=>hK a' w' (by obtain⟨F',G',k1,k2⟩:=hp;rw[h1] at k1 k2;exact⟨F',G',k1,⟨k2.lH,k2.n9,k2.mH,k2.keep,k2.size,k2.os,k2.tape,k2.output⟩⟩))
  grind
 unfold jL at hs;have Fk: ∀k,dA ops=k+1->jB (Qd (masks ops [])) 0 ops=true/\ia (NA ops (masks ops [])) 0 ops=true/\(k≠0->ia (λi x j y=>Nat.testBit ((masks ops []).getD j 0) i ||Tv x y) 0 ops=true):=by grind [dA]
 have zero: ∀i:Nat,0+i=i:=zaD;split at hs
 ·cases hs
 next hc=>
  obtain⟨c1,c2,_⟩:=Fk 0 hc;split at hs
  next s1 l hd=>
   split at hs
   ·rename_i qfI;simp at hs;subst hs;obtain⟨St,g1,g2,g3,g4⟩:=nG ops _ _ _ hd;refine main St ⟨λi o ho=> ?_,λi j x y rY hx hy=>Dh ?_,g3,λi j x y rY hx hy _ hb=> .inr ?_⟩ g1 g2
    ·have:=fG ops 0 c1 i o ho;rwa [zero] at this
    ·have:=gJ ops 0 c2 i j x y rY hx hy;rwa [zero,zero] at this
    obtain⟨q,hq⟩:=tu l 0 True qfI i j _ _ rY (g4 i x hx) (g4 j y hy);rw[zero,zero] at hq;exact Ak (g3 i x hx) (g3 j y hy) (by assumption) hb hq
   cases hs
  cases hs
 rename_i h0 h1;obtain⟨k,hk⟩: ∃k,dA ops=k+1+1:=by simp_all [dA]
 obtain⟨c1,c2,c3⟩:=Fk (k+1) hk;have c3:=c3 (by omega);obtain⟨St,g1,g2,g3⟩:=oh ops _ _ hs;refine main St ⟨λi o ho=> ?_,λi j x y rY hx hy=>Dh ?_,g3,λi j x y rY hx hy _ hb=> .inl ?_⟩ g1 g2
 ·have:=fG ops 0 c1 i o ho;rwa [zero] at this
 ·have:=gJ ops 0 c2 i j x y rY hx hy;rwa [zero,zero] at this
 have:=gJ ops 0 c3 i j x y rY hx hy;simp only[zero,hb,zby,Tv,za8,zac] at this;grind [Nat.eq_of_beq_eq_true,Nat.le_of_ble_eq_true]
end Pi
