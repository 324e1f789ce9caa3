/- The text PiDrawOk2. -/
import Derived.Test.YtngoddkencoalaaGreatDoorPiDrawOk
import Derived.Orders
namespace Pi
open Go
theorem aG.alike{Q:Program}{T:Tg}{F:Nat->Prop}{G:Nat->Value}{w:World}{a:Act}{s s2:S}(h:aG Q T F G w a s)(hn:s.n=s2.n)(hr:s.rg=s2.rg)(ht: ∀t,lk s.tm t=lk s2.tm t):aG Q T F G w a s2:=
 ⟨hr▸h.sg,hn▸h.size,λt p hp=>by rw[<-hr];exact h.tm t p ((ht t).trans hp),λn e he=>by rw[<-hr] at he⊢;exact h.rg n e he,
  λn m e e' b he cS=>by rw[<-hr] at he cS;exact h.own n m e e' b he cS,λn e b he=>by rw[<-hr] at he;exact h.nf n e b he,h.jE,λn e i he=>by rw[<-hr] at he;exact h.tag n e i he,h.z,h.dr,h.sz⟩
theorem aG.drawn{Q:Program}{T:Tg}{F:Nat->Prop}{G:Nat->Value}{w:World}{a:Act}{s:S}(h:aG Q T F G w a s)(k:Nat)(hk:w.drawn<=k):aG Q T F G {w with drawn:=k} a s:=
 ⟨h.sg,h.size,λt p hp=>cA.mono (w:=w) (w':={w with drawn:=k}) (λ_ h=>h) (λ_ _=>rfl) (Names.refl _ _) (h.tm t p hp),λn e he=>(h.rg n e he).mono (w':={w with drawn:=k}) (λ_ h=>h) (λ_ _=>rfl) (Names.refl _ _) rfl (λ_ _=>rfl),
  h.own,h.nf,h.jE,h.tag,h.z,zaE h.dr hk,h.sz⟩
theorem CH{ops:Array Oper}{listed:Array Bool}(dN:listed.size=ops.size)(ko: ∀(i:Nat) (o:Oper),ops[i]?=some o-> ∀e∈o.after,Region.binds .any e=true->e.on<i)
  (hr:Region.ready .any ops listed=[]): ∀i,i<ops.size->listed.getD i false=true:=by
 intro i
 induction i using Nat.strongRecOn with
 |ind i ih=>
  intro hi;cases hb:listed.getD i false with
  |true=>rfl
  |false=>have ho:ops[i]?=some ops[i]:=zbQ hi;have:i∈Region.ready .any ops listed:=mem_ready.2 ⟨by grind,_,ho,λe he J9=>ih e.on (ko i _ ho e he J9) (by have:=ko i _ ho e he J9;omega)⟩;rw[hr] at this;cases this
section
variable{Q:Program}{T:Tg}{cf:CF}{ops:List Oper}{M:List Nat}{St:Nat->S}{r:Option Nat}
theorem qex(tx:Text Q cf ops M St ops.length)(jH:dw Q T.w0 cf){Q':Exit->Act->World->Prop}: ∀(fuel:Nat) (listed:Array Bool) (a:Act) (w:World) (s:S) (F:Nat->Prop) (G:Nat->Value),
  listed.size=ops.length->fuel+listed.toList.count true=ops.length->He ops (λj=>listed.getD j false=true)->Inv ops St (λj=>listed.getD j false=true) s->aG Q T F G w a s->
  (∀a' w',ja Q T F G w s (St ops.length) a' w'->Q' .normal a' w')->wpAnyIn (wd r) 0 Q .any ops.toArray Q' fuel listed a w:=by
 have ko: ∀(i:Nat) (o:Oper),ops.toArray[i]?=some o-> ∀e∈o.after,Region.binds .any e=true->e.on<i:=λi o ho e he hb=>tx.back (by grind) he hb;have fin: ∀(listed:Array Bool) (a:Act) (w:World) (s:S) (F:Nat->Prop) (G:Nat->Value),(∀i,i<ops.length->listed.getD i false=true)->Inv ops St (λj=>listed.getD j false=true) s->aG Q T F G w a s->
   (∀a' w',ja Q T F G w s (St ops.length) a' w'->Q' .normal a' w')->Q' .normal a w:=by
  intro listed a w s F G gU hi h hK;obtain⟨h1,h2,h3⟩:=tx.last hi (λi o ho=>gU i (zaf.1 ho).1);exact hK a w ⟨F,G,h.alike h1 h2 h3,by rw[<-h2];exact Ext.refl _ _ _⟩
 intro fuel
 induction fuel with
 |zero=>
  intro listed a w s F G dN hc hL hi h hK;have gU: ∀i,i<ops.length->listed.getD i false=true:=λi bJ=>by
   have rU:listed.toList.count true=listed.toList.length:=by rw[zcr,dN];omega
   have:=List.count_eq_length.1 rU listed[i] (by simp);simp_all
  refine⟨?_,fin listed a w s F G gU hi h hK⟩;cases hr:Region.ready .any ops.toArray listed with
  |nil=>rfl
  |cons i r=>
   have hm:i∈Region.ready .any ops.toArray listed:=by rw[hr];simp
   obtain⟨h0,o,ho,_⟩:=mem_ready.1 hm;grind
 |succ fuel ih=>
  intro listed a w s F G dN hc hL hi h hK;refine⟨λhr=>fin listed a w s F G (λi bJ=>CH (by simp[dN]) ko hr i (by grind)) hi h hK,λi hm=> ?_⟩;obtain⟨h0,o,ho,Eo⟩:=mem_ready.1 hm;have ff:ops[i]?=some o:=by grind
  have bJ:i<ops.length:=(zaf.1 ff).1;have hl:i<listed.size:=by omega
  have bS: ¬listed.getD i false=true:=by grind
  obtain⟨s1,rV,QN⟩:=tx.go hL hi ff bS Eo (λh=>by grind) (λe=>by omega);have nG: ∀j,((listed.setIfInBounds i true).getD j false=true)↔(listed.getD j false=true\/j=i):=λj=>by
   by_cases hj:j=i
   ·simp_all
   rw[getD_set_ne false (λe=>hj e.symm)];simp[hj]
  have BM:(λj=>(listed.setIfInBounds i true).getD j false=true)=(λj=>listed.getD j false=true\/j=i):=funext λj=>propext (nG j);have Ep:fuel+(listed.setIfInBounds i true).toList.count true=ops.length:=by
   have e:(listed.setIfInBounds i true).toList=listed.toList.set i true:=by simp
   rw[e,List.count_set (by grind)];have:(listed.toList[i]'(by grind)==true)=false:=by simp[hl] at bS⊢;exact bS
   grind
  have jv:=kZ jH h rV (r:=r) (K:=wpAnyIn (wd r) 0 Q .any ops.toArray Q' fuel (listed.setIfInBounds i true)) (Q':=Q') (λa' w' ⟨F',G',g1,g2⟩=>
   ih (listed.setIfInBounds i true) a' w' s1 F' G' (by simp[dN]) Ep (by
    rw[BM];intro j x hj pI e he hb;rcases pI with pI |rfl
    ·exact .inl (hL j x hj pI e he hb)
    rw[ff] at hj;cases hj;exact .inl (Eo e he hb)) (by rw[BM];exact QN) g1 (λa2 w2 hp=>hK a2 w2 (hp.trans g2)))
  unfold wpOpIn;rw[ho];simp only[];split
  ·grind
  rename_i hw;rw[zan hw] at jv;exact⟨λ_ _=>trivial,jv⟩
end
theorem nH{Q:Program}{cf:CF}{ops:List Oper}: ∀(l:List Oper) (s s':S),dz Q cf ops l s=some s'-> ∃St:Nat->S,St 0=s/\St l.length=s'/\ ∀i o,l[i]?=some o->br Q cf ops (St i) o=some (St (i+1))
 | [],s,s',h=>by simp[dz] at h;exact⟨λ_=>s,rfl,h,λi o ho=>by simp at ho⟩
 |o::l,s,s',h=>by
  simp only[dz] at h;split at h
  next s1 h1=>obtain⟨St,g1,g2,g3⟩:=nH l s1 s' h;refine⟨λi=>match i with |0=>s |i+1=>St i,rfl,g2,λi x hx=> ?_⟩;grind
  cases h
theorem mX{Q:Program}{cf:CF}{ops:List Oper}: ∀(l:List Oper) (s s':S) (is:List Step),qh Q cf ops l s=some (s',is)-> ∃St:Nat->S,St 0=s/\St l.length=s'/\(∀i o,l[i]?=some o->br Q cf ops (St i) o=some (St (i+1)))/\ ∀(i:Nat) (o:Oper),l[i]?=some o->is[i]?=some (nz Q ops (St i) o (St (i+1)))
 | [],s,s',is,h=>by simp[qh] at h;exact⟨λ_=>s,rfl,h.1,λi o ho=>by simp at ho,λi o ho=>by simp at ho⟩
 |o::l,s,s',is,h=>by
  simp only[qh] at h;split at h
  ·cases h
  rename_i s1 h1;split at h
  next s2 is2 h2=>
   simp at h;obtain⟨rfl,rfl⟩:=h;obtain⟨St,g1,g2,g3,g4⟩:=mX l s1 s2 is2 h2;refine⟨λi=>match i with |0=>s |i+1=>St i,rfl,g2,λi x hx=> ?_,λi x hx=> ?_⟩
   ·grind
   grind
  cases h
theorem qah{W:List Nat×Nat×Nat}{n:Nat}(h:xS W n):Rz W n=true:=by
 unfold Rz;rcases h with h | ⟨h1,h2⟩
 ·rw[(kX _ _).2 h];rfl
 simp_all
theorem nI: ∀(ns:List Nat) (y:Step) (q:Prop),tF ns y q->(∀n∈ns,xS y.info.ws n->lk y.aft n=lk y.bef n)/\q
 | [],y,q,h=>⟨by simp,h⟩
 |n::r,y,q,h=>by
  simp only[tF] at h;cases hb:Rz y.info.ws n with
  |true=>rw[hb] at h;obtain⟨h1,h2⟩:=nI r y q h.2;grind
  |false=>rw[hb] at h;obtain⟨h1,h2⟩:=nI r y q h;grind [qah]
theorem SK{x y:Step}{same:Prop->Prop}(hs: ∀q,same q->q){q:Prop}(h:leaves x y same q):q:=by grind [leaves,gZ]
theorem Hg{x y:Step}{same:Prop->Prop}(hs: ∀q r:Prop,(q->r)->same q->same r){q r:Prop}(hqr:q->r)(h:leaves x y same q):leaves x y same r:=by grind [leaves,gZ]
theorem zk{x y:Step}{same:Prop->Prop}{q:Prop}(h:leaves x y same q):(∃t n,y.ent=some (t,n)/\x.look=some t/\n∉x.info.ns)\/same q:=by
 unfold leaves at h;split at h
 next t n t' h1 h2=>
  cases hb:(Nat.beq t t'&& !gZ n x.info.ns) with
  |true=>simp only[zab,zbz] at hb;have ht:=zag hb.1;grind [kX]
  |false=>rw[hb] at h;exact .inr h
 grind
theorem Hh{Q:Program}{sy Yf:S}{dst:Option Nat}{t:TypeId}{p k:P}(h:jq Q sy dst t p k=some Yf){s:S}{q i:P}(hq: ∀n v,q= .mp n v->n≠site dst):
  (match(kj Q t).bind λy=>ez Q y.2 with |some z=>eE Q (s.wr Yf.rg) t q i false z |none=>none)=(match(kj Q t).bind λy=>ez Q y.2 with |some z=>eE Q (s.wr sy.rg) t q i false z |none=>none):=by
 unfold jq at h;split at h
 next kt e n v kd DY=>
  split at h
  next z hz=>
   split at h
   ·rename_i Bu get c ho;split at h
    ·rename_i hc;simp only[zab,zbz] at hc;obtain⟨⟨FO,X9⟩,GL⟩:=hc;have FO:=zag FO;have GL:n≠site dst:=λe=>by rw[e,Nat.beq_refl] at GL;cases GL
     split at h
     ·rename_i s1 v1 hn;obtain⟨rV,_⟩:=S.lE hn;obtain⟨en,nE,dT,b9⟩:=S.bI ho;have D9:lk s1.rg n=some en:=by grind [b8]
      have hrg:Yf.rg=ins n ⟨en.aV,en.tag,.kD kt (da kd (cJ (get kd) z) get) (bif (get kd).isSome then c else c+1) (.mp (site dst) v1) kd⟩ s1.rg:=by rw[bu h];unfold S.setObj;rw[D9]
      simp only[DY,zaw,hz];unfold eE;split
      ·rename_i kt2 e2 m vm kd2 Mp;by_cases hmn:m=n
       ·skip
        by_cases hv:vm=en.aV
        ·skip
         have o1:(s.wr Yf.rg).obj m en.aV=some (.kD kt (da kd (cJ (get kd) z) get) (bif (get kd).isSome then c else c+1) (.mp (site dst) v1) kd):=by grind [S.obj,S.wr,bC]
         have o2:(s.wr sy.rg).obj m en.aV=some (.map kt get c false):=by grind [S.obj,S.wr]
         have hg:(da kd (cJ (get kd) z) get kd2).getD z=(get kd2).getD z:=by
          unfold da;cases hd:D.pg kd kd2 with
          |true=>have:=(D.hQ _ _).1 hd;subst this;rfl
          |false=>rfl
         grind
        have hb:Nat.beq en.aV vm=false:=by grind [Nat.beq,Nat.eq_of_beq_eq_true]
        have o1:(s.wr Yf.rg).obj m vm=none:=by grind [S.obj,S.wr,bC]
        have o2:(s.wr sy.rg).obj m vm=none:=by grind [S.obj,S.wr]
        rw[o1,o2]
       grind [lk,b8,S.obj,S.wr]
      ·rfl
      rfl
     cases h
    cases h
   cases h
  cases h
 cases h
theorem Hi{Q:Program}{cf:CF}{ops:List Oper}{s sy Yf:S}{x y:Oper}{t:TypeId}{n:Nat}(hx:JV x=some t)(hy:Ry y=some (t,n))(cb:br Q cf ops sy y=some Yf)(GL:n∉(bL Q ops s x).ns):vz Q ops s x sy.rg Yf.rg:=by
 unfold JV at hx;unfold Ry at hy;split at hx
 next t' xm xk hxo=>
  split at hy
  next t2 ym yk hyo=>
   simp only[zam,zbN] at hx hy;subst hx;obtain⟨rfl,rfl⟩:=hy;refine⟨⟨_,_,_,hxo⟩,λg hg=> ?_⟩;have hk:aF x<=1:=by simp[aF,hxo]
   have qab: ∀n v,s.eg g xm= .mp n v->n≠site y.dst:=λn v hv e=>by refine GL ?_;rw[(jc (Q:=Q) (s:=s) hk hg).2 (by simp[aF,hxo]),<-e];exact q6 _ (s.eg g xm) n v (za8 (by simp[hxo,Op.operands])) (by rw[hv];rfl)
   have act: ∀g',gk Q cf sy y g'=some Yf->pv Q (s.wr Yf.rg) x g=pv Q (s.wr sy.rg) x g:=λg' h=>by
    have hc:gC y=none:=by unfold gC;rw[hyo]
    have Yb:db Q y=none:=by unfold db;rw[hyo]
    have Yd:pv Q sy y g'=none:=by unfold pv;rw[hyo]
    have CI:se y=none:=by unfold se;rw[hyo]
    unfold gk exec at h;simp only[hc,CI] at h;unfold jC ef at h;simp only[Yb,Yd,hyo] at h;have:=Hh (s:=s) (q:=s.eg g xm) (i:=s.eg g xk) h qab;unfold pv;rw[hxo];exact this
   grind [br,bu]
  cases hy
 cases hx
theorem ME{m:Nat}{M:List Nat}{i j:Nat}{x y:Step}{q:Prop}(h:iI m M i x j y q):q:=by unfold iI at h;grind [mT,SK,nI]
theorem Kv{m:Nat}{M:List Nat}{i:Nat}{x:Step}: ∀(l:List Step) (j0:Nat) (q:Prop),Oq (iI m M i x) j0 l q->q
 | [],_,_,h=>h
 |_::r,j0,q,h=>Kv r (j0+1) q (ME h)
theorem Hj{m:Nat}{M:List Nat}{i:Nat}{x:Step}: ∀(l:List Step) (j0:Nat) (q:Prop),Oq (iI m M i x) j0 l q-> ∀j y,l[j]?=some y-> ∃q',iI m M i x (j0+j) y q'
 | [],_,_,_,j,y,hy=>by simp at hy
 |z::r,j0,q,h,j,y,hy=>by
  cases j with
  |zero=>simp at hy;subst hy;exact⟨_,h⟩
  |succ j=>obtain⟨q',hq⟩:=Hj r (j0+1) q (ME h) j y (by grind);grind
theorem sx{m:Nat}{M:List Nat}: ∀(l:List Step) (i0:Nat) (q:Prop),vn (iI m M) i0 l q-> ∀i j x y,i<j->l[i]?=some x->l[j]?=some y-> ∃q',iI m M (i0+i) x (i0+j) y q'
 | [],_,_,_,i,j,x,y,_,hx,_=>by simp at hx
 |z::r,i0,q,h,i,j,x,y,pH,hx,hy=>by
  cases i with
  |zero=>
   obtain⟨j,rfl⟩: ∃j',j=j'+1:=⟨j-1,by omega⟩
   obtain⟨q',hq⟩:=Hj r (i0+1) _ h j y (by grind);grind
  |succ i=>
   obtain⟨j,rfl⟩: ∃j',j=j'+1:=⟨j-1,by omega⟩
   obtain⟨q',hq⟩:=sx r (i0+1) q (Kv r (i0+1) _ h) i j x y (by omega) (by grind) (by grind);grind
theorem zl{m:Nat}{M:List Nat}: ∀(l:List Step) (i0:Nat) (q:Prop),vn (iI m M) i0 l q->q
 | [],_,_,h=>h
 |_::r,i0,q,h=>zl r (i0+1) q (Kv r (i0+1) _ h)
theorem sA: ∀(ns:List Nat) (y:Step) (q r:Prop),(q->r)->tF ns y q->tF ns y r
 | [],_,_,_,h,hs=>h hs
 |n::ns,y,q,r,h,hs=>by
  simp only[tF] at hs⊢;cases hb:Rz y.info.ws n with
  |true=>rw[hb] at hs;exact⟨hs.1,sA ns y q r h hs.2⟩
  |false=>rw[hb] at hs;exact sA ns y q r h hs
theorem Kw{m:Nat}{M:List Nat}{i j:Nat}{x y:Step}{q r:Prop}(hqr:q->r)(h:iI m M i x j y q):iI m M i x j y r:=by unfold iI at h⊢;grind [mT,Hg,sA]
theorem CJ{m:Nat}{M:List Nat}{i:Nat}{x:Step}: ∀(l:List Step) (j0:Nat) (q r:Prop),(q->r)->Oq (iI m M i x) j0 l q->Oq (iI m M i x) j0 l r
 | [],_,_,_,hqr,h=>hqr h
 |_::l,j0,q,r,hqr,h=>Kw (CJ l (j0+1) q r hqr) h
theorem qA{m:Nat}{M:List Nat}: ∀(l:List Step) (i0:Nat) (q r:Prop),(q->r)->vn (iI m M) i0 l q->vn (iI m M) i0 l r
 | [],_,_,_,hqr,h=>hqr h
 |_::l,i0,q,r,hqr,h=>CJ l (i0+1) _ _ (qA l (i0+1) q r hqr) h
theorem zm{Q:Program}{cf:CF}{ops:List Oper}{m:Nat}{M:List Nat}{St:Nat->S}{i j:Nat}{x y:Oper}(hsx:br Q cf ops (St i) x=some (St (i+1)))(hsy:br Q cf ops (St j) y=some (St (j+1)))(ju:aF x<=1\/aF y<=1)(hb:Nat.testBit (M.getD j 0) i=false){q:Prop}
  (hq:iI m M i (nz Q ops (St i) x (St (i+1))) j (nz Q ops (St j) y (St (j+1))) q):
  mT (bL Q ops (St i) x) (bL Q ops (St j) y)=true\/
  ((bL Q ops (St i) x).pure=true/\((∀n∈(bL Q ops (St i) x).ns,lk (St (j+1)).rg n=lk (St j).rg n)\/vz Q ops (St i) x (St j).rg (St (j+1)).rg))\/
  ((bL Q ops (St j) y).pure=true/\((∀n∈(bL Q ops (St j) y).ns,lk (St (i+1)).rg n=lk (St i).rg n)\/vz Q ops (St j) y (St i).rg (St (i+1)).rg)):=by
 unfold iI at hq;simp only[nz] at hq;simp only[hb,zbu] at hq;cases hap:mT (bL Q ops (St i) x) (bL Q ops (St j) y) with
 |true=>simp
 |false=>
  right;rw[hap] at hq;cases DZ:(bL Q ops (St i) x).pure with
  |true=>
   cases Bz:(bL Q ops (St j) y).pure with
   |true=>grind [mT]
   |false=>
    left;simp only[DZ,Bz,zb1,zbq] at hq;refine⟨rfl,?_⟩;rcases zk hq with⟨f,hf,h1,h2,h3⟩|hq
    ·grind [Hi]
    refine .inl λn hn=> ?_;by_cases hw:xS (bL Q ops (St j) y).ws n
    ·grind [nI]
    exact kI (by
     by_cases hk:aF y<=1
     ·cases hg:bj ops y with
      |none=>grind [br]
      |some g=>rw[(jc hk hg).1] at Bz;cases Bz
     omega) (hsy) hw
  |false=>
   cases Bz:(bL Q ops (St j) y).pure with
   |true=>
    right;simp only[DZ,Bz,zb1,zbq] at hq;refine⟨rfl,?_⟩;rcases zk hq with⟨f,hf,h1,h2,h3⟩|hq
    ·grind [Hi]
    refine .inl λn hn=> ?_;by_cases hw:xS (bL Q ops (St i) x).ws n
    ·grind [nI]
    exact kI (by
     by_cases hk:aF x<=1
     ·cases hg:bj ops x with
      |none=>grind [br]
      |some g=>rw[(jc hk hg).1] at DZ;cases DZ
     omega) (hsx) hw
   |false=>
    exfalso;rcases ju with hk |hk
    ·cases hg:bj ops x with
     |none=>grind [br]
     |some g=>rw[(jc hk hg).1] at DZ;cases DZ
    cases hg:bj ops y with
    |none=>grind [br]
    |some g=>rw[(jc hk hg).1] at Bz;cases Bz
theorem wG{ops:List Oper}{o:Oper}:(lr ops o).dst=o.dst/\(lr ops o).after=o.after/\(lr ops o).guard=o.guard/\(lr ops o).op=o.op:=by unfold lr;split<;>exact⟨rfl,rfl,rfl,rfl⟩
theorem qai{ops:List Oper}{o:Oper}(h:YS ops o=true): ∃t l ps,o.op= .buildSlice t l ps/\o.guard=none:=by grind [YS]
theorem zn{ops:List Oper}{i:Nat}:(cX ops).toArray[i]?=(ops.toArray[i]?).map (lr ops):=by simp[cX]
theorem sB{ops:List Oper}{listed:Array Bool}{i:Nat}:i∈Region.ready .any (cX ops).toArray listed↔i∈Region.ready .any ops.toArray listed:=by rw[mem_ready,mem_ready];grind [zn,wG,lr]
theorem Er{ops:List Oper}(tmps:Array Value):yielded (cX ops).toArray tmps=yielded ops.toArray tmps:=by funext j;unfold yielded;rw[zn];grind [wG]
theorem qaj{Q:Program}{F:Fence}{n:Nat}{ops:List Oper}{Q':Exit->Act->World->Prop}{i:Nat}{K:Act->World->Prop}{a:Act}{w:World}(h:wpOpIn F n Q (cX ops).toArray Q' i K a w):wpOpIn F n Q ops.toArray Q' i K a w:=by
 unfold wpOpIn at h⊢;rw[zn,Er] at h;cases ho:ops.toArray[i]? with
 |none=>rw[ho] at h;exact h
 |some o=>
  rw[ho] at h;simp only[zaJ] at h⊢;by_cases hv:YS ops o=true
  ·obtain⟨t,l,ps,sk,MB⟩:=qai hv;have e:lr ops o={o with type:=4000000}:=by unfold lr;rw[zap hv]
   rw[e] at h;obtain⟨dst,op,ty,pos,af,gd⟩:=o;subst sk MB;have e2: ∀ty',Oper.semAt F.round a.eval ⟨dst,.buildSlice t l ps,ty',pos,af,none⟩=execOp a.eval ⟨dst,.buildSlice t l ps,0,pos,af,none⟩:=λty'=>by rw[Oper.semAt_eq _ _ _ (by simp)];rfl
   refine⟨h.1,?_⟩;have h2:=h.2;simp only[e2] at h2⊢;generalize (execOp a.eval ⟨dst,.buildSlice t l ps,0,pos,af,none⟩).run Q w=r at h2⊢;cases r with
   |ok x w'=>cases x<;>exact h2
   |halt x w'=>cases x<;>exact h2
  grind [lr]
theorem Hk{Q:Program}{F:Fence}{n:Nat}{ops:List Oper}{Q':Exit->Act->World->Prop}: ∀(fuel:Nat) (listed:Array Bool) (a:Act) (w:World),wpAnyIn F n Q .any (cX ops).toArray Q' fuel listed a w->wpAnyIn F n Q .any ops.toArray Q' fuel listed a w
 |0,listed,a,w,h=>by
  have qkW:Region.ready .any ops.toArray listed=[]:=zdc.2 λi hi=>by have:=sB.2 hi;rw[h.1] at this;cases this
  exact⟨qkW,h.2⟩
 |fuel+1,listed,a,w,h=>by refine⟨λhr=>h.1 (zdc.2 λi hi=>by have:=sB.1 hi;rw[hr] at this;cases this),λi hi=> ?_⟩;exact wpOpIn_mono (λa w h=>Hk fuel _ a w h) (qaj (h.2 i (sB.2 hi)))
theorem wH{Q:Program}{T:Tg}{cf:CF}(jH:dw Q T.w0 cf){ops:List Oper}{F:Nat->Prop}{G:Nat->Value}{w:World}{a:Act}{s s':S}{r:Option Nat}{Q':Exit->Act->World->Prop}
  (h:aG Q T F G w a s) (hs:jD Q cf ops s=some s') (hK: ∀a' w',ja Q T F G w s s' a' w'->Q' .normal a' w'):wpAnyIn (wd r) 0 Q .any ops.toArray Q' ops.toArray.size (Array.replicate ops.toArray.size false) a {w with drawn:=w.drawn+1}:=by
 have main: ∀St,Text Q cf ops (masks ops []) St ops.length->St 0=s->St ops.length=s'->wpAnyIn (wd r) 0 Q .any ops.toArray Q' ops.toArray.size (Array.replicate ops.toArray.size false) a {w with drawn:=w.drawn+1}:=by
  intro St tx h0 h1;have gg:(λj=>(Array.replicate ops.length false).getD j false=true)=λ_=>False:=by funext j;simp only[zaI,zdp];split<;>simp
  have hsr:aG Q T F G {w with drawn:=w.drawn+1} a s:=h.drawn _ (zdm _);have:=qex (T:=T) (r:=r) tx jH (Q':=Q') ops.length (Array.replicate ops.length false) a {w with drawn:=w.drawn+1} s F G (by simp) (by
    rw[Array.toList_replicate,List.count_replicate];simp) (by
    rw[gg];intro i o _ hf;grind) (by
    rw[gg];exact⟨by rw[h0],λi o t _ hf=>hf.elim,λt _=>by rw[h0],⟨0,by omega,by rw[h0],λi o _ _=>by simp⟩⟩) hsr
    (λa' w' hp=>hK a' w' (by obtain⟨F',G',k1,k2⟩:=hp;rw[h1] at k1 k2;exact⟨F',G',k1,⟨k2.lx,k2.nC,k2.mc,k2.keep,k2.size,k2.os,k2.tape,k2.output⟩⟩))
  grind
 unfold jD at hs;have Ea: ∀k,dp ops=k+1->jr (Oo (masks ops [])) 0 ops=true/\gM (Mg ops (masks ops [])) 0 ops=true/\(k≠0->gM (λi x j y=>Nat.testBit ((masks ops []).getD j 0) i ||Rx x y) 0 ops=true):=by grind [dp]
 have zero: ∀i:Nat,0+i=i:=zaF;split at hs
 ·cases hs
 next hc=>
  obtain⟨c1,c2,_⟩:=Ea 0 hc;split at hs
  next s1 l hd=>
   split at hs
   ·rename_i qey;simp at hs;subst hs;obtain⟨St,g1,g2,g3,g4⟩:=mX ops _ _ _ hd;refine main St ⟨λi o ho=> ?_,λi j x y pH hx hy=>Ci ?_,g3,λi j x y pH hx hy _ hb=> .inr ?_⟩ g1 g2
    ·have:=fB ops 0 c1 i o ho;rwa [zero] at this
    ·have:=gn ops 0 c2 i j x y pH hx hy;rwa [zero,zero] at this
    obtain⟨q,hq⟩:=sx l 0 True qey i j _ _ pH (g4 i x hx) (g4 j y hy);rw[zero,zero] at hq;exact zm (g3 i x hx) (g3 j y hy) (by assumption) hb hq
   cases hs
  cases hs
 rename_i h0 h1;obtain⟨k,hk⟩: ∃k,dp ops=k+1+1:=by simp_all [dp]
 obtain⟨c1,c2,c3⟩:=Ea (k+1) hk;have c3:=c3 (by omega);obtain⟨St,g1,g2,g3⟩:=nH ops _ _ hs;refine main St ⟨λi o ho=> ?_,λi j x y pH hx hy=>Ci ?_,g3,λi j x y pH hx hy _ hb=> .inl ?_⟩ g1 g2
 ·have:=fB ops 0 c1 i o ho;rwa [zero] at this
 ·have:=gn ops 0 c2 i j x y pH hx hy;rwa [zero,zero] at this
 have:=gn ops 0 c3 i j x y pH hx hy;simp only[zero,hb,zbu,Rx,zbh,zab] at this;grind [Nat.eq_of_beq_eq_true,Nat.le_of_ble_eq_true]
end Pi
