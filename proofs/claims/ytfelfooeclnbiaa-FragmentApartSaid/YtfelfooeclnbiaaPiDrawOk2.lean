/- The text PiDrawOk2. -/
import Derived.Test.YtfelfooeclnbiaaPiDrawOk
import Derived.Orders
namespace Pi
open Go
theorem aq.alike{Q:Program}{T:Tg}{F:Nat->Prop}{G:Nat->Value}{w:World}{a:Act}{s s2:S}(h:aq Q T F G w a s)(hn:s.n=s2.n)(hr:s.rg=s2.rg)(ht: ∀t,lk s.tm t=lk s2.tm t):aq Q T F G w a s2:=
 ⟨hr▸h.si,hn▸h.size,λt p hp=>by rw[<-hr];exact h.tm t p ((ht t).trans hp),λn e he=>by rw[<-hr] at he⊢;exact h.rg n e he,
  λn m e e' b he a7=>by rw[<-hr] at he a7;exact h.own n m e e' b he a7,λn e b he=>by rw[<-hr] at he;exact h.iY n e b he,h.gQ,λn e i he=>by rw[<-hr] at he;exact h.tag n e i he,h.z,h.dr,h.sz⟩
theorem aq.drawn{Q:Program}{T:Tg}{F:Nat->Prop}{G:Nat->Value}{w:World}{a:Act}{s:S}(h:aq Q T F G w a s)(k:Nat)(hk:w.drawn<=k):aq Q T F G {w with drawn:=k} a s:=
 ⟨h.si,h.size,λt p hp=>bt.mono (w:=w) (w':={w with drawn:=k}) (λ_ h=>h) (λ_ _=>rfl) (Names.refl _ _) (h.tm t p hp),λn e he=>(h.rg n e he).mono (w':={w with drawn:=k}) (λ_ h=>h) (λ_ _=>rfl) (Names.refl _ _) rfl (λ_ _=>rfl),
  h.own,h.iY,h.gQ,h.tag,h.z,zaB h.dr hk,h.sz⟩
theorem oN{ops:Array Oper}{ai:Array Bool}(bK:ai.size=ops.size)(gy: ∀(i:Nat) (o:Oper),ops[i]?=some o-> ∀e∈o.after,Region.binds .any e=true->e.on<i)
  (hr:Region.ready .any ops ai=[]): ∀i,i<ops.size->ai.getD i false=true:=by
 intro i
 induction i using Nat.strongRecOn with
 |ind i ih=>
  intro hi;cases hb:ai.getD i false with
  |true=>rfl
  |false=>have ho:ops[i]?=some ops[i]:=za8 hi;have:i∈Region.ready .any ops ai:=mem_ready.2 ⟨by grind,_,ho,λe he sw=>ih e.on (gy i _ ho e he sw) (by have:=gy i _ ho e he sw;omega)⟩;rw[hr] at this;cases this
section
variable{Q:Program}{T:Tg}{cf:CF}{ops:List Oper}{M:List Nat}{St:Nat->S}{r:Option Nat}
theorem Bn(tx:Text Q cf ops M St ops.length)(iQ:jc Q T.w0 cf){Q':Exit->Act->World->Prop}: ∀(fuel:Nat) (ai:Array Bool) (a:Act) (w:World) (s:S) (F:Nat->Prop) (G:Nat->Value),
  ai.size=ops.length->fuel+ai.toList.count true=ops.length->rj ops (λj=>ai.getD j false=true)->Inv ops St (λj=>ai.getD j false=true) s->aq Q T F G w a s->
  (∀a' w',gk Q T F G w s (St ops.length) a' w'->Q' .normal a' w')->wpAnyIn (wd r) 0 Q .any ops.toArray Q' fuel ai a w:=by
 have gy: ∀(i:Nat) (o:Oper),ops.toArray[i]?=some o-> ∀e∈o.after,Region.binds .any e=true->e.on<i:=λi o ho e he hb=>tx.back (by grind) he hb;have fin: ∀(ai:Array Bool) (a:Act) (w:World) (s:S) (F:Nat->Prop) (G:Nat->Value),(∀i,i<ops.length->ai.getD i false=true)->Inv ops St (λj=>ai.getD j false=true) s->aq Q T F G w a s->
   (∀a' w',gk Q T F G w s (St ops.length) a' w'->Q' .normal a' w')->Q' .normal a w:=by
  intro ai a w s F G dg hi h hK;obtain⟨h1,h2,h3⟩:=tx.last hi (λi o ho=>dg i (zaa.1 ho).1);exact hK a w ⟨F,G,h.alike h1 h2 h3,by rw[<-h2];exact Ext.refl _ _ _⟩
 intro fuel
 induction fuel with
 |zero=>
  intro ai a w s F G bK hc hL hi h hK;have dg: ∀i,i<ops.length->ai.getD i false=true:=λi bu=>by
   have Al:ai.toList.count true=ai.toList.length:=by rw[zbG,bK];omega
   have:=List.count_eq_length.1 Al ai[i] (by simp);simp_all
  refine⟨?_,fin ai a w s F G dg hi h hK⟩;cases hr:Region.ready .any ops.toArray ai with
  |nil=>rfl
  |cons i r=>
   have hm:i∈Region.ready .any ops.toArray ai:=by rw[hr];simp
   obtain⟨h0,o,ho,_⟩:=mem_ready.1 hm;grind
 |succ fuel ih=>
  intro ai a w s F G bK hc hL hi h hK;refine⟨λhr=>fin ai a w s F G (λi bu=>oN (by simp[bK]) gy hr i (by grind)) hi h hK,λi hm=> ?_⟩;obtain⟨h0,o,ho,pW⟩:=mem_ready.1 hm;have pV:ops[i]?=some o:=by grind
  have bu:i<ops.length:=(zaa.1 pV).1;have hl:i<ai.size:=by omega
  have eb: ¬ai.getD i false=true:=by grind
  obtain⟨s1,nJ,Bo⟩:=tx.go hL hi pV eb pW (λh=>by grind) (λe=>by omega);have iz: ∀j,((ai.setIfInBounds i true).getD j false=true)↔(ai.getD j false=true\/j=i):=λj=>by
   by_cases hj:j=i
   ·simp_all
   rw[getD_set_ne false (λe=>hj e.symm)];simp[hj]
  have rl:(λj=>(ai.setIfInBounds i true).getD j false=true)=(λj=>ai.getD j false=true\/j=i):=funext λj=>propext (iz j);have vb:fuel+(ai.setIfInBounds i true).toList.count true=ops.length:=by
   have e:(ai.setIfInBounds i true).toList=ai.toList.set i true:=by simp
   rw[e,List.count_set (by grind)];have:(ai.toList[i]'(by grind)==true)=false:=by simp[hl] at eb⊢;exact eb
   grind
  have gH:=iR iQ h nJ (r:=r) (K:=wpAnyIn (wd r) 0 Q .any ops.toArray Q' fuel (ai.setIfInBounds i true)) (Q':=Q') (λa' w' ⟨F',G',g1,g2⟩=>
   ih (ai.setIfInBounds i true) a' w' s1 F' G' (by simp[bK]) vb (by
    rw[rl];intro j x hj gI e he hb;rcases gI with gI |rfl
    ·exact .inl (hL j x hj gI e he hb)
    rw[pV] at hj;cases hj;exact .inl (pW e he hb)) (by rw[rl];exact Bo) g1 (λa2 w2 hp=>hK a2 w2 (hp.trans g2)))
  unfold wpOpIn;rw[ho];simp only[];split
  ·grind
  rename_i hw;rw[zav hw] at gH;exact⟨λ_ _=>trivial,gH⟩
end
theorem fL{Q:Program}{cf:CF}{ops:List Oper}: ∀(l:List Oper) (s s':S),bA Q cf ops l s=some s'-> ∃St:Nat->S,St 0=s/\St l.length=s'/\ ∀i o,l[i]?=some o->aC Q cf ops (St i) o=some (St (i+1))
 | [],s,s',h=>by simp[bA] at h;exact⟨λ_=>s,rfl,h,λi o ho=>by simp at ho⟩
 |o::l,s,s',h=>by
  simp only[bA] at h;split at h
  next s1 h1=>obtain⟨St,g1,g2,g3⟩:=fL l s1 s' h;refine⟨λi=>match i with |0=>s |i+1=>St i,rfl,g2,λi x hx=> ?_⟩;grind
  cases h
theorem fy{Q:Program}{cf:CF}{ops:List Oper}: ∀(l:List Oper) (s s':S) (is:List Step),hI Q cf ops l s=some (s',is)-> ∃St:Nat->S,St 0=s/\St l.length=s'/\(∀i o,l[i]?=some o->aC Q cf ops (St i) o=some (St (i+1)))/\ ∀(i:Nat) (o:Oper),l[i]?=some o->is[i]?=some (fD Q ops (St i) o (St (i+1)))
 | [],s,s',is,h=>by simp[hI] at h;exact⟨λ_=>s,rfl,h.1,λi o ho=>by simp at ho,λi o ho=>by simp at ho⟩
 |o::l,s,s',is,h=>by
  simp only[hI] at h;split at h
  ·cases h
  rename_i s1 h1;split at h
  next s2 H6 h2=>
   simp at h;obtain⟨rfl,rfl⟩:=h;obtain⟨St,g1,g2,g3,g4⟩:=fy l s1 s2 H6 h2;refine⟨λi=>match i with |0=>s |i+1=>St i,rfl,g2,λi x hx=> ?_,λi x hx=> ?_⟩
   ·grind
   grind
  cases h
theorem zq{W:List Nat×Nat×Nat}{n:Nat}(h:mb W n):wa W n=true:=by
 unfold wa;rcases h with h | ⟨h1,h2⟩
 ·rw[(eB _ _).2 h];rfl
 simp_all
theorem fM: ∀(ns:List Nat) (y:Step) (q:Prop),jX ns y q->(∀n∈ns,mb y.info.ws n->lk y.Gx n=lk y.Gw n)/\q
 | [],y,q,h=>⟨by simp,h⟩
 |n::r,y,q,h=>by
  simp only[jX] at h;cases hb:wa y.info.ws n with
  |true=>rw[hb] at h;obtain⟨h1,h2⟩:=fM r y q h.2;grind
  |false=>rw[hb] at h;obtain⟨h1,h2⟩:=fM r y q h;grind [zq]
theorem xv{x y:Step}{same:Prop->Prop}(hs: ∀q,same q->q){q:Prop}(h:leaves x y same q):q:=by grind [leaves,dQ]
theorem rm{x y:Step}{same:Prop->Prop}(hs: ∀q r:Prop,(q->r)->same q->same r){q r:Prop}(zr:q->r)(h:leaves x y same q):leaves x y same r:=by grind [leaves,dQ]
theorem ng{x y:Step}{same:Prop->Prop}{q:Prop}(h:leaves x y same q):(∃t n,y.Gy=some (t,n)/\x.look=some t/\n∉x.info.ns)\/same q:=by
 unfold leaves at h;split at h
 next t n t' h1 h2=>
  cases hb:(Nat.beq t t'&& !dQ n x.info.ns) with
  |true=>simp only[zac,zaW] at hb;have ht:=zab hb.1;grind [eB]
  |false=>rw[hb] at h;exact .inr h
 grind
theorem rn{Q:Program}{sy yq:S}{dst:Option Nat}{t:TypeId}{p k:P}(h:dB Q sy dst t p k=some yq){s:S}{q i:P}(hq: ∀n v,q= .mp n v->n≠site dst):
  (match(cy Q t).bind λy=>bS Q y.2 with |some z=>bJ Q (s.wr yq.rg) t q i false z |none=>none)=(match(cy Q t).bind λy=>bS Q y.2 with |some z=>bJ Q (s.wr sy.rg) t q i false z |none=>none):=by
 unfold dB at h;split at h
 next kt e n v kd nR=>
  split at h
  next z hz=>
   split at h
   ·rename_i gP get c ho;split at h
    ·rename_i hc;simp only[zac,zaW] at hc;obtain⟨⟨k9,sv⟩,rU⟩:=hc;have k9:=zab k9;have rU:n≠site dst:=λe=>by rw[e,Nat.beq_refl] at rU;cases rU
     split at h
     ·rename_i s1 v1 hn;obtain⟨nJ,_⟩:=S.eR hn;obtain⟨en,ec,bM,aO⟩:=S.aI ho;have sJ:lk s1.rg n=some en:=by grind [aR]
      have Ep:yq.rg=ins n ⟨en.aw,en.tag,.ei kt (cJ kd (fk (get kd) z) get) (bif (get kd).isSome then c else c+1) (.mp (site dst) v1) kd⟩ s1.rg:=by rw[az h];unfold S.setObj;rw[sJ]
      simp only[nR,zah,hz];unfold bJ;split
      ·rename_i yS e2 m vm FE tI;by_cases IZ:m=n
       ·skip
        by_cases hv:vm=en.aw
        ·skip
         have o1:(s.wr yq.rg).obj m en.aw=some (.ei kt (cJ kd (fk (get kd) z) get) (bif (get kd).isSome then c else c+1) (.mp (site dst) v1) kd):=by grind [S.obj,S.wr,aJ]
         have o2:(s.wr sy.rg).obj m en.aw=some (.map kt get c false):=by grind [S.obj,S.wr]
         have hg:(cJ kd (fk (get kd) z) get FE).getD z=(get FE).getD z:=by
          unfold cJ;cases hd:D.dh kd FE with
          |true=>have:=(D.cH _ _).1 hd;subst this;rfl
          |false=>rfl
         grind
        have hb:Nat.beq en.aw vm=false:=by grind [Nat.beq,Nat.eq_of_beq_eq_true]
        have o1:(s.wr yq.rg).obj m vm=none:=by grind [S.obj,S.wr,aJ]
        have o2:(s.wr sy.rg).obj m vm=none:=by grind [S.obj,S.wr]
        rw[o1,o2]
       grind [lk,aR,S.obj,S.wr]
      ·rfl
      rfl
     cases h
    cases h
   cases h
  cases h
 cases h
theorem rp{Q:Program}{cf:CF}{ops:List Oper}{s sy yq:S}{x y:Oper}{t:TypeId}{n:Nat}(hx:r7 x=some t)(hy:v8 y=some (t,n))(aY:aC Q cf ops sy y=some yq)(rU:n∉(aK Q ops s x).ns):kS Q ops s x sy.rg yq.rg:=by
 unfold r7 at hx;unfold v8 at hy;split at hx
 next t' xm xk De=>
  split at hy
  next t2 ym yk Df=>
   simp only[zae,zaV] at hx hy;subst hx;obtain⟨rfl,rfl⟩:=hy;refine⟨⟨_,_,_,De⟩,λg hg=> ?_⟩;have hk:aj x<=1:=by simp[aj,De]
   have zl: ∀n v,s.eg g xm= .mp n v->n≠site y.dst:=λn v hv e=>by refine rU ?_;rw[(dw (Q:=Q) (s:=s) hk hg).2 (by simp[aj,De]),<-e];exact iS _ (s.eg g xm) n v (zba (by simp[De,Op.operands])) (by rw[hv];rfl)
   have act: ∀g',cC Q cf sy y g'=some yq->pv Q (s.wr yq.rg) x g=pv Q (s.wr sy.rg) x g:=λg' h=>by
    have hc:eI y=none:=by unfold eI;rw[Df]
    have yj:bj Q y=none:=by unfold bj;rw[Df]
    have yn:pv Q sy y g'=none:=by unfold pv;rw[Df]
    have H7:jy y=none:=by unfold jy;rw[Df]
    unfold cC exec at h;simp only[hc,H7] at h;unfold dI ef at h;simp only[yj,yn,Df] at h;have:=rn (s:=s) (q:=s.eg g xm) (i:=s.eg g xk) h zl;unfold pv;rw[De];exact this
   grind [aC,az]
  cases hy
 cases hx
theorem tX{m:Nat}{M:List Nat}{i j:Nat}{x y:Step}{q:Prop}(h:dj m M i x j y q):q:=by unfold dj at h;grind [fp,xv,fM]
theorem sZ{m:Nat}{M:List Nat}{i:Nat}{x:Step}: ∀(l:List Step) (j0:Nat) (q:Prop),uo (dj m M i x) j0 l q->q
 | [],_,_,h=>h
 |_::r,j0,q,h=>sZ r (j0+1) q (tX h)
theorem rq{m:Nat}{M:List Nat}{i:Nat}{x:Step}: ∀(l:List Step) (j0:Nat) (q:Prop),uo (dj m M i x) j0 l q-> ∀j y,l[j]?=some y-> ∃q',dj m M i x (j0+j) y q'
 | [],_,_,_,j,y,hy=>by simp at hy
 |z::r,j0,q,h,j,y,hy=>by
  cases j with
  |zero=>simp at hy;subst hy;exact⟨_,h⟩
  |succ j=>obtain⟨q',hq⟩:=rq r (j0+1) q (tX h) j y (by grind);grind
theorem jJ{m:Nat}{M:List Nat}: ∀(l:List Step) (i0:Nat) (q:Prop),kG (dj m M) i0 l q-> ∀i j x y,i<j->l[i]?=some x->l[j]?=some y-> ∃q',dj m M (i0+i) x (i0+j) y q'
 | [],_,_,_,i,j,x,y,_,hx,_=>by simp at hx
 |z::r,i0,q,h,i,j,x,y,jo,hx,hy=>by
  cases i with
  |zero=>
   obtain⟨j,rfl⟩: ∃j',j=j'+1:=⟨j-1,by omega⟩
   obtain⟨q',hq⟩:=rq r (i0+1) _ h j y (by grind);grind
  |succ i=>
   obtain⟨j,rfl⟩: ∃j',j=j'+1:=⟨j-1,by omega⟩
   obtain⟨q',hq⟩:=jJ r (i0+1) q (sZ r (i0+1) _ h) i j x y (by omega) (by grind) (by grind);grind
theorem nh{m:Nat}{M:List Nat}: ∀(l:List Step) (i0:Nat) (q:Prop),kG (dj m M) i0 l q->q
 | [],_,_,h=>h
 |_::r,i0,q,h=>nh r (i0+1) q (sZ r (i0+1) _ h)
theorem jK: ∀(ns:List Nat) (y:Step) (q r:Prop),(q->r)->jX ns y q->jX ns y r
 | [],_,_,_,h,hs=>h hs
 |n::ns,y,q,r,h,hs=>by
  simp only[jX] at hs⊢;cases hb:wa y.info.ws n with
  |true=>rw[hb] at hs;exact⟨hs.1,jK ns y q r h hs.2⟩
  |false=>rw[hb] at hs;exact jK ns y q r h hs
theorem s4{m:Nat}{M:List Nat}{i j:Nat}{x y:Step}{q r:Prop}(zr:q->r)(h:dj m M i x j y q):dj m M i x j y r:=by unfold dj at h⊢;grind [fp,rm,jK]
theorem oO{m:Nat}{M:List Nat}{i:Nat}{x:Step}: ∀(l:List Step) (j0:Nat) (q r:Prop),(q->r)->uo (dj m M i x) j0 l q->uo (dj m M i x) j0 l r
 | [],_,_,_,zr,h=>zr h
 |_::l,j0,q,r,zr,h=>s4 (oO l (j0+1) q r zr) h
theorem iA{m:Nat}{M:List Nat}: ∀(l:List Step) (i0:Nat) (q r:Prop),(q->r)->kG (dj m M) i0 l q->kG (dj m M) i0 l r
 | [],_,_,_,zr,h=>zr h
 |_::l,i0,q,r,zr,h=>oO l (i0+1) _ _ (iA l (i0+1) q r zr) h
theorem ni{Q:Program}{cf:CF}{ops:List Oper}{m:Nat}{M:List Nat}{St:Nat->S}{i j:Nat}{x y:Oper}(H8:aC Q cf ops (St i) x=some (St (i+1)))(H9:aC Q cf ops (St j) y=some (St (j+1)))(dS:aj x<=1\/aj y<=1)(hb:Nat.testBit (M.getD j 0) i=false){q:Prop}
  (hq:dj m M i (fD Q ops (St i) x (St (i+1))) j (fD Q ops (St j) y (St (j+1))) q):
  fp (aK Q ops (St i) x) (aK Q ops (St j) y)=true\/
  ((aK Q ops (St i) x).pure=true/\((∀n∈(aK Q ops (St i) x).ns,lk (St (j+1)).rg n=lk (St j).rg n)\/kS Q ops (St i) x (St j).rg (St (j+1)).rg))\/
  ((aK Q ops (St j) y).pure=true/\((∀n∈(aK Q ops (St j) y).ns,lk (St (i+1)).rg n=lk (St i).rg n)\/kS Q ops (St j) y (St i).rg (St (i+1)).rg)):=by
 unfold dj at hq;simp only[fD] at hq;simp only[hb,zbL] at hq;cases Ia:fp (aK Q ops (St i) x) (aK Q ops (St j) y) with
 |true=>simp
 |false=>
  right;rw[Ia] at hq;cases Ai:(aK Q ops (St i) x).pure with
  |true=>
   cases uE:(aK Q ops (St j) y).pure with
   |true=>grind [fp]
   |false=>
    left;simp only[Ai,uE,zbs,zbl] at hq;refine⟨rfl,?_⟩;rcases ng hq with⟨f,hf,h1,h2,h3⟩|hq
    ·grind [rp]
    refine .inl λn hn=> ?_;by_cases hw:mb (aK Q ops (St j) y).ws n
    ·grind [fM]
    exact ey (by
     by_cases hk:aj y<=1
     ·cases hg:ay ops y with
      |none=>grind [aC]
      |some g=>rw[(dw hk hg).1] at uE;cases uE
     omega) (H9) hw
  |false=>
   cases uE:(aK Q ops (St j) y).pure with
   |true=>
    right;simp only[Ai,uE,zbs,zbl] at hq;refine⟨rfl,?_⟩;rcases ng hq with⟨f,hf,h1,h2,h3⟩|hq
    ·grind [rp]
    refine .inl λn hn=> ?_;by_cases hw:mb (aK Q ops (St i) x).ws n
    ·grind [fM]
    exact ey (by
     by_cases hk:aj x<=1
     ·cases hg:ay ops x with
      |none=>grind [aC]
      |some g=>rw[(dw hk hg).1] at Ai;cases Ai
     omega) (H8) hw
   |false=>
    exfalso;rcases dS with hk |hk
    ·cases hg:ay ops x with
     |none=>grind [aC]
     |some g=>rw[(dw hk hg).1] at Ai;cases Ai
    cases hg:ay ops y with
    |none=>grind [aC]
    |some g=>rw[(dw hk hg).1] at uE;cases uE
theorem lC{ops:List Oper}{o:Oper}:(eK ops o).dst=o.dst/\(eK ops o).after=o.after/\(eK ops o).guard=o.guard/\(eK ops o).op=o.op:=by unfold eK;split<;>exact⟨rfl,rfl,rfl,rfl⟩
theorem zs{ops:List Oper}{o:Oper}(h:yJ ops o=true): ∃t l ps,o.op= .buildSlice t l ps/\o.guard=none:=by grind [yJ]
theorem nj{ops:List Oper}{i:Nat}:(bf ops).toArray[i]?=(ops.toArray[i]?).map (eK ops):=by simp[bf]
theorem jL{ops:List Oper}{ai:Array Bool}{i:Nat}:i∈Region.ready .any (bf ops).toArray ai↔i∈Region.ready .any ops.toArray ai:=by rw[mem_ready,mem_ready];grind [nj,lC,eK]
theorem pX{ops:List Oper}(tmps:Array Value):yielded (bf ops).toArray tmps=yielded ops.toArray tmps:=by funext j;unfold yielded;rw[nj];grind [lC]
theorem zt{Q:Program}{F:Fence}{n:Nat}{ops:List Oper}{Q':Exit->Act->World->Prop}{i:Nat}{K:Act->World->Prop}{a:Act}{w:World}(h:wpOpIn F n Q (bf ops).toArray Q' i K a w):wpOpIn F n Q ops.toArray Q' i K a w:=by
 unfold wpOpIn at h⊢;rw[nj,pX] at h;cases ho:ops.toArray[i]? with
 |none=>rw[ho] at h;exact h
 |some o=>
  rw[ho] at h;simp only[zam] at h⊢;by_cases hv:yJ ops o=true
  ·obtain⟨t,l,ps,E6,Cm⟩:=zs hv;have e:eK ops o={o with type:=4000000}:=by unfold eK;rw[zat hv]
   rw[e] at h;obtain⟨dst,op,ty,pos,af,gd⟩:=o;subst E6 Cm;have e2: ∀ty',Oper.semAt F.round a.eval ⟨dst,.buildSlice t l ps,ty',pos,af,none⟩=execOp a.eval ⟨dst,.buildSlice t l ps,0,pos,af,none⟩:=λty'=>by rw[Oper.semAt_eq _ _ _ (by simp)];rfl
   refine⟨h.1,?_⟩;have h2:=h.2;simp only[e2] at h2⊢;generalize (execOp a.eval ⟨dst,.buildSlice t l ps,0,pos,af,none⟩).run Q w=r at h2⊢;cases r with
   |ok x w'=>cases x<;>exact h2
   |halt x w'=>cases x<;>exact h2
  grind [eK]
theorem rr{Q:Program}{F:Fence}{n:Nat}{ops:List Oper}{Q':Exit->Act->World->Prop}: ∀(fuel:Nat) (ai:Array Bool) (a:Act) (w:World),wpAnyIn F n Q .any (bf ops).toArray Q' fuel ai a w->wpAnyIn F n Q .any ops.toArray Q' fuel ai a w
 |0,ai,a,w,h=>by
  have FF:Region.ready .any ops.toArray ai=[]:=zbP.2 λi hi=>by have:=jL.2 hi;rw[h.1] at this;cases this
  exact⟨FF,h.2⟩
 |fuel+1,ai,a,w,h=>by refine⟨λhr=>h.1 (zbP.2 λi hi=>by have:=jL.1 hi;rw[hr] at this;cases this),λi hi=> ?_⟩;exact wpOpIn_mono (λa w h=>rr fuel _ a w h) (zt (h.2 i (jL.2 hi)))
theorem lD{Q:Program}{T:Tg}{cf:CF}(iQ:jc Q T.w0 cf){ops:List Oper}{F:Nat->Prop}{G:Nat->Value}{w:World}{a:Act}{s s':S}{r:Option Nat}{Q':Exit->Act->World->Prop}
  (h:aq Q T F G w a s) (hs:dJ Q cf ops s=some s') (hK: ∀a' w',gk Q T F G w s s' a' w'->Q' .normal a' w'):wpAnyIn (wd r) 0 Q .any ops.toArray Q' ops.toArray.size (Array.replicate ops.toArray.size false) a {w with drawn:=w.drawn+1}:=by
 have main: ∀St,Text Q cf ops (masks ops []) St ops.length->St 0=s->St ops.length=s'->wpAnyIn (wd r) 0 Q .any ops.toArray Q' ops.toArray.size (Array.replicate ops.toArray.size false) a {w with drawn:=w.drawn+1}:=by
  intro St tx h0 h1;have jD:(λj=>(Array.replicate ops.length false).getD j false=true)=λ_=>False:=by funext j;simp only[zak,zb3];split<;>simp
  have FG:aq Q T F G {w with drawn:=w.drawn+1} a s:=h.drawn _ (zbH _);have:=Bn (T:=T) (r:=r) tx iQ (Q':=Q') ops.length (Array.replicate ops.length false) a {w with drawn:=w.drawn+1} s F G (by simp) (by
    rw[Array.toList_replicate,List.count_replicate];simp) (by
    rw[jD];intro i o _ hf;grind) (by
    rw[jD];exact⟨by rw[h0],λi o t _ hf=>hf.elim,λt _=>by rw[h0],⟨0,by omega,by rw[h0],λi o _ _=>by simp⟩⟩) FG
    (λa' w' hp=>hK a' w' (by obtain⟨F',G',k1,k2⟩:=hp;rw[h1] at k1 k2;exact⟨F',G',k1,⟨k2.h9,k2.mr,k2.kb,k2.keep,k2.size,k2.os,k2.tape,k2.output⟩⟩))
  grind
 unfold dJ at hs;have pG: ∀k,bs ops=k+1->dD (um (masks ops [])) 0 ops=true/\cO (tp ops (masks ops [])) 0 ops=true/\(k≠0->cO (λi x j y=>Nat.testBit ((masks ops []).getD j 0) i ||v7 x y) 0 ops=true):=by grind [bs]
 have zero: ∀i:Nat,0+i=i:=zbc;split at hs
 ·cases hs
 next hc=>
  obtain⟨c1,c2,_⟩:=pG 0 hc;split at hs
  next s1 l hd=>
   split at hs
   ·rename_i Bp;simp at hs;subst hs;obtain⟨St,g1,g2,g3,g4⟩:=fy ops _ _ _ hd;refine main St ⟨λi o ho=> ?_,λi j x y jo hx hy=>og ?_,g3,λi j x y jo hx hy _ hb=> .inr ?_⟩ g1 g2
    ·have:=cu ops 0 c1 i o ho;rwa [zero] at this
    ·have:=cE ops 0 c2 i j x y jo hx hy;rwa [zero,zero] at this
    obtain⟨q,hq⟩:=jJ l 0 True Bp i j _ _ jo (g4 i x hx) (g4 j y hy);rw[zero,zero] at hq;exact ni (g3 i x hx) (g3 j y hy) (by assumption) hb hq
   cases hs
  cases hs
 rename_i h0 h1;obtain⟨k,hk⟩: ∃k,bs ops=k+1+1:=by simp_all [bs]
 obtain⟨c1,c2,c3⟩:=pG (k+1) hk;have c3:=c3 (by omega);obtain⟨St,g1,g2,g3⟩:=fL ops _ _ hs;refine main St ⟨λi o ho=> ?_,λi j x y jo hx hy=>og ?_,g3,λi j x y jo hx hy _ hb=> .inl ?_⟩ g1 g2
 ·have:=cu ops 0 c1 i o ho;rwa [zero] at this
 ·have:=cE ops 0 c2 i j x y jo hx hy;rwa [zero,zero] at this
 have:=cE ops 0 c3 i j x y jo hx hy;simp only[zero,hb,zbL,v7,zbm,zac] at this;grind [Nat.eq_of_beq_eq_true,Nat.le_of_ble_eq_true]
end Pi
