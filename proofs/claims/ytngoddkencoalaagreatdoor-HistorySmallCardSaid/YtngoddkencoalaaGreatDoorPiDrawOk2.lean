/- The text PiDrawOk2. -/
import Derived.Test.YtngoddkencoalaaGreatDoorPiDrawOk
import Derived.Orders
namespace Pi
open Go
theorem aG.alike{Q:Program}{T:Tg}{F:Nat->Prop}{G:Nat->Value}{w:World}{a:Act}{s s2:S}(h:aG Q T F G w a s)(hn:s.n=s2.n)(hr:s.rg=s2.rg)(ht: ∀t,lk s.tm t=lk s2.tm t):aG Q T F G w a s2:=
 ⟨hr▸h.r9,hn▸h.size,λt p hp=>by rw[<-hr];exact h.tm t p ((ht t).trans hp),λn e he=>by rw[<-hr] at he⊢;exact h.rg n e he,
  λn m e e' b he cR=>by rw[<-hr] at he cR;exact h.own n m e e' b he cR,λn e b he=>by rw[<-hr] at he;exact h.mU n e b he,h.jz,λn e i he=>by rw[<-hr] at he;exact h.tag n e i he,h.z,h.dr,h.sz⟩
theorem aG.drawn{Q:Program}{T:Tg}{F:Nat->Prop}{G:Nat->Value}{w:World}{a:Act}{s:S}(h:aG Q T F G w a s)(k:Nat)(hk:w.drawn<=k):aG Q T F G {w with drawn:=k} a s:=
 ⟨h.r9,h.size,λt p hp=>cB.mono (w:=w) (w':={w with drawn:=k}) (λ_ h=>h) (λ_ _=>rfl) (Names.refl _ _) (h.tm t p hp),λn e he=>(h.rg n e he).mono (w':={w with drawn:=k}) (λ_ h=>h) (λ_ _=>rfl) (Names.refl _ _) rfl (λ_ _=>rfl),
  h.own,h.mU,h.jz,h.tag,h.z,zaG h.dr hk,h.sz⟩
theorem BJ{ops:Array Oper}{listed:Array Bool}(dB:listed.size=ops.size)(ku: ∀(i:Nat) (o:Oper),ops[i]?=some o-> ∀e∈o.after,Region.binds .any e=true->e.on<i)
  (hr:Region.ready .any ops listed=[]): ∀i,i<ops.size->listed.getD i false=true:=by
 intro i
 induction i using Nat.strongRecOn with
 |ind i ih=>
  intro hi;cases hb:listed.getD i false with
  |true=>rfl
  |false=>have ho:ops[i]?=some ops[i]:=zbK hi;have:i∈Region.ready .any ops listed:=mem_ready.2 ⟨by grind,_,ho,λe he IA=>ih e.on (ku i _ ho e he IA) (by have:=ku i _ ho e he IA;omega)⟩;rw[hr] at this;cases this
section
variable{Q:Program}{T:Tg}{cf:CF}{ops:List Oper}{M:List Nat}{St:Nat->S}{r:Option Nat}
theorem qcB(tx:Text Q cf ops M St ops.length)(jC:dC Q T.w0 cf){Q':Exit->Act->World->Prop}: ∀(fuel:Nat) (listed:Array Bool) (a:Act) (w:World) (s:S) (F:Nat->Prop) (G:Nat->Value),
  listed.size=ops.length->fuel+listed.toList.count true=ops.length->FJ ops (λj=>listed.getD j false=true)->Inv ops St (λj=>listed.getD j false=true) s->aG Q T F G w a s->
  (∀a' w',iY Q T F G w s (St ops.length) a' w'->Q' .normal a' w')->wpAnyIn (wd r) 0 Q .any ops.toArray Q' fuel listed a w:=by
 have ku: ∀(i:Nat) (o:Oper),ops.toArray[i]?=some o-> ∀e∈o.after,Region.binds .any e=true->e.on<i:=λi o ho e he hb=>tx.back (by grind) he hb;have fin: ∀(listed:Array Bool) (a:Act) (w:World) (s:S) (F:Nat->Prop) (G:Nat->Value),(∀i,i<ops.length->listed.getD i false=true)->Inv ops St (λj=>listed.getD j false=true) s->aG Q T F G w a s->
   (∀a' w',iY Q T F G w s (St ops.length) a' w'->Q' .normal a' w')->Q' .normal a w:=by
  intro listed a w s F G iF hi h hK;obtain⟨h1,h2,h3⟩:=tx.last hi (λi o ho=>iF i (zad.1 ho).1);exact hK a w ⟨F,G,h.alike h1 h2 h3,by rw[<-h2];exact Ext.refl _ _ _⟩
 intro fuel
 induction fuel with
 |zero=>
  intro listed a w s F G dB hc hL hi h hK;have iF: ∀i,i<ops.length->listed.getD i false=true:=λi bG=>by
   have rJ:listed.toList.count true=listed.toList.length:=by rw[zcM,dB];omega
   have:=List.count_eq_length.1 rJ listed[i] (by simp);simp_all
  refine⟨?_,fin listed a w s F G iF hi h hK⟩;cases hr:Region.ready .any ops.toArray listed with
  |nil=>rfl
  |cons i r=>
   have hm:i∈Region.ready .any ops.toArray listed:=by rw[hr];simp
   obtain⟨h0,o,ho,_⟩:=mem_ready.1 hm;grind
 |succ fuel ih=>
  intro listed a w s F G dB hc hL hi h hK;refine⟨λhr=>fin listed a w s F G (λi bG=>BJ (by simp[dB]) ku hr i (by grind)) hi h hK,λi hm=> ?_⟩;obtain⟨h0,o,ho,Di⟩:=mem_ready.1 hm;have gg:ops[i]?=some o:=by grind
  have bG:i<ops.length:=(zad.1 gg).1;have hl:i<listed.size:=by omega
  have bX: ¬listed.getD i false=true:=by grind
  obtain⟨s1,sX,O3⟩:=tx.go hL hi gg bX Di (λh=>by grind) (λe=>by omega);have pX: ∀j,((listed.setIfInBounds i true).getD j false=true)↔(listed.getD j false=true\/j=i):=λj=>by
   by_cases hj:j=i
   ·simp_all
   rw[getD_set_ne false (λe=>hj e.symm)];simp[hj]
  have AN:(λj=>(listed.setIfInBounds i true).getD j false=true)=(λj=>listed.getD j false=true\/j=i):=funext λj=>propext (pX j);have M9:fuel+(listed.setIfInBounds i true).toList.count true=ops.length:=by
   have e:(listed.setIfInBounds i true).toList=listed.toList.set i true:=by simp
   rw[e,List.count_set (by grind)];have:(listed.toList[i]'(by grind)==true)=false:=by simp[hl] at bX⊢;exact bX
   grind
  have ln:=kT jC h sX (r:=r) (K:=wpAnyIn (wd r) 0 Q .any ops.toArray Q' fuel (listed.setIfInBounds i true)) (Q':=Q') (λa' w' ⟨F',G',g1,g2⟩=>
   ih (listed.setIfInBounds i true) a' w' s1 F' G' (by simp[dB]) M9 (by
    rw[AN];intro j x hj o8 e he hb;rcases o8 with o8 |rfl
    ·exact .inl (hL j x hj o8 e he hb)
    rw[gg] at hj;cases hj;exact .inl (Di e he hb)) (by rw[AN];exact O3) g1 (λa2 w2 hp=>hK a2 w2 (hp.trans g2)))
  unfold wpOpIn;rw[ho];simp only[];split
  ·grind
  rename_i hw;rw[zal hw] at ln;exact⟨λ_ _=>trivial,ln⟩
end
theorem nt{Q:Program}{cf:CF}{ops:List Oper}: ∀(l:List Oper) (s s':S),dE Q cf ops l s=some s'-> ∃St:Nat->S,St 0=s/\St l.length=s'/\ ∀i o,l[i]?=some o->bx Q cf ops (St i) o=some (St (i+1))
 | [],s,s',h=>by simp[dE] at h;exact⟨λ_=>s,rfl,h,λi o ho=>by simp at ho⟩
 |o::l,s,s',h=>by
  simp only[dE] at h;split at h
  next s1 h1=>obtain⟨St,g1,g2,g3⟩:=nt l s1 s' h;refine⟨λi=>match i with |0=>s |i+1=>St i,rfl,g2,λi x hx=> ?_⟩;grind
  cases h
theorem mL{Q:Program}{cf:CF}{ops:List Oper}: ∀(l:List Oper) (s s':S) (is:List Step),pF Q cf ops l s=some (s',is)-> ∃St:Nat->S,St 0=s/\St l.length=s'/\(∀i o,l[i]?=some o->bx Q cf ops (St i) o=some (St (i+1)))/\ ∀(i:Nat) (o:Oper),l[i]?=some o->is[i]?=some (nc Q ops (St i) o (St (i+1)))
 | [],s,s',is,h=>by simp[pF] at h;exact⟨λ_=>s,rfl,h.1,λi o ho=>by simp at ho,λi o ho=>by simp at ho⟩
 |o::l,s,s',is,h=>by
  simp only[pF] at h;split at h
  ·cases h
  rename_i s1 h1;split at h
  next s2 is2 h2=>
   simp at h;obtain⟨rfl,rfl⟩:=h;obtain⟨St,g1,g2,g3,g4⟩:=mL l s1 s2 is2 h2;refine⟨λi=>match i with |0=>s |i+1=>St i,rfl,g2,λi x hx=> ?_,λi x hx=> ?_⟩
   ·grind
   grind
  cases h
theorem Xb{W:List Nat×Nat×Nat}{n:Nat}(h:xn W n):PH W n=true:=by
 unfold PH;rcases h with h | ⟨h1,h2⟩
 ·rw[(kR _ _).2 h];rfl
 simp_all
theorem nu: ∀(ns:List Nat) (y:Step) (q:Prop),tu ns y q->(∀n∈ns,xn y.info.ws n->lk y.aft n=lk y.bef n)/\q
 | [],y,q,h=>⟨by simp,h⟩
 |n::r,y,q,h=>by
  simp only[tu] at h;cases hb:PH y.info.ws n with
  |true=>rw[hb] at h;obtain⟨h1,h2⟩:=nu r y q h.2;grind
  |false=>rw[hb] at h;obtain⟨h1,h2⟩:=nu r y q h;grind [Xb]
theorem QW{x y:Step}{same:Prop->Prop}(hs: ∀q,same q->q){q:Prop}(h:leaves x y same q):q:=by grind [leaves,gY]
theorem FL{x y:Step}{same:Prop->Prop}(hs: ∀q r:Prop,(q->r)->same q->same r){q r:Prop}(Xc:q->r)(h:leaves x y same q):leaves x y same r:=by grind [leaves,gY]
theorem yA{x y:Step}{same:Prop->Prop}{q:Prop}(h:leaves x y same q):(∃t n,y.ent=some (t,n)/\x.look=some t/\n∉x.info.ns)\/same q:=by
 unfold leaves at h;split at h
 next t n t' h1 h2=>
  cases hb:(Nat.beq t t'&& !gY n x.info.ns) with
  |true=>simp only[zab,zbt] at hb;have ht:=zaf hb.1;grind [kR]
  |false=>rw[hb] at h;exact .inr h
 grind
theorem FM{Q:Program}{sy VW:S}{dst:Option Nat}{t:TypeId}{p k:P}(h:jn Q sy dst t p k=some VW){s:S}{q i:P}(hq: ∀n v,q= .mp n v->n≠site dst):
  (match(kq Q t).bind λy=>eF Q y.2 with |some z=>eH Q (s.wr VW.rg) t q i false z |none=>none)=(match(kq Q t).bind λy=>eF Q y.2 with |some z=>eH Q (s.wr sy.rg) t q i false z |none=>none):=by
 unfold jn at h;split at h
 next kt e n v kd zZ=>
  split at h
  next z hz=>
   split at h
   ·rename_i Au get c ho;split at h
    ·rename_i hc;simp only[zab,zbt] at hc;obtain⟨⟨EC,VO⟩,Fk⟩:=hc;have EC:=zaf EC;have Fk:n≠site dst:=λe=>by rw[e,Nat.beq_refl] at Fk;cases Fk
     split at h
     ·rename_i s1 v1 hn;obtain⟨sX,_⟩:=S.lz hn;obtain⟨en,nq,dY,ca⟩:=S.bM ho;have C4:lk s1.rg n=some en:=by grind [b9]
      have hrg:VW.rg=ins n ⟨en.aZ,en.tag,.kB kt (df kd (cL (get kd) z) get) (bif (get kd).isSome then c else c+1) (.mp (site dst) v1) kd⟩ s1.rg:=by rw[bA h];unfold S.setObj;rw[C4]
      simp only[zZ,zav,hz];unfold eH;split
      ·rename_i kt2 e2 m vm kd2 KN;by_cases hmn:m=n
       ·skip
        by_cases hv:vm=en.aZ
        ·skip
         have o1:(s.wr VW.rg).obj m en.aZ=some (.kB kt (df kd (cL (get kd) z) get) (bif (get kd).isSome then c else c+1) (.mp (site dst) v1) kd):=by grind [S.obj,S.wr,bF]
         have o2:(s.wr sy.rg).obj m en.aZ=some (.map kt get c false):=by grind [S.obj,S.wr]
         have hg:(df kd (cL (get kd) z) get kd2).getD z=(get kd2).getD z:=by
          unfold df;cases hd:D.oO kd kd2 with
          |true=>have:=(D.hQ _ _).1 hd;subst this;rfl
          |false=>rfl
         grind
        have hb:Nat.beq en.aZ vm=false:=by grind [Nat.beq,Nat.eq_of_beq_eq_true]
        have o1:(s.wr VW.rg).obj m vm=none:=by grind [S.obj,S.wr,bF]
        have o2:(s.wr sy.rg).obj m vm=none:=by grind [S.obj,S.wr]
        rw[o1,o2]
       grind [lk,b9,S.obj,S.wr]
      ·rfl
      rfl
     cases h
    cases h
   cases h
  cases h
 cases h
theorem FO{Q:Program}{cf:CF}{ops:List Oper}{s sy VW:S}{x y:Oper}{t:TypeId}{n:Nat}(hx:Il x=some t)(hy:PG y=some (t,n))(cc:bx Q cf ops sy y=some VW)(Fk:n∉(bQ Q ops s x).ns):uU Q ops s x sy.rg VW.rg:=by
 unfold Il at hx;unfold PG at hy;split at hx
 next t' xm xk hxo=>
  split at hy
  next t2 ym yk hyo=>
   simp only[zam,zbC] at hx hy;subst hx;obtain⟨rfl,rfl⟩:=hy;refine⟨⟨_,_,_,hxo⟩,λg hg=> ?_⟩;have hk:aF x<=1:=by simp[aF,hxo]
   have W4: ∀n v,s.eg g xm= .mp n v->n≠site y.dst:=λn v hv e=>by refine Fk ?_;rw[(ja (Q:=Q) (s:=s) hk hg).2 (by simp[aF,hxo]),<-e];exact qI _ (s.eg g xm) n v (za6 (by simp[hxo,Op.operands])) (by rw[hv];rfl)
   have act: ∀g',gk Q cf sy y g'=some VW->pv Q (s.wr VW.rg) x g=pv Q (s.wr sy.rg) x g:=λg' h=>by
    have hc:gG y=none:=by unfold gG;rw[hyo]
    have VQ:dh Q y=none:=by unfold dh;rw[hyo]
    have VS:pv Q sy y g'=none:=by unfold pv;rw[hyo]
    have BK:r7 y=none:=by unfold r7;rw[hyo]
    unfold gk exec at h;simp only[hc,BK] at h;unfold jx ef at h;simp only[VQ,VS,hyo] at h;have:=FM (s:=s) (q:=s.eg g xm) (i:=s.eg g xk) h W4;unfold pv;rw[hxo];exact this
   grind [bx,bA]
  cases hy
 cases hx
theorem K3{m:Nat}{M:List Nat}{i j:Nat}{x y:Step}{q:Prop}(h:iL m M i x j y q):q:=by unfold iL at h;grind [mH,QW,nu]
theorem I4{m:Nat}{M:List Nat}{i:Nat}{x:Step}: ∀(l:List Step) (j0:Nat) (q:Prop),Mx (iL m M i x) j0 l q->q
 | [],_,_,h=>h
 |_::r,j0,q,h=>I4 r (j0+1) q (K3 h)
theorem FP{m:Nat}{M:List Nat}{i:Nat}{x:Step}: ∀(l:List Step) (j0:Nat) (q:Prop),Mx (iL m M i x) j0 l q-> ∀j y,l[j]?=some y-> ∃q',iL m M i x (j0+j) y q'
 | [],_,_,_,j,y,hy=>by simp at hy
 |z::r,j0,q,h,j,y,hy=>by
  cases j with
  |zero=>simp at hy;subst hy;exact⟨_,h⟩
  |succ j=>obtain⟨q',hq⟩:=FP r (j0+1) q (K3 h) j y (by grind);grind
theorem sg{m:Nat}{M:List Nat}: ∀(l:List Step) (i0:Nat) (q:Prop),uM (iL m M) i0 l q-> ∀i j x y,i<j->l[i]?=some x->l[j]?=some y-> ∃q',iL m M (i0+i) x (i0+j) y q'
 | [],_,_,_,i,j,x,y,_,hx,_=>by simp at hx
 |z::r,i0,q,h,i,j,x,y,q6,hx,hy=>by
  cases i with
  |zero=>
   obtain⟨j,rfl⟩: ∃j',j=j'+1:=⟨j-1,by omega⟩
   obtain⟨q',hq⟩:=FP r (i0+1) _ h j y (by grind);grind
  |succ i=>
   obtain⟨j,rfl⟩: ∃j',j=j'+1:=⟨j-1,by omega⟩
   obtain⟨q',hq⟩:=sg r (i0+1) q (I4 r (i0+1) _ h) i j x y (by omega) (by grind) (by grind);grind
theorem yB{m:Nat}{M:List Nat}: ∀(l:List Step) (i0:Nat) (q:Prop),uM (iL m M) i0 l q->q
 | [],_,_,h=>h
 |_::r,i0,q,h=>yB r (i0+1) q (I4 r (i0+1) _ h)
theorem sj: ∀(ns:List Nat) (y:Step) (q r:Prop),(q->r)->tu ns y q->tu ns y r
 | [],_,_,_,h,hs=>h hs
 |n::ns,y,q,r,h,hs=>by
  simp only[tu] at hs⊢;cases hb:PH y.info.ws n with
  |true=>rw[hb] at hs;exact⟨hs.1,sj ns y q r h hs.2⟩
  |false=>rw[hb] at hs;exact sj ns y q r h hs
theorem I5{m:Nat}{M:List Nat}{i j:Nat}{x y:Step}{q r:Prop}(Xc:q->r)(h:iL m M i x j y q):iL m M i x j y r:=by unfold iL at h⊢;grind [mH,FL,sj]
theorem BL{m:Nat}{M:List Nat}{i:Nat}{x:Step}: ∀(l:List Step) (j0:Nat) (q r:Prop),(q->r)->Mx (iL m M i x) j0 l q->Mx (iL m M i x) j0 l r
 | [],_,_,_,Xc,h=>Xc h
 |_::l,j0,q,r,Xc,h=>I5 (BL l (j0+1) q r Xc) h
theorem pY{m:Nat}{M:List Nat}: ∀(l:List Step) (i0:Nat) (q r:Prop),(q->r)->uM (iL m M) i0 l q->uM (iL m M) i0 l r
 | [],_,_,_,Xc,h=>Xc h
 |_::l,i0,q,r,Xc,h=>BL l (i0+1) _ _ (pY l (i0+1) q r Xc) h
theorem yC{Q:Program}{cf:CF}{ops:List Oper}{m:Nat}{M:List Nat}{St:Nat->S}{i j:Nat}{x y:Oper}(hsx:bx Q cf ops (St i) x=some (St (i+1)))(hsy:bx Q cf ops (St j) y=some (St (j+1)))(jV:aF x<=1\/aF y<=1)(hb:Nat.testBit (M.getD j 0) i=false){q:Prop}
  (hq:iL m M i (nc Q ops (St i) x (St (i+1))) j (nc Q ops (St j) y (St (j+1))) q):
  mH (bQ Q ops (St i) x) (bQ Q ops (St j) y)=true\/
  ((bQ Q ops (St i) x).pure=true/\((∀n∈(bQ Q ops (St i) x).ns,lk (St (j+1)).rg n=lk (St j).rg n)\/uU Q ops (St i) x (St j).rg (St (j+1)).rg))\/
  ((bQ Q ops (St j) y).pure=true/\((∀n∈(bQ Q ops (St j) y).ns,lk (St (i+1)).rg n=lk (St i).rg n)\/uU Q ops (St j) y (St i).rg (St (i+1)).rg)):=by
 unfold iL at hq;simp only[nc] at hq;simp only[hb,zbo] at hq;cases hap:mH (bQ Q ops (St i) x) (bQ Q ops (St j) y) with
 |true=>simp
 |false=>
  right;rw[hap] at hq;cases CV:(bQ Q ops (St i) x).pure with
  |true=>
   cases Az:(bQ Q ops (St j) y).pure with
   |true=>grind [mH]
   |false=>
    left;simp only[CV,Az,zbT,zbn] at hq;refine⟨rfl,?_⟩;rcases yA hq with⟨f,hf,h1,h2,h3⟩|hq
    ·grind [FO]
    refine .inl λn hn=> ?_;by_cases hw:xn (bQ Q ops (St j) y).ws n
    ·grind [nu]
    exact kF (by
     by_cases hk:aF y<=1
     ·cases hg:br ops y with
      |none=>grind [bx]
      |some g=>rw[(ja hk hg).1] at Az;cases Az
     omega) (hsy) hw
  |false=>
   cases Az:(bQ Q ops (St j) y).pure with
   |true=>
    right;simp only[CV,Az,zbT,zbn] at hq;refine⟨rfl,?_⟩;rcases yA hq with⟨f,hf,h1,h2,h3⟩|hq
    ·grind [FO]
    refine .inl λn hn=> ?_;by_cases hw:xn (bQ Q ops (St i) x).ws n
    ·grind [nu]
    exact kF (by
     by_cases hk:aF x<=1
     ·cases hg:br ops x with
      |none=>grind [bx]
      |some g=>rw[(ja hk hg).1] at CV;cases CV
     omega) (hsx) hw
   |false=>
    exfalso;rcases jV with hk |hk
    ·cases hg:br ops x with
     |none=>grind [bx]
     |some g=>rw[(ja hk hg).1] at CV;cases CV
    cases hg:br ops y with
    |none=>grind [bx]
    |some g=>rw[(ja hk hg).1] at Az;cases Az
theorem v8{ops:List Oper}{o:Oper}:(lg ops o).dst=o.dst/\(lg ops o).after=o.after/\(lg ops o).guard=o.guard/\(lg ops o).op=o.op:=by unfold lg;split<;>exact⟨rfl,rfl,rfl,rfl⟩
theorem Xd{ops:List Oper}{o:Oper}(h:WE ops o=true): ∃t l ps,o.op= .buildSlice t l ps/\o.guard=none:=by grind [WE]
theorem yD{ops:List Oper}{i:Nat}:(c7 ops).toArray[i]?=(ops.toArray[i]?).map (lg ops):=by simp[c7]
theorem sk{ops:List Oper}{listed:Array Bool}{i:Nat}:i∈Region.ready .any (c7 ops).toArray listed↔i∈Region.ready .any ops.toArray listed:=by rw[mem_ready,mem_ready];grind [yD,v8,lg]
theorem Dj{ops:List Oper}(tmps:Array Value):yielded (c7 ops).toArray tmps=yielded ops.toArray tmps:=by funext j;unfold yielded;rw[yD];grind [v8]
theorem Xe{Q:Program}{F:Fence}{n:Nat}{ops:List Oper}{Q':Exit->Act->World->Prop}{i:Nat}{K:Act->World->Prop}{a:Act}{w:World}(h:wpOpIn F n Q (c7 ops).toArray Q' i K a w):wpOpIn F n Q ops.toArray Q' i K a w:=by
 unfold wpOpIn at h⊢;rw[yD,Dj] at h;cases ho:ops.toArray[i]? with
 |none=>rw[ho] at h;exact h
 |some o=>
  rw[ho] at h;simp only[zaL] at h⊢;by_cases hv:WE ops o=true
  ·obtain⟨t,l,ps,tE,K0⟩:=Xd hv;have e:lg ops o={o with type:=4000000}:=by unfold lg;rw[zao hv]
   rw[e] at h;obtain⟨dst,op,ty,pos,af,gd⟩:=o;subst tE K0;have e2: ∀ty',Oper.semAt F.round a.eval ⟨dst,.buildSlice t l ps,ty',pos,af,none⟩=execOp a.eval ⟨dst,.buildSlice t l ps,0,pos,af,none⟩:=λty'=>by rw[Oper.semAt_eq _ _ _ (by simp)];rfl
   refine⟨h.1,?_⟩;have h2:=h.2;simp only[e2] at h2⊢;generalize (execOp a.eval ⟨dst,.buildSlice t l ps,0,pos,af,none⟩).run Q w=r at h2⊢;cases r with
   |ok x w'=>cases x<;>exact h2
   |halt x w'=>cases x<;>exact h2
  grind [lg]
theorem FQ{Q:Program}{F:Fence}{n:Nat}{ops:List Oper}{Q':Exit->Act->World->Prop}: ∀(fuel:Nat) (listed:Array Bool) (a:Act) (w:World),wpAnyIn F n Q .any (c7 ops).toArray Q' fuel listed a w->wpAnyIn F n Q .any ops.toArray Q' fuel listed a w
 |0,listed,a,w,h=>by
  have qiV:Region.ready .any ops.toArray listed=[]:=zcY.2 λi hi=>by have:=sk.2 hi;rw[h.1] at this;cases this
  exact⟨qiV,h.2⟩
 |fuel+1,listed,a,w,h=>by refine⟨λhr=>h.1 (zcY.2 λi hi=>by have:=sk.1 hi;rw[hr] at this;cases this),λi hi=> ?_⟩;exact wpOpIn_mono (λa w h=>FQ fuel _ a w h) (Xe (h.2 i (sk.2 hi)))
theorem wa{Q:Program}{T:Tg}{cf:CF}(jC:dC Q T.w0 cf){ops:List Oper}{F:Nat->Prop}{G:Nat->Value}{w:World}{a:Act}{s s':S}{r:Option Nat}{Q':Exit->Act->World->Prop}
  (h:aG Q T F G w a s) (hs:jy Q cf ops s=some s') (hK: ∀a' w',iY Q T F G w s s' a' w'->Q' .normal a' w'):wpAnyIn (wd r) 0 Q .any ops.toArray Q' ops.toArray.size (Array.replicate ops.toArray.size false) a {w with drawn:=w.drawn+1}:=by
 have main: ∀St,Text Q cf ops (masks ops []) St ops.length->St 0=s->St ops.length=s'->wpAnyIn (wd r) 0 Q .any ops.toArray Q' ops.toArray.size (Array.replicate ops.toArray.size false) a {w with drawn:=w.drawn+1}:=by
  intro St tx h0 h1;have gj:(λj=>(Array.replicate ops.length false).getD j false=true)=λ_=>False:=by funext j;simp only[zaD,zda];split<;>simp
  have hsr:aG Q T F G {w with drawn:=w.drawn+1} a s:=h.drawn _ (zc5 _);have:=qcB (T:=T) (r:=r) tx jC (Q':=Q') ops.length (Array.replicate ops.length false) a {w with drawn:=w.drawn+1} s F G (by simp) (by
    rw[Array.toList_replicate,List.count_replicate];simp) (by
    rw[gj];intro i o _ hf;grind) (by
    rw[gj];exact⟨by rw[h0],λi o t _ hf=>hf.elim,λt _=>by rw[h0],⟨0,by omega,by rw[h0],λi o _ _=>by simp⟩⟩) hsr
    (λa' w' hp=>hK a' w' (by obtain⟨F',G',k1,k2⟩:=hp;rw[h1] at k1 k2;exact⟨F',G',k1,⟨k2.ll,k2.nj,k2.l4,k2.keep,k2.size,k2.os,k2.tape,k2.output⟩⟩))
  grind
 unfold jy at hs;have C5: ∀k,dt ops=k+1->jo (Mw (masks ops [])) 0 ops=true/\gM (KE ops (masks ops [])) 0 ops=true/\(k≠0->gM (λi x j y=>Nat.testBit ((masks ops []).getD j 0) i ||PF x y) 0 ops=true):=by grind [dt]
 have zero: ∀i:Nat,0+i=i:=zaF;split at hs
 ·cases hs
 next hc=>
  obtain⟨c1,c2,_⟩:=C5 0 hc;split at hs
  next s1 l hd=>
   split at hs
   ·rename_i qcC;simp at hs;subst hs;obtain⟨St,g1,g2,g3,g4⟩:=mL ops _ _ _ hd;refine main St ⟨λi o ho=> ?_,λi j x y q6 hx hy=>Bl ?_,g3,λi j x y q6 hx hy _ hb=> .inr ?_⟩ g1 g2
    ·have:=fA ops 0 c1 i o ho;rwa [zero] at this
    ·have:=gn ops 0 c2 i j x y q6 hx hy;rwa [zero,zero] at this
    obtain⟨q,hq⟩:=sg l 0 True qcC i j _ _ q6 (g4 i x hx) (g4 j y hy);rw[zero,zero] at hq;exact yC (g3 i x hx) (g3 j y hy) (by assumption) hb hq
   cases hs
  cases hs
 rename_i h0 h1;obtain⟨k,hk⟩: ∃k,dt ops=k+1+1:=by simp_all [dt]
 obtain⟨c1,c2,c3⟩:=C5 (k+1) hk;have c3:=c3 (by omega);obtain⟨St,g1,g2,g3⟩:=nt ops _ _ hs;refine main St ⟨λi o ho=> ?_,λi j x y q6 hx hy=>Bl ?_,g3,λi j x y q6 hx hy _ hb=> .inl ?_⟩ g1 g2
 ·have:=fA ops 0 c1 i o ho;rwa [zero] at this
 ·have:=gn ops 0 c2 i j x y q6 hx hy;rwa [zero,zero] at this
 have:=gn ops 0 c3 i j x y q6 hx hy;simp only[zero,hb,zbo,PF,za9,zab] at this;grind [Nat.eq_of_beq_eq_true,Nat.le_of_ble_eq_true]
end Pi
