/- The text PiDrawOk2. -/
import Derived.Test.YtngoddkencoalaaGreatDoorPiDrawOk
import Derived.Orders
namespace Pi
open Go
theorem aD.alike{Q:Program}{T:Tg}{F:Nat->Prop}{G:Nat->Value}{w:World}{a:Act}{s s2:S}(h:aD Q T F G w a s)(hn:s.n=s2.n)(hr:s.rg=s2.rg)(ht: ∀t,lk s.tm t=lk s2.tm t):aD Q T F G w a s2:=
 ⟨hr▸h.rp,hn▸h.size,λt p hp=>by rw[<-hr];exact h.tm t p ((ht t).trans hp),λn e he=>by rw[<-hr] at he⊢;exact h.rg n e he,
  λn m e e' b he cK=>by rw[<-hr] at he cK;exact h.own n m e e' b he cK,λn e b he=>by rw[<-hr] at he;exact h.my n e b he,h.ji,λn e i he=>by rw[<-hr] at he;exact h.tag n e i he,h.z,h.dr,h.sz⟩
theorem aD.drawn{Q:Program}{T:Tg}{F:Nat->Prop}{G:Nat->Value}{w:World}{a:Act}{s:S}(h:aD Q T F G w a s)(k:Nat)(hk:w.drawn<=k):aD Q T F G {w with drawn:=k} a s:=
 ⟨h.rp,h.size,λt p hp=>cx.mono (w:=w) (w':={w with drawn:=k}) (λ_ h=>h) (λ_ _=>rfl) (Names.refl _ _) (h.tm t p hp),λn e he=>(h.rg n e he).mono (w':={w with drawn:=k}) (λ_ h=>h) (λ_ _=>rfl) (Names.refl _ _) rfl (λ_ _=>rfl),
  h.own,h.my,h.ji,h.tag,h.z,zaI h.dr hk,h.sz⟩
theorem A3{ops:Array Oper}{listed:Array Bool}(dt:listed.size=ops.size)(jY: ∀(i:Nat) (o:Oper),ops[i]?=some o-> ∀e∈o.after,Region.binds .any e=true->e.on<i)
  (hr:Region.ready .any ops listed=[]): ∀i,i<ops.size->listed.getD i false=true:=by
 intro i
 induction i using Nat.strongRecOn with
 |ind i ih=>
  intro hi;cases hb:listed.getD i false with
  |true=>rfl
  |false=>have ho:ops[i]?=some ops[i]:=zbK hi;have:i∈Region.ready .any ops listed:=mem_ready.2 ⟨by grind,_,ho,λe he HW=>ih e.on (jY i _ ho e he HW) (by have:=jY i _ ho e he HW;omega)⟩;rw[hr] at this;cases this
section
variable{Q:Program}{T:Tg}{cf:CF}{ops:List Oper}{M:List Nat}{St:Nat->S}{r:Option Nat}
theorem qbQ(tx:Text Q cf ops M St ops.length)(jl:du Q T.w0 cf){Q':Exit->Act->World->Prop}: ∀(fuel:Nat) (listed:Array Bool) (a:Act) (w:World) (s:S) (F:Nat->Prop) (G:Nat->Value),
  listed.size=ops.length->fuel+listed.toList.count true=ops.length->E2 ops (λj=>listed.getD j false=true)->Inv ops St (λj=>listed.getD j false=true) s->aD Q T F G w a s->
  (∀a' w',iN Q T F G w s (St ops.length) a' w'->Q' .normal a' w')->wpAnyIn (wd r) 0 Q .any ops.toArray Q' fuel listed a w:=by
 have jY: ∀(i:Nat) (o:Oper),ops.toArray[i]?=some o-> ∀e∈o.after,Region.binds .any e=true->e.on<i:=λi o ho e he hb=>tx.back (by grind) he hb;have fin: ∀(listed:Array Bool) (a:Act) (w:World) (s:S) (F:Nat->Prop) (G:Nat->Value),(∀i,i<ops.length->listed.getD i false=true)->Inv ops St (λj=>listed.getD j false=true) s->aD Q T F G w a s->
   (∀a' w',iN Q T F G w s (St ops.length) a' w'->Q' .normal a' w')->Q' .normal a w:=by
  intro listed a w s F G iq hi h hK;obtain⟨h1,h2,h3⟩:=tx.last hi (λi o ho=>iq i (zad.1 ho).1);exact hK a w ⟨F,G,h.alike h1 h2 h3,by rw[<-h2];exact Ext.refl _ _ _⟩
 intro fuel
 induction fuel with
 |zero=>
  intro listed a w s F G dt hc hL hi h hK;have iq: ∀i,i<ops.length->listed.getD i false=true:=λi bI=>by
   have qV:listed.toList.count true=listed.toList.length:=by rw[zcM,dt];omega
   have:=List.count_eq_length.1 qV listed[i] (by simp);simp_all
  refine⟨?_,fin listed a w s F G iq hi h hK⟩;cases hr:Region.ready .any ops.toArray listed with
  |nil=>rfl
  |cons i r=>
   have hm:i∈Region.ready .any ops.toArray listed:=by rw[hr];simp
   obtain⟨h0,o,ho,_⟩:=mem_ready.1 hm;grind
 |succ fuel ih=>
  intro listed a w s F G dt hc hL hi h hK;refine⟨λhr=>fin listed a w s F G (λi bI=>A3 (by simp[dt]) jY hr i (by grind)) hi h hK,λi hm=> ?_⟩;obtain⟨h0,o,ho,CK⟩:=mem_ready.1 hm;have gb:ops[i]?=some o:=by grind
  have bI:i<ops.length:=(zad.1 gb).1;have hl:i<listed.size:=by omega
  have b7: ¬listed.getD i false=true:=by grind
  obtain⟨s1,r8,Ol⟩:=tx.go hL hi gb b7 CK (λh=>by grind) (λe=>by omega);have py: ∀j,((listed.setIfInBounds i true).getD j false=true)↔(listed.getD j false=true\/j=i):=λj=>by
   by_cases hj:j=i
   ·simp_all
   rw[getD_set_ne false (λe=>hj e.symm)];simp[hj]
  have z7:(λj=>(listed.setIfInBounds i true).getD j false=true)=(λj=>listed.getD j false=true\/j=i):=funext λj=>propext (py j);have Mz:fuel+(listed.setIfInBounds i true).toList.count true=ops.length:=by
   have e:(listed.setIfInBounds i true).toList=listed.toList.set i true:=by simp
   rw[e,List.count_set (by grind)];have:(listed.toList[i]'(by grind)==true)=false:=by simp[hl] at b7⊢;exact b7
   grind
  have kO:=kz jl h r8 (r:=r) (K:=wpAnyIn (wd r) 0 Q .any ops.toArray Q' fuel (listed.setIfInBounds i true)) (Q':=Q') (λa' w' ⟨F',G',g1,g2⟩=>
   ih (listed.setIfInBounds i true) a' w' s1 F' G' (by simp[dt]) Mz (by
    rw[z7];intro j x hj oD e he hb;rcases oD with oD |rfl
    ·exact .inl (hL j x hj oD e he hb)
    rw[gb] at hj;cases hj;exact .inl (CK e he hb)) (by rw[z7];exact Ol) g1 (λa2 w2 hp=>hK a2 w2 (hp.trans g2)))
  unfold wpOpIn;rw[ho];simp only[];split
  ·grind
  rename_i hw;rw[zam hw] at kO;exact⟨λ_ _=>trivial,kO⟩
end
theorem mL{Q:Program}{cf:CF}{ops:List Oper}: ∀(l:List Oper) (s s':S),dx Q cf ops l s=some s'-> ∃St:Nat->S,St 0=s/\St l.length=s'/\ ∀i o,l[i]?=some o->bu Q cf ops (St i) o=some (St (i+1))
 | [],s,s',h=>by simp[dx] at h;exact⟨λ_=>s,rfl,h,λi o ho=>by simp at ho⟩
 |o::l,s,s',h=>by
  simp only[dx] at h;split at h
  next s1 h1=>obtain⟨St,g1,g2,g3⟩:=mL l s1 s' h;refine⟨λi=>match i with |0=>s |i+1=>St i,rfl,g2,λi x hx=> ?_⟩;grind
  cases h
theorem mf{Q:Program}{cf:CF}{ops:List Oper}: ∀(l:List Oper) (s s':S) (is:List Step),o5 Q cf ops l s=some (s',is)-> ∃St:Nat->S,St 0=s/\St l.length=s'/\(∀i o,l[i]?=some o->bu Q cf ops (St i) o=some (St (i+1)))/\ ∀(i:Nat) (o:Oper),l[i]?=some o->is[i]?=some (mE Q ops (St i) o (St (i+1)))
 | [],s,s',is,h=>by simp[o5] at h;exact⟨λ_=>s,rfl,h.1,λi o ho=>by simp at ho,λi o ho=>by simp at ho⟩
 |o::l,s,s',is,h=>by
  simp only[o5] at h;split at h
  ·cases h
  rename_i s1 h1;split at h
  next s2 is2 h2=>
   simp at h;obtain⟨rfl,rfl⟩:=h;obtain⟨St,g1,g2,g3,g4⟩:=mf l s1 s2 is2 h2;refine⟨λi=>match i with |0=>s |i+1=>St i,rfl,g2,λi x hx=> ?_,λi x hx=> ?_⟩
   ·grind
   grind
  cases h
theorem Wr{W:List Nat×Nat×Nat}{n:Nat}(h:wB W n):OW W n=true:=by
 unfold OW;rcases h with h | ⟨h1,h2⟩
 ·rw[(kx _ _).2 h];rfl
 simp_all
theorem mM: ∀(ns:List Nat) (y:Step) (q:Prop),sr ns y q->(∀n∈ns,wB y.info.ws n->lk y.aft n=lk y.bef n)/\q
 | [],y,q,h=>⟨by simp,h⟩
 |n::r,y,q,h=>by
  simp only[sr] at h;cases hb:OW y.info.ws n with
  |true=>rw[hb] at h;obtain⟨h1,h2⟩:=mM r y q h.2;grind
  |false=>rw[hb] at h;obtain⟨h1,h2⟩:=mM r y q h;grind [Wr]
theorem Qd{x y:Step}{same:Prop->Prop}(hs: ∀q,same q->q){q:Prop}(h:leaves x y same q):q:=by grind [leaves,gS]
theorem E4{x y:Step}{same:Prop->Prop}(hs: ∀q r:Prop,(q->r)->same q->same r){q r:Prop}(Ws:q->r)(h:leaves x y same q):leaves x y same r:=by grind [leaves,gS]
theorem xO{x y:Step}{same:Prop->Prop}{q:Prop}(h:leaves x y same q):(∃t n,y.ent=some (t,n)/\x.look=some t/\n∉x.info.ns)\/same q:=by
 unfold leaves at h;split at h
 next t n t' h1 h2=>
  cases hb:(Nat.beq t t'&& !gS n x.info.ns) with
  |true=>simp only[zab,zbu] at hb;have ht:=zaf hb.1;grind [kx]
  |false=>rw[hb] at h;exact .inr h
 grind
theorem E5{Q:Program}{sy Vh:S}{dst:Option Nat}{t:TypeId}{p k:P}(h:ja Q sy dst t p k=some Vh){s:S}{q i:P}(hq: ∀n v,q= .mp n v->n≠site dst):
  (match(jW Q t).bind λy=>ey Q y.2 with |some z=>eB Q (s.wr Vh.rg) t q i false z |none=>none)=(match(jW Q t).bind λy=>ey Q y.2 with |some z=>eB Q (s.wr sy.rg) t q i false z |none=>none):=by
 unfold ja at h;split at h
 next kt e n v kd Cj=>
  split at h
  next z hz=>
   split at h
   ·rename_i zK get c ho;split at h
    ·rename_i hc;simp only[zab,zbu] at hc;obtain⟨⟨DW,Vb⟩,EG⟩:=hc;have DW:=zaf DW;have EG:n≠site dst:=λe=>by rw[e,Nat.beq_refl] at EG;cases EG
     split at h
     ·rename_i s1 v1 hn;obtain⟨r8,_⟩:=S.kV hn;obtain⟨en,mJ,dR,bV⟩:=S.bJ ho;have Cu:lk s1.rg n=some en:=by grind [bU]
      have hrg:Vh.rg=ins n ⟨en.aY,en.tag,.j7 kt (cZ kd (cF (get kd) z) get) (bif (get kd).isSome then c else c+1) (.mp (site dst) v1) kd⟩ s1.rg:=by rw[bz h];unfold S.setObj;rw[Cu]
      simp only[Cj,zau,hz];unfold eB;split
      ·rename_i kt2 e2 m vm kd2 Ke;by_cases hmn:m=n
       ·skip
        by_cases hv:vm=en.aY
        ·skip
         have o1:(s.wr Vh.rg).obj m en.aY=some (.j7 kt (cZ kd (cF (get kd) z) get) (bif (get kd).isSome then c else c+1) (.mp (site dst) v1) kd):=by grind [S.obj,S.wr,bC]
         have o2:(s.wr sy.rg).obj m en.aY=some (.map kt get c false):=by grind [S.obj,S.wr]
         have hg:(cZ kd (cF (get kd) z) get kd2).getD z=(get kd2).getD z:=by
          unfold cZ;cases hd:D.ob kd kd2 with
          |true=>have:=(D.gV _ _).1 hd;subst this;rfl
          |false=>rfl
         grind
        have hb:Nat.beq en.aY vm=false:=by grind [Nat.beq,Nat.eq_of_beq_eq_true]
        have o1:(s.wr Vh.rg).obj m vm=none:=by grind [S.obj,S.wr,bC]
        have o2:(s.wr sy.rg).obj m vm=none:=by grind [S.obj,S.wr]
        rw[o1,o2]
       grind [lk,bU,S.obj,S.wr]
      ·rfl
      rfl
     cases h
    cases h
   cases h
  cases h
 cases h
theorem E6{Q:Program}{cf:CF}{ops:List Oper}{s sy Vh:S}{x y:Oper}{t:TypeId}{n:Nat}(hx:HI x=some t)(hy:OV y=some (t,n))(bX:bu Q cf ops sy y=some Vh)(EG:n∉(bL Q ops s x).ns):tW Q ops s x sy.rg Vh.rg:=by
 unfold HI at hx;unfold OV at hy;split at hx
 next t' xm xk hxo=>
  split at hy
  next t2 ym yk hyo=>
   simp only[zal,zbC] at hx hy;subst hx;obtain⟨rfl,rfl⟩:=hy;refine⟨⟨_,_,_,hxo⟩,λg hg=> ?_⟩;have hk:aC x<=1:=by simp[aC,hxo]
   have Wk: ∀n v,s.eg g xm= .mp n v->n≠site y.dst:=λn v hv e=>by refine EG ?_;rw[(iP (Q:=Q) (s:=s) hk hg).2 (by simp[aC,hxo]),<-e];exact qc _ (s.eg g xm) n v (za7 (by simp[hxo,Op.operands])) (by rw[hv];rfl)
   have act: ∀g',fX Q cf sy y g'=some Vh->pv Q (s.wr Vh.rg) x g=pv Q (s.wr sy.rg) x g:=λg' h=>by
    have hc:gy y=none:=by unfold gy;rw[hyo]
    have Vd:c7 Q y=none:=by unfold c7;rw[hyo]
    have Vf:pv Q sy y g'=none:=by unfold pv;rw[hyo]
    have A4:rl y=none:=by unfold rl;rw[hyo]
    unfold fX exec at h;simp only[hc,A4] at h;unfold jg ef at h;simp only[Vd,Vf,hyo] at h;have:=E5 (s:=s) (q:=s.eg g xm) (i:=s.eg g xk) h Wk;unfold pv;rw[hxo];exact this
   grind [bu,bz]
  cases hy
 cases hx
theorem Kt{m:Nat}{M:List Nat}{i j:Nat}{x y:Step}{q:Prop}(h:iA m M i x j y q):q:=by unfold iA at h;grind [ma,Qd,mM]
theorem Ik{m:Nat}{M:List Nat}{i:Nat}{x:Step}: ∀(l:List Step) (j0:Nat) (q:Prop),LZ (iA m M i x) j0 l q->q
 | [],_,_,h=>h
 |_::r,j0,q,h=>Ik r (j0+1) q (Kt h)
theorem E7{m:Nat}{M:List Nat}{i:Nat}{x:Step}: ∀(l:List Step) (j0:Nat) (q:Prop),LZ (iA m M i x) j0 l q-> ∀j y,l[j]?=some y-> ∃q',iA m M i x (j0+j) y q'
 | [],_,_,_,j,y,hy=>by simp at hy
 |z::r,j0,q,h,j,y,hy=>by
  cases j with
  |zero=>simp at hy;subst hy;exact⟨_,h⟩
  |succ j=>obtain⟨q',hq⟩:=E7 r (j0+1) q (Kt h) j y (by grind);grind
theorem rB{m:Nat}{M:List Nat}: ∀(l:List Step) (i0:Nat) (q:Prop),tO (iA m M) i0 l q-> ∀i j x y,i<j->l[i]?=some x->l[j]?=some y-> ∃q',iA m M (i0+i) x (i0+j) y q'
 | [],_,_,_,i,j,x,y,_,hx,_=>by simp at hx
 |z::r,i0,q,h,i,j,x,y,qw,hx,hy=>by
  cases i with
  |zero=>
   obtain⟨j,rfl⟩: ∃j',j=j'+1:=⟨j-1,by omega⟩
   obtain⟨q',hq⟩:=E7 r (i0+1) _ h j y (by grind);grind
  |succ i=>
   obtain⟨j,rfl⟩: ∃j',j=j'+1:=⟨j-1,by omega⟩
   obtain⟨q',hq⟩:=rB r (i0+1) q (Ik r (i0+1) _ h) i j x y (by omega) (by grind) (by grind);grind
theorem xP{m:Nat}{M:List Nat}: ∀(l:List Step) (i0:Nat) (q:Prop),tO (iA m M) i0 l q->q
 | [],_,_,h=>h
 |_::r,i0,q,h=>xP r (i0+1) q (Ik r (i0+1) _ h)
theorem rC: ∀(ns:List Nat) (y:Step) (q r:Prop),(q->r)->sr ns y q->sr ns y r
 | [],_,_,_,h,hs=>h hs
 |n::ns,y,q,r,h,hs=>by
  simp only[sr] at hs⊢;cases hb:OW y.info.ws n with
  |true=>rw[hb] at hs;exact⟨hs.1,rC ns y q r h hs.2⟩
  |false=>rw[hb] at hs;exact rC ns y q r h hs
theorem Il{m:Nat}{M:List Nat}{i j:Nat}{x y:Step}{q r:Prop}(Ws:q->r)(h:iA m M i x j y q):iA m M i x j y r:=by unfold iA at h⊢;grind [ma,E4,rC]
theorem A5{m:Nat}{M:List Nat}{i:Nat}{x:Step}: ∀(l:List Step) (j0:Nat) (q r:Prop),(q->r)->LZ (iA m M i x) j0 l q->LZ (iA m M i x) j0 l r
 | [],_,_,_,Ws,h=>Ws h
 |_::l,j0,q,r,Ws,h=>Il (A5 l (j0+1) q r Ws) h
theorem pz{m:Nat}{M:List Nat}: ∀(l:List Step) (i0:Nat) (q r:Prop),(q->r)->tO (iA m M) i0 l q->tO (iA m M) i0 l r
 | [],_,_,_,Ws,h=>Ws h
 |_::l,i0,q,r,Ws,h=>A5 l (i0+1) _ _ (pz l (i0+1) q r Ws) h
theorem xQ{Q:Program}{cf:CF}{ops:List Oper}{m:Nat}{M:List Nat}{St:Nat->S}{i j:Nat}{x y:Oper}(hsx:bu Q cf ops (St i) x=some (St (i+1)))(hsy:bu Q cf ops (St j) y=some (St (j+1)))(jJ:aC x<=1\/aC y<=1)(hb:Nat.testBit (M.getD j 0) i=false){q:Prop}
  (hq:iA m M i (mE Q ops (St i) x (St (i+1))) j (mE Q ops (St j) y (St (j+1))) q):
  ma (bL Q ops (St i) x) (bL Q ops (St j) y)=true\/
  ((bL Q ops (St i) x).pure=true/\((∀n∈(bL Q ops (St i) x).ns,lk (St (j+1)).rg n=lk (St j).rg n)\/tW Q ops (St i) x (St j).rg (St (j+1)).rg))\/
  ((bL Q ops (St j) y).pure=true/\((∀n∈(bL Q ops (St j) y).ns,lk (St (i+1)).rg n=lk (St i).rg n)\/tW Q ops (St j) y (St i).rg (St (i+1)).rg)):=by
 unfold iA at hq;simp only[mE] at hq;simp only[hb,zbp] at hq;cases hap:ma (bL Q ops (St i) x) (bL Q ops (St j) y) with
 |true=>simp
 |false=>
  right;rw[hap] at hq;cases Ck:(bL Q ops (St i) x).pure with
  |true=>
   cases zP:(bL Q ops (St j) y).pure with
   |true=>grind [ma]
   |false=>
    left;simp only[Ck,zP,zbS,zbo] at hq;refine⟨rfl,?_⟩;rcases xO hq with⟨f,hf,h1,h2,h3⟩|hq
    ·grind [E6]
    refine .inl λn hn=> ?_;by_cases hw:wB (bL Q ops (St j) y).ws n
    ·grind [mM]
    exact kc (by
     by_cases hk:aC y<=1
     ·cases hg:bp ops y with
      |none=>grind [bu]
      |some g=>rw[(iP hk hg).1] at zP;cases zP
     omega) (hsy) hw
  |false=>
   cases zP:(bL Q ops (St j) y).pure with
   |true=>
    right;simp only[Ck,zP,zbS,zbo] at hq;refine⟨rfl,?_⟩;rcases xO hq with⟨f,hf,h1,h2,h3⟩|hq
    ·grind [E6]
    refine .inl λn hn=> ?_;by_cases hw:wB (bL Q ops (St i) x).ws n
    ·grind [mM]
    exact kc (by
     by_cases hk:aC x<=1
     ·cases hg:bp ops x with
      |none=>grind [bu]
      |some g=>rw[(iP hk hg).1] at Ck;cases Ck
     omega) (hsx) hw
   |false=>
    exfalso;rcases jJ with hk |hk
    ·cases hg:bp ops x with
     |none=>grind [bu]
     |some g=>rw[(iP hk hg).1] at Ck;cases Ck
    cases hg:bp ops y with
    |none=>grind [bu]
    |some g=>rw[(iP hk hg).1] at zP;cases zP
theorem uX{ops:List Oper}{o:Oper}:(kK ops o).dst=o.dst/\(kK ops o).after=o.after/\(kK ops o).guard=o.guard/\(kK ops o).op=o.op:=by unfold kK;split<;>exact⟨rfl,rfl,rfl,rfl⟩
theorem Wt{ops:List Oper}{o:Oper}(h:VW ops o=true): ∃t l ps,o.op= .buildSlice t l ps/\o.guard=none:=by grind [VW]
theorem xR{ops:List Oper}{i:Nat}:(cT ops).toArray[i]?=(ops.toArray[i]?).map (kK ops):=by simp[cT]
theorem rD{ops:List Oper}{listed:Array Bool}{i:Nat}:i∈Region.ready .any (cT ops).toArray listed↔i∈Region.ready .any ops.toArray listed:=by rw[mem_ready,mem_ready];grind [xR,uX,kK]
theorem CL{ops:List Oper}(tmps:Array Value):yielded (cT ops).toArray tmps=yielded ops.toArray tmps:=by funext j;unfold yielded;rw[xR];grind [uX]
theorem Wu{Q:Program}{F:Fence}{n:Nat}{ops:List Oper}{Q':Exit->Act->World->Prop}{i:Nat}{K:Act->World->Prop}{a:Act}{w:World}(h:wpOpIn F n Q (cT ops).toArray Q' i K a w):wpOpIn F n Q ops.toArray Q' i K a w:=by
 unfold wpOpIn at h⊢;rw[xR,CL] at h;cases ho:ops.toArray[i]? with
 |none=>rw[ho] at h;exact h
 |some o=>
  rw[ho] at h;simp only[zaK] at h⊢;by_cases hv:VW ops o=true
  ·obtain⟨t,l,ps,sB,Kq⟩:=Wt hv;have e:kK ops o={o with type:=4000000}:=by unfold kK;rw[zao hv]
   rw[e] at h;obtain⟨dst,op,ty,pos,af,gd⟩:=o;subst sB Kq;have e2: ∀ty',Oper.semAt F.round a.eval ⟨dst,.buildSlice t l ps,ty',pos,af,none⟩=execOp a.eval ⟨dst,.buildSlice t l ps,0,pos,af,none⟩:=λty'=>by rw[Oper.semAt_eq _ _ _ (by simp)];rfl
   refine⟨h.1,?_⟩;have h2:=h.2;simp only[e2] at h2⊢;generalize (execOp a.eval ⟨dst,.buildSlice t l ps,0,pos,af,none⟩).run Q w=r at h2⊢;cases r with
   |ok x w'=>cases x<;>exact h2
   |halt x w'=>cases x<;>exact h2
  grind [kK]
theorem E8{Q:Program}{F:Fence}{n:Nat}{ops:List Oper}{Q':Exit->Act->World->Prop}: ∀(fuel:Nat) (listed:Array Bool) (a:Act) (w:World),wpAnyIn F n Q .any (cT ops).toArray Q' fuel listed a w->wpAnyIn F n Q .any ops.toArray Q' fuel listed a w
 |0,listed,a,w,h=>by
  have qhR:Region.ready .any ops.toArray listed=[]:=zcY.2 λi hi=>by have:=rD.2 hi;rw[h.1] at this;cases this
  exact⟨qhR,h.2⟩
 |fuel+1,listed,a,w,h=>by refine⟨λhr=>h.1 (zcY.2 λi hi=>by have:=rD.1 hi;rw[hr] at this;cases this),λi hi=> ?_⟩;exact wpOpIn_mono (λa w h=>E8 fuel _ a w h) (Wu (h.2 i (rD.2 hi)))
theorem uY{Q:Program}{T:Tg}{cf:CF}(jl:du Q T.w0 cf){ops:List Oper}{F:Nat->Prop}{G:Nat->Value}{w:World}{a:Act}{s s':S}{r:Option Nat}{Q':Exit->Act->World->Prop}
  (h:aD Q T F G w a s) (hs:jh Q cf ops s=some s') (hK: ∀a' w',iN Q T F G w s s' a' w'->Q' .normal a' w'):wpAnyIn (wd r) 0 Q .any ops.toArray Q' ops.toArray.size (Array.replicate ops.toArray.size false) a {w with drawn:=w.drawn+1}:=by
 have main: ∀St,Text Q cf ops (masks ops []) St ops.length->St 0=s->St ops.length=s'->wpAnyIn (wd r) 0 Q .any ops.toArray Q' ops.toArray.size (Array.replicate ops.toArray.size false) a {w with drawn:=w.drawn+1}:=by
  intro St tx h0 h1;have fW:(λj=>(Array.replicate ops.length false).getD j false=true)=λ_=>False:=by funext j;simp only[zaD,zdb];split<;>simp
  have hsr:aD Q T F G {w with drawn:=w.drawn+1} a s:=h.drawn _ (zc6 _);have:=qbQ (T:=T) (r:=r) tx jl (Q':=Q') ops.length (Array.replicate ops.length false) a {w with drawn:=w.drawn+1} s F G (by simp) (by
    rw[Array.toList_replicate,List.count_replicate];simp) (by
    rw[fW];intro i o _ hf;grind) (by
    rw[fW];exact⟨by rw[h0],λi o t _ hf=>hf.elim,λt _=>by rw[h0],⟨0,by omega,by rw[h0],λi o _ _=>by simp⟩⟩) hsr
    (λa' w' hp=>hK a' w' (by obtain⟨F',G',k1,k2⟩:=hp;rw[h1] at k1 k2;exact⟨F',G',k1,⟨k2.kN,k2.mH,k2.lH,k2.keep,k2.size,k2.os,k2.tape,k2.output⟩⟩))
  grind
 unfold jh at hs;have Cv: ∀k,dh ops=k+1->jb (LX (masks ops [])) 0 ops=true/\gF (J6 ops (masks ops [])) 0 ops=true/\(k≠0->gF (λi x j y=>Nat.testBit ((masks ops []).getD j 0) i ||OU x y) 0 ops=true):=by grind [dh]
 have zero: ∀i:Nat,0+i=i:=zaG;split at hs
 ·cases hs
 next hc=>
  obtain⟨c1,c2,_⟩:=Cv 0 hc;split at hs
  next s1 l hd=>
   split at hs
   ·rename_i qbR;simp at hs;subst hs;obtain⟨St,g1,g2,g3,g4⟩:=mf ops _ _ _ hd;refine main St ⟨λi o ho=> ?_,λi j x y qw hx hy=>AF ?_,g3,λi j x y qw hx hy _ hb=> .inr ?_⟩ g1 g2
    ·have:=fp ops 0 c1 i o ho;rwa [zero] at this
    ·have:=ga ops 0 c2 i j x y qw hx hy;rwa [zero,zero] at this
    obtain⟨q,hq⟩:=rB l 0 True qbR i j _ _ qw (g4 i x hx) (g4 j y hy);rw[zero,zero] at hq;exact xQ (g3 i x hx) (g3 j y hy) (by assumption) hb hq
   cases hs
  cases hs
 rename_i h0 h1;obtain⟨k,hk⟩: ∃k,dh ops=k+1+1:=by simp_all [dh]
 obtain⟨c1,c2,c3⟩:=Cv (k+1) hk;have c3:=c3 (by omega);obtain⟨St,g1,g2,g3⟩:=mL ops _ _ hs;refine main St ⟨λi o ho=> ?_,λi j x y qw hx hy=>AF ?_,g3,λi j x y qw hx hy _ hb=> .inl ?_⟩ g1 g2
 ·have:=fp ops 0 c1 i o ho;rwa [zero] at this
 ·have:=ga ops 0 c2 i j x y qw hx hy;rwa [zero,zero] at this
 have:=ga ops 0 c3 i j x y qw hx hy;simp only[zero,hb,zbp,OU,zba,zab] at this;grind [Nat.eq_of_beq_eq_true,Nat.le_of_ble_eq_true]
end Pi
