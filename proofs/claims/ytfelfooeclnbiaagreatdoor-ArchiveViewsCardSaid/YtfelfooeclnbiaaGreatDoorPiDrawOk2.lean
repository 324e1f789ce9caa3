/- The text PiDrawOk2. -/
import Derived.Test.YtfelfooeclnbiaaGreatDoorPiDrawOk
import Derived.Orders
namespace Pi
open Go
theorem aB.alike{Q:Program}{T:Tg}{F:Nat->Prop}{G:Nat->Value}{w:World}{a:Act}{s s2:S}(h:aB Q T F G w a s)(hn:s.n=s2.n)(hr:s.rg=s2.rg)(ht: ∀t,lk s.tm t=lk s2.tm t):aB Q T F G w a s2:=
 ⟨hr▸h.r0,hn▸h.size,λt p hp=>by rw[<-hr];exact h.tm t p ((ht t).trans hp),λn e he=>by rw[<-hr] at he⊢;exact h.rg n e he,
  λn m e e' b he cx=>by rw[<-hr] at he cx;exact h.own n m e e' b he cx,λn e b he=>by rw[<-hr] at he;exact h.mg n e b he,h.ja,λn e i he=>by rw[<-hr] at he;exact h.tag n e i he,h.z,h.dr,h.sz⟩
theorem aB.drawn{Q:Program}{T:Tg}{F:Nat->Prop}{G:Nat->Value}{w:World}{a:Act}{s:S}(h:aB Q T F G w a s)(k:Nat)(hk:w.drawn<=k):aB Q T F G {w with drawn:=k} a s:=
 ⟨h.r0,h.size,λt p hp=>cy.mono (w:=w) (w':={w with drawn:=k}) (λ_ h=>h) (λ_ _=>rfl) (Names.refl _ _) (h.tm t p hp),λn e he=>(h.rg n e he).mono (w':={w with drawn:=k}) (λ_ h=>h) (λ_ _=>rfl) (Names.refl _ _) rfl (λ_ _=>rfl),
  h.own,h.mg,h.ja,h.tag,h.z,zaE h.dr hk,h.sz⟩
theorem A0{ops:Array Oper}{listed:Array Bool}(cM:listed.size=ops.size)(jT: ∀(i:Nat) (o:Oper),ops[i]?=some o-> ∀e∈o.after,Region.binds .any e=true->e.on<i)
  (hr:Region.ready .any ops listed=[]): ∀i,i<ops.size->listed.getD i false=true:=by
 intro i
 induction i using Nat.strongRecOn with
 |ind i ih=>
  intro hi;cases hb:listed.getD i false with
  |true=>rfl
  |false=>have ho:ops[i]?=some ops[i]:=zbN hi;have:i∈Region.ready .any ops listed:=mem_ready.2 ⟨by grind,_,ho,λe he EB=>ih e.on (jT i _ ho e he EB) (by have:=jT i _ ho e he EB;omega)⟩;rw[hr] at this;cases this
section
variable{Q:Program}{T:Tg}{cf:CF}{ops:List Oper}{M:List Nat}{St:Nat->S}{r:Option Nat}
theorem qb2(tx:Text Q cf ops M St ops.length)(jl:eG Q T.w0 cf){Q':Exit->Act->World->Prop}: ∀(fuel:Nat) (listed:Array Bool) (a:Act) (w:World) (s:S) (F:Nat->Prop) (G:Nat->Value),
  listed.size=ops.length->fuel+listed.toList.count true=ops.length->EW ops (λj=>listed.getD j false=true)->Inv ops St (λj=>listed.getD j false=true) s->aB Q T F G w a s->
  (∀a' w',iH Q T F G w s (St ops.length) a' w'->Q' .normal a' w')->wpAnyIn (wd r) 0 Q .any ops.toArray Q' fuel listed a w:=by
 have jT: ∀(i:Nat) (o:Oper),ops.toArray[i]?=some o-> ∀e∈o.after,Region.binds .any e=true->e.on<i:=λi o ho e he hb=>tx.back (by grind) he hb;have fin: ∀(listed:Array Bool) (a:Act) (w:World) (s:S) (F:Nat->Prop) (G:Nat->Value),(∀i,i<ops.length->listed.getD i false=true)->Inv ops St (λj=>listed.getD j false=true) s->aB Q T F G w a s->
   (∀a' w',iH Q T F G w s (St ops.length) a' w'->Q' .normal a' w')->Q' .normal a w:=by
  intro listed a w s F G gy hi h hK;obtain⟨h1,h2,h3⟩:=tx.last hi (λi o ho=>gy i (zae.1 ho).1);exact hK a w ⟨F,G,h.alike h1 h2 h3,by rw[<-h2];exact Ext.refl _ _ _⟩
 intro fuel
 induction fuel with
 |zero=>
  intro listed a w s F G cM hc hL hi h hK;have gy: ∀i,i<ops.length->listed.getD i false=true:=λi bz=>by
   have zm:listed.toList.count true=listed.toList.length:=by rw[zcQ,cM];omega
   have:=List.count_eq_length.1 zm listed[i] (by simp);simp_all
  refine⟨?_,fin listed a w s F G gy hi h hK⟩;cases hr:Region.ready .any ops.toArray listed with
  |nil=>rfl
  |cons i r=>
   have hm:i∈Region.ready .any ops.toArray listed:=by rw[hr];simp
   obtain⟨h0,o,ho,_⟩:=mem_ready.1 hm;grind
 |succ fuel ih=>
  intro listed a w s F G cM hc hL hi h hK;refine⟨λhr=>fin listed a w s F G (λi bz=>A0 (by simp[cM]) jT hr i (by grind)) hi h hK,λi hm=> ?_⟩;obtain⟨h0,o,ho,CC⟩:=mem_ready.1 hm;have fA:ops[i]?=some o:=by grind
  have bz:i<ops.length:=(zae.1 fA).1;have hl:i<listed.size:=by omega
  have bk: ¬listed.getD i false=true:=by grind
  obtain⟨s1,oK,MC⟩:=tx.go hL hi fA bk CC (λh=>by grind) (λe=>by omega);have pH: ∀j,((listed.setIfInBounds i true).getD j false=true)↔(listed.getD j false=true\/j=i):=λj=>by
   by_cases hj:j=i
   ·simp_all
   rw[getD_set_ne false (λe=>hj e.symm)];simp[hj]
  have zU:(λj=>(listed.setIfInBounds i true).getD j false=true)=(λj=>listed.getD j false=true\/j=i):=funext λj=>propext (pH j);have CD:fuel+(listed.setIfInBounds i true).toList.count true=ops.length:=by
   have e:(listed.setIfInBounds i true).toList=listed.toList.set i true:=by simp
   rw[e,List.count_set (by grind)];have:(listed.toList[i]'(by grind)==true)=false:=by simp[hl] at bk⊢;exact bk
   grind
  have jy:=ku jl h oK (r:=r) (K:=wpAnyIn (wd r) 0 Q .any ops.toArray Q' fuel (listed.setIfInBounds i true)) (Q':=Q') (λa' w' ⟨F',G',g1,g2⟩=>
   ih (listed.setIfInBounds i true) a' w' s1 F' G' (by simp[cM]) CD (by
    rw[zU];intro j x hj oL e he hb;rcases oL with oL |rfl
    ·exact .inl (hL j x hj oL e he hb)
    rw[fA] at hj;cases hj;exact .inl (CC e he hb)) (by rw[zU];exact MC) g1 (λa2 w2 hp=>hK a2 w2 (hp.trans g2)))
  unfold wpOpIn;rw[ho];simp only[];split
  ·grind
  rename_i hw;rw[zap hw] at jy;exact⟨λ_ _=>trivial,jy⟩
end
theorem mE{Q:Program}{cf:CF}{ops:List Oper}: ∀(l:List Oper) (s s':S),de Q cf ops l s=some s'-> ∃St:Nat->S,St 0=s/\St l.length=s'/\ ∀i o,l[i]?=some o->bj Q cf ops (St i) o=some (St (i+1))
 | [],s,s',h=>by simp[de] at h;exact⟨λ_=>s,rfl,h,λi o ho=>by simp at ho⟩
 |o::l,s,s',h=>by
  simp only[de] at h;split at h
  next s1 h1=>obtain⟨St,g1,g2,g3⟩:=mE l s1 s' h;refine⟨λi=>match i with |0=>s |i+1=>St i,rfl,g2,λi x hx=> ?_⟩;grind
  cases h
theorem l7{Q:Program}{cf:CF}{ops:List Oper}: ∀(l:List Oper) (s s':S) (is:List Step),pc Q cf ops l s=some (s',is)-> ∃St:Nat->S,St 0=s/\St l.length=s'/\(∀i o,l[i]?=some o->bj Q cf ops (St i) o=some (St (i+1)))/\ ∀(i:Nat) (o:Oper),l[i]?=some o->is[i]?=some (mx Q ops (St i) o (St (i+1)))
 | [],s,s',is,h=>by simp[pc] at h;exact⟨λ_=>s,rfl,h.1,λi o ho=>by simp at ho,λi o ho=>by simp at ho⟩
 |o::l,s,s',is,h=>by
  simp only[pc] at h;split at h
  ·cases h
  rename_i s1 h1;split at h
  next s2 is2 h2=>
   simp at h;obtain⟨rfl,rfl⟩:=h;obtain⟨St,g1,g2,g3,g4⟩:=l7 l s1 s2 is2 h2;refine⟨λi=>match i with |0=>s |i+1=>St i,rfl,g2,λi x hx=> ?_,λi x hx=> ?_⟩
   ·grind
   grind
  cases h
theorem Wu{W:List Nat×Nat×Nat}{n:Nat}(h:wJ W n):O4 W n=true:=by
 unfold O4;rcases h with h | ⟨h1,h2⟩
 ·rw[(kr _ _).2 h];rfl
 simp_all
theorem mF: ∀(ns:List Nat) (y:Step) (q:Prop),sk ns y q->(∀n∈ns,wJ y.info.ws n->lk y.aft n=lk y.bef n)/\q
 | [],y,q,h=>⟨by simp,h⟩
 |n::r,y,q,h=>by
  simp only[sk] at h;cases hb:O4 y.info.ws n with
  |true=>rw[hb] at h;obtain⟨h1,h2⟩:=mF r y q h.2;grind
  |false=>rw[hb] at h;obtain⟨h1,h2⟩:=mF r y q h;grind [Wu]
theorem Qf{x y:Step}{same:Prop->Prop}(hs: ∀q,same q->q){q:Prop}(h:leaves x y same q):q:=by grind [leaves,jE]
theorem EY{x y:Step}{same:Prop->Prop}(hs: ∀q r:Prop,(q->r)->same q->same r){q r:Prop}(Wv:q->r)(h:leaves x y same q):leaves x y same r:=by grind [leaves,jE]
theorem xO{x y:Step}{same:Prop->Prop}{q:Prop}(h:leaves x y same q):(∃t n,y.ent=some (t,n)/\x.look=some t/\n∉x.info.ns)\/same q:=by
 unfold leaves at h;split at h
 next t n t' h1 h2=>
  cases hb:(Nat.beq t t'&& !jE n x.info.ns) with
  |true=>simp only[zad,zbA] at hb;have ht:=zah hb.1;grind [kr]
  |false=>rw[hb] at h;exact .inr h
 grind
theorem EZ{Q:Program}{sy Vv:S}{dst:Option Nat}{t:TypeId}{p k:P}(h:iW Q sy dst t p k=some Vv){s:S}{q i:P}(hq: ∀n v,q= .mp n v->n≠site dst):
  (match(jQ Q t).bind λy=>dX Q y.2 with |some z=>eo Q (s.wr Vv.rg) t q i false z |none=>none)=(match(jQ Q t).bind λy=>dX Q y.2 with |some z=>eo Q (s.wr sy.rg) t q i false z |none=>none):=by
 unfold iW at h;split at h
 next kt e n v kd Hl=>
  split at h
  next z hz=>
   split at h
   ·rename_i zB get c ho;split at h
    ·rename_i hc;simp only[zad,zbA] at hc;obtain⟨⟨DN,Vn⟩,ED⟩:=hc;have DN:=zah DN;have ED:n≠site dst:=λe=>by rw[e,Nat.beq_refl] at ED;cases ED
     split at h
     ·rename_i s1 v1 hn;obtain⟨oK,_⟩:=S.kR hn;obtain⟨en,mC,dw,bH⟩:=S.bw ho;have Cn:lk s1.rg n=some en:=by grind [bT]
      have hrg:Vv.rg=ins n ⟨en.aR,en.tag,.jV kt (gu kd (oH (get kd) z) get) (bif (get kd).isSome then c else c+1) (.mp (site dst) v1) kd⟩ s1.rg:=by rw[bq h];unfold S.setObj;rw[Cn]
      simp only[Hl,zaw,hz];unfold eo;split
      ·rename_i kt2 e2 m vm kd2 Kg;by_cases hmn:m=n
       ·skip
        by_cases hv:vm=en.aR
        ·skip
         have o1:(s.wr Vv.rg).obj m en.aR=some (.jV kt (gu kd (oH (get kd) z) get) (bif (get kd).isSome then c else c+1) (.mp (site dst) v1) kd):=by grind [S.obj,S.wr,bp]
         have o2:(s.wr sy.rg).obj m en.aR=some (.map kt get c false):=by grind [S.obj,S.wr]
         have hg:(gu kd (oH (get kd) z) get kd2).getD z=(get kd2).getD z:=by
          unfold gu;cases hd:D.tY kd kd2 with
          |true=>have:=(D.jY _ _).1 hd;subst this;rfl
          |false=>rfl
         grind
        have hb:Nat.beq en.aR vm=false:=by grind [Nat.beq,Nat.eq_of_beq_eq_true]
        have o1:(s.wr Vv.rg).obj m vm=none:=by grind [S.obj,S.wr,bp]
        have o2:(s.wr sy.rg).obj m vm=none:=by grind [S.obj,S.wr]
        rw[o1,o2]
       grind [lk,bT,S.obj,S.wr]
      ·rfl
      rfl
     cases h
    cases h
   cases h
  cases h
 cases h
theorem E0{Q:Program}{cf:CF}{ops:List Oper}{s sy Vv:S}{x y:Oper}{t:TypeId}{n:Nat}(hx:HR x=some t)(hy:O3 y=some (t,n))(bX:bj Q cf ops sy y=some Vv)(ED:n∉(bA Q ops s x).ns):uo Q ops s x sy.rg Vv.rg:=by
 unfold HR at hx;unfold O3 at hy;split at hx
 next t' xm xk hxo=>
  split at hy
  next t2 ym yk hyo=>
   simp only[zak,zaL] at hx hy;subst hx;obtain⟨rfl,rfl⟩:=hy;refine⟨⟨_,_,_,hxo⟩,λg hg=> ?_⟩;have hk:aA x<=1:=by simp[aA,hxo]
   have Wl: ∀n v,s.eg g xm= .mp n v->n≠site y.dst:=λn v hv e=>by refine ED ?_;rw[(iJ (Q:=Q) (s:=s) hk hg).2 (by simp[aA,hxo]),<-e];exact p9 _ (s.eg g xm) n v (zbt (by simp[hxo,Op.operands])) (by rw[hv];rfl)
   have act: ∀g',ga Q cf sy y g'=some Vv->pv Q (s.wr Vv.rg) x g=pv Q (s.wr sy.rg) x g:=λg' h=>by
    have hc:gx y=none:=by unfold gx;rw[hyo]
    have Vp:cS Q y=none:=by unfold cS;rw[hyo]
    have Vr:pv Q sy y g'=none:=by unfold pv;rw[hyo]
    have A1:re y=none:=by unfold re;rw[hyo]
    unfold ga exec at h;simp only[hc,A1] at h;unfold jg ef at h;simp only[Vp,Vr,hyo] at h;have:=EZ (s:=s) (q:=s.eg g xm) (i:=s.eg g xk) h Wl;unfold pv;rw[hxo];exact this
   grind [bj,bq]
  cases hy
 cases hx
theorem Ku{m:Nat}{M:List Nat}{i j:Nat}{x y:Step}{q:Prop}(h:il m M i x j y q):q:=by unfold il at h;grind [lY,Qf,mF]
theorem Iu{m:Nat}{M:List Nat}{i:Nat}{x:Step}: ∀(l:List Step) (j0:Nat) (q:Prop),L2 (il m M i x) j0 l q->q
 | [],_,_,h=>h
 |_::r,j0,q,h=>Iu r (j0+1) q (Ku h)
theorem E1{m:Nat}{M:List Nat}{i:Nat}{x:Step}: ∀(l:List Step) (j0:Nat) (q:Prop),L2 (il m M i x) j0 l q-> ∀j y,l[j]?=some y-> ∃q',il m M i x (j0+j) y q'
 | [],_,_,_,j,y,hy=>by simp at hy
 |z::r,j0,q,h,j,y,hy=>by
  cases j with
  |zero=>simp at hy;subst hy;exact⟨_,h⟩
  |succ j=>obtain⟨q',hq⟩:=E1 r (j0+1) q (Ku h) j y (by grind);grind
theorem rp{m:Nat}{M:List Nat}: ∀(l:List Step) (i0:Nat) (q:Prop),ua (il m M) i0 l q-> ∀i j x y,i<j->l[i]?=some x->l[j]?=some y-> ∃q',il m M (i0+i) x (i0+j) y q'
 | [],_,_,_,i,j,x,y,_,hx,_=>by simp at hx
 |z::r,i0,q,h,i,j,x,y,sF,hx,hy=>by
  cases i with
  |zero=>
   obtain⟨j,rfl⟩: ∃j',j=j'+1:=⟨j-1,by omega⟩
   obtain⟨q',hq⟩:=E1 r (i0+1) _ h j y (by grind);grind
  |succ i=>
   obtain⟨j,rfl⟩: ∃j',j=j'+1:=⟨j-1,by omega⟩
   obtain⟨q',hq⟩:=rp r (i0+1) q (Iu r (i0+1) _ h) i j x y (by omega) (by grind) (by grind);grind
theorem xP{m:Nat}{M:List Nat}: ∀(l:List Step) (i0:Nat) (q:Prop),ua (il m M) i0 l q->q
 | [],_,_,h=>h
 |_::r,i0,q,h=>xP r (i0+1) q (Iu r (i0+1) _ h)
theorem rq: ∀(ns:List Nat) (y:Step) (q r:Prop),(q->r)->sk ns y q->sk ns y r
 | [],_,_,_,h,hs=>h hs
 |n::ns,y,q,r,h,hs=>by
  simp only[sk] at hs⊢;cases hb:O4 y.info.ws n with
  |true=>rw[hb] at hs;exact⟨hs.1,rq ns y q r h hs.2⟩
  |false=>rw[hb] at hs;exact rq ns y q r h hs
theorem Iv{m:Nat}{M:List Nat}{i j:Nat}{x y:Step}{q r:Prop}(Wv:q->r)(h:il m M i x j y q):il m M i x j y r:=by unfold il at h⊢;grind [lY,EY,rq]
theorem A2{m:Nat}{M:List Nat}{i:Nat}{x:Step}: ∀(l:List Step) (j0:Nat) (q r:Prop),(q->r)->L2 (il m M i x) j0 l q->L2 (il m M i x) j0 l r
 | [],_,_,_,Wv,h=>Wv h
 |_::l,j0,q,r,Wv,h=>Iv (A2 l (j0+1) q r Wv) h
theorem pI{m:Nat}{M:List Nat}: ∀(l:List Step) (i0:Nat) (q r:Prop),(q->r)->ua (il m M) i0 l q->ua (il m M) i0 l r
 | [],_,_,_,Wv,h=>Wv h
 |_::l,i0,q,r,Wv,h=>A2 l (i0+1) _ _ (pI l (i0+1) q r Wv) h
theorem xQ{Q:Program}{cf:CF}{ops:List Oper}{m:Nat}{M:List Nat}{St:Nat->S}{i j:Nat}{x y:Oper}(hsx:bj Q cf ops (St i) x=some (St (i+1)))(hsy:bj Q cf ops (St j) y=some (St (j+1)))(jG:aA x<=1\/aA y<=1)(hb:Nat.testBit (M.getD j 0) i=false){q:Prop}
  (hq:il m M i (mx Q ops (St i) x (St (i+1))) j (mx Q ops (St j) y (St (j+1))) q):
  lY (bA Q ops (St i) x) (bA Q ops (St j) y)=true\/
  ((bA Q ops (St i) x).pure=true/\((∀n∈(bA Q ops (St i) x).ns,lk (St (j+1)).rg n=lk (St j).rg n)\/uo Q ops (St i) x (St j).rg (St (j+1)).rg))\/
  ((bA Q ops (St j) y).pure=true/\((∀n∈(bA Q ops (St j) y).ns,lk (St (i+1)).rg n=lk (St i).rg n)\/uo Q ops (St j) y (St i).rg (St (i+1)).rg)):=by
 unfold il at hq;simp only[mx] at hq;simp only[hb,zcb] at hq;cases hap:lY (bA Q ops (St i) x) (bA Q ops (St j) y) with
 |true=>simp
 |false=>
  right;rw[hap] at hq;cases Cd:(bA Q ops (St i) x).pure with
  |true=>
   cases zI:(bA Q ops (St j) y).pure with
   |true=>grind [lY]
   |false=>
    left;simp only[Cd,zI,zcG,zcj] at hq;refine⟨rfl,?_⟩;rcases xO hq with⟨f,hf,h1,h2,h3⟩|hq
    ·grind [E0]
    refine .inl λn hn=> ?_;by_cases hw:wJ (bA Q ops (St j) y).ws n
    ·grind [mF]
    exact jZ (by
     by_cases hk:aA y<=1
     ·cases hg:bf ops y with
      |none=>grind [bj]
      |some g=>rw[(iJ hk hg).1] at zI;cases zI
     omega) (hsy) hw
  |false=>
   cases zI:(bA Q ops (St j) y).pure with
   |true=>
    right;simp only[Cd,zI,zcG,zcj] at hq;refine⟨rfl,?_⟩;rcases xO hq with⟨f,hf,h1,h2,h3⟩|hq
    ·grind [E0]
    refine .inl λn hn=> ?_;by_cases hw:wJ (bA Q ops (St i) x).ws n
    ·grind [mF]
    exact jZ (by
     by_cases hk:aA x<=1
     ·cases hg:bf ops x with
      |none=>grind [bj]
      |some g=>rw[(iJ hk hg).1] at Cd;cases Cd
     omega) (hsx) hw
   |false=>
    exfalso;rcases jG with hk |hk
    ·cases hg:bf ops x with
     |none=>grind [bj]
     |some g=>rw[(iJ hk hg).1] at Cd;cases Cd
    cases hg:bf ops y with
    |none=>grind [bj]
    |some g=>rw[(iJ hk hg).1] at zI;cases zI
theorem vB{ops:List Oper}{o:Oper}:(kH ops o).dst=o.dst/\(kH ops o).after=o.after/\(kH ops o).guard=o.guard/\(kH ops o).op=o.op:=by unfold kH;split<;>exact⟨rfl,rfl,rfl,rfl⟩
theorem Ww{ops:List Oper}{o:Oper}(h:VY ops o=true): ∃t l ps,o.op= .buildSlice t l ps/\o.guard=none:=by grind [VY]
theorem xR{ops:List Oper}{i:Nat}:(cP ops).toArray[i]?=(ops.toArray[i]?).map (kH ops):=by simp[cP]
theorem rr{ops:List Oper}{listed:Array Bool}{i:Nat}:i∈Region.ready .any (cP ops).toArray listed↔i∈Region.ready .any ops.toArray listed:=by rw[mem_ready,mem_ready];grind [xR,vB,kH]
theorem CG{ops:List Oper}(tmps:Array Value):yielded (cP ops).toArray tmps=yielded ops.toArray tmps:=by funext j;unfold yielded;rw[xR];grind [vB]
theorem Wx{Q:Program}{F:Fence}{n:Nat}{ops:List Oper}{Q':Exit->Act->World->Prop}{i:Nat}{K:Act->World->Prop}{a:Act}{w:World}(h:wpOpIn F n Q (cP ops).toArray Q' i K a w):wpOpIn F n Q ops.toArray Q' i K a w:=by
 unfold wpOpIn at h⊢;rw[xR,CG] at h;cases ho:ops.toArray[i]? with
 |none=>rw[ho] at h;exact h
 |some o=>
  rw[ho] at h;simp only[zaJ] at h⊢;by_cases hv:VY ops o=true
  ·obtain⟨t,l,ps,tM,Kr⟩:=Ww hv;have e:kH ops o={o with type:=4000000}:=by unfold kH;rw[zaq hv]
   rw[e] at h;obtain⟨dst,op,ty,pos,af,gd⟩:=o;subst tM Kr;have e2: ∀ty',Oper.semAt F.round a.eval ⟨dst,.buildSlice t l ps,ty',pos,af,none⟩=execOp a.eval ⟨dst,.buildSlice t l ps,0,pos,af,none⟩:=λty'=>by rw[Oper.semAt_eq _ _ _ (by simp)];rfl
   refine⟨h.1,?_⟩;have h2:=h.2;simp only[e2] at h2⊢;generalize (execOp a.eval ⟨dst,.buildSlice t l ps,0,pos,af,none⟩).run Q w=r at h2⊢;cases r with
   |ok x w'=>cases x<;>exact h2
   |halt x w'=>cases x<;>exact h2
  grind [kH]
theorem E2{Q:Program}{F:Fence}{n:Nat}{ops:List Oper}{Q':Exit->Act->World->Prop}: ∀(fuel:Nat) (listed:Array Bool) (a:Act) (w:World),wpAnyIn F n Q .any (cP ops).toArray Q' fuel listed a w->wpAnyIn F n Q .any ops.toArray Q' fuel listed a w
 |0,listed,a,w,h=>by
  have qhN:Region.ready .any ops.toArray listed=[]:=zc4.2 λi hi=>by have:=rr.2 hi;rw[h.1] at this;cases this
  exact⟨qhN,h.2⟩
 |fuel+1,listed,a,w,h=>by refine⟨λhr=>h.1 (zc4.2 λi hi=>by have:=rr.1 hi;rw[hr] at this;cases this),λi hi=> ?_⟩;exact wpOpIn_mono (λa w h=>E2 fuel _ a w h) (Wx (h.2 i (rr.2 hi)))
theorem vC{Q:Program}{T:Tg}{cf:CF}(jl:eG Q T.w0 cf){ops:List Oper}{F:Nat->Prop}{G:Nat->Value}{w:World}{a:Act}{s s':S}{r:Option Nat}{Q':Exit->Act->World->Prop}
  (h:aB Q T F G w a s) (hs:jh Q cf ops s=some s') (hK: ∀a' w',iH Q T F G w s s' a' w'->Q' .normal a' w'):wpAnyIn (wd r) 0 Q .any ops.toArray Q' ops.toArray.size (Array.replicate ops.toArray.size false) a {w with drawn:=w.drawn+1}:=by
 have main: ∀St,Text Q cf ops (masks ops []) St ops.length->St 0=s->St ops.length=s'->wpAnyIn (wd r) 0 Q .any ops.toArray Q' ops.toArray.size (Array.replicate ops.toArray.size false) a {w with drawn:=w.drawn+1}:=by
  intro St tx h0 h1;have gK:(λj=>(Array.replicate ops.length false).getD j false=true)=λ_=>False:=by funext j;simp only[zaA,zdi];split<;>simp
  have hsr:aB Q T F G {w with drawn:=w.drawn+1} a s:=h.drawn _ (zcR _);have:=qb2 (T:=T) (r:=r) tx jl (Q':=Q') ops.length (Array.replicate ops.length false) a {w with drawn:=w.drawn+1} s F G (by simp) (by
    rw[Array.toList_replicate,List.count_replicate];simp) (by
    rw[gK];intro i o _ hf;grind) (by
    rw[gK];exact⟨by rw[h0],λi o t _ hf=>hf.elim,λt _=>by rw[h0],⟨0,by omega,by rw[h0],λi o _ _=>by simp⟩⟩) hsr
    (λa' w' hp=>hK a' w' (by obtain⟨F',G',k1,k2⟩:=hp;rw[h1] at k1 k2;exact⟨F',G',k1,⟨k2.kK,k2.mz,k2.lv,k2.keep,k2.size,k2.os,k2.tape,k2.output⟩⟩))
  grind
 unfold jh at hs;have Co: ∀k,cZ ops=k+1->iX (L1 (masks ops [])) 0 ops=true/\gI (J8 ops (masks ops [])) 0 ops=true/\(k≠0->gI (λi x j y=>Nat.testBit ((masks ops []).getD j 0) i ||O2 x y) 0 ops=true):=by grind [cZ]
 have zero: ∀i:Nat,0+i=i:=zaI;split at hs
 ·cases hs
 next hc=>
  obtain⟨c1,c2,_⟩:=Co 0 hc;split at hs
  next s1 l hd=>
   split at hs
   ·rename_i qb3;simp at hs;subst hs;obtain⟨St,g1,g2,g3,g4⟩:=l7 ops _ _ _ hd;refine main St ⟨λi o ho=> ?_,λi j x y sF hx hy=>Au ?_,g3,λi j x y sF hx hy _ hb=> .inr ?_⟩ g1 g2
    ·have:=fm ops 0 c1 i o ho;rwa [zero] at this
    ·have:=gg ops 0 c2 i j x y sF hx hy;rwa [zero,zero] at this
    obtain⟨q,hq⟩:=rp l 0 True qb3 i j _ _ sF (g4 i x hx) (g4 j y hy);rw[zero,zero] at hq;exact xQ (g3 i x hx) (g3 j y hy) (by assumption) hb hq
   cases hs
  cases hs
 rename_i h0 h1;obtain⟨k,hk⟩: ∃k,cZ ops=k+1+1:=by simp_all [cZ]
 obtain⟨c1,c2,c3⟩:=Co (k+1) hk;have c3:=c3 (by omega);obtain⟨St,g1,g2,g3⟩:=mE ops _ _ hs;refine main St ⟨λi o ho=> ?_,λi j x y sF hx hy=>Au ?_,g3,λi j x y sF hx hy _ hb=> .inl ?_⟩ g1 g2
 ·have:=fm ops 0 c1 i o ho;rwa [zero] at this
 ·have:=gg ops 0 c2 i j x y sF hx hy;rwa [zero,zero] at this
 have:=gg ops 0 c3 i j x y sF hx hy;simp only[zero,hb,zcb,O2,za1,zad] at this;grind [Nat.eq_of_beq_eq_true,Nat.le_of_ble_eq_true]
end Pi
