/- The text PiDrawOk. -/
import Derived.Test.YtfelfooeclnbiaaPiWr
namespace Pi
open Go
theorem cu{α:Type}{f:Nat->α->Bool}: ∀(l:List α) (i0:Nat),dD f i0 l=true-> ∀i x,l[i]?=some x->f (i0+i) x=true
 | [],i0,_,i,x,hx=>by simp at hx
 |y::r,i0,h,i,x,hx=>by
  simp only[dD,zac] at h;cases i with
  |zero=>grind
  |succ i=>
   have:=cu r (i0+1) h.2 i x (by grind);have e:i0+1+i=i0+(i+1):=by omega
   rwa [e] at this
theorem cE{α:Type}{f:Nat->α->Nat->α->Bool}: ∀(l:List α) (i0:Nat),cO f i0 l=true-> ∀i j x y,i<j->l[i]?=some x->l[j]?=some y->f (i0+i) x (i0+j) y=true
 | [],i0,_,i,j,x,y,_,hx,_=>by simp at hx
 |z::r,i0,h,i,j,x,y,jo,hx,hy=>by
  simp only[cO,zac] at h;cases j with
  |zero=>omega
  |succ j=>
   have e:i0+1+j=i0+(j+1):=by omega
   cases i with
   |zero=>simp at hx;subst hx;have:=cu r (i0+1) h.1 j y (by grind);rwa [e] at this
   |succ i=>
    have:=cE r (i0+1) h.2 i j x y (by omega) (by grind) (by grind);have e2:i0+1+i=i0+(i+1):=by omega
    rwa [e,e2] at this
theorem c8{s s1:S}{dst:Option Nat}{q:P}(h:s.put dst q=some s1):s1.n=s.n/\s1.rg=s.rg/\(∀d,dst=some d->lk s1.tm d=some q)/\
  (∀t,dst≠some t->lk s1.tm t=lk s.tm t):=by
 unfold S.put at h;grind [aJ,aR]
theorem ri{s s1 s2:S}{dst:Option Nat}{q:P}(h:s.put dst q=some s1)(hn:s2.n=s.n): ∃s3,s2.put dst q=some s3:=by unfold S.put at h⊢;grind
def kS(Q:Program)(ops:List Oper)(s:S)(x:Oper)(R R':List (Nat×En)):Prop:=
 (∃t m k,x.op= .lookup t m k false)/\ ∀g,ay ops x=some g->pv Q (s.wr R') x g=pv Q (s.wr R) x g
structure Text(Q:Program)(cf:CF)(ops:List Oper)(M:List Nat)(St:Nat->S)(m:Nat):Prop where
 fix: ∀i o,ops[i]?=some o->um M i o=true
 pair: ∀i j x y,i<j->ops[i]?=some x->ops[j]?=some y->hB m ops M i x j y=true
 run: ∀i o,ops[i]?=some o->aC Q cf ops (St i) o=some (St (i+1))
 info: ∀i j x y,i<j->ops[i]?=some x->ops[j]?=some y->(aj x<=1\/aj y<=1)->Nat.testBit (M.getD j 0) i=false->
  (aj x=0\/aj y=0\/(aj x<=1/\aj y<=1))\/fp (aK Q ops (St i) x) (aK Q ops (St j) y)=true\/
  ((aK Q ops (St i) x).pure=true/\((∀n∈(aK Q ops (St i) x).ns,lk (St (j+1)).rg n=lk (St j).rg n)\/kS Q ops (St i) x (St j).rg (St (j+1)).rg))\/
  ((aK Q ops (St j) y).pure=true/\((∀n∈(aK Q ops (St j) y).ns,lk (St (i+1)).rg n=lk (St i).rg n)\/kS Q ops (St j) y (St i).rg (St (i+1)).rg))
section
variable{Q:Program}{cf:CF}{ops:List Oper}{M:List Nat}{St:Nat->S}{m:Nat}(tx:Text Q cf ops M St m)
include tx
theorem Text.back{i:Nat}{o:Oper}(ho:ops[i]?=some o){e:Edge}(he:e∈o.after)(hb:Region.binds .any e=true):e.on<i:=by have:=tx.fix i o ho;simp only[um,zac] at this;have h:=zaI.1 this.1.2 e (by grind);simp_all
theorem Text.mask{i:Nat}{o:Oper}(ho:ops[i]?=some o):M.getD i 0=eJ M o.after.toList:=by have:=tx.fix i o ho;simp_all [um,zac,zab]
omit tx in
theorem jI(acc:List Nat)(j:Nat): ∀(es:List Edge),Nat.testBit (eJ acc es) j=true-> ∃e∈es,Region.binds .any e=true/\(j=e.on\/Nat.testBit (acc.getD e.on 0) j=true)
 | [],h=>by simp[eJ] at h
 |e::es,h=>by
  simp only[eJ] at h;split at h
  next hb=>
   have h':Nat.testBit ((1<<<e.on |||acc.getD e.on 0)|||eJ acc es) j=true:=h;rw[Nat.testBit_or,Nat.testBit_or] at h';simp only[zbm] at h';rcases h' with(h' |h')|h'
   ·refine⟨e,by simp,hb,.inl ?_⟩;rw[Nat.testBit_shiftLeft] at h';simp only[zac,zaE,ge_iff_le] at h';obtain⟨h1,h2⟩:=h';cases hd:j-e.on with
    |zero=>omega
    |succ n=>rw[hd] at h2;simp[Nat.testBit_succ] at h2
   ·exact⟨e,by simp,hb,.inr h'⟩
   obtain⟨e',a7,h1,h2⟩:=jI acc j es h';exact⟨e',by simp[a7],h1,h2⟩
  obtain⟨e',a7,h1,h2⟩:=jI acc j es h;exact⟨e',by simp[a7],h1,h2⟩
omit tx in
def rj(ops:List Oper)(L:Nat->Prop):Prop:= ∀i o,ops[i]?=some o->L i-> ∀e∈o.after,Region.binds .any e=true->L e.on
theorem Text.sub{L:Nat->Prop}(hL:rj ops L): ∀(i:Nat) (o:Oper),ops[i]?=some o->(∀e∈o.after,Region.binds .any e=true->L e.on)-> ∀j,Nat.testBit (M.getD i 0) j=true->L j:=by
 intro i
 induction i using Nat.strongRecOn with
 |ind i ih=>
  intro o ho he j hj;rw[tx.mask ho] at hj;obtain⟨e,hm,hb,h⟩:=jI M j _ hj;have hm:e∈o.after:=by grind
  rcases h with h |h
  ·grind
  have bu:=tx.back ho hm hb;have hlen:i<ops.length:=(zaa.1 ho).1;have pV:ops[e.on]?=some ops[e.on]:=zad (by omega);exact ih e.on bu _ pV (hL e.on _ pV (he e hm hb)) j h
theorem Text.lt{i:Nat}{o:Oper}(ho:ops[i]?=some o){j:Nat}(hj:Nat.testBit (M.getD i 0) j=true):j<i:=
 tx.sub (L:=(· <i)) (λ_ _ hk bu _ he hb=>Nat.lt_trans (tx.back hk he hb) bu) i o ho (λ_ he hb=>tx.back ho he hb) j hj
theorem Text.inj{i j:Nat}{x y:Oper}(hx:ops[i]?=some x)(hy:ops[j]?=some y)(bY:i≠j){d:Nat}(hd:x.dst=some d):y.dst≠some d:=by
 intro Fz;have key: ∀{i j:Nat} {x y:Oper},i<j->ops[i]?=some x->ops[j]?=some y->x.dst=some d->y.dst=some d->False:=by intro i j x y jo hx hy hd Fz;have:=tx.pair i j x y jo hx hy;simp[hB,pc,hd,Fz] at this
 grind
theorem Text.rel{i j:Nat}{x y:Oper}(hx:ops[i]?=some x)(hy:ops[j]?=some y)(bY:i≠j){d:Nat}(hd:x.dst=some d)(hl:d∈looks ops y):
  (i<j/\Nat.testBit (M.getD j 0) i=true)\/(j<i/\Nat.testBit (M.getD i 0) j=true):=by
 have hm:dQ d (looks ops y)=true:=(eB _ _).2 hl;rcases zbo bY with h |h
 ·refine .inl ⟨h,?_⟩;have:=tx.pair i j x y h hx hy;grind [hB,oe]
 refine .inr ⟨h,?_⟩;have:=tx.pair j i y x h hy hx;grind [hB,oe]
theorem Text.kinds{i j:Nat}{x y:Oper}(jo:i<j)(hx:ops[i]?=some x)(hy:ops[j]?=some y):Nat.testBit (M.getD j 0) i=true\/aj x<=1\/aj y<=1\/j=m:=by have:=tx.pair i j x y jo hx hy;simp only[hB,zac,zbm,zbd,Nat.beq_eq] at this;grind
theorem Text.step{i:Nat}{o:Oper}(ho:ops[i]?=some o): ∃R q,(⟨(St i).n,(St i).tm,R⟩:S).put o.dst q=some (St (i+1)):=by
 obtain⟨c,h2,_⟩:=jH (Q:=Q) (cf:=cf) (ops:=ops) (s:=St i) (s2:=St i) (o:=o) (λ_ _=>rfl) rfl rfl;rw[tx.run i o ho] at h2;cases c with
 |none=>cases h2
 |some x=>exact⟨x.1,x.2,h2.symm⟩
theorem Text.inv: ∀(i:Nat),i<=ops.length->(St i).n=(St 0).n/\
  (∀t,(∀k o,k<i->ops[k]?=some o->o.dst≠some t)->lk (St i).tm t=lk (St 0).tm t)
 |0,_=>⟨rfl,λ_ _=>rfl⟩
 |i+1,hi=>by obtain⟨h1,h3⟩:=Text.inv i (by omega);have ho:ops[i]?=some ops[i]:=zad (by omega);obtain⟨R,q,hg⟩:=tx.step ho;obtain⟨g1,g2,g3,g4⟩:=c8 hg;grind
theorem Text.keep{i:Nat}{o:Oper}(ho:ops[i]?=some o){t:Nat}(ht:o.dst≠some t):lk (St (i+1)).tm t=lk (St i).tm t:=by obtain⟨R,q,hg⟩:=tx.step ho;exact(c8 hg).2.2.2 t ht
theorem Text.stay{i:Nat}{o:Oper}(ho:ops[i]?=some o){t:Nat}(ht:o.dst=some t): ∀k,i<k->k<=ops.length->lk (St k).tm t=lk (St (i+1)).tm t
 |0,hk,_=>by omega
 |k+1,hk,hl=>by
  rcases zbK hk with h |h
  ·have e:i=k:=by omega
   rw[e]
  have iN:ops[k]?=some ops[k]:=zad (by omega);rw[tx.keep iN (tx.inj ho iN (by omega) ht)];exact Text.stay ho ht k (by omega) (by omega)
theorem Text.zp{n:Nat}{i:Nat}: ∀(k:Nat),i<=k->k<=ops.length->(∀j x,i<=j->j<k->ops[j]?=some x->aj x<=1\/ ¬mb (aK Q ops (St j) x).ws n\/lk (St (j+1)).rg n=lk (St j).rg n)->lk (St k).rg n=lk (St i).rg n
 |0,hk,_,_=>by
      have e:i=0:=by omega
      rw[e]
 |k+1,hk,hl,h=>by
  rcases zbK hk with he |bu
  ·rw[he]
  have iN:ops[k]?=some ops[k]:=zad (by omega);rw[<-Text.zp k (by omega) (by omega) (λj x h1 h2=>h j x h1 (by omega))];by_cases yQ:aj ops[k]<=1
  ·obtain⟨c,h2,_⟩:=iy (Q:=Q) (cf:=cf) (ops:=ops) (s:=St k) (s2:=St k) (o:=ops[k]) yQ (λ_ _=>rfl) rfl (.inr λg _ x _ n v _=>rfl);rw[tx.run k _ iN] at h2;cases c with
   |none=>cases h2
   |some q=>rw[(c8 h2.symm).2.1]
  rcases h k _ (by omega) (by omega) iN with h' |h' |h'
  ·grind
  ·exact ey (by omega) (tx.run k _ iN) h'
  exact h'
theorem Text.ku{i:Nat}: ∀(k:Nat),i<=k->k<=ops.length->(∀j x,i<=j->j<k->ops[j]?=some x->aj x<=1)->(St k).rg=(St i).rg
 |0,hk,_,_=>by
    have e:i=0:=by omega
    rw[e]
 |k+1,hk,hl,h=>by
  rcases zbK hk with he |bu
  ·rw[he]
  have iN:ops[k]?=some ops[k]:=zad (by omega);rw[<-Text.ku k (by omega) (by omega) (λj x h1 h2=>h j x h1 (by omega))];obtain⟨c,h2,_⟩:=iy (Q:=Q) (cf:=cf) (ops:=ops) (s:=St k) (s2:=St k) (o:=ops[k]) (h k _ (by omega) (by omega) iN) (λ_ _=>rfl) rfl (.inr λg _ x _ n v _=>rfl);rw[tx.run k _ iN] at h2;cases c with
  |none=>cases h2
  |some q=>rw[(c8 h2.symm).2.1]
omit tx in
structure Inv(ops:List Oper)(St:Nat->S)(L:Nat->Prop)(s:S):Prop where
 n:s.n=(St 0).n
 FA: ∀i o t,ops[i]?=some o->L i->o.dst=some t->lk s.tm t=lk (St ops.length).tm t
 Cn: ∀t,(∀i o,ops[i]?=some o->L i->o.dst≠some t)->lk s.tm t=lk (St 0).tm t
 rg: ∃k,k<=ops.length/\s.rg=(St k).rg/\ ∀i o,ops[i]?=some o->1<aj o->(i<k↔L i)
omit tx in
theorem FB{ns:List Nat}{W:List Nat×Nat×Nat}(h:tq ns W=true){n:Nat}(hn:n∈ns): ¬mb W n:=by
 unfold tq at h;have:=zaI.1 h n hn;simp only[zac,zaW,Bool.and_eq_false_iff] at this;intro hw;rcases hw with hw |hw
 ·have h1:dQ n W.1=true:=(eB _ _).2 hw;rw[h1] at this;simp at this
 rcases this.2 with h2 |h2
 ·have:Nat.ble W.2.1 n=true:=Nat.ble_eq_true_of_le hw.1;rw[this] at h2;cases h2
 have:Nat.blt n W.2.2=true:=by simp[Nat.blt];omega
 rw[this] at h2;cases h2
omit tx in
theorem iS: ∀(ps:List P) (p:P) (n v:Nat),p∈ps->p.name=some (n,v)->n∈iL ps
 | [],p,n,v,h,_=>by simp at h
 |q::r,p,n,v,h,hn=>by
  simp only[iL];rcases zaw.1 h with h |h
  ·subst h;rw[hn];simp
  have:=iS r p n v h hn;split
  ·exact List.mem_cons_of_mem _ this
  exact this
omit tx in
theorem dw{s:S}{o:Oper}(hk:aj o<=1){g:Option (Nat×Bool)}(hg:ay ops o=some g):(aK Q ops s o).pure=true/\(aj o≠0->(aK Q ops s o).ns=iL (o.op.operands.toList.map (s.eg g))):=by
 unfold aK;rw[hg];simp only[Nat.ble_eq_true_of_le hk,zaT,true_and];intro h0;have:Nat.beq (aj o) 0=false:=by
  cases hb:Nat.beq (aj o) 0 with
  |false=>rfl
  |true=>exact absurd (zab hb) h0
 rw[this];rfl
omit tx in
theorem nf{s:S}{o:Oper}(hk:1<aj o):(aK Q ops s o).pure=false:=by
 unfold aK;have hb:Nat.ble (aj o) 1=false:=by
  cases hx:Nat.ble (aj o) 1 with
  |false=>rfl
  |true=>rw[zbd] at hx;omega
 split
 ·rfl
 rw[hb];rfl
theorem Text.go{L:Nat->Prop}(hL:rj ops L){s:S}(hi:Inv ops St L s){i:Nat}{o:Oper}(ho:ops[i]?=some o)(eb: ¬L i)(he: ∀e∈o.after,Region.binds .any e=true->L e.on)
  (rV:L m-> ∀x p,x<m->ops[x]?=some p->1<aj p->L x) (uG:i=m-> ∀x p,x<m->ops[x]?=some p->1<aj p->L x):
  ∃s1,aC Q cf ops s o=some s1/\Inv ops St (λj=>L j\/j=i) s1:=by
 have zd:i<ops.length:=(zaa.1 ho).1;have nY:=tx.sub hL i o ho he;have Bj: ∀j x,ops[j]?=some x->L j->Nat.testBit (M.getD j 0) i=false:=λj x hx hj=>by
  cases hb:Nat.testBit (M.getD j 0) i with
  |false=>rfl
  |true=>exact absurd (tx.sub hL j x hx (hL j x hx hj) i hb) eb
 obtain⟨n1,n3⟩:=tx.inv i (by omega);have xt: ∀t∈looks ops o,lk s.tm t=lk (St i).tm t:=by
  intro t ht;by_cases hex: ∃(k:Nat) (x:Oper),ops[k]?=some x/\x.dst=some t
  ·obtain⟨k,x,hk,hd⟩:=hex;have Co:k<ops.length:=(zaa.1 hk).1;by_cases Ap:k=i
   ·subst Ap;rw[hi.Cn t (λj y hj gI rk=>by
     by_cases e:j=k
     ·rw[e] at gI;exact eb gI
     exact tx.inj hj hk e rk hd),n3 t (λj y bu hj rk=>tx.inj hj hk (by omega) rk hd)]
   rcases tx.rel hk ho Ap hd ht with⟨h1,h2⟩| ⟨h1,h2⟩
   ·rw[hi.FA k x t hk (nY k h2) hd,tx.stay hk hd _ Co (zaf _),tx.stay hk hd i h1 (by omega)]
   rw[hi.Cn t (λj y hj gI rk=>by
    by_cases e:j=k
    ·subst e;have:=Bj j y hj gI;rw[h2] at this;cases this
    exact tx.inj hj hk e rk hd),n3 t (λj y bu hj rk=>tx.inj hj hk (by omega) rk hd)]
  rw[hi.Cn t (λj y hj _ rk=>hex ⟨j,y,hj,rk⟩),n3 t (λj y _ hj rk=>hex ⟨j,y,hj,rk⟩)]
 have yo:s.n=(St i).n:=by rw[hi.n,n1]
 obtain⟨k,Co,Da,tI⟩:=hi.rg;have xu: ∀(R:List (Nat×En)) (q:P) (s1:S),(∀d,o.dst=some d->lk (St (i+1)).tm d=some q)->(⟨s.n,s.tm,R⟩:S).put o.dst q=some s1->
   (∃k,k<=ops.length/\R=(St k).rg/\ ∀j x,ops[j]?=some x->1<aj x->(j<k↔(L j\/j=i)))->Inv ops St (λj=>L j\/j=i) s1:=by
  intro R q s1 hval Db Ep;obtain⟨g1,g2,g3,g4⟩:=c8 Db;have keep: ∀t,o.dst≠some t->lk s1.tm t=lk s.tm t:=λt ht=>g4 t ht;refine⟨g1.trans hi.n,λj y t hj gI hd=> ?_,λt ht=> ?_,?_⟩
  ·rcases gI with gI |rfl
   ·have bY:j≠i:=λe=>eb (e▸gI);rw[keep t (tx.inj hj ho bY hd),hi.FA j y t hj gI hd]
   rw[ho] at hj;cases hj;rw[g3 t hd,tx.stay ho hd _ zd (zaf _),hval t hd]
  ·rw[keep t (ht i o ho (.inr rfl)),hi.Cn t (λj y hj gI=>ht j y hj (.inl gI))]
  rw[g2];exact Ep
 by_cases hk:aj o<=1
 ·
  have Aq: ∀g,ay ops o=some g->aj o≠0-> ∀j y,ops[j]?=some y->1<aj y->(j<i/\ ¬L j\/i<=j/\L j)->
    (∀n∈(aK Q ops (St i) o).ns,lk (St (j+1)).rg n=lk (St j).rg n)\/kS Q ops (St i) o (St j).rg (St (j+1)).rg:=by
   intro g hg h0 j y hj hy hc;have p1:=(dw (Q:=Q) (s:=St i) hk hg).1;have GW:fp (aK Q ops (St i) o) (aK Q ops (St j) y)=true\/fp (aK Q ops (St j) y) (aK Q ops (St i) o)=true-> ∀n∈(aK Q ops (St i) o).ns,lk (St (j+1)).rg n=lk (St j).rg n:=by intro h3 n hn;refine ey (by omega) (tx.run j y hj) ?_;unfold fp at h3;rw[p1,nf (o:=y) (by omega)] at h3;simp only[zaz,za6,zaT,or_self] at h3;exact FB h3 hn
   rcases hc with⟨bu,gI⟩| ⟨hle,gI⟩
   ·have Bk:Nat.testBit (M.getD i 0) j=false:=by
     cases hb:Nat.testBit (M.getD i 0) j with
     |false=>rfl
     |true=>exact absurd (nY j hb) gI
    rcases tx.info j i y o bu hj ho (.inr hk) Bk with h3 |h3 |h3 |h3
    ·omega
    ·exact .inl (GW (.inr h3))
    ·rw[nf (o:=y) (by omega)] at h3;cases h3.1
    exact h3.2
   have bY:j≠i:=λe=>eb (e▸gI);rcases tx.info i j o y (by omega) ho hj (.inl hk) (Bj j y hj gI) with h3 |h3 |h3 |h3
   ·omega
   ·exact .inl (GW (.inl h3))
   ·exact h3.2
   rw[nf (o:=y) (by omega)] at h3;cases h3.1
  have Bl: ∀j y,ops[j]?=some y->aj y<=1->(St (j+1)).rg=(St j).rg:=λj y hj hy=>by
   have Ah:j<ops.length:=(zaa.1 hj).1;exact tx.ku (i:=j) (j+1) (by omega) (by omega) λj' y' h1 h2 y9=>by
    have:j'=j:=by omega
    subst this;rw[hj] at y9;cases y9;exact hy
  have chain: ∀{C:List (Nat×En)->Prop},(∀j y,ops[j]?=some y->(j<i/\ ¬L j\/i<=j/\L j)->1<aj y->(C (St j).rg↔C (St (j+1)).rg))->(C (St i).rg↔C s.rg):=by
   intro C hC;rw[Da];have go: ∀d lo,lo+d<=ops.length->(∀j,lo<=j->j<lo+d-> ∀y,ops[j]?=some y->1<aj y->(j<i/\ ¬L j\/i<=j/\L j))->(C (St lo).rg↔C (St (lo+d)).rg):=by
    intro d
    induction d with
    |zero=>intro lo _ _;exact Iff.rfl
    |succ d ih=>
     intro lo hl A1;refine(ih lo (by omega) λj h1 h2=>A1 j h1 (by omega)).trans ?_;have iN:ops[lo+d]?=some ops[lo+d]:=zad (by omega);by_cases hy:aj ops[lo+d]<=1
     ·rw[show lo+(d+1)=lo+d+1 by omega,Bl _ _ iN hy]
     exact hC _ _ iN (A1 _ (by omega) (by omega) _ iN (by omega)) (by omega)
   rcases Nat.le_total k i with Ap |Ap
   ·have:=go (i-k) k (by omega) λj h1 h2 y hj hy=> .inl ⟨by omega,λh=>by have:=(tI j y hj hy).2 h;omega⟩;rw[show k+(i-k)=i by omega] at this;exact this.symm
   have:=go (k-i) i (by omega) λj h1 h2 y hj hy=> .inr ⟨h1,(tI j y hj hy).1 (by omega)⟩;rw[show i+(k-i)=k by omega] at this;exact this
  have Dc:(aj o=0\/ ∀g,ay ops o=some g-> ∀x∈o.op.operands.toList,cA s.rg (St i).rg ((St i).eg g x))\/((∃t m k,o.op= .lookup t m k false)/\ ∀g,ay ops o=some g->pv Q ((St i).wr s.rg) o g=pv Q (St i) o g):=by
   by_cases h0:aj o=0
   ·exact .inl (.inl h0)
   cases hg:ay ops o with
   |none=>exact .inl (.inr λg uy=>by cases uy)
   |some g=>
    have p2:=(dw (Q:=Q) (s:=St i) hk hg).2 h0;have H4: ∀R R':List (Nat×En),(∀n∈(aK Q ops (St i) o).ns,lk R' n=lk R n)-> ∀x∈o.op.operands.toList,cA R' R ((St i).eg g x):=λR R' H5 x hx n v hn=>by refine H5 n ?_;rw[p2];exact iS _ _ n v (zba hx) hn
    by_cases gS: ∃t m k,o.op= .lookup t m k false
    ·refine .inr ⟨gS,λg' uy=> ?_⟩;cases uy;have:=chain (C:=λR=>pv Q ((St i).wr R) o g=pv Q (St i) o g) λj y hj hc hy=>by
      have e:pv Q ((St i).wr (St (j+1)).rg) o g=pv Q ((St i).wr (St j).rg) o g:=by
       rcases Aq g hg h0 j y hj hy hc with h3 |h3
       ·exact Ao (s:=(St i).wr (St j).rg) (R:=(St (j+1)).rg) (.inr (H4 _ _ h3))
       exact h3.2 g hg
      rw[e]
     exact this.1 rfl
    refine .inl (.inr λg' uy x hx n v hn=> ?_);cases uy;have kg:n∈(aK Q ops (St i) o).ns:=by rw[p2];exact iS _ _ n v (zba hx) hn
    have:=chain (C:=λR=>lk R n=lk (St i).rg n) λj y hj hc hy=>by
     rcases Aq g hg h0 j y hj hy hc with h3 |h3
     ·rw[h3 n kg]
     exact absurd h3.1 gS
    exact this.1 rfl
  have Dd: ∃c:Option P,aC Q cf ops (St i) o=(c.bind λq=>(St i).put o.dst q)/\aC Q cf ops s o=(c.bind λq=>s.put o.dst q):=by
   rcases Dc with Bm | ⟨gS,yn⟩
   ·exact iy (Q:=Q) (cf:=cf) (ops:=ops) (s:=St i) (s2:=s) (o:=o) hk xt yo Bm
   exact rh (Q:=Q) (cf:=cf) (ops:=ops) (s:=St i) (s2:=s) (o:=o) gS xt yo yn
  obtain⟨c,h1,h2⟩:=Dd;rw[tx.run i o ho] at h1;cases c with
  |none=>cases h1
  |some q=>have h1:(St i).put o.dst q=some (St (i+1)):=h1.symm;obtain⟨s1,nJ⟩:=ri h1 yo;refine⟨s1,by rw[h2];exact nJ,xu s.rg q s1 (c8 h1).2.2.1 nJ ⟨k,Co,Da,λj y hj hy=> ?_⟩⟩;rw[tI j y hj hy];refine⟨.inl,λh=>h.resolve_right λe=> ?_⟩;subst e;rw[ho] at hj;cases hj;omega
 have iz: ∀j y,ops[j]?=some y->1<aj y->(j<i↔L j):=λj y hj hy=>by
  constructor
  ·intro bu;rcases tx.kinds bu hj ho with h |h |h |h
   ·exact nY j h
   ·omega
   ·omega
   exact uG h j y (by omega) hj hy
  intro gI;rcases Nat.lt_trichotomy j i with h |h |h
  ·exact h
  ·exact absurd (h▸gI) eb
  rcases tx.kinds h ho hj with h' |h' |h' |h'
  ·rw[Bj j y hj gI] at h';cases h'
  ·omega
  ·omega
  exact absurd (rV (h'▸gI) i o (by omega) ho (by omega)) eb
 have Ep:s.rg=(St i).rg:=by
  rw[Da];rcases Nat.le_total k i with Ap |Ap
  ·refine(tx.ku i Ap (by omega) (λj y h1 h2 hj=> ?_)).symm;by_cases hy:aj y<=1
   ·exact hy
   have:=(tI j y hj (by omega)).2 ((iz j y hj (by omega)).1 h2);omega
  refine tx.ku k Ap Co (λj y h1 h2 hj=> ?_);by_cases hy:aj y<=1
  ·exact hy
  have:=(iz j y hj (by omega)).2 ((tI j y hj (by omega)).1 h2);omega
 obtain⟨c,h1,h2⟩:=jH (Q:=Q) (cf:=cf) (ops:=ops) (s:=St i) (s2:=s) (o:=o) xt yo Ep;rw[tx.run i o ho] at h1;cases c with
 |none=>cases h1
 |some x=>obtain⟨R,q⟩:=x;have h1:(⟨(St i).n,(St i).tm,R⟩:S).put o.dst q=some (St (i+1)):=h1.symm;obtain⟨s1,nJ⟩:=ri (s2:=⟨s.n,s.tm,R⟩) h1 yo;refine⟨s1,by rw[h2];exact nJ,xu R q s1 (c8 h1).2.2.1 nJ ⟨i+1,by omega,(c8 h1).2.1.symm,λj y hj hy=> ?_⟩⟩;rw[<-iz j y hj hy];omega
theorem Text.last{L:Nat->Prop}{s:S}(hi:Inv ops St L s)(dg: ∀i o,ops[i]?=some o->L i):s.n=(St ops.length).n/\s.rg=(St ops.length).rg/\ ∀t,lk s.tm t=lk (St ops.length).tm t:=by
 obtain⟨n1,n3⟩:=tx.inv ops.length (zaf _);refine⟨by rw[hi.n,n1],?_,λt=> ?_⟩
 ·obtain⟨k,Co,Da,tI⟩:=hi.rg;rw[Da];refine(tx.ku ops.length Co (zaf _) (λj y h1 h2 hj=> ?_)).symm;by_cases hy:aj y<=1
  ·exact hy
  have:=(tI j y hj (by omega)).2 (dg j y hj);omega
 by_cases hex: ∃(k:Nat) (x:Oper),ops[k]?=some x/\x.dst=some t
 ·obtain⟨k,x,hk,hd⟩:=hex;exact hi.FA k x t hk (dg k x hk) hd
 rw[hi.Cn t (λj y hj _ rk=>hex ⟨j,y,hj,rk⟩),n3 t (λj y _ hj rk=>hex ⟨j,y,hj,rk⟩)]
end
end Pi
