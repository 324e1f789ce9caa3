/- The text PiDrawOk. -/
import Derived.Test.YtdgkdigdflkjhaaGreatDoorPiWr
namespace Pi
open Go
theorem fG{α:Type}{f:Nat->α->Bool}: ∀l i0,jB f i0 l=true-> ∀i x,l[i]?=some x->f (i0+i) x=true
 | [],i0,_,i,x,hx=>by simp at hx
 |y::r,i0,h,i,x,hx=>by
  simp only[jB,zac] at h;cases i with
  |zero=>grind
  |succ i=>
   have:=fG r (i0+1) h.2 i x (by grind);have e:i0+1+i=i0+(i+1):=by omega
   rwa [e] at this
theorem gJ{α:Type}{f:Nat->α->Nat->α->Bool}: ∀l i0,ia f i0 l=true-> ∀i j x y,i<j->l[i]?=some x->l[j]?=some y->f (i0+i) x (i0+j) y=true
 | [],i0,_,i,j,x,y,_,hx,_=>by simp at hx
 |z::r,i0,h,i,j,x,y,rY,hx,hy=>by
  simp only[ia,zac] at h;cases j with
  |zero=>omega
  |succ j=>
   have e:i0+1+j=i0+(j+1):=by omega
   cases i with
   |zero=>simp at hx;subst hx;have:=fG r (i0+1) h.1 j y (by grind);rwa [e] at this
   |succ i=>
    have:=gJ r (i0+1) h.2 i j x y (by omega) (by grind) (by grind);have e2:i0+1+i=i0+(i+1):=by omega
    rwa [e,e2] at this
theorem iJ{s s1:S}{dst q}(h:s.put dst q=some s1):s1.n=s.n/\s1.rg=s.rg/\(∀d,dst=some d->lk s1.tm d=some q)/\
  (∀t,dst≠some t->lk s1.tm t=lk s.tm t):=by
 unfold S.put at h;grind [bE,cc]
theorem Ir{s s1 s2:S}{dst q}(h:s.put dst q=some s1)(hn:s2.n=s.n): ∃s3,s2.put dst q=some s3:=by unfold S.put at h⊢;grind
def wb Q ops (s:S) x R R':=
 (∃t m k,x.op= .lookup t m k false)/\ ∀g,br ops x=some g->pv Q (s.wr R') x g=pv Q (s.wr R) x g
structure Text(Q:Program)(cf:CF)(ops:List Oper)(M:List Nat)(St:Nat->S)(m:Nat):Prop where
 fix: ∀i o,ops[i]?=some o->Qd M i o=true
 pair: ∀i j x y,i<j->ops[i]?=some x->ops[j]?=some y->qx m ops M i x j y=true
 run: ∀i o,ops[i]?=some o->bu Q cf ops (St i) o=some (St (i+1))
 info: ∀i j x y,i<j->ops[i]?=some x->ops[j]?=some y->(aB x<=1\/aB y<=1)->Nat.testBit (M.getD j 0) i=false->
  (aB x=0\/aB y=0\/(aB x<=1/\aB y<=1))\/ny (bP Q ops (St i) x) (bP Q ops (St j) y)=true\/
  ((bP Q ops (St i) x).pure=true/\((∀n∈(bP Q ops (St i) x).ns,lk (St (j+1)).rg n=lk (St j).rg n)\/wb Q ops (St i) x (St j).rg (St (j+1)).rg))\/
  ((bP Q ops (St j) y).pure=true/\((∀n∈(bP Q ops (St j) y).ns,lk (St (i+1)).rg n=lk (St i).rg n)\/wb Q ops (St j) y (St i).rg (St (i+1)).rg))
section
variable{Q:Program}{cf:CF}{ops:List Oper}{M:List Nat}{St:Nat->S}{m:Nat}(tx:Text Q cf ops M St m)
include tx
theorem Text.back{i o}(ho:ops[i]?=some o){e}(he:e∈o.after)(hb:Region.binds .any e=true):e.on<i:=by have:=tx.fix i o ho;simp only[Qd,zac] at this;have h:=zbj.1 this.1.2 e (by grind);simp_all
theorem Text.mask{i o}(ho:ops[i]?=some o):M.getD i 0=lB M o.after.toList:=by have:=tx.fix i o ho;simp_all [Qd,zac,zag]
omit tx in
theorem tq(acc:List Nat)(j:Nat): ∀(es:List Edge),Nat.testBit (lB acc es) j=true-> ∃e∈es,Region.binds .any e=true/\(j=e.on\/Nat.testBit (acc.getD e.on 0) j=true)
 | [],h=>by simp[lB] at h
 |e::es,h=>by
  simp only[lB] at h;split at h
  next hb=>
   have h':Nat.testBit ((1<<<e.on |||acc.getD e.on 0)|||lB acc es) j=true:=h;rw[Nat.testBit_or,Nat.testBit_or] at h';simp only[za8] at h';rcases h' with(h' |h')|h'
   ·refine⟨e,by simp,hb,.inl ?_⟩;rw[Nat.testBit_shiftLeft] at h';simp only[zac,zah,ge_iff_le] at h';obtain⟨h1,h2⟩:=h';cases hd:j-e.on with
    |zero=>omega
    |succ n=>rw[hd] at h2;simp[Nat.testBit_succ] at h2
   ·exact⟨e,by simp,hb,.inr h'⟩
   obtain⟨e',cR,h1,h2⟩:=tq acc j es h';exact⟨e',by simp[cR],h1,h2⟩
  obtain⟨e',cR,h1,h2⟩:=tq acc j es h;exact⟨e',by simp[cR],h1,h2⟩
omit tx in
def Is(ops:List Oper)(L:Nat->Prop):Prop:= ∀i o,ops[i]?=some o->L i-> ∀e∈o.after,Region.binds .any e=true->L e.on
theorem Text.sub{L}(hL:Is ops L): ∀i o,ops[i]?=some o->(∀e∈o.after,Region.binds .any e=true->L e.on)-> ∀j,Nat.testBit (M.getD i 0) j=true->L j:=by
 intro i
 induction i using Nat.strongRecOn with
 |ind i ih=>
  intro o ho he j hj;rw[tx.mask ho] at hj;obtain⟨e,hm,hb,h⟩:=tq M j _ hj;have hm:e∈o.after:=by grind
  rcases h with h |h
  ·grind
  have bK:=tx.back ho hm hb;have hlen:i<ops.length:=(zae.1 ho).1;have gK:ops[e.on]?=some ops[e.on]:=zad (by omega);exact ih e.on bK _ gK (hL e.on _ gK (he e hm hb)) j h
theorem Text.lt{i o}(ho:ops[i]?=some o){j}(hj:Nat.testBit (M.getD i 0) j=true):j<i:=
 tx.sub (L:=(· <i)) (λ_ _ hk bK _ he hb=>Nat.lt_trans (tx.back hk he hb) bK) i o ho (λ_ he hb=>tx.back ho he hb) j hj
theorem Text.inj{i j:Nat}{x y}(hx:ops[i]?=some x)(hy:ops[j]?=some y)(cO:i≠j){d:Nat}(hd:x.dst=some d):y.dst≠some d:=by
 intro Iu;have key: ∀{i j:Nat} {x y:Oper},i<j->ops[i]?=some x->ops[j]?=some y->x.dst=some d->y.dst=some d->False:=by intro i j x y rY hx hy hd Iu;have:=tx.pair i j x y rY hx hy;simp[qx,EV,hd,Iu] at this
 grind
theorem Text.rel{i j:Nat}{x y}(hx:ops[i]?=some x)(hy:ops[j]?=some y)(cO:i≠j){d:Nat}(hd:x.dst=some d)(hl:d∈looks ops y):
  (i<j/\Nat.testBit (M.getD j 0) i=true)\/(j<i/\Nat.testBit (M.getD i 0) j=true):=by
 have hm:iw d (looks ops y)=true:=(lb _ _).2 hl;rcases zcw cO with h |h
 ·refine .inl ⟨h,?_⟩;have:=tx.pair i j x y h hx hy;grind [qx,Dg]
 refine .inr ⟨h,?_⟩;have:=tx.pair j i y x h hy hx;grind [qx,Dg]
theorem Text.kinds{i j x y}(rY:i<j)(hx:ops[i]?=some x)(hy:ops[j]?=some y):Nat.testBit (M.getD j 0) i=true\/aB x<=1\/aB y<=1\/j=m:=by have:=tx.pair i j x y rY hx hy;simp only[qx,zac,za8,zcf,Nat.beq_eq] at this;grind
theorem Text.step{i o}(ho:ops[i]?=some o): ∃R q,(⟨(St i).n,(St i).tm,R⟩:S).put o.dst q=some (St (i+1)):=by
 obtain⟨c,h2,_⟩:=tj (Q:=Q) (cf:=cf) (ops:=ops) (s:=St i) (s2:=St i) (o:=o) (λ_ _=>rfl) rfl rfl;rw[tx.run i o ho] at h2;cases c with
 |none=>cases h2
 |some x=>exact⟨x.1,x.2,h2.symm⟩
theorem Text.inv: ∀i,i<=ops.length->(St i).n=(St 0).n/\
  (∀t,(∀k o,k<i->ops[k]?=some o->o.dst≠some t)->lk (St i).tm t=lk (St 0).tm t)
 |0,_=>⟨rfl,λ_ _=>rfl⟩
 |i+1,hi=>by obtain⟨h1,h3⟩:=Text.inv i (by omega);have ho:ops[i]?=some ops[i]:=zad (by omega);obtain⟨R,q,hg⟩:=tx.step ho;obtain⟨g1,g2,g3,g4⟩:=iJ hg;grind
theorem Text.keep{i:Nat}{o}(ho:ops[i]?=some o){t:Nat}(ht:o.dst≠some t):lk (St (i+1)).tm t=lk (St i).tm t:=by obtain⟨R,q,hg⟩:=tx.step ho;exact(iJ hg).2.2.2 t ht
theorem Text.stay{i:Nat}{o}(ho:ops[i]?=some o){t:Nat}(ht:o.dst=some t): ∀k,i<k->k<=ops.length->lk (St k).tm t=lk (St (i+1)).tm t
 |0,hk,_=>by omega
 |k+1,hk,hl=>by
  rcases zc8 hk with h |h
  ·have e:i=k:=by omega
   rw[e]
  have oc:ops[k]?=some ops[k]:=zad (by omega);rw[tx.keep oc (tx.inj ho oc (by omega) ht)];exact Text.stay ho ht k (by omega) (by omega)
theorem Text.qay{n i}: ∀k,i<=k->k<=ops.length->(∀j x,i<=j->j<k->ops[j]?=some x->aB x<=1\/ ¬yK (bP Q ops (St j) x).ws n\/lk (St (j+1)).rg n=lk (St j).rg n)->lk (St k).rg n=lk (St i).rg n
 |0,hk,_,_=>by
      have e:i=0:=by omega
      rw[e]
 |k+1,hk,hl,h=>by
  rcases zc8 hk with he |bK
  ·rw[he]
  have oc:ops[k]?=some ops[k]:=zad (by omega);rw[<-Text.qay k (by omega) (by omega) (λj x h1 h2=>h j x h1 (by omega))];by_cases fU:aB ops[k]<=1
  ·obtain⟨c,h2,_⟩:=qR (Q:=Q) (cf:=cf) (ops:=ops) (s:=St k) (s2:=St k) (o:=ops[k]) fU (λ_ _=>rfl) rfl (.inr λg _ x _ n v _=>rfl);rw[tx.run k _ oc] at h2;cases c with
   |none=>cases h2
   |some q=>rw[(iJ h2.symm).2.1]
  rcases h k _ (by omega) (by omega) oc with h' |h' |h'
  ·grind
  ·exact kQ (by omega) (tx.run k _ oc) h'
  exact h'
theorem Text.uK{i}: ∀k,i<=k->k<=ops.length->(∀j x,i<=j->j<k->ops[j]?=some x->aB x<=1)->(St k).rg=(St i).rg
 |0,hk,_,_=>by
    have e:i=0:=by omega
    rw[e]
 |k+1,hk,hl,h=>by
  rcases zc8 hk with he |bK
  ·rw[he]
  have oc:ops[k]?=some ops[k]:=zad (by omega);rw[<-Text.uK k (by omega) (by omega) (λj x h1 h2=>h j x h1 (by omega))];obtain⟨c,h2,_⟩:=qR (Q:=Q) (cf:=cf) (ops:=ops) (s:=St k) (s2:=St k) (o:=ops[k]) (h k _ (by omega) (by omega) oc) (λ_ _=>rfl) rfl (.inr λg _ x _ n v _=>rfl);rw[tx.run k _ oc] at h2;cases c with
  |none=>cases h2
  |some q=>rw[(iJ h2.symm).2.1]
omit tx in
structure Inv(ops:List Oper)(St:Nat->S)(L:Nat->Prop)(s:S):Prop where
 n:s.n=(St 0).n
 tm1: ∀i o t,ops[i]?=some o->L i->o.dst=some t->lk s.tm t=lk (St ops.length).tm t
 tm2: ∀t,(∀i o,ops[i]?=some o->L i->o.dst≠some t)->lk s.tm t=lk (St 0).tm t
 rg: ∃k,k<=ops.length/\s.rg=(St k).rg/\ ∀i o,ops[i]?=some o->1<aB o->(i<k↔L i)
omit tx in
theorem qnl{ns:List Nat}{W:List Nat×Nat×Nat}(h:NB ns W=true){n:Nat}(hn:n∈ns): ¬yK W n:=by
 unfold NB at h;have:=zbj.1 h n hn;simp only[zac,zbv,Bool.and_eq_false_iff] at this;intro hw;rcases hw with hw |hw
 ·have h1:iw n W.1=true:=(lb _ _).2 hw;rw[h1] at this;simp at this
 rcases this.2 with h2 |h2
 ·have:Nat.ble W.2.1 n=true:=Nat.ble_eq_true_of_le hw.1;rw[this] at h2;cases h2
 have:Nat.blt n W.2.2=true:=by simp[Nat.blt];omega
 rw[this] at h2;cases h2
omit tx in
theorem rB: ∀(ps:List P) (p:P) (n v:Nat),p∈ps->p.name=some (n,v)->n∈rp ps
 | [],p,n,v,h,_=>by simp at h
 |q::r,p,n,v,h,hn=>by
  simp only[rp];rcases zat.1 h with h |h
  ·subst h;rw[hn];simp
  have:=rB r p n v h hn;split
  ·exact zaI _ this
  exact this
omit tx in
theorem jr{s:S}{o:Oper}(hk:aB o<=1){g:Option (Nat×Bool)}(hg:br ops o=some g):(bP Q ops s o).pure=true/\(aB o≠0->(bP Q ops s o).ns=rp (o.op.operands.toList.map (s.eg g))):=by
 unfold bP;rw[hg];simp only[Nat.ble_eq_true_of_le hk,zbo,zcL];intro h0;have:Nat.beq (aB o) 0=false:=by
  cases hb:Nat.beq (aB o) 0 with
  |false=>rfl
  |true=>exact absurd (zag hb) h0
 rw[this];rfl
omit tx in
theorem Ah{s:S}{o:Oper}(hk:1<aB o):(bP Q ops s o).pure=false:=by
 unfold bP;have hb:Nat.ble (aB o) 1=false:=by
  cases hx:Nat.ble (aB o) 1 with
  |false=>rfl
  |true=>rw[zcf] at hx;omega
 split
 ·rfl
 rw[hb];rfl
theorem Text.go{L}(hL:Is ops L){s}(hi:Inv ops St L s){i o}(ho:ops[i]?=some o)(bI: ¬L i)(he: ∀e∈o.after,Region.binds .any e=true->L e.on)
  (Qs:L m-> ∀x p,x<m->ops[x]?=some p->1<aB p->L x) (H6:i=m-> ∀x p,x<m->ops[x]?=some p->1<aB p->L x):
  ∃s1,bu Q cf ops s o=some s1/\Inv ops St (λj=>L j\/j=i) s1:=by
 have bJ:i<ops.length:=(zae.1 ho).1;have iy:=tx.sub hL i o ho he;have qfD: ∀j x,ops[j]?=some x->L j->Nat.testBit (M.getD j 0) i=false:=λj x hx hj=>by
  cases hb:Nat.testBit (M.getD j 0) i with
  |false=>rfl
  |true=>exact absurd (tx.sub hL j x hx (hL j x hx hj) i hb) bI
 obtain⟨n1,n3⟩:=tx.inv i (by omega);have UA: ∀t∈looks ops o,lk s.tm t=lk (St i).tm t:=by
  intro t ht;by_cases hex: ∃(k:Nat) (x:Oper),ops[k]?=some x/\x.dst=some t
  ·obtain⟨k,x,hk,hd⟩:=hex;have wc:k<ops.length:=(zae.1 hk).1;by_cases hki:k=i
   ·subst hki;rw[hi.tm2 t (λj y hj p8 Iv=>by
     by_cases e:j=k
     ·rw[e] at p8;exact bI p8
     exact tx.inj hj hk e Iv hd),n3 t (λj y bK hj Iv=>tx.inj hj hk (by omega) Iv hd)]
   rcases tx.rel hk ho hki hd ht with⟨h1,h2⟩| ⟨h1,h2⟩
   ·rw[hi.tm1 k x t hk (iy k h2) hd,tx.stay hk hd _ wc (zal _),tx.stay hk hd i h1 (by omega)]
   rw[hi.tm2 t (λj y hj p8 Iv=>by
    by_cases e:j=k
    ·subst e;have:=qfD j y hj p8;rw[h2] at this;cases this
    exact tx.inj hj hk e Iv hd),n3 t (λj y bK hj Iv=>tx.inj hj hk (by omega) Iv hd)]
  rw[hi.tm2 t (λj y hj _ Iv=>hex ⟨j,y,hj,Iv⟩),n3 t (λj y _ hj Iv=>hex ⟨j,y,hj,Iv⟩)]
 have hnn:s.n=(St i).n:=by rw[hi.n,n1]
 obtain⟨k,wc,hkr,NJ⟩:=hi.rg;have UB: ∀(R:List (Nat×En)) (q:P) (s1:S),(∀d,o.dst=some d->lk (St (i+1)).tm d=some q)->(⟨s.n,s.tm,R⟩:S).put o.dst q=some s1->
   (∃k,k<=ops.length/\R=(St k).rg/\ ∀j x,ops[j]?=some x->1<aB x->(j<k↔(L j\/j=i)))->Inv ops St (λj=>L j\/j=i) s1:=by
  intro R q s1 hval qiC hrg;obtain⟨g1,g2,g3,g4⟩:=iJ qiC;have keep: ∀t,o.dst≠some t->lk s1.tm t=lk s.tm t:=λt ht=>g4 t ht;refine⟨g1.trans hi.n,λj y t hj p8 hd=> ?_,λt ht=> ?_,?_⟩
  ·rcases p8 with p8 |rfl
   ·have cO:j≠i:=λe=>bI (e▸p8);rw[keep t (tx.inj hj ho cO hd),hi.tm1 j y t hj p8 hd]
   rw[ho] at hj;cases hj;rw[g3 t hd,tx.stay ho hd _ bJ (zal _),hval t hd]
  ·rw[keep t (ht i o ho (.inr rfl)),hi.tm2 t (λj y hj p8=>ht j y hj (.inl p8))]
  rw[g2];exact hrg
 by_cases hk:aB o<=1
 ·
  have qdP: ∀g,br ops o=some g->aB o≠0-> ∀j y,ops[j]?=some y->1<aB y->(j<i/\ ¬L j\/i<=j/\L j)->
    (∀n∈(bP Q ops (St i) o).ns,lk (St (j+1)).rg n=lk (St j).rg n)\/wb Q ops (St i) o (St j).rg (St (j+1)).rg:=by
   intro g hg h0 j y hj hy hc;have p1:=(jr (Q:=Q) (s:=St i) hk hg).1;have byW:ny (bP Q ops (St i) o) (bP Q ops (St j) y)=true\/ny (bP Q ops (St j) y) (bP Q ops (St i) o)=true-> ∀n∈(bP Q ops (St i) o).ns,lk (St (j+1)).rg n=lk (St j).rg n:=by intro h3 n hn;refine kQ (by omega) (tx.run j y hj) ?_;unfold ny at h3;rw[p1,Ah (o:=y) (by omega)] at h3;simp only[zaE,zbn,zbo,or_self] at h3;exact qnl h3 hn
   rcases hc with⟨bK,p8⟩| ⟨hle,p8⟩
   ·have qfE:Nat.testBit (M.getD i 0) j=false:=by
     cases hb:Nat.testBit (M.getD i 0) j with
     |false=>rfl
     |true=>exact absurd (iy j hb) p8
    rcases tx.info j i y o bK hj ho (.inr hk) qfE with h3 |h3 |h3 |h3
    ·omega
    ·exact .inl (byW (.inr h3))
    ·rw[Ah (o:=y) (by omega)] at h3;cases h3.1
    exact h3.2
   have cO:j≠i:=λe=>bI (e▸p8);rcases tx.info i j o y (by omega) ho hj (.inl hk) (qfD j y hj p8) with h3 |h3 |h3 |h3
   ·omega
   ·exact .inl (byW (.inl h3))
   ·exact h3.2
   rw[Ah (o:=y) (by omega)] at h3;cases h3.1
  have qfF: ∀j y,ops[j]?=some y->aB y<=1->(St (j+1)).rg=(St j).rg:=λj y hj hy=>by
   have E9:j<ops.length:=(zae.1 hj).1;exact tx.uK (i:=j) (j+1) (by omega) (by omega) λj' y' h1 h2 NU=>by
    have:j'=j:=by omega
    subst this;rw[hj] at NU;cases NU;exact hy
  have chain: ∀{C:List (Nat×En)->Prop},(∀j y,ops[j]?=some y->(j<i/\ ¬L j\/i<=j/\L j)->1<aB y->(C (St j).rg↔C (St (j+1)).rg))->(C (St i).rg↔C s.rg):=by
   intro C hC;rw[hkr];have go: ∀d lo,lo+d<=ops.length->(∀j,lo<=j->j<lo+d-> ∀y,ops[j]?=some y->1<aB y->(j<i/\ ¬L j\/i<=j/\L j))->(C (St lo).rg↔C (St (lo+d)).rg):=by
    intro d
    induction d with
    |zero=>intro lo _ _;exact Iff.rfl
    |succ d ih=>
     intro lo hl bs;refine(ih lo (by omega) λj h1 h2=>bs j h1 (by omega)).trans ?_;have oc:ops[lo+d]?=some ops[lo+d]:=zad (by omega);by_cases hy:aB ops[lo+d]<=1
     ·rw[show lo+(d+1)=lo+d+1 by omega,qfF _ _ oc hy]
     exact hC _ _ oc (bs _ (by omega) (by omega) _ oc (by omega)) (by omega)
   rcases Nat.le_total k i with hki |hki
   ·have:=go (i-k) k (by omega) λj h1 h2 y hj hy=> .inl ⟨by omega,λh=>by have:=(NJ j y hj hy).2 h;omega⟩;rw[show k+(i-k)=i by omega] at this;exact this.symm
   have:=go (k-i) i (by omega) λj h1 h2 y hj hy=> .inr ⟨h1,(NJ j y hj hy).1 (by omega)⟩;rw[show i+(k-i)=k by omega] at this;exact this
  have qiD:(aB o=0\/ ∀g,br ops o=some g-> ∀x∈o.op.operands.toList,gg s.rg (St i).rg ((St i).eg g x))\/((∃t m k,o.op= .lookup t m k false)/\ ∀g,br ops o=some g->pv Q ((St i).wr s.rg) o g=pv Q (St i) o g):=by
   by_cases h0:aB o=0
   ·exact .inl (.inl h0)
   cases hg:br ops o with
   |none=>exact .inl (.inr λg KQ=>by cases KQ)
   |some g=>
    have p2:=(jr (Q:=Q) (s:=St i) hk hg).2 h0;have agr: ∀R R':List (Nat×En),(∀n∈(bP Q ops (St i) o).ns,lk R' n=lk R n)-> ∀x∈o.op.operands.toList,gg R' R ((St i).eg g x):=λR R' hRR x hx n v hn=>by refine hRR n ?_;rw[p2];exact rB _ _ n v (zaU hx) hn
    by_cases qk: ∃t m k,o.op= .lookup t m k false
    ·refine .inr ⟨qk,λg' KQ=> ?_⟩;cases KQ;have:=chain (C:=λR=>pv Q ((St i).wr R) o g=pv Q (St i) o g) λj y hj hc hy=>by
      have e:pv Q ((St i).wr (St (j+1)).rg) o g=pv Q ((St i).wr (St j).rg) o g:=by
       rcases qdP g hg h0 j y hj hy hc with h3 |h3
       ·exact qdO (s:=(St i).wr (St j).rg) (R:=(St (j+1)).rg) (.inr (agr _ _ h3))
       exact h3.2 g hg
      rw[e]
     exact this.1 rfl
    refine .inl (.inr λg' KQ x hx n v hn=> ?_);cases KQ;have dB:n∈(bP Q ops (St i) o).ns:=by rw[p2];exact rB _ _ n v (zaU hx) hn
    have:=chain (C:=λR=>lk R n=lk (St i).rg n) λj y hj hc hy=>by
     rcases qdP g hg h0 j y hj hy hc with h3 |h3
     ·rw[h3 n dB]
     exact absurd h3.1 qk
    exact this.1 rfl
  have qiE: ∃c:Option P,bu Q cf ops (St i) o=(c.bind λq=>(St i).put o.dst q)/\bu Q cf ops s o=(c.bind λq=>s.put o.dst q):=by
   rcases qiD with qfG | ⟨qk,hpv⟩
   ·exact qR (Q:=Q) (cf:=cf) (ops:=ops) (s:=St i) (s2:=s) (o:=o) hk UA hnn qfG
   exact Iq (Q:=Q) (cf:=cf) (ops:=ops) (s:=St i) (s2:=s) (o:=o) qk UA hnn hpv
  obtain⟨c,h1,h2⟩:=qiE;rw[tx.run i o ho] at h1;cases c with
  |none=>cases h1
  |some q=>have h1:(St i).put o.dst q=some (St (i+1)):=h1.symm;obtain⟨s1,s9⟩:=Ir h1 hnn;refine⟨s1,by rw[h2];exact s9,UB s.rg q s1 (iJ h1).2.2.1 s9 ⟨k,wc,hkr,λj y hj hy=> ?_⟩⟩;rw[NJ j y hj hy];refine⟨.inl,λh=>h.resolve_right λe=> ?_⟩;subst e;rw[ho] at hj;cases hj;omega
 have lS: ∀j y,ops[j]?=some y->1<aB y->(j<i↔L j):=λj y hj hy=>by
  constructor
  ·intro bK;rcases tx.kinds bK hj ho with h |h |h |h
   ·exact iy j h
   ·omega
   ·omega
   exact H6 h j y (by omega) hj hy
  intro p8;rcases zdi j i with h |h |h
  ·exact h
  ·exact absurd (h▸p8) bI
  rcases tx.kinds h ho hj with h' |h' |h' |h'
  ·rw[qfD j y hj p8] at h';cases h'
  ·omega
  ·omega
  exact absurd (Qs (h'▸p8) i o (by omega) ho (by omega)) bI
 have hrg:s.rg=(St i).rg:=by
  rw[hkr];rcases Nat.le_total k i with hki |hki
  ·refine(tx.uK i hki (by omega) (λj y h1 h2 hj=> ?_)).symm;by_cases hy:aB y<=1
   ·exact hy
   have:=(NJ j y hj (by omega)).2 ((lS j y hj (by omega)).1 h2);omega
  refine tx.uK k hki wc (λj y h1 h2 hj=> ?_);by_cases hy:aB y<=1
  ·exact hy
  have:=(lS j y hj (by omega)).2 ((NJ j y hj (by omega)).1 h2);omega
 obtain⟨c,h1,h2⟩:=tj (Q:=Q) (cf:=cf) (ops:=ops) (s:=St i) (s2:=s) (o:=o) UA hnn hrg;rw[tx.run i o ho] at h1;cases c with
 |none=>cases h1
 |some x=>obtain⟨R,q⟩:=x;have h1:(⟨(St i).n,(St i).tm,R⟩:S).put o.dst q=some (St (i+1)):=h1.symm;obtain⟨s1,s9⟩:=Ir (s2:=⟨s.n,s.tm,R⟩) h1 hnn;refine⟨s1,by rw[h2];exact s9,UB R q s1 (iJ h1).2.2.1 s9 ⟨i+1,by omega,(iJ h1).2.1.symm,λj y hj hy=> ?_⟩⟩;rw[<-lS j y hj hy];omega
theorem Text.last{L s}(hi:Inv ops St L s)(ix: ∀i o,ops[i]?=some o->L i):s.n=(St ops.length).n/\s.rg=(St ops.length).rg/\ ∀t,lk s.tm t=lk (St ops.length).tm t:=by
 obtain⟨n1,n3⟩:=tx.inv ops.length (zal _);refine⟨by rw[hi.n,n1],?_,λt=> ?_⟩
 ·obtain⟨k,wc,hkr,NJ⟩:=hi.rg;rw[hkr];refine(tx.uK ops.length wc (zal _) (λj y h1 h2 hj=> ?_)).symm;by_cases hy:aB y<=1
  ·exact hy
  have:=(NJ j y hj (by omega)).2 (ix j y hj);omega
 by_cases hex: ∃(k:Nat) (x:Oper),ops[k]?=some x/\x.dst=some t
 ·obtain⟨k,x,hk,hd⟩:=hex;exact hi.tm1 k x t hk (ix k x hk) hd
 rw[hi.tm2 t (λj y hj _ Iv=>hex ⟨j,y,hj,Iv⟩),n3 t (λj y _ hj Iv=>hex ⟨j,y,hj,Iv⟩)]
end
end Pi
