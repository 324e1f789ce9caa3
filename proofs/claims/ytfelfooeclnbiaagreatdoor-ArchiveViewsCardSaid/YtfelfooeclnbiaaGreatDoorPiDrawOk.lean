/- The text PiDrawOk. -/
import Derived.Test.YtfelfooeclnbiaaGreatDoorPiWr
namespace Pi
open Go
theorem fm{α:Type}{f:Nat->α->Bool}: ∀(l:List α) (i0:Nat),iX f i0 l=true-> ∀i x,l[i]?=some x->f (i0+i) x=true
 | [],i0,_,i,x,hx=>by simp at hx
 |y::r,i0,h,i,x,hx=>by
  simp only[iX,zad] at h;cases i with
  |zero=>grind
  |succ i=>
   have:=fm r (i0+1) h.2 i x (by grind);have e:i0+1+i=i0+(i+1):=by omega
   rwa [e] at this
theorem gg{α:Type}{f:Nat->α->Nat->α->Bool}: ∀(l:List α) (i0:Nat),gI f i0 l=true-> ∀i j x y,i<j->l[i]?=some x->l[j]?=some y->f (i0+i) x (i0+j) y=true
 | [],i0,_,i,j,x,y,_,hx,_=>by simp at hx
 |z::r,i0,h,i,j,x,y,sF,hx,hy=>by
  simp only[gI,zad] at h;cases j with
  |zero=>omega
  |succ j=>
   have e:i0+1+j=i0+(j+1):=by omega
   cases i with
   |zero=>simp at hx;subst hx;have:=fm r (i0+1) h.1 j y (by grind);rwa [e] at this
   |succ i=>
    have:=gg r (i0+1) h.2 i j x y (by omega) (by grind) (by grind);have e2:i0+1+i=i0+(i+1):=by omega
    rwa [e,e2] at this
theorem gZ{s s1:S}{dst:Option Nat}{q:P}(h:s.put dst q=some s1):s1.n=s.n/\s1.rg=s.rg/\(∀d,dst=some d->lk s1.tm d=some q)/\
  (∀t,dst≠some t->lk s1.tm t=lk s.tm t):=by
 unfold S.put at h;grind [bp,bT]
theorem EV{s s1 s2:S}{dst:Option Nat}{q:P}(h:s.put dst q=some s1)(hn:s2.n=s.n): ∃s3,s2.put dst q=some s3:=by unfold S.put at h⊢;grind
def uo(Q:Program)(ops:List Oper)(s:S)(x:Oper)(R R':List (Nat×En)):Prop:=
 (∃t m k,x.op= .lookup t m k false)/\ ∀g,bf ops x=some g->pv Q (s.wr R') x g=pv Q (s.wr R) x g
structure Text(Q:Program)(cf:CF)(ops:List Oper)(M:List Nat)(St:Nat->S)(m:Nat):Prop where
 fix: ∀i o,ops[i]?=some o->L1 M i o=true
 pair: ∀i j x y,i<j->ops[i]?=some x->ops[j]?=some y->o9 m ops M i x j y=true
 run: ∀i o,ops[i]?=some o->bj Q cf ops (St i) o=some (St (i+1))
 info: ∀i j x y,i<j->ops[i]?=some x->ops[j]?=some y->(aA x<=1\/aA y<=1)->Nat.testBit (M.getD j 0) i=false->
  (aA x=0\/aA y=0\/(aA x<=1/\aA y<=1))\/lY (bA Q ops (St i) x) (bA Q ops (St j) y)=true\/
  ((bA Q ops (St i) x).pure=true/\((∀n∈(bA Q ops (St i) x).ns,lk (St (j+1)).rg n=lk (St j).rg n)\/uo Q ops (St i) x (St j).rg (St (j+1)).rg))\/
  ((bA Q ops (St j) y).pure=true/\((∀n∈(bA Q ops (St j) y).ns,lk (St (i+1)).rg n=lk (St i).rg n)\/uo Q ops (St j) y (St i).rg (St (i+1)).rg))
section
variable{Q:Program}{cf:CF}{ops:List Oper}{M:List Nat}{St:Nat->S}{m:Nat}(tx:Text Q cf ops M St m)
include tx
theorem Text.back{i:Nat}{o:Oper}(ho:ops[i]?=some o){e:Edge}(he:e∈o.after)(hb:Region.binds .any e=true):e.on<i:=by have:=tx.fix i o ho;simp only[L1,zad] at this;have h:=zaZ.1 this.1.2 e (by grind);simp_all
theorem Text.mask{i:Nat}{o:Oper}(ho:ops[i]?=some o):M.getD i 0=kG M o.after.toList:=by have:=tx.fix i o ho;simp_all [L1,zad,zah]
omit tx in
theorem rn(acc:List Nat)(j:Nat): ∀(es:List Edge),Nat.testBit (kG acc es) j=true-> ∃e∈es,Region.binds .any e=true/\(j=e.on\/Nat.testBit (acc.getD e.on 0) j=true)
 | [],h=>by simp[kG] at h
 |e::es,h=>by
  simp only[kG] at h;split at h
  next hb=>
   have h':Nat.testBit ((1<<<e.on |||acc.getD e.on 0)|||kG acc es) j=true:=h;rw[Nat.testBit_or,Nat.testBit_or] at h';simp only[za1] at h';rcases h' with(h' |h')|h'
   ·refine⟨e,by simp,hb,.inl ?_⟩;rw[Nat.testBit_shiftLeft] at h';simp only[zad,zal,ge_iff_le] at h';obtain⟨h1,h2⟩:=h';cases hd:j-e.on with
    |zero=>omega
    |succ n=>rw[hd] at h2;simp[Nat.testBit_succ] at h2
   ·exact⟨e,by simp,hb,.inr h'⟩
   obtain⟨e',cx,h1,h2⟩:=rn acc j es h';exact⟨e',by simp[cx],h1,h2⟩
  obtain⟨e',cx,h1,h2⟩:=rn acc j es h;exact⟨e',by simp[cx],h1,h2⟩
omit tx in
def EW(ops:List Oper)(L:Nat->Prop):Prop:= ∀i o,ops[i]?=some o->L i-> ∀e∈o.after,Region.binds .any e=true->L e.on
theorem Text.sub{L:Nat->Prop}(hL:EW ops L): ∀(i:Nat) (o:Oper),ops[i]?=some o->(∀e∈o.after,Region.binds .any e=true->L e.on)-> ∀j,Nat.testBit (M.getD i 0) j=true->L j:=by
 intro i
 induction i using Nat.strongRecOn with
 |ind i ih=>
  intro o ho he j hj;rw[tx.mask ho] at hj;obtain⟨e,hm,hb,h⟩:=rn M j _ hj;have hm:e∈o.after:=by grind
  rcases h with h |h
  ·grind
  have bz:=tx.back ho hm hb;have hlen:i<ops.length:=(zae.1 ho).1;have fA:ops[e.on]?=some ops[e.on]:=zac (by omega);exact ih e.on bz _ fA (hL e.on _ fA (he e hm hb)) j h
theorem Text.lt{i:Nat}{o:Oper}(ho:ops[i]?=some o){j:Nat}(hj:Nat.testBit (M.getD i 0) j=true):j<i:=
 tx.sub (L:=(· <i)) (λ_ _ hk bz _ he hb=>Nat.lt_trans (tx.back hk he hb) bz) i o ho (λ_ he hb=>tx.back ho he hb) j hj
theorem Text.inj{i j:Nat}{x y:Oper}(hx:ops[i]?=some x)(hy:ops[j]?=some y)(cU:i≠j){d:Nat}(hd:x.dst=some d):y.dst≠some d:=by
 intro Ws;have key: ∀{i j:Nat} {x y:Oper},i<j->ops[i]?=some x->ops[j]?=some y->x.dst=some d->y.dst=some d->False:=by intro i j x y sF hx hy hd Ws;have:=tx.pair i j x y sF hx hy;simp[o9,BZ,hd,Ws] at this
 grind
theorem Text.rel{i j:Nat}{x y:Oper}(hx:ops[i]?=some x)(hy:ops[j]?=some y)(cU:i≠j){d:Nat}(hd:x.dst=some d)(hl:d∈looks ops y):
  (i<j/\Nat.testBit (M.getD j 0) i=true)\/(j<i/\Nat.testBit (M.getD i 0) j=true):=by
 have hm:jE d (looks ops y)=true:=(kr _ _).2 hl;rcases zcq cU with h |h
 ·refine .inl ⟨h,?_⟩;have:=tx.pair i j x y h hx hy;grind [o9,As]
 refine .inr ⟨h,?_⟩;have:=tx.pair j i y x h hy hx;grind [o9,As]
theorem Text.kinds{i j:Nat}{x y:Oper}(sF:i<j)(hx:ops[i]?=some x)(hy:ops[j]?=some y):Nat.testBit (M.getD j 0) i=true\/aA x<=1\/aA y<=1\/j=m:=by have:=tx.pair i j x y sF hx hy;simp only[o9,zad,za1,zb7,Nat.beq_eq] at this;grind
theorem Text.step{i:Nat}{o:Oper}(ho:ops[i]?=some o): ∃R q,(⟨(St i).n,(St i).tm,R⟩:S).put o.dst q=some (St (i+1)):=by
 obtain⟨c,h2,_⟩:=rm (Q:=Q) (cf:=cf) (ops:=ops) (s:=St i) (s2:=St i) (o:=o) (λ_ _=>rfl) rfl rfl;rw[tx.run i o ho] at h2;cases c with
 |none=>cases h2
 |some x=>exact⟨x.1,x.2,h2.symm⟩
theorem Text.inv: ∀(i:Nat),i<=ops.length->(St i).n=(St 0).n/\
  (∀t,(∀k o,k<i->ops[k]?=some o->o.dst≠some t)->lk (St i).tm t=lk (St 0).tm t)
 |0,_=>⟨rfl,λ_ _=>rfl⟩
 |i+1,hi=>by obtain⟨h1,h3⟩:=Text.inv i (by omega);have ho:ops[i]?=some ops[i]:=zac (by omega);obtain⟨R,q,hg⟩:=tx.step ho;obtain⟨g1,g2,g3,g4⟩:=gZ hg;grind
theorem Text.keep{i:Nat}{o:Oper}(ho:ops[i]?=some o){t:Nat}(ht:o.dst≠some t):lk (St (i+1)).tm t=lk (St i).tm t:=by obtain⟨R,q,hg⟩:=tx.step ho;exact(gZ hg).2.2.2 t ht
theorem Text.stay{i:Nat}{o:Oper}(ho:ops[i]?=some o){t:Nat}(ht:o.dst=some t): ∀k,i<k->k<=ops.length->lk (St k).tm t=lk (St (i+1)).tm t
 |0,hk,_=>by omega
 |k+1,hk,hl=>by
  rcases zcU hk with h |h
  ·have e:i=k:=by omega
   rw[e]
  have nx:ops[k]?=some ops[k]:=zac (by omega);rw[tx.keep nx (tx.inj ho nx (by omega) ht)];exact Text.stay ho ht k (by omega) (by omega)
theorem Text.Wt{n:Nat}{i:Nat}: ∀(k:Nat),i<=k->k<=ops.length->(∀j x,i<=j->j<k->ops[j]?=some x->aA x<=1\/ ¬wJ (bA Q ops (St j) x).ws n\/lk (St (j+1)).rg n=lk (St j).rg n)->lk (St k).rg n=lk (St i).rg n
 |0,hk,_,_=>by
      have e:i=0:=by omega
      rw[e]
 |k+1,hk,hl,h=>by
  rcases zcU hk with he |bz
  ·rw[he]
  have nx:ops[k]?=some ops[k]:=zac (by omega);rw[<-Text.Wt k (by omega) (by omega) (λj x h1 h2=>h j x h1 (by omega))];by_cases gJ:aA ops[k]<=1
  ·obtain⟨c,h2,_⟩:=pG (Q:=Q) (cf:=cf) (ops:=ops) (s:=St k) (s2:=St k) (o:=ops[k]) gJ (λ_ _=>rfl) rfl (.inr λg _ x _ n v _=>rfl);rw[tx.run k _ nx] at h2;cases c with
   |none=>cases h2
   |some q=>rw[(gZ h2.symm).2.1]
  rcases h k _ (by omega) (by omega) nx with h' |h' |h'
  ·grind
  ·exact jZ (by omega) (tx.run k _ nx) h'
  exact h'
theorem Text.sM{i:Nat}: ∀(k:Nat),i<=k->k<=ops.length->(∀j x,i<=j->j<k->ops[j]?=some x->aA x<=1)->(St k).rg=(St i).rg
 |0,hk,_,_=>by
    have e:i=0:=by omega
    rw[e]
 |k+1,hk,hl,h=>by
  rcases zcU hk with he |bz
  ·rw[he]
  have nx:ops[k]?=some ops[k]:=zac (by omega);rw[<-Text.sM k (by omega) (by omega) (λj x h1 h2=>h j x h1 (by omega))];obtain⟨c,h2,_⟩:=pG (Q:=Q) (cf:=cf) (ops:=ops) (s:=St k) (s2:=St k) (o:=ops[k]) (h k _ (by omega) (by omega) nx) (λ_ _=>rfl) rfl (.inr λg _ x _ n v _=>rfl);rw[tx.run k _ nx] at h2;cases c with
  |none=>cases h2
  |some q=>rw[(gZ h2.symm).2.1]
omit tx in
structure Inv(ops:List Oper)(St:Nat->S)(L:Nat->Prop)(s:S):Prop where
 n:s.n=(St 0).n
 tm1: ∀i o t,ops[i]?=some o->L i->o.dst=some t->lk s.tm t=lk (St ops.length).tm t
 tm2: ∀t,(∀i o,ops[i]?=some o->L i->o.dst≠some t)->lk s.tm t=lk (St 0).tm t
 rg: ∃k,k<=ops.length/\s.rg=(St k).rg/\ ∀i o,ops[i]?=some o->1<aA o->(i<k↔L i)
omit tx in
theorem qhM{ns:List Nat}{W:List Nat×Nat×Nat}(h:J9 ns W=true){n:Nat}(hn:n∈ns): ¬wJ W n:=by
 unfold J9 at h;have:=zaZ.1 h n hn;simp only[zad,zbA,Bool.and_eq_false_iff] at this;intro hw;rcases hw with hw |hw
 ·have h1:jE n W.1=true:=(kr _ _).2 hw;rw[h1] at this;simp at this
 rcases this.2 with h2 |h2
 ·have:Nat.ble W.2.1 n=true:=Nat.ble_eq_true_of_le hw.1;rw[this] at h2;cases h2
 have:Nat.blt n W.2.2=true:=by simp[Nat.blt];omega
 rw[this] at h2;cases h2
omit tx in
theorem p9: ∀(ps:List P) (p:P) (n v:Nat),p∈ps->p.name=some (n,v)->n∈pZ ps
 | [],p,n,v,h,_=>by simp at h
 |q::r,p,n,v,h,hn=>by
  simp only[pZ];rcases zas.1 h with h |h
  ·subst h;rw[hn];simp
  have:=p9 r p n v h hn;split
  ·exact zaH _ this
  exact this
omit tx in
theorem iJ{s:S}{o:Oper}(hk:aA o<=1){g:Option (Nat×Bool)}(hg:bf ops o=some g):(bA Q ops s o).pure=true/\(aA o≠0->(bA Q ops s o).ns=pZ (o.op.operands.toList.map (s.eg g))):=by
 unfold bA;rw[hg];simp only[Nat.ble_eq_true_of_le hk,zbg,zcM];intro h0;have:Nat.beq (aA o) 0=false:=by
  cases hb:Nat.beq (aA o) 0 with
  |false=>rfl
  |true=>exact absurd (zah hb) h0
 rw[this];rfl
omit tx in
theorem xN{s:S}{o:Oper}(hk:1<aA o):(bA Q ops s o).pure=false:=by
 unfold bA;have hb:Nat.ble (aA o) 1=false:=by
  cases hx:Nat.ble (aA o) 1 with
  |false=>rfl
  |true=>rw[zb7] at hx;omega
 split
 ·rfl
 rw[hb];rfl
theorem Text.go{L:Nat->Prop}(hL:EW ops L){s:S}(hi:Inv ops St L s){i:Nat}{o:Oper}(ho:ops[i]?=some o)(bk: ¬L i)(he: ∀e∈o.after,Region.binds .any e=true->L e.on)
  (Mf:L m-> ∀x p,x<m->ops[x]?=some p->1<aA p->L x) (Ch:i=m-> ∀x p,x<m->ops[x]?=some p->1<aA p->L x):
  ∃s1,bj Q cf ops s o=some s1/\Inv ops St (λj=>L j\/j=i) s1:=by
 have cj:i<ops.length:=(zae.1 ho).1;have jJ:=tx.sub hL i o ho he;have qbY: ∀j x,ops[j]?=some x->L j->Nat.testBit (M.getD j 0) i=false:=λj x hx hj=>by
  cases hb:Nat.testBit (M.getD j 0) i with
  |false=>rfl
  |true=>exact absurd (tx.sub hL j x hx (hL j x hx hj) i hb) bk
 obtain⟨n1,n3⟩:=tx.inv i (by omega);have Qd: ∀t∈looks ops o,lk s.tm t=lk (St i).tm t:=by
  intro t ht;by_cases hex: ∃(k:Nat) (x:Oper),ops[k]?=some x/\x.dst=some t
  ·obtain⟨k,x,hk,hd⟩:=hex;have r4:k<ops.length:=(zae.1 hk).1;by_cases hki:k=i
   ·subst hki;rw[hi.tm2 t (λj y hj oL EX=>by
     by_cases e:j=k
     ·rw[e] at oL;exact bk oL
     exact tx.inj hj hk e EX hd),n3 t (λj y bz hj EX=>tx.inj hj hk (by omega) EX hd)]
   rcases tx.rel hk ho hki hd ht with⟨h1,h2⟩| ⟨h1,h2⟩
   ·rw[hi.tm1 k x t hk (jJ k h2) hd,tx.stay hk hd _ r4 (zai _),tx.stay hk hd i h1 (by omega)]
   rw[hi.tm2 t (λj y hj oL EX=>by
    by_cases e:j=k
    ·subst e;have:=qbY j y hj oL;rw[h2] at this;cases this
    exact tx.inj hj hk e EX hd),n3 t (λj y bz hj EX=>tx.inj hj hk (by omega) EX hd)]
  rw[hi.tm2 t (λj y hj _ EX=>hex ⟨j,y,hj,EX⟩),n3 t (λj y _ hj EX=>hex ⟨j,y,hj,EX⟩)]
 have Vs:s.n=(St i).n:=by rw[hi.n,n1]
 obtain⟨k,r4,hkr,Kg⟩:=hi.rg;have Qe: ∀(R:List (Nat×En)) (q:P) (s1:S),(∀d,o.dst=some d->lk (St (i+1)).tm d=some q)->(⟨s.n,s.tm,R⟩:S).put o.dst q=some s1->
   (∃k,k<=ops.length/\R=(St k).rg/\ ∀j x,ops[j]?=some x->1<aA x->(j<k↔(L j\/j=i)))->Inv ops St (λj=>L j\/j=i) s1:=by
  intro R q s1 hval qfq hrg;obtain⟨g1,g2,g3,g4⟩:=gZ qfq;have keep: ∀t,o.dst≠some t->lk s1.tm t=lk s.tm t:=λt ht=>g4 t ht;refine⟨g1.trans hi.n,λj y t hj oL hd=> ?_,λt ht=> ?_,?_⟩
  ·rcases oL with oL |rfl
   ·have cU:j≠i:=λe=>bk (e▸oL);rw[keep t (tx.inj hj ho cU hd),hi.tm1 j y t hj oL hd]
   rw[ho] at hj;cases hj;rw[g3 t hd,tx.stay ho hd _ cj (zai _),hval t hd]
  ·rw[keep t (ht i o ho (.inr rfl)),hi.tm2 t (λj y hj oL=>ht j y hj (.inl oL))]
  rw[g2];exact hrg
 by_cases hk:aA o<=1
 ·
  have qaX: ∀g,bf ops o=some g->aA o≠0-> ∀j y,ops[j]?=some y->1<aA y->(j<i/\ ¬L j\/i<=j/\L j)->
    (∀n∈(bA Q ops (St i) o).ns,lk (St (j+1)).rg n=lk (St j).rg n)\/uo Q ops (St i) o (St j).rg (St (j+1)).rg:=by
   intro g hg h0 j y hj hy hc;have p1:=(iJ (Q:=Q) (s:=St i) hk hg).1;have byW:lY (bA Q ops (St i) o) (bA Q ops (St j) y)=true\/lY (bA Q ops (St j) y) (bA Q ops (St i) o)=true-> ∀n∈(bA Q ops (St i) o).ns,lk (St (j+1)).rg n=lk (St j).rg n:=by intro h3 n hn;refine jZ (by omega) (tx.run j y hj) ?_;unfold lY at h3;rw[p1,xN (o:=y) (by omega)] at h3;simp only[zaC,zbq,zbg,or_self] at h3;exact qhM h3 hn
   rcases hc with⟨bz,oL⟩| ⟨hle,oL⟩
   ·have qbZ:Nat.testBit (M.getD i 0) j=false:=by
     cases hb:Nat.testBit (M.getD i 0) j with
     |false=>rfl
     |true=>exact absurd (jJ j hb) oL
    rcases tx.info j i y o bz hj ho (.inr hk) qbZ with h3 |h3 |h3 |h3
    ·omega
    ·exact .inl (byW (.inr h3))
    ·rw[xN (o:=y) (by omega)] at h3;cases h3.1
    exact h3.2
   have cU:j≠i:=λe=>bk (e▸oL);rcases tx.info i j o y (by omega) ho hj (.inl hk) (qbY j y hj oL) with h3 |h3 |h3 |h3
   ·omega
   ·exact .inl (byW (.inl h3))
   ·exact h3.2
   rw[xN (o:=y) (by omega)] at h3;cases h3.1
  have qb0: ∀j y,ops[j]?=some y->aA y<=1->(St (j+1)).rg=(St j).rg:=λj y hj hy=>by
   have Ez:j<ops.length:=(zae.1 hj).1;exact tx.sM (i:=j) (j+1) (by omega) (by omega) λj' y' h1 h2 AQ=>by
    have:j'=j:=by omega
    subst this;rw[hj] at AQ;cases AQ;exact hy
  have chain: ∀{C:List (Nat×En)->Prop},(∀j y,ops[j]?=some y->(j<i/\ ¬L j\/i<=j/\L j)->1<aA y->(C (St j).rg↔C (St (j+1)).rg))->(C (St i).rg↔C s.rg):=by
   intro C hC;rw[hkr];have go: ∀d lo,lo+d<=ops.length->(∀j,lo<=j->j<lo+d-> ∀y,ops[j]?=some y->1<aA y->(j<i/\ ¬L j\/i<=j/\L j))->(C (St lo).rg↔C (St (lo+d)).rg):=by
    intro d
    induction d with
    |zero=>intro lo _ _;exact Iff.rfl
    |succ d ih=>
     intro lo hl bK;refine(ih lo (by omega) λj h1 h2=>bK j h1 (by omega)).trans ?_;have nx:ops[lo+d]?=some ops[lo+d]:=zac (by omega);by_cases hy:aA ops[lo+d]<=1
     ·rw[show lo+(d+1)=lo+d+1 by omega,qb0 _ _ nx hy]
     exact hC _ _ nx (bK _ (by omega) (by omega) _ nx (by omega)) (by omega)
   rcases Nat.le_total k i with hki |hki
   ·have:=go (i-k) k (by omega) λj h1 h2 y hj hy=> .inl ⟨by omega,λh=>by have:=(Kg j y hj hy).2 h;omega⟩;rw[show k+(i-k)=i by omega] at this;exact this.symm
   have:=go (k-i) i (by omega) λj h1 h2 y hj hy=> .inr ⟨h1,(Kg j y hj hy).1 (by omega)⟩;rw[show i+(k-i)=k by omega] at this;exact this
  have qfr:(aA o=0\/ ∀g,bf ops o=some g-> ∀x∈o.op.operands.toList,fQ s.rg (St i).rg ((St i).eg g x))\/((∃t m k,o.op= .lookup t m k false)/\ ∀g,bf ops o=some g->pv Q ((St i).wr s.rg) o g=pv Q (St i) o g):=by
   by_cases h0:aA o=0
   ·exact .inl (.inl h0)
   cases hg:bf ops o with
   |none=>exact .inl (.inr λg AJ=>by cases AJ)
   |some g=>
    have p2:=(iJ (Q:=Q) (s:=St i) hk hg).2 h0;have agr: ∀R R':List (Nat×En),(∀n∈(bA Q ops (St i) o).ns,lk R' n=lk R n)-> ∀x∈o.op.operands.toList,fQ R' R ((St i).eg g x):=λR R' hRR x hx n v hn=>by refine hRR n ?_;rw[p2];exact p9 _ _ n v (zbt hx) hn
    by_cases oU: ∃t m k,o.op= .lookup t m k false
    ·refine .inr ⟨oU,λg' AJ=> ?_⟩;cases AJ;have:=chain (C:=λR=>pv Q ((St i).wr R) o g=pv Q (St i) o g) λj y hj hc hy=>by
      have e:pv Q ((St i).wr (St (j+1)).rg) o g=pv Q ((St i).wr (St j).rg) o g:=by
       rcases qaX g hg h0 j y hj hy hc with h3 |h3
       ·exact qaW (s:=(St i).wr (St j).rg) (R:=(St (j+1)).rg) (.inr (agr _ _ h3))
       exact h3.2 g hg
      rw[e]
     exact this.1 rfl
    refine .inl (.inr λg' AJ x hx n v hn=> ?_);cases AJ;have b9:n∈(bA Q ops (St i) o).ns:=by rw[p2];exact p9 _ _ n v (zbt hx) hn
    have:=chain (C:=λR=>lk R n=lk (St i).rg n) λj y hj hc hy=>by
     rcases qaX g hg h0 j y hj hy hc with h3 |h3
     ·rw[h3 n b9]
     exact absurd h3.1 oU
    exact this.1 rfl
  have qfs: ∃c:Option P,bj Q cf ops (St i) o=(c.bind λq=>(St i).put o.dst q)/\bj Q cf ops s o=(c.bind λq=>s.put o.dst q):=by
   rcases qfr with qb1 | ⟨oU,Vr⟩
   ·exact pG (Q:=Q) (cf:=cf) (ops:=ops) (s:=St i) (s2:=s) (o:=o) hk Qd Vs qb1
   exact EU (Q:=Q) (cf:=cf) (ops:=ops) (s:=St i) (s2:=s) (o:=o) oU Qd Vs Vr
  obtain⟨c,h1,h2⟩:=qfs;rw[tx.run i o ho] at h1;cases c with
  |none=>cases h1
  |some q=>have h1:(St i).put o.dst q=some (St (i+1)):=h1.symm;obtain⟨s1,oK⟩:=EV h1 Vs;refine⟨s1,by rw[h2];exact oK,Qe s.rg q s1 (gZ h1).2.2.1 oK ⟨k,r4,hkr,λj y hj hy=> ?_⟩⟩;rw[Kg j y hj hy];refine⟨.inl,λh=>h.resolve_right λe=> ?_⟩;subst e;rw[ho] at hj;cases hj;omega
 have pH: ∀j y,ops[j]?=some y->1<aA y->(j<i↔L j):=λj y hj hy=>by
  constructor
  ·intro bz;rcases tx.kinds bz hj ho with h |h |h |h
   ·exact jJ j h
   ·omega
   ·omega
   exact Ch h j y (by omega) hj hy
  intro oL;rcases Nat.lt_trichotomy j i with h |h |h
  ·exact h
  ·exact absurd (h▸oL) bk
  rcases tx.kinds h ho hj with h' |h' |h' |h'
  ·rw[qbY j y hj oL] at h';cases h'
  ·omega
  ·omega
  exact absurd (Mf (h'▸oL) i o (by omega) ho (by omega)) bk
 have hrg:s.rg=(St i).rg:=by
  rw[hkr];rcases Nat.le_total k i with hki |hki
  ·refine(tx.sM i hki (by omega) (λj y h1 h2 hj=> ?_)).symm;by_cases hy:aA y<=1
   ·exact hy
   have:=(Kg j y hj (by omega)).2 ((pH j y hj (by omega)).1 h2);omega
  refine tx.sM k hki r4 (λj y h1 h2 hj=> ?_);by_cases hy:aA y<=1
  ·exact hy
  have:=(pH j y hj (by omega)).2 ((Kg j y hj (by omega)).1 h2);omega
 obtain⟨c,h1,h2⟩:=rm (Q:=Q) (cf:=cf) (ops:=ops) (s:=St i) (s2:=s) (o:=o) Qd Vs hrg;rw[tx.run i o ho] at h1;cases c with
 |none=>cases h1
 |some x=>obtain⟨R,q⟩:=x;have h1:(⟨(St i).n,(St i).tm,R⟩:S).put o.dst q=some (St (i+1)):=h1.symm;obtain⟨s1,oK⟩:=EV (s2:=⟨s.n,s.tm,R⟩) h1 Vs;refine⟨s1,by rw[h2];exact oK,Qe R q s1 (gZ h1).2.2.1 oK ⟨i+1,by omega,(gZ h1).2.1.symm,λj y hj hy=> ?_⟩⟩;rw[<-pH j y hj hy];omega
theorem Text.last{L:Nat->Prop}{s:S}(hi:Inv ops St L s)(gy: ∀i o,ops[i]?=some o->L i):s.n=(St ops.length).n/\s.rg=(St ops.length).rg/\ ∀t,lk s.tm t=lk (St ops.length).tm t:=by
 obtain⟨n1,n3⟩:=tx.inv ops.length (zai _);refine⟨by rw[hi.n,n1],?_,λt=> ?_⟩
 ·obtain⟨k,r4,hkr,Kg⟩:=hi.rg;rw[hkr];refine(tx.sM ops.length r4 (zai _) (λj y h1 h2 hj=> ?_)).symm;by_cases hy:aA y<=1
  ·exact hy
  have:=(Kg j y hj (by omega)).2 (gy j y hj);omega
 by_cases hex: ∃(k:Nat) (x:Oper),ops[k]?=some x/\x.dst=some t
 ·obtain⟨k,x,hk,hd⟩:=hex;exact hi.tm1 k x t hk (gy k x hk) hd
 rw[hi.tm2 t (λj y hj _ EX=>hex ⟨j,y,hj,EX⟩),n3 t (λj y _ hj EX=>hex ⟨j,y,hj,EX⟩)]
end
end Pi
