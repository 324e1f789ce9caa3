/- The text PiDrawOk. -/
import Derived.Test.YtngoddkencoalaaGreatDoorPiWr
namespace Pi
open Go
theorem fB{α:Type}{f:Nat->α->Bool}: ∀(l:List α) (i0:Nat),jr f i0 l=true-> ∀i x,l[i]?=some x->f (i0+i) x=true
 | [],i0,_,i,x,hx=>by simp at hx
 |y::r,i0,h,i,x,hx=>by
  simp only[jr,zab] at h;cases i with
  |zero=>grind
  |succ i=>
   have:=fB r (i0+1) h.2 i x (by grind);have e:i0+1+i=i0+(i+1):=by omega
   rwa [e] at this
theorem gn{α:Type}{f:Nat->α->Nat->α->Bool}: ∀(l:List α) (i0:Nat),gM f i0 l=true-> ∀i j x y,i<j->l[i]?=some x->l[j]?=some y->f (i0+i) x (i0+j) y=true
 | [],i0,_,i,j,x,y,_,hx,_=>by simp at hx
 |z::r,i0,h,i,j,x,y,pH,hx,hy=>by
  simp only[gM,zab] at h;cases j with
  |zero=>omega
  |succ j=>
   have e:i0+1+j=i0+(j+1):=by omega
   cases i with
   |zero=>simp at hx;subst hx;have:=fB r (i0+1) h.1 j y (by grind);rwa [e] at this
   |succ i=>
    have:=gn r (i0+1) h.2 i j x y (by omega) (by grind) (by grind);have e2:i0+1+i=i0+(i+1):=by omega
    rwa [e,e2] at this
theorem ib{s s1:S}{dst:Option Nat}{q:P}(h:s.put dst q=some s1):s1.n=s.n/\s1.rg=s.rg/\(∀d,dst=some d->lk s1.tm d=some q)/\
  (∀t,dst≠some t->lk s1.tm t=lk s.tm t):=by
 unfold S.put at h;grind [bC,b8]
theorem Hc{s s1 s2:S}{dst:Option Nat}{q:P}(h:s.put dst q=some s1)(hn:s2.n=s.n): ∃s3,s2.put dst q=some s3:=by unfold S.put at h⊢;grind
def vz(Q:Program)(ops:List Oper)(s:S)(x:Oper)(R R':List (Nat×En)):Prop:=
 (∃t m k,x.op= .lookup t m k false)/\ ∀g,bj ops x=some g->pv Q (s.wr R') x g=pv Q (s.wr R) x g
structure Text(Q:Program)(cf:CF)(ops:List Oper)(M:List Nat)(St:Nat->S)(m:Nat):Prop where
 fix: ∀i o,ops[i]?=some o->Oo M i o=true
 pair: ∀i j x y,i<j->ops[i]?=some x->ops[j]?=some y->qf m ops M i x j y=true
 run: ∀i o,ops[i]?=some o->br Q cf ops (St i) o=some (St (i+1))
 info: ∀i j x y,i<j->ops[i]?=some x->ops[j]?=some y->(aF x<=1\/aF y<=1)->Nat.testBit (M.getD j 0) i=false->
  (aF x=0\/aF y=0\/(aF x<=1/\aF y<=1))\/mT (bL Q ops (St i) x) (bL Q ops (St j) y)=true\/
  ((bL Q ops (St i) x).pure=true/\((∀n∈(bL Q ops (St i) x).ns,lk (St (j+1)).rg n=lk (St j).rg n)\/vz Q ops (St i) x (St j).rg (St (j+1)).rg))\/
  ((bL Q ops (St j) y).pure=true/\((∀n∈(bL Q ops (St j) y).ns,lk (St (i+1)).rg n=lk (St i).rg n)\/vz Q ops (St j) y (St i).rg (St (i+1)).rg))
section
variable{Q:Program}{cf:CF}{ops:List Oper}{M:List Nat}{St:Nat->S}{m:Nat}(tx:Text Q cf ops M St m)
include tx
theorem Text.back{i:Nat}{o:Oper}(ho:ops[i]?=some o){e:Edge}(he:e∈o.after)(hb:Region.binds .any e=true):e.on<i:=by have:=tx.fix i o ho;simp only[Oo,zab] at this;have h:=zbm.1 this.1.2 e (by grind);simp_all
theorem Text.mask{i:Nat}{o:Oper}(ho:ops[i]?=some o):M.getD i 0=lq M o.after.toList:=by have:=tx.fix i o ho;simp_all [Oo,zab,zag]
omit tx in
theorem sw(acc:List Nat)(j:Nat): ∀(es:List Edge),Nat.testBit (lq acc es) j=true-> ∃e∈es,Region.binds .any e=true/\(j=e.on\/Nat.testBit (acc.getD e.on 0) j=true)
 | [],h=>by simp[lq] at h
 |e::es,h=>by
  simp only[lq] at h;split at h
  next hb=>
   have h':Nat.testBit ((1<<<e.on |||acc.getD e.on 0)|||lq acc es) j=true:=h;rw[Nat.testBit_or,Nat.testBit_or] at h';simp only[zbh] at h';rcases h' with(h' |h')|h'
   ·refine⟨e,by simp,hb,.inl ?_⟩;rw[Nat.testBit_shiftLeft] at h';simp only[zab,zai,ge_iff_le] at h';obtain⟨h1,h2⟩:=h';cases hd:j-e.on with
    |zero=>omega
    |succ n=>rw[hd] at h2;simp[Nat.testBit_succ] at h2
   ·exact⟨e,by simp,hb,.inr h'⟩
   obtain⟨e',cS,h1,h2⟩:=sw acc j es h';exact⟨e',by simp[cS],h1,h2⟩
  obtain⟨e',cS,h1,h2⟩:=sw acc j es h;exact⟨e',by simp[cS],h1,h2⟩
omit tx in
def He(ops:List Oper)(L:Nat->Prop):Prop:= ∀i o,ops[i]?=some o->L i-> ∀e∈o.after,Region.binds .any e=true->L e.on
theorem Text.sub{L:Nat->Prop}(hL:He ops L): ∀(i:Nat) (o:Oper),ops[i]?=some o->(∀e∈o.after,Region.binds .any e=true->L e.on)-> ∀j,Nat.testBit (M.getD i 0) j=true->L j:=by
 intro i
 induction i using Nat.strongRecOn with
 |ind i ih=>
  intro o ho he j hj;rw[tx.mask ho] at hj;obtain⟨e,hm,hb,h⟩:=sw M j _ hj;have hm:e∈o.after:=by grind
  rcases h with h |h
  ·grind
  have bJ:=tx.back ho hm hb;have hlen:i<ops.length:=(zaf.1 ho).1;have ff:ops[e.on]?=some ops[e.on]:=zac (by omega);exact ih e.on bJ _ ff (hL e.on _ ff (he e hm hb)) j h
theorem Text.lt{i:Nat}{o:Oper}(ho:ops[i]?=some o){j:Nat}(hj:Nat.testBit (M.getD i 0) j=true):j<i:=
 tx.sub (L:=(· <i)) (λ_ _ hk bJ _ he hb=>Nat.lt_trans (tx.back hk he hb) bJ) i o ho (λ_ he hb=>tx.back ho he hb) j hj
theorem Text.inj{i j:Nat}{x y:Oper}(hx:ops[i]?=some x)(hy:ops[j]?=some y)(dQ:i≠j){d:Nat}(hd:x.dst=some d):y.dst≠some d:=by
 intro hd';have key: ∀{i j:Nat} {x y:Oper},i<j->ops[i]?=some x->ops[j]?=some y->x.dst=some d->y.dst=some d->False:=by intro i j x y pH hx hy hd hd';have:=tx.pair i j x y pH hx hy;simp[qf,DI,hd,hd'] at this
 grind
theorem Text.rel{i j:Nat}{x y:Oper}(hx:ops[i]?=some x)(hy:ops[j]?=some y)(dQ:i≠j){d:Nat}(hd:x.dst=some d)(hl:d∈looks ops y):
  (i<j/\Nat.testBit (M.getD j 0) i=true)\/(j<i/\Nat.testBit (M.getD i 0) j=true):=by
 have hm:gZ d (looks ops y)=true:=(kX _ _).2 hl;rcases zcw dQ with h |h
 ·refine .inl ⟨h,?_⟩;have:=tx.pair i j x y h hx hy;grind [qf,Ch]
 refine .inr ⟨h,?_⟩;have:=tx.pair j i y x h hy hx;grind [qf,Ch]
theorem Text.kinds{i j:Nat}{x y:Oper}(pH:i<j)(hx:ops[i]?=some x)(hy:ops[j]?=some y):Nat.testBit (M.getD j 0) i=true\/aF x<=1\/aF y<=1\/j=m:=by have:=tx.pair i j x y pH hx hy;simp only[qf,zab,zbh,zcc,Nat.beq_eq] at this;grind
theorem Text.step{i:Nat}{o:Oper}(ho:ops[i]?=some o): ∃R q,(⟨(St i).n,(St i).tm,R⟩:S).put o.dst q=some (St (i+1)):=by
 obtain⟨c,h2,_⟩:=sv (Q:=Q) (cf:=cf) (ops:=ops) (s:=St i) (s2:=St i) (o:=o) (λ_ _=>rfl) rfl rfl;rw[tx.run i o ho] at h2;cases c with
 |none=>cases h2
 |some x=>exact⟨x.1,x.2,h2.symm⟩
theorem Text.inv: ∀(i:Nat),i<=ops.length->(St i).n=(St 0).n/\
  (∀t,(∀k o,k<i->ops[k]?=some o->o.dst≠some t)->lk (St i).tm t=lk (St 0).tm t)
 |0,_=>⟨rfl,λ_ _=>rfl⟩
 |i+1,hi=>by obtain⟨h1,h3⟩:=Text.inv i (by omega);have ho:ops[i]?=some ops[i]:=zac (by omega);obtain⟨R,q,hg⟩:=tx.step ho;obtain⟨g1,g2,g3,g4⟩:=ib hg;grind
theorem Text.keep{i:Nat}{o:Oper}(ho:ops[i]?=some o){t:Nat}(ht:o.dst≠some t):lk (St (i+1)).tm t=lk (St i).tm t:=by obtain⟨R,q,hg⟩:=tx.step ho;exact(ib hg).2.2.2 t ht
theorem Text.stay{i:Nat}{o:Oper}(ho:ops[i]?=some o){t:Nat}(ht:o.dst=some t): ∀k,i<k->k<=ops.length->lk (St k).tm t=lk (St (i+1)).tm t
 |0,hk,_=>by omega
 |k+1,hk,hl=>by
  rcases zc3 hk with h |h
  ·have e:i=k:=by omega
   rw[e]
  have my:ops[k]?=some ops[k]:=zac (by omega);rw[tx.keep my (tx.inj ho my (by omega) ht)];exact Text.stay ho ht k (by omega) (by omega)
theorem Text.qag{n:Nat}{i:Nat}: ∀(k:Nat),i<=k->k<=ops.length->(∀j x,i<=j->j<k->ops[j]?=some x->aF x<=1\/ ¬xS (bL Q ops (St j) x).ws n\/lk (St (j+1)).rg n=lk (St j).rg n)->lk (St k).rg n=lk (St i).rg n
 |0,hk,_,_=>by
      have e:i=0:=by omega
      rw[e]
 |k+1,hk,hl,h=>by
  rcases zc3 hk with he |bJ
  ·rw[he]
  have my:ops[k]?=some ops[k]:=zac (by omega);rw[<-Text.qag k (by omega) (by omega) (λj x h1 h2=>h j x h1 (by omega))];by_cases ft:aF ops[k]<=1
  ·obtain⟨c,h2,_⟩:=qz (Q:=Q) (cf:=cf) (ops:=ops) (s:=St k) (s2:=St k) (o:=ops[k]) ft (λ_ _=>rfl) rfl (.inr λg _ x _ n v _=>rfl);rw[tx.run k _ my] at h2;cases c with
   |none=>cases h2
   |some q=>rw[(ib h2.symm).2.1]
  rcases h k _ (by omega) (by omega) my with h' |h' |h'
  ·grind
  ·exact kI (by omega) (tx.run k _ my) h'
  exact h'
theorem Text.tT{i:Nat}: ∀(k:Nat),i<=k->k<=ops.length->(∀j x,i<=j->j<k->ops[j]?=some x->aF x<=1)->(St k).rg=(St i).rg
 |0,hk,_,_=>by
    have e:i=0:=by omega
    rw[e]
 |k+1,hk,hl,h=>by
  rcases zc3 hk with he |bJ
  ·rw[he]
  have my:ops[k]?=some ops[k]:=zac (by omega);rw[<-Text.tT k (by omega) (by omega) (λj x h1 h2=>h j x h1 (by omega))];obtain⟨c,h2,_⟩:=qz (Q:=Q) (cf:=cf) (ops:=ops) (s:=St k) (s2:=St k) (o:=ops[k]) (h k _ (by omega) (by omega) my) (λ_ _=>rfl) rfl (.inr λg _ x _ n v _=>rfl);rw[tx.run k _ my] at h2;cases c with
  |none=>cases h2
  |some q=>rw[(ib h2.symm).2.1]
omit tx in
structure Inv(ops:List Oper)(St:Nat->S)(L:Nat->Prop)(s:S):Prop where
 n:s.n=(St 0).n
 tm1: ∀i o t,ops[i]?=some o->L i->o.dst=some t->lk s.tm t=lk (St ops.length).tm t
 tm2: ∀t,(∀i o,ops[i]?=some o->L i->o.dst≠some t)->lk s.tm t=lk (St 0).tm t
 rg: ∃k,k<=ops.length/\s.rg=(St k).rg/\ ∀i o,ops[i]?=some o->1<aF o->(i<k↔L i)
omit tx in
theorem qkV{ns:List Nat}{W:List Nat×Nat×Nat}(h:Mh ns W=true){n:Nat}(hn:n∈ns): ¬xS W n:=by
 unfold Mh at h;have:=zbm.1 h n hn;simp only[zab,zbz,Bool.and_eq_false_iff] at this;intro hw;rcases hw with hw |hw
 ·have h1:gZ n W.1=true:=(kX _ _).2 hw;rw[h1] at this;simp at this
 rcases this.2 with h2 |h2
 ·have:Nat.ble W.2.1 n=true:=Nat.ble_eq_true_of_le hw.1;rw[this] at h2;cases h2
 have:Nat.blt n W.2.2=true:=by simp[Nat.blt];omega
 rw[this] at h2;cases h2
omit tx in
theorem q6: ∀(ps:List P) (p:P) (n v:Nat),p∈ps->p.name=some (n,v)->n∈qU ps
 | [],p,n,v,h,_=>by simp at h
 |q::r,p,n,v,h,hn=>by
  simp only[qU];rcases zav.1 h with h |h
  ·subst h;rw[hn];simp
  have:=q6 r p n v h hn;split
  ·exact zaL _ this
  exact this
omit tx in
theorem jc{s:S}{o:Oper}(hk:aF o<=1){g:Option (Nat×Bool)}(hg:bj ops o=some g):(bL Q ops s o).pure=true/\(aF o≠0->(bL Q ops s o).ns=qU (o.op.operands.toList.map (s.eg g))):=by
 unfold bL;rw[hg];simp only[Nat.ble_eq_true_of_le hk,zbr,zdi];intro h0;have:Nat.beq (aF o) 0=false:=by
  cases hb:Nat.beq (aF o) 0 with
  |false=>rfl
  |true=>exact absurd (zag hb) h0
 rw[this];rfl
omit tx in
theorem zi{s:S}{o:Oper}(hk:1<aF o):(bL Q ops s o).pure=false:=by
 unfold bL;have hb:Nat.ble (aF o) 1=false:=by
  cases hx:Nat.ble (aF o) 1 with
  |false=>rfl
  |true=>rw[zcc] at hx;omega
 split
 ·rfl
 rw[hb];rfl
theorem Text.go{L:Nat->Prop}(hL:He ops L){s:S}(hi:Inv ops St L s){i:Nat}{o:Oper}(ho:ops[i]?=some o)(bS: ¬L i)(he: ∀e∈o.after,Region.binds .any e=true->L e.on)
  (Kb:L m-> ∀x p,x<m->ops[x]?=some p->1<aF p->L x) (D4:i=m-> ∀x p,x<m->ops[x]?=some p->1<aF p->L x):
  ∃s1,br Q cf ops s o=some s1/\Inv ops St (λj=>L j\/j=i) s1:=by
 have bK:i<ops.length:=(zaf.1 ho).1;have gV:=tx.sub hL i o ho he;have qet: ∀j x,ops[j]?=some x->L j->Nat.testBit (M.getD j 0) i=false:=λj x hx hj=>by
  cases hb:Nat.testBit (M.getD j 0) i with
  |false=>rfl
  |true=>exact absurd (tx.sub hL j x hx (hL j x hx hj) i hb) bS
 obtain⟨n1,n3⟩:=tx.inv i (by omega);have SI: ∀t∈looks ops o,lk s.tm t=lk (St i).tm t:=by
  intro t ht;by_cases hex: ∃(k:Nat) (x:Oper),ops[k]?=some x/\x.dst=some t
  ·obtain⟨k,x,hk,hd⟩:=hex;have tU:k<ops.length:=(zaf.1 hk).1;by_cases hki:k=i
   ·subst hki;rw[hi.tm2 t (λj y hj pI Hf=>by
     by_cases e:j=k
     ·rw[e] at pI;exact bS pI
     exact tx.inj hj hk e Hf hd),n3 t (λj y bJ hj Hf=>tx.inj hj hk (by omega) Hf hd)]
   rcases tx.rel hk ho hki hd ht with⟨h1,h2⟩| ⟨h1,h2⟩
   ·rw[hi.tm1 k x t hk (gV k h2) hd,tx.stay hk hd _ tU (zak _),tx.stay hk hd i h1 (by omega)]
   rw[hi.tm2 t (λj y hj pI Hf=>by
    by_cases e:j=k
    ·subst e;have:=qet j y hj pI;rw[h2] at this;cases this
    exact tx.inj hj hk e Hf hd),n3 t (λj y bJ hj Hf=>tx.inj hj hk (by omega) Hf hd)]
  rw[hi.tm2 t (λj y hj _ Hf=>hex ⟨j,y,hj,Hf⟩),n3 t (λj y _ hj Hf=>hex ⟨j,y,hj,Hf⟩)]
 have R6:s.n=(St i).n:=by rw[hi.n,n1]
 obtain⟨k,tU,hkr,Mp⟩:=hi.rg;have SJ: ∀(R:List (Nat×En)) (q:P) (s1:S),(∀d,o.dst=some d->lk (St (i+1)).tm d=some q)->(⟨s.n,s.tm,R⟩:S).put o.dst q=some s1->
   (∃k,k<=ops.length/\R=(St k).rg/\ ∀j x,ops[j]?=some x->1<aF x->(j<k↔(L j\/j=i)))->Inv ops St (λj=>L j\/j=i) s1:=by
  intro R q s1 hval qie hrg;obtain⟨g1,g2,g3,g4⟩:=ib qie;have keep: ∀t,o.dst≠some t->lk s1.tm t=lk s.tm t:=λt ht=>g4 t ht;refine⟨g1.trans hi.n,λj y t hj pI hd=> ?_,λt ht=> ?_,?_⟩
  ·rcases pI with pI |rfl
   ·have dQ:j≠i:=λe=>bS (e▸pI);rw[keep t (tx.inj hj ho dQ hd),hi.tm1 j y t hj pI hd]
   rw[ho] at hj;cases hj;rw[g3 t hd,tx.stay ho hd _ bK (zak _),hval t hd]
  ·rw[keep t (ht i o ho (.inr rfl)),hi.tm2 t (λj y hj pI=>ht j y hj (.inl pI))]
  rw[g2];exact hrg
 by_cases hk:aF o<=1
 ·
  have zj: ∀g,bj ops o=some g->aF o≠0-> ∀j y,ops[j]?=some y->1<aF y->(j<i/\ ¬L j\/i<=j/\L j)->
    (∀n∈(bL Q ops (St i) o).ns,lk (St (j+1)).rg n=lk (St j).rg n)\/vz Q ops (St i) o (St j).rg (St (j+1)).rg:=by
   intro g hg h0 j y hj hy hc;have p1:=(jc (Q:=Q) (s:=St i) hk hg).1;have byW:mT (bL Q ops (St i) o) (bL Q ops (St j) y)=true\/mT (bL Q ops (St j) y) (bL Q ops (St i) o)=true-> ∀n∈(bL Q ops (St i) o).ns,lk (St (j+1)).rg n=lk (St j).rg n:=by intro h3 n hn;refine kI (by omega) (tx.run j y hj) ?_;unfold mT at h3;rw[p1,zi (o:=y) (by omega)] at h3;simp only[zaK,zbt,zbr,or_self] at h3;exact qkV h3 hn
   rcases hc with⟨bJ,pI⟩| ⟨hle,pI⟩
   ·have qeu:Nat.testBit (M.getD i 0) j=false:=by
     cases hb:Nat.testBit (M.getD i 0) j with
     |false=>rfl
     |true=>exact absurd (gV j hb) pI
    rcases tx.info j i y o bJ hj ho (.inr hk) qeu with h3 |h3 |h3 |h3
    ·omega
    ·exact .inl (byW (.inr h3))
    ·rw[zi (o:=y) (by omega)] at h3;cases h3.1
    exact h3.2
   have dQ:j≠i:=λe=>bS (e▸pI);rcases tx.info i j o y (by omega) ho hj (.inl hk) (qet j y hj pI) with h3 |h3 |h3 |h3
   ·omega
   ·exact .inl (byW (.inl h3))
   ·exact h3.2
   rw[zi (o:=y) (by omega)] at h3;cases h3.1
  have qev: ∀j y,ops[j]?=some y->aF y<=1->(St (j+1)).rg=(St j).rg:=λj y hj hy=>by
   have GG:j<ops.length:=(zaf.1 hj).1;exact tx.tT (i:=j) (j+1) (by omega) (by omega) λj' y' h1 h2 My=>by
    have:j'=j:=by omega
    subst this;rw[hj] at My;cases My;exact hy
  have chain: ∀{C:List (Nat×En)->Prop},(∀j y,ops[j]?=some y->(j<i/\ ¬L j\/i<=j/\L j)->1<aF y->(C (St j).rg↔C (St (j+1)).rg))->(C (St i).rg↔C s.rg):=by
   intro C hC;rw[hkr];have go: ∀d lo,lo+d<=ops.length->(∀j,lo<=j->j<lo+d-> ∀y,ops[j]?=some y->1<aF y->(j<i/\ ¬L j\/i<=j/\L j))->(C (St lo).rg↔C (St (lo+d)).rg):=by
    intro d
    induction d with
    |zero=>intro lo _ _;exact Iff.rfl
    |succ d ih=>
     intro lo hl aQ;refine(ih lo (by omega) λj h1 h2=>aQ j h1 (by omega)).trans ?_;have my:ops[lo+d]?=some ops[lo+d]:=zac (by omega);by_cases hy:aF ops[lo+d]<=1
     ·rw[show lo+(d+1)=lo+d+1 by omega,qev _ _ my hy]
     exact hC _ _ my (aQ _ (by omega) (by omega) _ my (by omega)) (by omega)
   rcases Nat.le_total k i with hki |hki
   ·have:=go (i-k) k (by omega) λj h1 h2 y hj hy=> .inl ⟨by omega,λh=>by have:=(Mp j y hj hy).2 h;omega⟩;rw[show k+(i-k)=i by omega] at this;exact this.symm
   have:=go (k-i) i (by omega) λj h1 h2 y hj hy=> .inr ⟨h1,(Mp j y hj hy).1 (by omega)⟩;rw[show i+(k-i)=k by omega] at this;exact this
  have qif:(aF o=0\/ ∀g,bj ops o=some g-> ∀x∈o.op.operands.toList,fU s.rg (St i).rg ((St i).eg g x))\/((∃t m k,o.op= .lookup t m k false)/\ ∀g,bj ops o=some g->pv Q ((St i).wr s.rg) o g=pv Q (St i) o g):=by
   by_cases h0:aF o=0
   ·exact .inl (.inl h0)
   cases hg:bj ops o with
   |none=>exact .inl (.inr λg Jr=>by cases Jr)
   |some g=>
    have p2:=(jc (Q:=Q) (s:=St i) hk hg).2 h0;have agr: ∀R R':List (Nat×En),(∀n∈(bL Q ops (St i) o).ns,lk R' n=lk R n)-> ∀x∈o.op.operands.toList,fU R' R ((St i).eg g x):=λR R' hRR x hx n v hn=>by refine hRR n ?_;rw[p2];exact q6 _ _ n v (za8 hx) hn
    by_cases pS: ∃t m k,o.op= .lookup t m k false
    ·refine .inr ⟨pS,λg' Jr=> ?_⟩;cases Jr;have:=chain (C:=λR=>pv Q ((St i).wr R) o g=pv Q (St i) o g) λj y hj hc hy=>by
      have e:pv Q ((St i).wr (St (j+1)).rg) o g=pv Q ((St i).wr (St j).rg) o g:=by
       rcases zj g hg h0 j y hj hy hc with h3 |h3
       ·exact qde (s:=(St i).wr (St j).rg) (R:=(St (j+1)).rg) (.inr (agr _ _ h3))
       exact h3.2 g hg
      rw[e]
     exact this.1 rfl
    refine .inl (.inr λg' Jr x hx n v hn=> ?_);cases Jr;have bZ:n∈(bL Q ops (St i) o).ns:=by rw[p2];exact q6 _ _ n v (za8 hx) hn
    have:=chain (C:=λR=>lk R n=lk (St i).rg n) λj y hj hc hy=>by
     rcases zj g hg h0 j y hj hy hc with h3 |h3
     ·rw[h3 n bZ]
     exact absurd h3.1 pS
    exact this.1 rfl
  have qig: ∃c:Option P,br Q cf ops (St i) o=(c.bind λq=>(St i).put o.dst q)/\br Q cf ops s o=(c.bind λq=>s.put o.dst q):=by
   rcases qif with qew | ⟨pS,Yd⟩
   ·exact qz (Q:=Q) (cf:=cf) (ops:=ops) (s:=St i) (s2:=s) (o:=o) hk SI R6 qew
   exact Hb (Q:=Q) (cf:=cf) (ops:=ops) (s:=St i) (s2:=s) (o:=o) pS SI R6 Yd
  obtain⟨c,h1,h2⟩:=qig;rw[tx.run i o ho] at h1;cases c with
  |none=>cases h1
  |some q=>have h1:(St i).put o.dst q=some (St (i+1)):=h1.symm;obtain⟨s1,rV⟩:=Hc h1 R6;refine⟨s1,by rw[h2];exact rV,SJ s.rg q s1 (ib h1).2.2.1 rV ⟨k,tU,hkr,λj y hj hy=> ?_⟩⟩;rw[Mp j y hj hy];refine⟨.inl,λh=>h.resolve_right λe=> ?_⟩;subst e;rw[ho] at hj;cases hj;omega
 have nG: ∀j y,ops[j]?=some y->1<aF y->(j<i↔L j):=λj y hj hy=>by
  constructor
  ·intro bJ;rcases tx.kinds bJ hj ho with h |h |h |h
   ·exact gV j h
   ·omega
   ·omega
   exact D4 h j y (by omega) hj hy
  intro pI;rcases Nat.lt_trichotomy j i with h |h |h
  ·exact h
  ·exact absurd (h▸pI) bS
  rcases tx.kinds h ho hj with h' |h' |h' |h'
  ·rw[qet j y hj pI] at h';cases h'
  ·omega
  ·omega
  exact absurd (Kb (h'▸pI) i o (by omega) ho (by omega)) bS
 have hrg:s.rg=(St i).rg:=by
  rw[hkr];rcases Nat.le_total k i with hki |hki
  ·refine(tx.tT i hki (by omega) (λj y h1 h2 hj=> ?_)).symm;by_cases hy:aF y<=1
   ·exact hy
   have:=(Mp j y hj (by omega)).2 ((nG j y hj (by omega)).1 h2);omega
  refine tx.tT k hki tU (λj y h1 h2 hj=> ?_);by_cases hy:aF y<=1
  ·exact hy
  have:=(nG j y hj (by omega)).2 ((Mp j y hj (by omega)).1 h2);omega
 obtain⟨c,h1,h2⟩:=sv (Q:=Q) (cf:=cf) (ops:=ops) (s:=St i) (s2:=s) (o:=o) SI R6 hrg;rw[tx.run i o ho] at h1;cases c with
 |none=>cases h1
 |some x=>obtain⟨R,q⟩:=x;have h1:(⟨(St i).n,(St i).tm,R⟩:S).put o.dst q=some (St (i+1)):=h1.symm;obtain⟨s1,rV⟩:=Hc (s2:=⟨s.n,s.tm,R⟩) h1 R6;refine⟨s1,by rw[h2];exact rV,SJ R q s1 (ib h1).2.2.1 rV ⟨i+1,by omega,(ib h1).2.1.symm,λj y hj hy=> ?_⟩⟩;rw[<-nG j y hj hy];omega
theorem Text.last{L:Nat->Prop}{s:S}(hi:Inv ops St L s)(gU: ∀i o,ops[i]?=some o->L i):s.n=(St ops.length).n/\s.rg=(St ops.length).rg/\ ∀t,lk s.tm t=lk (St ops.length).tm t:=by
 obtain⟨n1,n3⟩:=tx.inv ops.length (zak _);refine⟨by rw[hi.n,n1],?_,λt=> ?_⟩
 ·obtain⟨k,tU,hkr,Mp⟩:=hi.rg;rw[hkr];refine(tx.tT ops.length tU (zak _) (λj y h1 h2 hj=> ?_)).symm;by_cases hy:aF y<=1
  ·exact hy
  have:=(Mp j y hj (by omega)).2 (gU j y hj);omega
 by_cases hex: ∃(k:Nat) (x:Oper),ops[k]?=some x/\x.dst=some t
 ·obtain⟨k,x,hk,hd⟩:=hex;exact hi.tm1 k x t hk (gU k x hk) hd
 rw[hi.tm2 t (λj y hj _ Hf=>hex ⟨j,y,hj,Hf⟩),n3 t (λj y _ hj Hf=>hex ⟨j,y,hj,Hf⟩)]
end
end Pi
