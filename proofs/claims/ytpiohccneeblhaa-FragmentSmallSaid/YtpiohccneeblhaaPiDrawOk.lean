/- The text PiDrawOk. -/
import Derived.Test.YtpiohccneeblhaaPiWr
namespace Pi
open Go
theorem dw{α:Type}{f:Nat->α->Bool}: ∀(l:List α) (i0:Nat),ft f i0 l=true-> ∀i x,l[i]?=some x->f (i0+i) x=true
 | [],i0,_,i,x,hx=>by simp at hx
 |y::r,i0,h,i,x,hx=>by
  simp only[ft,zad] at h;cases i with
  |zero=>grind
  |succ i=>
   have:=dw r (i0+1) h.2 i x (by grind);have e:i0+1+i=i0+(i+1):=by omega
   rwa [e] at this
theorem dN{α:Type}{f:Nat->α->Nat->α->Bool}: ∀(l:List α) (i0:Nat),eo f i0 l=true-> ∀i j x y,i<j->l[i]?=some x->l[j]?=some y->f (i0+i) x (i0+j) y=true
 | [],i0,_,i,j,x,y,_,hx,_=>by simp at hx
 |z::r,i0,h,i,j,x,y,ng,hx,hy=>by
  simp only[eo,zad] at h;cases j with
  |zero=>omega
  |succ j=>
   have e:i0+1+j=i0+(j+1):=by omega
   cases i with
   |zero=>simp at hx;subst hx;have:=dw r (i0+1) h.1 j y (by grind);rwa [e] at this
   |succ i=>
    have:=dN r (i0+1) h.2 i j x y (by omega) (by grind) (by grind);have e2:i0+1+i=i0+(i+1):=by omega
    rwa [e,e2] at this
theorem eT{s s1:S}{dst:Option Nat}{q:P}(h:s.put dst q=some s1):s1.n=s.n/\s1.rg=s.rg/\(∀d,dst=some d->lk s1.tm d=some q)/\
  (∀t,dst≠some t->lk s1.tm t=lk s.tm t):=by
 unfold S.put at h;grind [aH,aV]
theorem wc{s s1 s2:S}{dst:Option Nat}{q:P}(h:s.put dst q=some s1)(hn:s2.n=s.n): ∃s3,s2.put dst q=some s3:=by unfold S.put at h⊢;grind
def nz(Q:Program)(ops:List Oper)(s:S)(x:Oper)(R R':List (Nat×En)):Prop:=
 (∃t m k,x.op= .lookup t m k false)/\ ∀g,aG ops x=some g->pv Q (s.wr R') x g=pv Q (s.wr R) x g
structure Text(Q:Program)(cf:CF)(ops:List Oper)(M:List Nat)(St:Nat->S)(m:Nat):Prop where
 fix: ∀i o,ops[i]?=some o->zV M i o=true
 pair: ∀i j x y,i<j->ops[i]?=some x->ops[j]?=some y->kh m ops M i x j y=true
 run: ∀i o,ops[i]?=some o->aM Q cf ops (St i) o=some (St (i+1))
 info: ∀i j x y,i<j->ops[i]?=some x->ops[j]?=some y->(ar x<=1\/ar y<=1)->Nat.testBit (M.getD j 0) i=false->
  (ar x=0\/ar y=0\/(ar x<=1/\ar y<=1))\/iB (aQ Q ops (St i) x) (aQ Q ops (St j) y)=true\/
  ((aQ Q ops (St i) x).pure=true/\((∀n∈(aQ Q ops (St i) x).ns,lk (St (j+1)).rg n=lk (St j).rg n)\/nz Q ops (St i) x (St j).rg (St (j+1)).rg))\/
  ((aQ Q ops (St j) y).pure=true/\((∀n∈(aQ Q ops (St j) y).ns,lk (St (i+1)).rg n=lk (St i).rg n)\/nz Q ops (St j) y (St i).rg (St (i+1)).rg))
section
variable{Q:Program}{cf:CF}{ops:List Oper}{M:List Nat}{St:Nat->S}{m:Nat}(tx:Text Q cf ops M St m)
include tx
theorem Text.back{i:Nat}{o:Oper}(ho:ops[i]?=some o){e:Edge}(he:e∈o.after)(hb:Region.binds .any e=true):e.on<i:=by have:=tx.fix i o ho;simp only[zV,zad] at this;have h:=zaY.1 this.1.2 e (by grind);simp_all
theorem Text.mask{i:Nat}{o:Oper}(ho:ops[i]?=some o):M.getD i 0=gC M o.after.toList:=by have:=tx.fix i o ho;simp_all [zV,zad,zab]
omit tx in
theorem lW(acc:List Nat)(j:Nat): ∀(es:List Edge),Nat.testBit (gC acc es) j=true-> ∃e∈es,Region.binds .any e=true/\(j=e.on\/Nat.testBit (acc.getD e.on 0) j=true)
 | [],h=>by simp[gC] at h
 |e::es,h=>by
  simp only[gC] at h;split at h
  next hb=>
   have h':Nat.testBit ((1<<<e.on |||acc.getD e.on 0)|||gC acc es) j=true:=h;rw[Nat.testBit_or,Nat.testBit_or] at h';simp only[zbR] at h';rcases h' with(h' |h')|h'
   ·refine⟨e,by simp,hb,.inl ?_⟩;rw[Nat.testBit_shiftLeft] at h';simp only[zad,zaI,ge_iff_le] at h';obtain⟨h1,h2⟩:=h';cases hd:j-e.on with
    |zero=>omega
    |succ n=>rw[hd] at h2;simp[Nat.testBit_succ] at h2
   ·exact⟨e,by simp,hb,.inr h'⟩
   obtain⟨e',bb,h1,h2⟩:=lW acc j es h';exact⟨e',by simp[bb],h1,h2⟩
  obtain⟨e',bb,h1,h2⟩:=lW acc j es h;exact⟨e',by simp[bb],h1,h2⟩
omit tx in
def wg(ops:List Oper)(L:Nat->Prop):Prop:= ∀i o,ops[i]?=some o->L i-> ∀e∈o.after,Region.binds .any e=true->L e.on
theorem Text.sub{L:Nat->Prop}(hL:wg ops L): ∀(i:Nat) (o:Oper),ops[i]?=some o->(∀e∈o.after,Region.binds .any e=true->L e.on)-> ∀j,Nat.testBit (M.getD i 0) j=true->L j:=by
 intro i
 induction i using Nat.strongRecOn with
 |ind i ih=>
  intro o ho he j hj;rw[tx.mask ho] at hj;obtain⟨e,hm,hb,h⟩:=lW M j _ hj;have hm:e∈o.after:=by grind
  rcases h with h |h
  ·grind
  have bj:=tx.back ho hm hb;have hlen:i<ops.length:=(zaa.1 ho).1;have eZ:ops[e.on]?=some ops[e.on]:=zac (by omega);exact ih e.on bj _ eZ (hL e.on _ eZ (he e hm hb)) j h
theorem Text.lt{i:Nat}{o:Oper}(ho:ops[i]?=some o){j:Nat}(hj:Nat.testBit (M.getD i 0) j=true):j<i:=
 tx.sub (L:=(· <i)) (λ_ _ hk bj _ he hb=>Nat.lt_trans (tx.back hk he hb) bj) i o ho (λ_ he hb=>tx.back ho he hb) j hj
theorem Text.inj{i j:Nat}{x y:Oper}(hx:ops[i]?=some x)(hy:ops[j]?=some y)(ca:i≠j){d:Nat}(hd:x.dst=some d):y.dst≠some d:=by
 intro wh;have key: ∀{i j:Nat} {x y:Oper},i<j->ops[i]?=some x->ops[j]?=some y->x.dst=some d->y.dst=some d->False:=by intro i j x y ng hx hy hd wh;have:=tx.pair i j x y ng hx hy;simp[kh,tl,hd,wh] at this
 grind
theorem Text.rel{i j:Nat}{x y:Oper}(hx:ops[i]?=some x)(hy:ops[j]?=some y)(ca:i≠j){d:Nat}(hd:x.dst=some d)(hl:d∈looks ops y):
  (i<j/\Nat.testBit (M.getD j 0) i=true)\/(j<i/\Nat.testBit (M.getD i 0) j=true):=by
 have hm:eV d (looks ops y)=true:=(gn _ _).2 hl;rcases zbC ca with h |h
 ·refine .inl ⟨h,?_⟩;have:=tx.pair i j x y h hx hy;grind [kh,rZ]
 refine .inr ⟨h,?_⟩;have:=tx.pair j i y x h hy hx;grind [kh,rZ]
theorem Text.kinds{i j:Nat}{x y:Oper}(ng:i<j)(hx:ops[i]?=some x)(hy:ops[j]?=some y):Nat.testBit (M.getD j 0) i=true\/ar x<=1\/ar y<=1\/j=m:=by have:=tx.pair i j x y ng hx hy;simp only[kh,zad,zbR,zbd,Nat.beq_eq] at this;grind
theorem Text.step{i:Nat}{o:Oper}(ho:ops[i]?=some o): ∃R q,(⟨(St i).n,(St i).tm,R⟩:S).put o.dst q=some (St (i+1)):=by
 obtain⟨c,h2,_⟩:=lV (Q:=Q) (cf:=cf) (ops:=ops) (s:=St i) (s2:=St i) (o:=o) (λ_ _=>rfl) rfl rfl;rw[tx.run i o ho] at h2;cases c with
 |none=>cases h2
 |some x=>exact⟨x.1,x.2,h2.symm⟩
theorem Text.inv: ∀(i:Nat),i<=ops.length->(St i).n=(St 0).n/\
  (∀t,(∀k o,k<i->ops[k]?=some o->o.dst≠some t)->lk (St i).tm t=lk (St 0).tm t)
 |0,_=>⟨rfl,λ_ _=>rfl⟩
 |i+1,hi=>by obtain⟨h1,h3⟩:=Text.inv i (by omega);have ho:ops[i]?=some ops[i]:=zac (by omega);obtain⟨R,q,hg⟩:=tx.step ho;obtain⟨g1,g2,g3,g4⟩:=eT hg;grind
theorem Text.keep{i:Nat}{o:Oper}(ho:ops[i]?=some o){t:Nat}(ht:o.dst≠some t):lk (St (i+1)).tm t=lk (St i).tm t:=by obtain⟨R,q,hg⟩:=tx.step ho;exact(eT hg).2.2.2 t ht
theorem Text.stay{i:Nat}{o:Oper}(ho:ops[i]?=some o){t:Nat}(ht:o.dst=some t): ∀k,i<k->k<=ops.length->lk (St k).tm t=lk (St (i+1)).tm t
 |0,hk,_=>by omega
 |k+1,hk,hl=>by
  rcases zcn hk with h |h
  ·have e:i=k:=by omega
   rw[e]
  have fK:ops[k]?=some ops[k]:=zac (by omega);rw[tx.keep fK (tx.inj ho fK (by omega) ht)];exact Text.stay ho ht k (by omega) (by omega)
theorem Text.E9{n:Nat}{i:Nat}: ∀(k:Nat),i<=k->k<=ops.length->(∀j x,i<=j->j<k->ops[j]?=some x->ar x<=1\/ ¬o6 (aQ Q ops (St j) x).ws n\/lk (St (j+1)).rg n=lk (St j).rg n)->lk (St k).rg n=lk (St i).rg n
 |0,hk,_,_=>by
      have e:i=0:=by omega
      rw[e]
 |k+1,hk,hl,h=>by
  rcases zcn hk with he |bj
  ·rw[he]
  have fK:ops[k]?=some ops[k]:=zac (by omega);rw[<-Text.E9 k (by omega) (by omega) (λj x h1 h2=>h j x h1 (by omega))];by_cases tH:ar ops[k]<=1
  ·obtain⟨c,h2,_⟩:=kM (Q:=Q) (cf:=cf) (ops:=ops) (s:=St k) (s2:=St k) (o:=ops[k]) tH (λ_ _=>rfl) rfl (.inr λg _ x _ n v _=>rfl);rw[tx.run k _ fK] at h2;cases c with
   |none=>cases h2
   |some q=>rw[(eT h2.symm).2.1]
  rcases h k _ (by omega) (by omega) fK with h' |h' |h'
  ·grind
  ·exact gh (by omega) (tx.run k _ fK) h'
  exact h'
theorem Text.mN{i:Nat}: ∀(k:Nat),i<=k->k<=ops.length->(∀j x,i<=j->j<k->ops[j]?=some x->ar x<=1)->(St k).rg=(St i).rg
 |0,hk,_,_=>by
    have e:i=0:=by omega
    rw[e]
 |k+1,hk,hl,h=>by
  rcases zcn hk with he |bj
  ·rw[he]
  have fK:ops[k]?=some ops[k]:=zac (by omega);rw[<-Text.mN k (by omega) (by omega) (λj x h1 h2=>h j x h1 (by omega))];obtain⟨c,h2,_⟩:=kM (Q:=Q) (cf:=cf) (ops:=ops) (s:=St k) (s2:=St k) (o:=ops[k]) (h k _ (by omega) (by omega) fK) (λ_ _=>rfl) rfl (.inr λg _ x _ n v _=>rfl);rw[tx.run k _ fK] at h2;cases c with
  |none=>cases h2
  |some q=>rw[(eT h2.symm).2.1]
omit tx in
structure Inv(ops:List Oper)(St:Nat->S)(L:Nat->Prop)(s:S):Prop where
 n:s.n=(St 0).n
 MH: ∀i o t,ops[i]?=some o->L i->o.dst=some t->lk s.tm t=lk (St ops.length).tm t
 IB: ∀t,(∀i o,ops[i]?=some o->L i->o.dst≠some t)->lk s.tm t=lk (St 0).tm t
 rg: ∃k,k<=ops.length/\s.rg=(St k).rg/\ ∀i o,ops[i]?=some o->1<ar o->(i<k↔L i)
omit tx in
theorem MI{ns:List Nat}{W:List Nat×Nat×Nat}(h:yO ns W=true){n:Nat}(hn:n∈ns): ¬o6 W n:=by
 unfold yO at h;have:=zaY.1 h n hn;simp only[zad,zbn,Bool.and_eq_false_iff] at this;intro hw;rcases hw with hw |hw
 ·have h1:eV n W.1=true:=(gn _ _).2 hw;rw[h1] at this;simp at this
 rcases this.2 with h2 |h2
 ·have:Nat.ble W.2.1 n=true:=Nat.ble_eq_true_of_le hw.1;rw[this] at h2;cases h2
 have:Nat.blt n W.2.2=true:=by simp[Nat.blt];omega
 rw[this] at h2;cases h2
omit tx in
theorem lb: ∀(ps:List P) (p:P) (n v:Nat),p∈ps->p.name=some (n,v)->n∈k7 ps
 | [],p,n,v,h,_=>by simp at h
 |q::r,p,n,v,h,hn=>by
  simp only[k7];rcases zan.1 h with h |h
  ·subst h;rw[hn];simp
  have:=lb r p n v h hn;split
  ·exact zaP _ this
  exact this
omit tx in
theorem fk{s:S}{o:Oper}(hk:ar o<=1){g:Option (Nat×Bool)}(hg:aG ops o=some g):(aQ Q ops s o).pure=true/\(ar o≠0->(aQ Q ops s o).ns=k7 (o.op.operands.toList.map (s.eg g))):=by
 unfold aQ;rw[hg];simp only[Nat.ble_eq_true_of_le hk,zaT,zb5];intro h0;have:Nat.beq (ar o) 0=false:=by
  cases hb:Nat.beq (ar o) 0 with
  |false=>rfl
  |true=>exact absurd (zab hb) h0
 rw[this];rfl
omit tx in
theorem qn{s:S}{o:Oper}(hk:1<ar o):(aQ Q ops s o).pure=false:=by
 unfold aQ;have hb:Nat.ble (ar o) 1=false:=by
  cases hx:Nat.ble (ar o) 1 with
  |false=>rfl
  |true=>rw[zbd] at hx;omega
 split
 ·rfl
 rw[hb];rfl
theorem Text.go{L:Nat->Prop}(hL:wg ops L){s:S}(hi:Inv ops St L s){i:Nat}{o:Oper}(ho:ops[i]?=some o)(bg: ¬L i)(he: ∀e∈o.after,Region.binds .any e=true->L e.on)
  (Ah:L m-> ∀x p,x<m->ops[x]?=some p->1<ar p->L x) (Ai:i=m-> ∀x p,x<m->ops[x]?=some p->1<ar p->L x):
  ∃s1,aM Q cf ops s o=some s1/\Inv ops St (λj=>L j\/j=i) s1:=by
 have il:i<ops.length:=(zaa.1 ho).1;have iU:=tx.sub hL i o ho he;have Hp: ∀j x,ops[j]?=some x->L j->Nat.testBit (M.getD j 0) i=false:=λj x hx hj=>by
  cases hb:Nat.testBit (M.getD j 0) i with
  |false=>rfl
  |true=>exact absurd (tx.sub hL j x hx (hL j x hx hj) i hb) bg
 obtain⟨n1,n3⟩:=tx.inv i (by omega);have CZ: ∀t∈looks ops o,lk s.tm t=lk (St i).tm t:=by
  intro t ht;by_cases hex: ∃(k:Nat) (x:Oper),ops[k]?=some x/\x.dst=some t
  ·obtain⟨k,x,hk,hd⟩:=hex;have rM:k<ops.length:=(zaa.1 hk).1;by_cases Gq:k=i
   ·subst Gq;rw[hi.IB t (λj y hj jU wi=>by
     by_cases e:j=k
     ·rw[e] at jU;exact bg jU
     exact tx.inj hj hk e wi hd),n3 t (λj y bj hj wi=>tx.inj hj hk (by omega) wi hd)]
   rcases tx.rel hk ho Gq hd ht with⟨h1,h2⟩| ⟨h1,h2⟩
   ·rw[hi.MH k x t hk (iU k h2) hd,tx.stay hk hd _ rM (zae _),tx.stay hk hd i h1 (by omega)]
   rw[hi.IB t (λj y hj jU wi=>by
    by_cases e:j=k
    ·subst e;have:=Hp j y hj jU;rw[h2] at this;cases this
    exact tx.inj hj hk e wi hd),n3 t (λj y bj hj wi=>tx.inj hj hk (by omega) wi hd)]
  rw[hi.IB t (λj y hj _ wi=>hex ⟨j,y,hj,wi⟩),n3 t (λj y _ hj wi=>hex ⟨j,y,hj,wi⟩)]
 have Ef:s.n=(St i).n:=by rw[hi.n,n1]
 obtain⟨k,rM,J0,yU⟩:=hi.rg;have C0: ∀(R:List (Nat×En)) (q:P) (s1:S),(∀d,o.dst=some d->lk (St (i+1)).tm d=some q)->(⟨s.n,s.tm,R⟩:S).put o.dst q=some s1->
   (∃k,k<=ops.length/\R=(St k).rg/\ ∀j x,ops[j]?=some x->1<ar x->(j<k↔(L j\/j=i)))->Inv ops St (λj=>L j\/j=i) s1:=by
  intro R q s1 hval J1 Lv;obtain⟨g1,g2,g3,g4⟩:=eT J1;have keep: ∀t,o.dst≠some t->lk s1.tm t=lk s.tm t:=λt ht=>g4 t ht;refine⟨g1.trans hi.n,λj y t hj jU hd=> ?_,λt ht=> ?_,?_⟩
  ·rcases jU with jU |rfl
   ·have ca:j≠i:=λe=>bg (e▸jU);rw[keep t (tx.inj hj ho ca hd),hi.MH j y t hj jU hd]
   rw[ho] at hj;cases hj;rw[g3 t hd,tx.stay ho hd _ il (zae _),hval t hd]
  ·rw[keep t (ht i o ho (.inr rfl)),hi.IB t (λj y hj jU=>ht j y hj (.inl jU))]
  rw[g2];exact Lv
 by_cases hk:ar o<=1
 ·
  have Gr: ∀g,aG ops o=some g->ar o≠0-> ∀j y,ops[j]?=some y->1<ar y->(j<i/\ ¬L j\/i<=j/\L j)->
    (∀n∈(aQ Q ops (St i) o).ns,lk (St (j+1)).rg n=lk (St j).rg n)\/nz Q ops (St i) o (St j).rg (St (j+1)).rg:=by
   intro g hg h0 j y hj hy hc;have p1:=(fk (Q:=Q) (s:=St i) hk hg).1;have OA:iB (aQ Q ops (St i) o) (aQ Q ops (St j) y)=true\/iB (aQ Q ops (St j) y) (aQ Q ops (St i) o)=true-> ∀n∈(aQ Q ops (St i) o).ns,lk (St (j+1)).rg n=lk (St j).rg n:=by intro h3 n hn;refine gh (by omega) (tx.run j y hj) ?_;unfold iB at h3;rw[p1,qn (o:=y) (by omega)] at h3;simp only[zar,za3,zaT,or_self] at h3;exact MI h3 hn
   rcases hc with⟨bj,jU⟩| ⟨hle,jU⟩
   ·have Hq:Nat.testBit (M.getD i 0) j=false:=by
     cases hb:Nat.testBit (M.getD i 0) j with
     |false=>rfl
     |true=>exact absurd (iU j hb) jU
    rcases tx.info j i y o bj hj ho (.inr hk) Hq with h3 |h3 |h3 |h3
    ·omega
    ·exact .inl (OA (.inr h3))
    ·rw[qn (o:=y) (by omega)] at h3;cases h3.1
    exact h3.2
   have ca:j≠i:=λe=>bg (e▸jU);rcases tx.info i j o y (by omega) ho hj (.inl hk) (Hp j y hj jU) with h3 |h3 |h3 |h3
   ·omega
   ·exact .inl (OA (.inl h3))
   ·exact h3.2
   rw[qn (o:=y) (by omega)] at h3;cases h3.1
  have Hr: ∀j y,ops[j]?=some y->ar y<=1->(St (j+1)).rg=(St j).rg:=λj y hj hy=>by
   have yY:j<ops.length:=(zaa.1 hj).1;exact tx.mN (i:=j) (j+1) (by omega) (by omega) λj' y' h1 h2 CB=>by
    have:j'=j:=by omega
    subst this;rw[hj] at CB;cases CB;exact hy
  have chain: ∀{C:List (Nat×En)->Prop},(∀j y,ops[j]?=some y->(j<i/\ ¬L j\/i<=j/\L j)->1<ar y->(C (St j).rg↔C (St (j+1)).rg))->(C (St i).rg↔C s.rg):=by
   intro C hC;rw[J0];have go: ∀d lo,lo+d<=ops.length->(∀j,lo<=j->j<lo+d-> ∀y,ops[j]?=some y->1<ar y->(j<i/\ ¬L j\/i<=j/\L j))->(C (St lo).rg↔C (St (lo+d)).rg):=by
    intro d
    induction d with
    |zero=>intro lo _ _;exact Iff.rfl
    |succ d ih=>
     intro lo hl GZ;refine(ih lo (by omega) λj h1 h2=>GZ j h1 (by omega)).trans ?_;have fK:ops[lo+d]?=some ops[lo+d]:=zac (by omega);by_cases hy:ar ops[lo+d]<=1
     ·rw[show lo+(d+1)=lo+d+1 by omega,Hr _ _ fK hy]
     exact hC _ _ fK (GZ _ (by omega) (by omega) _ fK (by omega)) (by omega)
   rcases Nat.le_total k i with Gq |Gq
   ·have:=go (i-k) k (by omega) λj h1 h2 y hj hy=> .inl ⟨by omega,λh=>by have:=(yU j y hj hy).2 h;omega⟩;rw[show k+(i-k)=i by omega] at this;exact this.symm
   have:=go (k-i) i (by omega) λj h1 h2 y hj hy=> .inr ⟨h1,(yU j y hj hy).1 (by omega)⟩;rw[show i+(k-i)=k by omega] at this;exact this
  have J2:(ar o=0\/ ∀g,aG ops o=some g-> ∀x∈o.op.operands.toList,dG s.rg (St i).rg ((St i).eg g x))\/((∃t m k,o.op= .lookup t m k false)/\ ∀g,aG ops o=some g->pv Q ((St i).wr s.rg) o g=pv Q (St i) o g):=by
   by_cases h0:ar o=0
   ·exact .inl (.inl h0)
   cases hg:aG ops o with
   |none=>exact .inl (.inr λg Br=>by cases Br)
   |some g=>
    have p2:=(fk (Q:=Q) (s:=St i) hk hg).2 h0;have PD: ∀R R':List (Nat×En),(∀n∈(aQ Q ops (St i) o).ns,lk R' n=lk R n)-> ∀x∈o.op.operands.toList,dG R' R ((St i).eg g x):=λR R' PE x hx n v hn=>by refine PE n ?_;rw[p2];exact lb _ _ n v (zbr hx) hn
    by_cases jZ: ∃t m k,o.op= .lookup t m k false
    ·refine .inr ⟨jZ,λg' Br=> ?_⟩;cases Br;have:=chain (C:=λR=>pv Q ((St i).wr R) o g=pv Q (St i) o g) λj y hj hc hy=>by
      have e:pv Q ((St i).wr (St (j+1)).rg) o g=pv Q ((St i).wr (St j).rg) o g:=by
       rcases Gr g hg h0 j y hj hy hc with h3 |h3
       ·exact Gp (s:=(St i).wr (St j).rg) (R:=(St (j+1)).rg) (.inr (PD _ _ h3))
       exact h3.2 g hg
      rw[e]
     exact this.1 rfl
    refine .inl (.inr λg' Br x hx n v hn=> ?_);cases Br;have eD:n∈(aQ Q ops (St i) o).ns:=by rw[p2];exact lb _ _ n v (zbr hx) hn
    have:=chain (C:=λR=>lk R n=lk (St i).rg n) λj y hj hc hy=>by
     rcases Gr g hg h0 j y hj hy hc with h3 |h3
     ·rw[h3 n eD]
     exact absurd h3.1 jZ
    exact this.1 rfl
  have J3: ∃c:Option P,aM Q cf ops (St i) o=(c.bind λq=>(St i).put o.dst q)/\aM Q cf ops s o=(c.bind λq=>s.put o.dst q):=by
   rcases J2 with Hs | ⟨jZ,Ee⟩
   ·exact kM (Q:=Q) (cf:=cf) (ops:=ops) (s:=St i) (s2:=s) (o:=o) hk CZ Ef Hs
   exact wb (Q:=Q) (cf:=cf) (ops:=ops) (s:=St i) (s2:=s) (o:=o) jZ CZ Ef Ee
  obtain⟨c,h1,h2⟩:=J3;rw[tx.run i o ho] at h1;cases c with
  |none=>cases h1
  |some q=>have h1:(St i).put o.dst q=some (St (i+1)):=h1.symm;obtain⟨s1,mH⟩:=wc h1 Ef;refine⟨s1,by rw[h2];exact mH,C0 s.rg q s1 (eT h1).2.2.1 mH ⟨k,rM,J0,λj y hj hy=> ?_⟩⟩;rw[yU j y hj hy];refine⟨.inl,λh=>h.resolve_right λe=> ?_⟩;subst e;rw[ho] at hj;cases hj;omega
 have kN: ∀j y,ops[j]?=some y->1<ar y->(j<i↔L j):=λj y hj hy=>by
  constructor
  ·intro bj;rcases tx.kinds bj hj ho with h |h |h |h
   ·exact iU j h
   ·omega
   ·omega
   exact Ai h j y (by omega) hj hy
  intro jU;rcases Nat.lt_trichotomy j i with h |h |h
  ·exact h
  ·exact absurd (h▸jU) bg
  rcases tx.kinds h ho hj with h' |h' |h' |h'
  ·rw[Hp j y hj jU] at h';cases h'
  ·omega
  ·omega
  exact absurd (Ah (h'▸jU) i o (by omega) ho (by omega)) bg
 have Lv:s.rg=(St i).rg:=by
  rw[J0];rcases Nat.le_total k i with Gq |Gq
  ·refine(tx.mN i Gq (by omega) (λj y h1 h2 hj=> ?_)).symm;by_cases hy:ar y<=1
   ·exact hy
   have:=(yU j y hj (by omega)).2 ((kN j y hj (by omega)).1 h2);omega
  refine tx.mN k Gq rM (λj y h1 h2 hj=> ?_);by_cases hy:ar y<=1
  ·exact hy
  have:=(kN j y hj (by omega)).2 ((yU j y hj (by omega)).1 h2);omega
 obtain⟨c,h1,h2⟩:=lV (Q:=Q) (cf:=cf) (ops:=ops) (s:=St i) (s2:=s) (o:=o) CZ Ef Lv;rw[tx.run i o ho] at h1;cases c with
 |none=>cases h1
 |some x=>obtain⟨R,q⟩:=x;have h1:(⟨(St i).n,(St i).tm,R⟩:S).put o.dst q=some (St (i+1)):=h1.symm;obtain⟨s1,mH⟩:=wc (s2:=⟨s.n,s.tm,R⟩) h1 Ef;refine⟨s1,by rw[h2];exact mH,C0 R q s1 (eT h1).2.2.1 mH ⟨i+1,by omega,(eT h1).2.1.symm,λj y hj hy=> ?_⟩⟩;rw[<-kN j y hj hy];omega
theorem Text.last{L:Nat->Prop}{s:S}(hi:Inv ops St L s)(eW: ∀i o,ops[i]?=some o->L i):s.n=(St ops.length).n/\s.rg=(St ops.length).rg/\ ∀t,lk s.tm t=lk (St ops.length).tm t:=by
 obtain⟨n1,n3⟩:=tx.inv ops.length (zae _);refine⟨by rw[hi.n,n1],?_,λt=> ?_⟩
 ·obtain⟨k,rM,J0,yU⟩:=hi.rg;rw[J0];refine(tx.mN ops.length rM (zae _) (λj y h1 h2 hj=> ?_)).symm;by_cases hy:ar y<=1
  ·exact hy
  have:=(yU j y hj (by omega)).2 (eW j y hj);omega
 by_cases hex: ∃(k:Nat) (x:Oper),ops[k]?=some x/\x.dst=some t
 ·obtain⟨k,x,hk,hd⟩:=hex;exact hi.MH k x t hk (eW k x hk) hd
 rw[hi.IB t (λj y hj _ wi=>hex ⟨j,y,hj,wi⟩),n3 t (λj y _ hj wi=>hex ⟨j,y,hj,wi⟩)]
end
end Pi
