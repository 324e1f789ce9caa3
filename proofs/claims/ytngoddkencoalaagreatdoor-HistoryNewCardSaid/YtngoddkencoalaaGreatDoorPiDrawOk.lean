/- The text PiDrawOk. -/
import Derived.Test.YtngoddkencoalaaGreatDoorPiWr
namespace Pi
open Go
theorem fp{α:Type}{f:Nat->α->Bool}: ∀(l:List α) (i0:Nat),jb f i0 l=true-> ∀i x,l[i]?=some x->f (i0+i) x=true
 | [],i0,_,i,x,hx=>by simp at hx
 |y::r,i0,h,i,x,hx=>by
  simp only[jb,zab] at h;cases i with
  |zero=>grind
  |succ i=>
   have:=fp r (i0+1) h.2 i x (by grind);have e:i0+1+i=i0+(i+1):=by omega
   rwa [e] at this
theorem ga{α:Type}{f:Nat->α->Nat->α->Bool}: ∀(l:List α) (i0:Nat),gF f i0 l=true-> ∀i j x y,i<j->l[i]?=some x->l[j]?=some y->f (i0+i) x (i0+j) y=true
 | [],i0,_,i,j,x,y,_,hx,_=>by simp at hx
 |z::r,i0,h,i,j,x,y,qw,hx,hy=>by
  simp only[gF,zab] at h;cases j with
  |zero=>omega
  |succ j=>
   have e:i0+1+j=i0+(j+1):=by omega
   cases i with
   |zero=>simp at hx;subst hx;have:=fp r (i0+1) h.1 j y (by grind);rwa [e] at this
   |succ i=>
    have:=ga r (i0+1) h.2 i j x y (by omega) (by grind) (by grind);have e2:i0+1+i=i0+(i+1):=by omega
    rwa [e,e2] at this
theorem hJ{s s1:S}{dst:Option Nat}{q:P}(h:s.put dst q=some s1):s1.n=s.n/\s1.rg=s.rg/\(∀d,dst=some d->lk s1.tm d=some q)/\
  (∀t,dst≠some t->lk s1.tm t=lk s.tm t):=by
 unfold S.put at h;grind [bC,bU]
theorem E1{s s1 s2:S}{dst:Option Nat}{q:P}(h:s.put dst q=some s1)(hn:s2.n=s.n): ∃s3,s2.put dst q=some s3:=by unfold S.put at h⊢;grind
def tW(Q:Program)(ops:List Oper)(s:S)(x:Oper)(R R':List (Nat×En)):Prop:=
 (∃t m k,x.op= .lookup t m k false)/\ ∀g,bp ops x=some g->pv Q (s.wr R') x g=pv Q (s.wr R) x g
structure Text(Q:Program)(cf:CF)(ops:List Oper)(M:List Nat)(St:Nat->S)(m:Nat):Prop where
 fix: ∀i o,ops[i]?=some o->LX M i o=true
 pair: ∀i j x y,i<j->ops[i]?=some x->ops[j]?=some y->oZ m ops M i x j y=true
 run: ∀i o,ops[i]?=some o->bu Q cf ops (St i) o=some (St (i+1))
 info: ∀i j x y,i<j->ops[i]?=some x->ops[j]?=some y->(aC x<=1\/aC y<=1)->Nat.testBit (M.getD j 0) i=false->
  (aC x=0\/aC y=0\/(aC x<=1/\aC y<=1))\/ma (bL Q ops (St i) x) (bL Q ops (St j) y)=true\/
  ((bL Q ops (St i) x).pure=true/\((∀n∈(bL Q ops (St i) x).ns,lk (St (j+1)).rg n=lk (St j).rg n)\/tW Q ops (St i) x (St j).rg (St (j+1)).rg))\/
  ((bL Q ops (St j) y).pure=true/\((∀n∈(bL Q ops (St j) y).ns,lk (St (i+1)).rg n=lk (St i).rg n)\/tW Q ops (St j) y (St i).rg (St (i+1)).rg))
section
variable{Q:Program}{cf:CF}{ops:List Oper}{M:List Nat}{St:Nat->S}{m:Nat}(tx:Text Q cf ops M St m)
include tx
theorem Text.back{i:Nat}{o:Oper}(ho:ops[i]?=some o){e:Edge}(he:e∈o.after)(hb:Region.binds .any e=true):e.on<i:=by have:=tx.fix i o ho;simp only[LX,zab] at this;have h:=zbk.1 this.1.2 e (by grind);simp_all
theorem Text.mask{i:Nat}{o:Oper}(ho:ops[i]?=some o):M.getD i 0=kJ M o.after.toList:=by have:=tx.fix i o ho;simp_all [LX,zab,zaf]
omit tx in
theorem rA(acc:List Nat)(j:Nat): ∀(es:List Edge),Nat.testBit (kJ acc es) j=true-> ∃e∈es,Region.binds .any e=true/\(j=e.on\/Nat.testBit (acc.getD e.on 0) j=true)
 | [],h=>by simp[kJ] at h
 |e::es,h=>by
  simp only[kJ] at h;split at h
  next hb=>
   have h':Nat.testBit ((1<<<e.on |||acc.getD e.on 0)|||kJ acc es) j=true:=h;rw[Nat.testBit_or,Nat.testBit_or] at h';simp only[zba] at h';rcases h' with(h' |h')|h'
   ·refine⟨e,by simp,hb,.inl ?_⟩;rw[Nat.testBit_shiftLeft] at h';simp only[zab,zah,ge_iff_le] at h';obtain⟨h1,h2⟩:=h';cases hd:j-e.on with
    |zero=>omega
    |succ n=>rw[hd] at h2;simp[Nat.testBit_succ] at h2
   ·exact⟨e,by simp,hb,.inr h'⟩
   obtain⟨e',cK,h1,h2⟩:=rA acc j es h';exact⟨e',by simp[cK],h1,h2⟩
  obtain⟨e',cK,h1,h2⟩:=rA acc j es h;exact⟨e',by simp[cK],h1,h2⟩
omit tx in
def E2(ops:List Oper)(L:Nat->Prop):Prop:= ∀i o,ops[i]?=some o->L i-> ∀e∈o.after,Region.binds .any e=true->L e.on
theorem Text.sub{L:Nat->Prop}(hL:E2 ops L): ∀(i:Nat) (o:Oper),ops[i]?=some o->(∀e∈o.after,Region.binds .any e=true->L e.on)-> ∀j,Nat.testBit (M.getD i 0) j=true->L j:=by
 intro i
 induction i using Nat.strongRecOn with
 |ind i ih=>
  intro o ho he j hj;rw[tx.mask ho] at hj;obtain⟨e,hm,hb,h⟩:=rA M j _ hj;have hm:e∈o.after:=by grind
  rcases h with h |h
  ·grind
  have bI:=tx.back ho hm hb;have hlen:i<ops.length:=(zad.1 ho).1;have gb:ops[e.on]?=some ops[e.on]:=zae (by omega);exact ih e.on bI _ gb (hL e.on _ gb (he e hm hb)) j h
theorem Text.lt{i:Nat}{o:Oper}(ho:ops[i]?=some o){j:Nat}(hj:Nat.testBit (M.getD i 0) j=true):j<i:=
 tx.sub (L:=(· <i)) (λ_ _ hk bI _ he hb=>Nat.lt_trans (tx.back hk he hb) bI) i o ho (λ_ he hb=>tx.back ho he hb) j hj
theorem Text.inj{i j:Nat}{x y:Oper}(hx:ops[i]?=some x)(hy:ops[j]?=some y)(dI:i≠j){d:Nat}(hd:x.dst=some d):y.dst≠some d:=by
 intro Qa;have key: ∀{i j:Nat} {x y:Oper},i<j->ops[i]?=some x->ops[j]?=some y->x.dst=some d->y.dst=some d->False:=by intro i j x y qw hx hy hd Qa;have:=tx.pair i j x y qw hx hy;simp[oZ,B2,hd,Qa] at this
 grind
theorem Text.rel{i j:Nat}{x y:Oper}(hx:ops[i]?=some x)(hy:ops[j]?=some y)(dI:i≠j){d:Nat}(hd:x.dst=some d)(hl:d∈looks ops y):
  (i<j/\Nat.testBit (M.getD j 0) i=true)\/(j<i/\Nat.testBit (M.getD i 0) j=true):=by
 have hm:gS d (looks ops y)=true:=(kx _ _).2 hl;rcases zci dI with h |h
 ·refine .inl ⟨h,?_⟩;have:=tx.pair i j x y h hx hy;grind [oZ,AE]
 refine .inr ⟨h,?_⟩;have:=tx.pair j i y x h hy hx;grind [oZ,AE]
theorem Text.kinds{i j:Nat}{x y:Oper}(qw:i<j)(hx:ops[i]?=some x)(hy:ops[j]?=some y):Nat.testBit (M.getD j 0) i=true\/aC x<=1\/aC y<=1\/j=m:=by have:=tx.pair i j x y qw hx hy;simp only[oZ,zab,zba,zb0,Nat.beq_eq] at this;grind
theorem Text.step{i:Nat}{o:Oper}(ho:ops[i]?=some o): ∃R q,(⟨(St i).n,(St i).tm,R⟩:S).put o.dst q=some (St (i+1)):=by
 obtain⟨c,h2,_⟩:=rz (Q:=Q) (cf:=cf) (ops:=ops) (s:=St i) (s2:=St i) (o:=o) (λ_ _=>rfl) rfl rfl;rw[tx.run i o ho] at h2;cases c with
 |none=>cases h2
 |some x=>exact⟨x.1,x.2,h2.symm⟩
theorem Text.inv: ∀(i:Nat),i<=ops.length->(St i).n=(St 0).n/\
  (∀t,(∀k o,k<i->ops[k]?=some o->o.dst≠some t)->lk (St i).tm t=lk (St 0).tm t)
 |0,_=>⟨rfl,λ_ _=>rfl⟩
 |i+1,hi=>by obtain⟨h1,h3⟩:=Text.inv i (by omega);have ho:ops[i]?=some ops[i]:=zae (by omega);obtain⟨R,q,hg⟩:=tx.step ho;obtain⟨g1,g2,g3,g4⟩:=hJ hg;grind
theorem Text.keep{i:Nat}{o:Oper}(ho:ops[i]?=some o){t:Nat}(ht:o.dst≠some t):lk (St (i+1)).tm t=lk (St i).tm t:=by obtain⟨R,q,hg⟩:=tx.step ho;exact(hJ hg).2.2.2 t ht
theorem Text.stay{i:Nat}{o:Oper}(ho:ops[i]?=some o){t:Nat}(ht:o.dst=some t): ∀k,i<k->k<=ops.length->lk (St k).tm t=lk (St (i+1)).tm t
 |0,hk,_=>by omega
 |k+1,hk,hl=>by
  rcases zcQ hk with h |h
  ·have e:i=k:=by omega
   rw[e]
  have nf:ops[k]?=some ops[k]:=zae (by omega);rw[tx.keep nf (tx.inj ho nf (by omega) ht)];exact Text.stay ho ht k (by omega) (by omega)
theorem Text.Wq{n:Nat}{i:Nat}: ∀(k:Nat),i<=k->k<=ops.length->(∀j x,i<=j->j<k->ops[j]?=some x->aC x<=1\/ ¬wB (bL Q ops (St j) x).ws n\/lk (St (j+1)).rg n=lk (St j).rg n)->lk (St k).rg n=lk (St i).rg n
 |0,hk,_,_=>by
      have e:i=0:=by omega
      rw[e]
 |k+1,hk,hl,h=>by
  rcases zcQ hk with he |bI
  ·rw[he]
  have nf:ops[k]?=some ops[k]:=zae (by omega);rw[<-Text.Wq k (by omega) (by omega) (λj x h1 h2=>h j x h1 (by omega))];by_cases fV:aC ops[k]<=1
  ·obtain⟨c,h2,_⟩:=pw (Q:=Q) (cf:=cf) (ops:=ops) (s:=St k) (s2:=St k) (o:=ops[k]) fV (λ_ _=>rfl) rfl (.inr λg _ x _ n v _=>rfl);rw[tx.run k _ nf] at h2;cases c with
   |none=>cases h2
   |some q=>rw[(hJ h2.symm).2.1]
  rcases h k _ (by omega) (by omega) nf with h' |h' |h'
  ·grind
  ·exact kc (by omega) (tx.run k _ nf) h'
  exact h'
theorem Text.sM{i:Nat}: ∀(k:Nat),i<=k->k<=ops.length->(∀j x,i<=j->j<k->ops[j]?=some x->aC x<=1)->(St k).rg=(St i).rg
 |0,hk,_,_=>by
    have e:i=0:=by omega
    rw[e]
 |k+1,hk,hl,h=>by
  rcases zcQ hk with he |bI
  ·rw[he]
  have nf:ops[k]?=some ops[k]:=zae (by omega);rw[<-Text.sM k (by omega) (by omega) (λj x h1 h2=>h j x h1 (by omega))];obtain⟨c,h2,_⟩:=pw (Q:=Q) (cf:=cf) (ops:=ops) (s:=St k) (s2:=St k) (o:=ops[k]) (h k _ (by omega) (by omega) nf) (λ_ _=>rfl) rfl (.inr λg _ x _ n v _=>rfl);rw[tx.run k _ nf] at h2;cases c with
  |none=>cases h2
  |some q=>rw[(hJ h2.symm).2.1]
omit tx in
structure Inv(ops:List Oper)(St:Nat->S)(L:Nat->Prop)(s:S):Prop where
 n:s.n=(St 0).n
 tm1: ∀i o t,ops[i]?=some o->L i->o.dst=some t->lk s.tm t=lk (St ops.length).tm t
 tm2: ∀t,(∀i o,ops[i]?=some o->L i->o.dst≠some t)->lk s.tm t=lk (St 0).tm t
 rg: ∃k,k<=ops.length/\s.rg=(St k).rg/\ ∀i o,ops[i]?=some o->1<aC o->(i<k↔L i)
omit tx in
theorem qhQ{ns:List Nat}{W:List Nat×Nat×Nat}(h:J7 ns W=true){n:Nat}(hn:n∈ns): ¬wB W n:=by
 unfold J7 at h;have:=zbk.1 h n hn;simp only[zab,zbu,Bool.and_eq_false_iff] at this;intro hw;rcases hw with hw |hw
 ·have h1:gS n W.1=true:=(kx _ _).2 hw;rw[h1] at this;simp at this
 rcases this.2 with h2 |h2
 ·have:Nat.ble W.2.1 n=true:=Nat.ble_eq_true_of_le hw.1;rw[this] at h2;cases h2
 have:Nat.blt n W.2.2=true:=by simp[Nat.blt];omega
 rw[this] at h2;cases h2
omit tx in
theorem qc: ∀(ps:List P) (p:P) (n v:Nat),p∈ps->p.name=some (n,v)->n∈pY ps
 | [],p,n,v,h,_=>by simp at h
 |q::r,p,n,v,h,hn=>by
  simp only[pY];rcases zav.1 h with h |h
  ·subst h;rw[hn];simp
  have:=qc r p n v h hn;split
  ·exact zaH _ this
  exact this
omit tx in
theorem iP{s:S}{o:Oper}(hk:aC o<=1){g:Option (Nat×Bool)}(hg:bp ops o=some g):(bL Q ops s o).pure=true/\(aC o≠0->(bL Q ops s o).ns=pY (o.op.operands.toList.map (s.eg g))):=by
 unfold bL;rw[hg];simp only[Nat.ble_eq_true_of_le hk,zbb,zc3];intro h0;have:Nat.beq (aC o) 0=false:=by
  cases hb:Nat.beq (aC o) 0 with
  |false=>rfl
  |true=>exact absurd (zaf hb) h0
 rw[this];rfl
omit tx in
theorem xN{s:S}{o:Oper}(hk:1<aC o):(bL Q ops s o).pure=false:=by
 unfold bL;have hb:Nat.ble (aC o) 1=false:=by
  cases hx:Nat.ble (aC o) 1 with
  |false=>rfl
  |true=>rw[zb0] at hx;omega
 split
 ·rfl
 rw[hb];rfl
theorem Text.go{L:Nat->Prop}(hL:E2 ops L){s:S}(hi:Inv ops St L s){i:Nat}{o:Oper}(ho:ops[i]?=some o)(b7: ¬L i)(he: ∀e∈o.after,Region.binds .any e=true->L e.on)
  (Mc:L m-> ∀x p,x<m->ops[x]?=some p->1<aC p->L x) (EH:i=m-> ∀x p,x<m->ops[x]?=some p->1<aC p->L x):
  ∃s1,bu Q cf ops s o=some s1/\Inv ops St (λj=>L j\/j=i) s1:=by
 have bQ:i<ops.length:=(zad.1 ho).1;have jN:=tx.sub hL i o ho he;have qbM: ∀j x,ops[j]?=some x->L j->Nat.testBit (M.getD j 0) i=false:=λj x hx hj=>by
  cases hb:Nat.testBit (M.getD j 0) i with
  |false=>rfl
  |true=>exact absurd (tx.sub hL j x hx (hL j x hx hj) i hb) b7
 obtain⟨n1,n3⟩:=tx.inv i (by omega);have Qb: ∀t∈looks ops o,lk s.tm t=lk (St i).tm t:=by
  intro t ht;by_cases hex: ∃(k:Nat) (x:Oper),ops[k]?=some x/\x.dst=some t
  ·obtain⟨k,x,hk,hd⟩:=hex;have tG:k<ops.length:=(zad.1 hk).1;by_cases hki:k=i
   ·subst hki;rw[hi.tm2 t (λj y hj oD E3=>by
     by_cases e:j=k
     ·rw[e] at oD;exact b7 oD
     exact tx.inj hj hk e E3 hd),n3 t (λj y bI hj E3=>tx.inj hj hk (by omega) E3 hd)]
   rcases tx.rel hk ho hki hd ht with⟨h1,h2⟩| ⟨h1,h2⟩
   ·rw[hi.tm1 k x t hk (jN k h2) hd,tx.stay hk hd _ tG (zaj _),tx.stay hk hd i h1 (by omega)]
   rw[hi.tm2 t (λj y hj oD E3=>by
    by_cases e:j=k
    ·subst e;have:=qbM j y hj oD;rw[h2] at this;cases this
    exact tx.inj hj hk e E3 hd),n3 t (λj y bI hj E3=>tx.inj hj hk (by omega) E3 hd)]
  rw[hi.tm2 t (λj y hj _ E3=>hex ⟨j,y,hj,E3⟩),n3 t (λj y _ hj E3=>hex ⟨j,y,hj,E3⟩)]
 have Pp:s.n=(St i).n:=by rw[hi.n,n1]
 obtain⟨k,tG,hkr,Ke⟩:=hi.rg;have Qc: ∀(R:List (Nat×En)) (q:P) (s1:S),(∀d,o.dst=some d->lk (St (i+1)).tm d=some q)->(⟨s.n,s.tm,R⟩:S).put o.dst q=some s1->
   (∃k,k<=ops.length/\R=(St k).rg/\ ∀j x,ops[j]?=some x->1<aC x->(j<k↔(L j\/j=i)))->Inv ops St (λj=>L j\/j=i) s1:=by
  intro R q s1 hval qfc hrg;obtain⟨g1,g2,g3,g4⟩:=hJ qfc;have keep: ∀t,o.dst≠some t->lk s1.tm t=lk s.tm t:=λt ht=>g4 t ht;refine⟨g1.trans hi.n,λj y t hj oD hd=> ?_,λt ht=> ?_,?_⟩
  ·rcases oD with oD |rfl
   ·have dI:j≠i:=λe=>b7 (e▸oD);rw[keep t (tx.inj hj ho dI hd),hi.tm1 j y t hj oD hd]
   rw[ho] at hj;cases hj;rw[g3 t hd,tx.stay ho hd _ bQ (zaj _),hval t hd]
  ·rw[keep t (ht i o ho (.inr rfl)),hi.tm2 t (λj y hj oD=>ht j y hj (.inl oD))]
  rw[g2];exact hrg
 by_cases hk:aC o<=1
 ·
  have qaI: ∀g,bp ops o=some g->aC o≠0-> ∀j y,ops[j]?=some y->1<aC y->(j<i/\ ¬L j\/i<=j/\L j)->
    (∀n∈(bL Q ops (St i) o).ns,lk (St (j+1)).rg n=lk (St j).rg n)\/tW Q ops (St i) o (St j).rg (St (j+1)).rg:=by
   intro g hg h0 j y hj hy hc;have p1:=(iP (Q:=Q) (s:=St i) hk hg).1;have byW:ma (bL Q ops (St i) o) (bL Q ops (St j) y)=true\/ma (bL Q ops (St j) y) (bL Q ops (St i) o)=true-> ∀n∈(bL Q ops (St i) o).ns,lk (St (j+1)).rg n=lk (St j).rg n:=by intro h3 n hn;refine kc (by omega) (tx.run j y hj) ?_;unfold ma at h3;rw[p1,xN (o:=y) (by omega)] at h3;simp only[zaB,zbj,zbb,or_self] at h3;exact qhQ h3 hn
   rcases hc with⟨bI,oD⟩| ⟨hle,oD⟩
   ·have qbN:Nat.testBit (M.getD i 0) j=false:=by
     cases hb:Nat.testBit (M.getD i 0) j with
     |false=>rfl
     |true=>exact absurd (jN j hb) oD
    rcases tx.info j i y o bI hj ho (.inr hk) qbN with h3 |h3 |h3 |h3
    ·omega
    ·exact .inl (byW (.inr h3))
    ·rw[xN (o:=y) (by omega)] at h3;cases h3.1
    exact h3.2
   have dI:j≠i:=λe=>b7 (e▸oD);rcases tx.info i j o y (by omega) ho hj (.inl hk) (qbM j y hj oD) with h3 |h3 |h3 |h3
   ·omega
   ·exact .inl (byW (.inl h3))
   ·exact h3.2
   rw[xN (o:=y) (by omega)] at h3;cases h3.1
  have qbO: ∀j y,ops[j]?=some y->aC y<=1->(St (j+1)).rg=(St j).rg:=λj y hj hy=>by
   have EC:j<ops.length:=(zad.1 hj).1;exact tx.sM (i:=j) (j+1) (by omega) (by omega) λj' y' h1 h2 Kn=>by
    have:j'=j:=by omega
    subst this;rw[hj] at Kn;cases Kn;exact hy
  have chain: ∀{C:List (Nat×En)->Prop},(∀j y,ops[j]?=some y->(j<i/\ ¬L j\/i<=j/\L j)->1<aC y->(C (St j).rg↔C (St (j+1)).rg))->(C (St i).rg↔C s.rg):=by
   intro C hC;rw[hkr];have go: ∀d lo,lo+d<=ops.length->(∀j,lo<=j->j<lo+d-> ∀y,ops[j]?=some y->1<aC y->(j<i/\ ¬L j\/i<=j/\L j))->(C (St lo).rg↔C (St (lo+d)).rg):=by
    intro d
    induction d with
    |zero=>intro lo _ _;exact Iff.rfl
    |succ d ih=>
     intro lo hl bj;refine(ih lo (by omega) λj h1 h2=>bj j h1 (by omega)).trans ?_;have nf:ops[lo+d]?=some ops[lo+d]:=zae (by omega);by_cases hy:aC ops[lo+d]<=1
     ·rw[show lo+(d+1)=lo+d+1 by omega,qbO _ _ nf hy]
     exact hC _ _ nf (bj _ (by omega) (by omega) _ nf (by omega)) (by omega)
   rcases Nat.le_total k i with hki |hki
   ·have:=go (i-k) k (by omega) λj h1 h2 y hj hy=> .inl ⟨by omega,λh=>by have:=(Ke j y hj hy).2 h;omega⟩;rw[show k+(i-k)=i by omega] at this;exact this.symm
   have:=go (k-i) i (by omega) λj h1 h2 y hj hy=> .inr ⟨h1,(Ke j y hj hy).1 (by omega)⟩;rw[show i+(k-i)=k by omega] at this;exact this
  have qfd:(aC o=0\/ ∀g,bp ops o=some g-> ∀x∈o.op.operands.toList,fK s.rg (St i).rg ((St i).eg g x))\/((∃t m k,o.op= .lookup t m k false)/\ ∀g,bp ops o=some g->pv Q ((St i).wr s.rg) o g=pv Q (St i) o g):=by
   by_cases h0:aC o=0
   ·exact .inl (.inl h0)
   cases hg:bp ops o with
   |none=>exact .inl (.inr λg GZ=>by cases GZ)
   |some g=>
    have p2:=(iP (Q:=Q) (s:=St i) hk hg).2 h0;have agr: ∀R R':List (Nat×En),(∀n∈(bL Q ops (St i) o).ns,lk R' n=lk R n)-> ∀x∈o.op.operands.toList,fK R' R ((St i).eg g x):=λR R' hRR x hx n v hn=>by refine hRR n ?_;rw[p2];exact qc _ _ n v (za7 hx) hn
    by_cases oM: ∃t m k,o.op= .lookup t m k false
    ·refine .inr ⟨oM,λg' GZ=> ?_⟩;cases GZ;have:=chain (C:=λR=>pv Q ((St i).wr R) o g=pv Q (St i) o g) λj y hj hc hy=>by
      have e:pv Q ((St i).wr (St (j+1)).rg) o g=pv Q ((St i).wr (St j).rg) o g:=by
       rcases qaI g hg h0 j y hj hy hc with h3 |h3
       ·exact qaH (s:=(St i).wr (St j).rg) (R:=(St (j+1)).rg) (.inr (agr _ _ h3))
       exact h3.2 g hg
      rw[e]
     exact this.1 rfl
    refine .inl (.inr λg' GZ x hx n v hn=> ?_);cases GZ;have fS:n∈(bL Q ops (St i) o).ns:=by rw[p2];exact qc _ _ n v (za7 hx) hn
    have:=chain (C:=λR=>lk R n=lk (St i).rg n) λj y hj hc hy=>by
     rcases qaI g hg h0 j y hj hy hc with h3 |h3
     ·rw[h3 n fS]
     exact absurd h3.1 oM
    exact this.1 rfl
  have qfe: ∃c:Option P,bu Q cf ops (St i) o=(c.bind λq=>(St i).put o.dst q)/\bu Q cf ops s o=(c.bind λq=>s.put o.dst q):=by
   rcases qfd with qbP | ⟨oM,Vf⟩
   ·exact pw (Q:=Q) (cf:=cf) (ops:=ops) (s:=St i) (s2:=s) (o:=o) hk Qb Pp qbP
   exact E0 (Q:=Q) (cf:=cf) (ops:=ops) (s:=St i) (s2:=s) (o:=o) oM Qb Pp Vf
  obtain⟨c,h1,h2⟩:=qfe;rw[tx.run i o ho] at h1;cases c with
  |none=>cases h1
  |some q=>have h1:(St i).put o.dst q=some (St (i+1)):=h1.symm;obtain⟨s1,r8⟩:=E1 h1 Pp;refine⟨s1,by rw[h2];exact r8,Qc s.rg q s1 (hJ h1).2.2.1 r8 ⟨k,tG,hkr,λj y hj hy=> ?_⟩⟩;rw[Ke j y hj hy];refine⟨.inl,λh=>h.resolve_right λe=> ?_⟩;subst e;rw[ho] at hj;cases hj;omega
 have py: ∀j y,ops[j]?=some y->1<aC y->(j<i↔L j):=λj y hj hy=>by
  constructor
  ·intro bI;rcases tx.kinds bI hj ho with h |h |h |h
   ·exact jN j h
   ·omega
   ·omega
   exact EH h j y (by omega) hj hy
  intro oD;rcases Nat.lt_trichotomy j i with h |h |h
  ·exact h
  ·exact absurd (h▸oD) b7
  rcases tx.kinds h ho hj with h' |h' |h' |h'
  ·rw[qbM j y hj oD] at h';cases h'
  ·omega
  ·omega
  exact absurd (Mc (h'▸oD) i o (by omega) ho (by omega)) b7
 have hrg:s.rg=(St i).rg:=by
  rw[hkr];rcases Nat.le_total k i with hki |hki
  ·refine(tx.sM i hki (by omega) (λj y h1 h2 hj=> ?_)).symm;by_cases hy:aC y<=1
   ·exact hy
   have:=(Ke j y hj (by omega)).2 ((py j y hj (by omega)).1 h2);omega
  refine tx.sM k hki tG (λj y h1 h2 hj=> ?_);by_cases hy:aC y<=1
  ·exact hy
  have:=(py j y hj (by omega)).2 ((Ke j y hj (by omega)).1 h2);omega
 obtain⟨c,h1,h2⟩:=rz (Q:=Q) (cf:=cf) (ops:=ops) (s:=St i) (s2:=s) (o:=o) Qb Pp hrg;rw[tx.run i o ho] at h1;cases c with
 |none=>cases h1
 |some x=>obtain⟨R,q⟩:=x;have h1:(⟨(St i).n,(St i).tm,R⟩:S).put o.dst q=some (St (i+1)):=h1.symm;obtain⟨s1,r8⟩:=E1 (s2:=⟨s.n,s.tm,R⟩) h1 Pp;refine⟨s1,by rw[h2];exact r8,Qc R q s1 (hJ h1).2.2.1 r8 ⟨i+1,by omega,(hJ h1).2.1.symm,λj y hj hy=> ?_⟩⟩;rw[<-py j y hj hy];omega
theorem Text.last{L:Nat->Prop}{s:S}(hi:Inv ops St L s)(iq: ∀i o,ops[i]?=some o->L i):s.n=(St ops.length).n/\s.rg=(St ops.length).rg/\ ∀t,lk s.tm t=lk (St ops.length).tm t:=by
 obtain⟨n1,n3⟩:=tx.inv ops.length (zaj _);refine⟨by rw[hi.n,n1],?_,λt=> ?_⟩
 ·obtain⟨k,tG,hkr,Ke⟩:=hi.rg;rw[hkr];refine(tx.sM ops.length tG (zaj _) (λj y h1 h2 hj=> ?_)).symm;by_cases hy:aC y<=1
  ·exact hy
  have:=(Ke j y hj (by omega)).2 (iq j y hj);omega
 by_cases hex: ∃(k:Nat) (x:Oper),ops[k]?=some x/\x.dst=some t
 ·obtain⟨k,x,hk,hd⟩:=hex;exact hi.tm1 k x t hk (iq k x hk) hd
 rw[hi.tm2 t (λj y hj _ E3=>hex ⟨j,y,hj,E3⟩),n3 t (λj y _ hj E3=>hex ⟨j,y,hj,E3⟩)]
end
end Pi
