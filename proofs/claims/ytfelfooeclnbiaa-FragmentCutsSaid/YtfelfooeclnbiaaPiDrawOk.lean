/- The text PiDrawOk. -/
import Derived.Test.YtfelfooeclnbiaaPiWr
namespace Pi
open Go
theorem ca{α:Type}{f:Nat->α->Bool}: ∀(l:List α) (i0:Nat),dy f i0 l=true-> ∀i x,l[i]?=some x->f (i0+i) x=true
 | [],i0,_,i,x,hx=>by simp at hx
 |y::r,i0,h,i,x,hx=>by
  simp only[dy,zad] at h;cases i with
  |zero=>grind
  |succ i=>
   have:=ca r (i0+1) h.2 i x (by grind);have e:i0+1+i=i0+(i+1):=by omega
   rwa [e] at this
theorem cv{α:Type}{f:Nat->α->Nat->α->Bool}: ∀(l:List α) (i0:Nat),cG f i0 l=true-> ∀i j x y,i<j->l[i]?=some x->l[j]?=some y->f (i0+i) x (i0+j) y=true
 | [],i0,_,i,j,x,y,_,hx,_=>by simp at hx
 |z::r,i0,h,i,j,x,y,iA,hx,hy=>by
  simp only[cG,zad] at h;cases j with
  |zero=>omega
  |succ j=>
   have e:i0+1+j=i0+(j+1):=by omega
   cases i with
   |zero=>simp at hx;subst hx;have:=ca r (i0+1) h.1 j y (by grind);rwa [e] at this
   |succ i=>
    have:=cv r (i0+1) h.2 i j x y (by omega) (by grind) (by grind);have e2:i0+1+i=i0+(i+1):=by omega
    rwa [e,e2] at this
theorem cT{s s1:S}{dst:Option Nat}{q:P}(h:s.put dst q=some s1):s1.n=s.n/\s1.rg=s.rg/\(∀d,dst=some d->lk s1.tm d=some q)/\
  (∀t,dst≠some t->lk s1.tm t=lk s.tm t):=by
 unfold S.put at h;grind [aK,aQ]
theorem p8{s s1 s2:S}{dst:Option Nat}{q:P}(h:s.put dst q=some s1)(hn:s2.n=s.n): ∃s3,s2.put dst q=some s3:=by unfold S.put at h⊢;grind
def jX(Q:Program)(ops:List Oper)(s:S)(x:Oper)(R R':List (Nat×En)):Prop:=
 (∃t m k,x.op= .lookup t m k false)/\ ∀g,az ops x=some g->pv Q (s.wr R') x g=pv Q (s.wr R) x g
structure Text(Q:Program)(cf:CF)(ops:List Oper)(M:List Nat)(St:Nat->S)(m:Nat):Prop where
 fix: ∀i o,ops[i]?=some o->sP M i o=true
 pair: ∀i j x y,i<j->ops[i]?=some x->ops[j]?=some y->gB m ops M i x j y=true
 run: ∀i o,ops[i]?=some o->aC Q cf ops (St i) o=some (St (i+1))
 info: ∀i j x y,i<j->ops[i]?=some x->ops[j]?=some y->(ak x<=1\/ak y<=1)->Nat.testBit (M.getD j 0) i=false->
  (ak x=0\/ak y=0\/(ak x<=1/\ak y<=1))\/eY (aL Q ops (St i) x) (aL Q ops (St j) y)=true\/
  ((aL Q ops (St i) x).pure=true/\((∀n∈(aL Q ops (St i) x).ns,lk (St (j+1)).rg n=lk (St j).rg n)\/jX Q ops (St i) x (St j).rg (St (j+1)).rg))\/
  ((aL Q ops (St j) y).pure=true/\((∀n∈(aL Q ops (St j) y).ns,lk (St (i+1)).rg n=lk (St i).rg n)\/jX Q ops (St j) y (St i).rg (St (i+1)).rg))
section
variable{Q:Program}{cf:CF}{ops:List Oper}{M:List Nat}{St:Nat->S}{m:Nat}(tx:Text Q cf ops M St m)
include tx
theorem Text.back{i:Nat}{o:Oper}(ho:ops[i]?=some o){e:Edge}(he:e∈o.after)(hb:Region.binds .any e=true):e.on<i:=by have:=tx.fix i o ho;simp only[sP,zad] at this;have h:=zaE.1 this.1.2 e (by grind);simp_all
theorem Text.mask{i:Nat}{o:Oper}(ho:ops[i]?=some o):M.getD i 0=er M o.after.toList:=by have:=tx.fix i o ho;simp_all [sP,zad,zac]
omit tx in
theorem iX(acc:List Nat)(j:Nat): ∀(es:List Edge),Nat.testBit (er acc es) j=true-> ∃e∈es,Region.binds .any e=true/\(j=e.on\/Nat.testBit (acc.getD e.on 0) j=true)
 | [],h=>by simp[er] at h
 |e::es,h=>by
  simp only[er] at h;split at h
  next hb=>
   have h':Nat.testBit ((1<<<e.on |||acc.getD e.on 0)|||er acc es) j=true:=h;rw[Nat.testBit_or,Nat.testBit_or] at h';simp only[zbm] at h';rcases h' with(h' |h')|h'
   ·refine⟨e,by simp,hb,.inl ?_⟩;rw[Nat.testBit_shiftLeft] at h';simp only[zad,zaH,ge_iff_le] at h';obtain⟨h1,h2⟩:=h';cases hd:j-e.on with
    |zero=>omega
    |succ n=>rw[hd] at h2;simp[Nat.testBit_succ] at h2
   ·exact⟨e,by simp,hb,.inr h'⟩
   obtain⟨e',aW,h1,h2⟩:=iX acc j es h';exact⟨e',by simp[aW],h1,h2⟩
  obtain⟨e',aW,h1,h2⟩:=iX acc j es h;exact⟨e',by simp[aW],h1,h2⟩
omit tx in
def p9(ops:List Oper)(L:Nat->Prop):Prop:= ∀i o,ops[i]?=some o->L i-> ∀e∈o.after,Region.binds .any e=true->L e.on
theorem Text.sub{L:Nat->Prop}(hL:p9 ops L): ∀(i:Nat) (o:Oper),ops[i]?=some o->(∀e∈o.after,Region.binds .any e=true->L e.on)-> ∀j,Nat.testBit (M.getD i 0) j=true->L j:=by
 intro i
 induction i using Nat.strongRecOn with
 |ind i ih=>
  intro o ho he j hj;rw[tx.mask ho] at hj;obtain⟨e,hm,hb,h⟩:=iX M j _ hj;have hm:e∈o.after:=by grind
  rcases h with h |h
  ·grind
  have bm:=tx.back ho hm hb;have hlen:i<ops.length:=(zaa.1 ho).1;have oV:ops[e.on]?=some ops[e.on]:=zab (by omega);exact ih e.on bm _ oV (hL e.on _ oV (he e hm hb)) j h
theorem Text.lt{i:Nat}{o:Oper}(ho:ops[i]?=some o){j:Nat}(hj:Nat.testBit (M.getD i 0) j=true):j<i:=
 tx.sub (L:=(· <i)) (λ_ _ hk bm _ he hb=>Nat.lt_trans (tx.back hk he hb) bm) i o ho (λ_ he hb=>tx.back ho he hb) j hj
theorem Text.inj{i j:Nat}{x y:Oper}(hx:ops[i]?=some x)(hy:ops[j]?=some y)(bz:i≠j){d:Nat}(hd:x.dst=some d):y.dst≠some d:=by
 intro Cd;have key: ∀{i j:Nat} {x y:Oper},i<j->ops[i]?=some x->ops[j]?=some y->x.dst=some d->y.dst=some d->False:=by intro i j x y iA hx hy hd Cd;have:=tx.pair i j x y iA hx hy;simp[gB,n9,hd,Cd] at this
 grind
theorem Text.rel{i j:Nat}{x y:Oper}(hx:ops[i]?=some x)(hy:ops[j]?=some y)(bz:i≠j){d:Nat}(hd:x.dst=some d)(hl:d∈looks ops y):
  (i<j/\Nat.testBit (M.getD j 0) i=true)\/(j<i/\Nat.testBit (M.getD i 0) j=true):=by
 have hm:dJ d (looks ops y)=true:=(dZ _ _).2 hl;rcases zbp bz with h |h
 ·refine .inl ⟨h,?_⟩;have:=tx.pair i j x y h hx hy;grind [gB,nq]
 refine .inr ⟨h,?_⟩;have:=tx.pair j i y x h hy hx;grind [gB,nq]
theorem Text.kinds{i j:Nat}{x y:Oper}(iA:i<j)(hx:ops[i]?=some x)(hy:ops[j]?=some y):Nat.testBit (M.getD j 0) i=true\/ak x<=1\/ak y<=1\/j=m:=by have:=tx.pair i j x y iA hx hy;simp only[gB,zad,zbm,za7,Nat.beq_eq] at this;grind
theorem Text.step{i:Nat}{o:Oper}(ho:ops[i]?=some o): ∃R q,(⟨(St i).n,(St i).tm,R⟩:S).put o.dst q=some (St (i+1)):=by
 obtain⟨c,h2,_⟩:=iW (Q:=Q) (cf:=cf) (ops:=ops) (s:=St i) (s2:=St i) (o:=o) (λ_ _=>rfl) rfl rfl;rw[tx.run i o ho] at h2;cases c with
 |none=>cases h2
 |some x=>exact⟨x.1,x.2,h2.symm⟩
theorem Text.inv: ∀(i:Nat),i<=ops.length->(St i).n=(St 0).n/\
  (∀t,(∀k o,k<i->ops[k]?=some o->o.dst≠some t)->lk (St i).tm t=lk (St 0).tm t)
 |0,_=>⟨rfl,λ_ _=>rfl⟩
 |i+1,hi=>by obtain⟨h1,h3⟩:=Text.inv i (by omega);have ho:ops[i]?=some ops[i]:=zab (by omega);obtain⟨R,q,hg⟩:=tx.step ho;obtain⟨g1,g2,g3,g4⟩:=cT hg;grind
theorem Text.keep{i:Nat}{o:Oper}(ho:ops[i]?=some o){t:Nat}(ht:o.dst≠some t):lk (St (i+1)).tm t=lk (St i).tm t:=by obtain⟨R,q,hg⟩:=tx.step ho;exact(cT hg).2.2.2 t ht
theorem Text.stay{i:Nat}{o:Oper}(ho:ops[i]?=some o){t:Nat}(ht:o.dst=some t): ∀k,i<k->k<=ops.length->lk (St k).tm t=lk (St (i+1)).tm t
 |0,hk,_=>by omega
 |k+1,hk,hl=>by
  rcases zbM hk with h |h
  ·have e:i=k:=by omega
   rw[e]
  have hT:ops[k]?=some ops[k]:=zab (by omega);rw[tx.keep hT (tx.inj ho hT (by omega) ht)];exact Text.stay ho ht k (by omega) (by omega)
theorem Text.xA{n:Nat}{i:Nat}: ∀(k:Nat),i<=k->k<=ops.length->(∀j x,i<=j->j<k->ops[j]?=some x->ak x<=1\/ ¬lx (aL Q ops (St j) x).ws n\/lk (St (j+1)).rg n=lk (St j).rg n)->lk (St k).rg n=lk (St i).rg n
 |0,hk,_,_=>by
      have e:i=0:=by omega
      rw[e]
 |k+1,hk,hl,h=>by
  rcases zbM hk with he |bm
  ·rw[he]
  have hT:ops[k]?=some ops[k]:=zab (by omega);rw[<-Text.xA k (by omega) (by omega) (λj x h1 h2=>h j x h1 (by omega))];by_cases w6:ak ops[k]<=1
  ·obtain⟨c,h2,_⟩:=gV (Q:=Q) (cf:=cf) (ops:=ops) (s:=St k) (s2:=St k) (o:=ops[k]) w6 (λ_ _=>rfl) rfl (.inr λg _ x _ n v _=>rfl);rw[tx.run k _ hT] at h2;cases c with
   |none=>cases h2
   |some q=>rw[(cT h2.symm).2.1]
  rcases h k _ (by omega) (by omega) hT with h' |h' |h'
  ·grind
  ·exact dX (by omega) (tx.run k _ hT) h'
  exact h'
theorem Text.jF{i:Nat}: ∀(k:Nat),i<=k->k<=ops.length->(∀j x,i<=j->j<k->ops[j]?=some x->ak x<=1)->(St k).rg=(St i).rg
 |0,hk,_,_=>by
    have e:i=0:=by omega
    rw[e]
 |k+1,hk,hl,h=>by
  rcases zbM hk with he |bm
  ·rw[he]
  have hT:ops[k]?=some ops[k]:=zab (by omega);rw[<-Text.jF k (by omega) (by omega) (λj x h1 h2=>h j x h1 (by omega))];obtain⟨c,h2,_⟩:=gV (Q:=Q) (cf:=cf) (ops:=ops) (s:=St k) (s2:=St k) (o:=ops[k]) (h k _ (by omega) (by omega) hT) (λ_ _=>rfl) rfl (.inr λg _ x _ n v _=>rfl);rw[tx.run k _ hT] at h2;cases c with
  |none=>cases h2
  |some q=>rw[(cT h2.symm).2.1]
omit tx in
structure Inv(ops:List Oper)(St:Nat->S)(L:Nat->Prop)(s:S):Prop where
 n:s.n=(St 0).n
 Ce: ∀i o t,ops[i]?=some o->L i->o.dst=some t->lk s.tm t=lk (St ops.length).tm t
 zZ: ∀t,(∀i o,ops[i]?=some o->L i->o.dst≠some t)->lk s.tm t=lk (St 0).tm t
 rg: ∃k,k<=ops.length/\s.rg=(St k).rg/\ ∀i o,ops[i]?=some o->1<ak o->(i<k↔L i)
omit tx in
theorem Cf{ns:List Nat}{W:List Nat×Nat×Nat}(h:rZ ns W=true){n:Nat}(hn:n∈ns): ¬lx W n:=by
 unfold rZ at h;have:=zaE.1 h n hn;simp only[zad,zaX,Bool.and_eq_false_iff] at this;intro hw;rcases hw with hw |hw
 ·have h1:dJ n W.1=true:=(dZ _ _).2 hw;rw[h1] at this;simp at this
 rcases this.2 with h2 |h2
 ·have:Nat.ble W.2.1 n=true:=Nat.ble_eq_true_of_le hw.1;rw[this] at h2;cases h2
 have:Nat.blt n W.2.2=true:=by simp[Nat.blt];omega
 rw[this] at h2;cases h2
omit tx in
theorem ia: ∀(ps:List P) (p:P) (n v:Nat),p∈ps->p.name=some (n,v)->n∈hP ps
 | [],p,n,v,h,_=>by simp at h
 |q::r,p,n,v,h,hn=>by
  simp only[hP];rcases zaz.1 h with h |h
  ·subst h;rw[hn];simp
  have:=ia r p n v h hn;split
  ·exact List.mem_cons_of_mem _ this
  exact this
omit tx in
theorem dp{s:S}{o:Oper}(hk:ak o<=1){g:Option (Nat×Bool)}(hg:az ops o=some g):(aL Q ops s o).pure=true/\(ak o≠0->(aL Q ops s o).ns=hP (o.op.operands.toList.map (s.eg g))):=by
 unfold aL;rw[hg];simp only[Nat.ble_eq_true_of_le hk,zaR,true_and];intro h0;have:Nat.beq (ak o) 0=false:=by
  cases hb:Nat.beq (ak o) 0 with
  |false=>rfl
  |true=>exact absurd (zac hb) h0
 rw[this];rfl
omit tx in
theorem me{s:S}{o:Oper}(hk:1<ak o):(aL Q ops s o).pure=false:=by
 unfold aL;have hb:Nat.ble (ak o) 1=false:=by
  cases hx:Nat.ble (ak o) 1 with
  |false=>rfl
  |true=>rw[za7] at hx;omega
 split
 ·rfl
 rw[hb];rfl
theorem Text.go{L:Nat->Prop}(hL:p9 ops L){s:S}(hi:Inv ops St L s){i:Nat}{o:Oper}(ho:ops[i]?=some o)(dH: ¬L i)(he: ∀e∈o.after,Region.binds .any e=true->L e.on)
  (s9:L m-> ∀x p,x<m->ops[x]?=some p->1<ak p->L x) (ta:i=m-> ∀x p,x<m->ops[x]?=some p->1<ak p->L x):
  ∃s1,aC Q cf ops s o=some s1/\Inv ops St (λj=>L j\/j=i) s1:=by
 have vF:i<ops.length:=(zaa.1 ho).1;have mX:=tx.sub hL i o ho he;have yZ: ∀j x,ops[j]?=some x->L j->Nat.testBit (M.getD j 0) i=false:=λj x hx hj=>by
  cases hb:Nat.testBit (M.getD j 0) i with
  |false=>rfl
  |true=>exact absurd (tx.sub hL j x hx (hL j x hx hj) i hb) dH
 obtain⟨n1,n3⟩:=tx.inv i (by omega);have vY: ∀t∈looks ops o,lk s.tm t=lk (St i).tm t:=by
  intro t ht;by_cases hex: ∃(k:Nat) (x:Oper),ops[k]?=some x/\x.dst=some t
  ·obtain⟨k,x,hk,hd⟩:=hex;have z6:k<ops.length:=(zaa.1 hk).1;by_cases yj:k=i
   ·subst yj;rw[hi.zZ t (λj y hj gm qa=>by
     by_cases e:j=k
     ·rw[e] at gm;exact dH gm
     exact tx.inj hj hk e qa hd),n3 t (λj y bm hj qa=>tx.inj hj hk (by omega) qa hd)]
   rcases tx.rel hk ho yj hd ht with⟨h1,h2⟩| ⟨h1,h2⟩
   ·rw[hi.Ce k x t hk (mX k h2) hd,tx.stay hk hd _ z6 (zag _),tx.stay hk hd i h1 (by omega)]
   rw[hi.zZ t (λj y hj gm qa=>by
    by_cases e:j=k
    ·subst e;have:=yZ j y hj gm;rw[h2] at this;cases this
    exact tx.inj hj hk e qa hd),n3 t (λj y bm hj qa=>tx.inj hj hk (by omega) qa hd)]
  rw[hi.zZ t (λj y hj _ qa=>hex ⟨j,y,hj,qa⟩),n3 t (λj y _ hj qa=>hex ⟨j,y,hj,qa⟩)]
 have wP:s.n=(St i).n:=by rw[hi.n,n1]
 obtain⟨k,z6,AG,sd⟩:=hi.rg;have vZ: ∀(R:List (Nat×En)) (q:P) (s1:S),(∀d,o.dst=some d->lk (St (i+1)).tm d=some q)->(⟨s.n,s.tm,R⟩:S).put o.dst q=some s1->
   (∃k,k<=ops.length/\R=(St k).rg/\ ∀j x,ops[j]?=some x->1<ak x->(j<k↔(L j\/j=i)))->Inv ops St (λj=>L j\/j=i) s1:=by
  intro R q s1 hval AH Bv;obtain⟨g1,g2,g3,g4⟩:=cT AH;have keep: ∀t,o.dst≠some t->lk s1.tm t=lk s.tm t:=λt ht=>g4 t ht;refine⟨g1.trans hi.n,λj y t hj gm hd=> ?_,λt ht=> ?_,?_⟩
  ·rcases gm with gm |rfl
   ·have bz:j≠i:=λe=>dH (e▸gm);rw[keep t (tx.inj hj ho bz hd),hi.Ce j y t hj gm hd]
   rw[ho] at hj;cases hj;rw[g3 t hd,tx.stay ho hd _ vF (zag _),hval t hd]
  ·rw[keep t (ht i o ho (.inr rfl)),hi.zZ t (λj y hj gm=>ht j y hj (.inl gm))]
  rw[g2];exact Bv
 by_cases hk:ak o<=1
 ·
  have yl: ∀g,az ops o=some g->ak o≠0-> ∀j y,ops[j]?=some y->1<ak y->(j<i/\ ¬L j\/i<=j/\L j)->
    (∀n∈(aL Q ops (St i) o).ns,lk (St (j+1)).rg n=lk (St j).rg n)\/jX Q ops (St i) o (St j).rg (St (j+1)).rg:=by
   intro g hg h0 j y hj hy hc;have p1:=(dp (Q:=Q) (s:=St i) hk hg).1;have C6:eY (aL Q ops (St i) o) (aL Q ops (St j) y)=true\/eY (aL Q ops (St j) y) (aL Q ops (St i) o)=true-> ∀n∈(aL Q ops (St i) o).ns,lk (St (j+1)).rg n=lk (St j).rg n:=by intro h3 n hn;refine dX (by omega) (tx.run j y hj) ?_;unfold eY at h3;rw[p1,me (o:=y) (by omega)] at h3;simp only[zaw,za6,zaR,or_self] at h3;exact Cf h3 hn
   rcases hc with⟨bm,gm⟩| ⟨hle,gm⟩
   ·have y4:Nat.testBit (M.getD i 0) j=false:=by
     cases hb:Nat.testBit (M.getD i 0) j with
     |false=>rfl
     |true=>exact absurd (mX j hb) gm
    rcases tx.info j i y o bm hj ho (.inr hk) y4 with h3 |h3 |h3 |h3
    ·omega
    ·exact .inl (C6 (.inr h3))
    ·rw[me (o:=y) (by omega)] at h3;cases h3.1
    exact h3.2
   have bz:j≠i:=λe=>dH (e▸gm);rcases tx.info i j o y (by omega) ho hj (.inl hk) (yZ j y hj gm) with h3 |h3 |h3 |h3
   ·omega
   ·exact .inl (C6 (.inl h3))
   ·exact h3.2
   rw[me (o:=y) (by omega)] at h3;cases h3.1
  have y5: ∀j y,ops[j]?=some y->ak y<=1->(St (j+1)).rg=(St j).rg:=λj y hj hy=>by
   have yb:j<ops.length:=(zaa.1 hj).1;exact tx.jF (i:=j) (j+1) (by omega) (by omega) λj' y' h1 h2 xi=>by
    have:j'=j:=by omega
    subst this;rw[hj] at xi;cases xi;exact hy
  have chain: ∀{C:List (Nat×En)->Prop},(∀j y,ops[j]?=some y->(j<i/\ ¬L j\/i<=j/\L j)->1<ak y->(C (St j).rg↔C (St (j+1)).rg))->(C (St i).rg↔C s.rg):=by
   intro C hC;rw[AG];have go: ∀d lo,lo+d<=ops.length->(∀j,lo<=j->j<lo+d-> ∀y,ops[j]?=some y->1<ak y->(j<i/\ ¬L j\/i<=j/\L j))->(C (St lo).rg↔C (St (lo+d)).rg):=by
    intro d
    induction d with
    |zero=>intro lo _ _;exact Iff.rfl
    |succ d ih=>
     intro lo hl yF;refine(ih lo (by omega) λj h1 h2=>yF j h1 (by omega)).trans ?_;have hT:ops[lo+d]?=some ops[lo+d]:=zab (by omega);by_cases hy:ak ops[lo+d]<=1
     ·rw[show lo+(d+1)=lo+d+1 by omega,y5 _ _ hT hy]
     exact hC _ _ hT (yF _ (by omega) (by omega) _ hT (by omega)) (by omega)
   rcases Nat.le_total k i with yj |yj
   ·have:=go (i-k) k (by omega) λj h1 h2 y hj hy=> .inl ⟨by omega,λh=>by have:=(sd j y hj hy).2 h;omega⟩;rw[show k+(i-k)=i by omega] at this;exact this.symm
   have:=go (k-i) i (by omega) λj h1 h2 y hj hy=> .inr ⟨h1,(sd j y hj hy).1 (by omega)⟩;rw[show i+(k-i)=k by omega] at this;exact this
  have AI:(ak o=0\/ ∀g,az ops o=some g-> ∀x∈o.op.operands.toList,cp s.rg (St i).rg ((St i).eg g x))\/((∃t m k,o.op= .lookup t m k false)/\ ∀g,az ops o=some g->pv Q ((St i).wr s.rg) o g=pv Q (St i) o g):=by
   by_cases h0:ak o=0
   ·exact .inl (.inl h0)
   cases hg:az ops o with
   |none=>exact .inl (.inr λg sW=>by cases sW)
   |some g=>
    have p2:=(dp (Q:=Q) (s:=St i) hk hg).2 h0;have D8: ∀R R':List (Nat×En),(∀n∈(aL Q ops (St i) o).ns,lk R' n=lk R n)-> ∀x∈o.op.operands.toList,cp R' R ((St i).eg g x):=λR R' D9 x hx n v hn=>by refine D9 n ?_;rw[p2];exact ia _ _ n v (zba hx) hn
    by_cases gp: ∃t m k,o.op= .lookup t m k false
    ·refine .inr ⟨gp,λg' sW=> ?_⟩;cases sW;have:=chain (C:=λR=>pv Q ((St i).wr R) o g=pv Q (St i) o g) λj y hj hc hy=>by
      have e:pv Q ((St i).wr (St (j+1)).rg) o g=pv Q ((St i).wr (St j).rg) o g:=by
       rcases yl g hg h0 j y hj hy hc with h3 |h3
       ·exact yi (s:=(St i).wr (St j).rg) (R:=(St (j+1)).rg) (.inr (D8 _ _ h3))
       exact h3.2 g hg
      rw[e]
     exact this.1 rfl
    refine .inl (.inr λg' sW x hx n v hn=> ?_);cases sW;have jv:n∈(aL Q ops (St i) o).ns:=by rw[p2];exact ia _ _ n v (zba hx) hn
    have:=chain (C:=λR=>lk R n=lk (St i).rg n) λj y hj hc hy=>by
     rcases yl g hg h0 j y hj hy hc with h3 |h3
     ·rw[h3 n jv]
     exact absurd h3.1 gp
    exact this.1 rfl
  have AJ: ∃c:Option P,aC Q cf ops (St i) o=(c.bind λq=>(St i).put o.dst q)/\aC Q cf ops s o=(c.bind λq=>s.put o.dst q):=by
   rcases AI with y6 | ⟨gp,wO⟩
   ·exact gV (Q:=Q) (cf:=cf) (ops:=ops) (s:=St i) (s2:=s) (o:=o) hk vY wP y6
   exact p7 (Q:=Q) (cf:=cf) (ops:=ops) (s:=St i) (s2:=s) (o:=o) gp vY wP wO
  obtain⟨c,h1,h2⟩:=AJ;rw[tx.run i o ho] at h1;cases c with
  |none=>cases h1
  |some q=>have h1:(St i).put o.dst q=some (St (i+1)):=h1.symm;obtain⟨s1,mJ⟩:=p8 h1 wP;refine⟨s1,by rw[h2];exact mJ,vZ s.rg q s1 (cT h1).2.2.1 mJ ⟨k,z6,AG,λj y hj hy=> ?_⟩⟩;rw[sd j y hj hy];refine⟨.inl,λh=>h.resolve_right λe=> ?_⟩;subst e;rw[ho] at hj;cases hj;omega
 have gW: ∀j y,ops[j]?=some y->1<ak y->(j<i↔L j):=λj y hj hy=>by
  constructor
  ·intro bm;rcases tx.kinds bm hj ho with h |h |h |h
   ·exact mX j h
   ·omega
   ·omega
   exact ta h j y (by omega) hj hy
  intro gm;rcases Nat.lt_trichotomy j i with h |h |h
  ·exact h
  ·exact absurd (h▸gm) dH
  rcases tx.kinds h ho hj with h' |h' |h' |h'
  ·rw[yZ j y hj gm] at h';cases h'
  ·omega
  ·omega
  exact absurd (s9 (h'▸gm) i o (by omega) ho (by omega)) dH
 have Bv:s.rg=(St i).rg:=by
  rw[AG];rcases Nat.le_total k i with yj |yj
  ·refine(tx.jF i yj (by omega) (λj y h1 h2 hj=> ?_)).symm;by_cases hy:ak y<=1
   ·exact hy
   have:=(sd j y hj (by omega)).2 ((gW j y hj (by omega)).1 h2);omega
  refine tx.jF k yj z6 (λj y h1 h2 hj=> ?_);by_cases hy:ak y<=1
  ·exact hy
  have:=(gW j y hj (by omega)).2 ((sd j y hj (by omega)).1 h2);omega
 obtain⟨c,h1,h2⟩:=iW (Q:=Q) (cf:=cf) (ops:=ops) (s:=St i) (s2:=s) (o:=o) vY wP Bv;rw[tx.run i o ho] at h1;cases c with
 |none=>cases h1
 |some x=>obtain⟨R,q⟩:=x;have h1:(⟨(St i).n,(St i).tm,R⟩:S).put o.dst q=some (St (i+1)):=h1.symm;obtain⟨s1,mJ⟩:=p8 (s2:=⟨s.n,s.tm,R⟩) h1 wP;refine⟨s1,by rw[h2];exact mJ,vZ R q s1 (cT h1).2.2.1 mJ ⟨i+1,by omega,(cT h1).2.1.symm,λj y hj hy=> ?_⟩⟩;rw[<-gW j y hj hy];omega
theorem Text.last{L:Nat->Prop}{s:S}(hi:Inv ops St L s)(cY: ∀i o,ops[i]?=some o->L i):s.n=(St ops.length).n/\s.rg=(St ops.length).rg/\ ∀t,lk s.tm t=lk (St ops.length).tm t:=by
 obtain⟨n1,n3⟩:=tx.inv ops.length (zag _);refine⟨by rw[hi.n,n1],?_,λt=> ?_⟩
 ·obtain⟨k,z6,AG,sd⟩:=hi.rg;rw[AG];refine(tx.jF ops.length z6 (zag _) (λj y h1 h2 hj=> ?_)).symm;by_cases hy:ak y<=1
  ·exact hy
  have:=(sd j y hj (by omega)).2 (cY j y hj);omega
 by_cases hex: ∃(k:Nat) (x:Oper),ops[k]?=some x/\x.dst=some t
 ·obtain⟨k,x,hk,hd⟩:=hex;exact hi.Ce k x t hk (cY k x hk) hd
 rw[hi.zZ t (λj y hj _ qa=>hex ⟨j,y,hj,qa⟩),n3 t (λj y _ hj qa=>hex ⟨j,y,hj,qa⟩)]
end
end Pi
