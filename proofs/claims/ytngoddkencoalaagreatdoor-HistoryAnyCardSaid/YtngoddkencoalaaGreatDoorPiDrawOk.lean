/- The text PiDrawOk. -/
import Derived.Test.YtngoddkencoalaaGreatDoorPiWr
namespace Pi
open Go
theorem fc {α:Type} {f:Nat->α->Bool}: ∀(l:List α) (i0:Nat),iH f i0 l=true-> ∀i x,l[i]?=some x->f (i0+i) x=true
 | [],i0,_,i,x,hx=>by simp at hx
 |y::r,i0,h,i,x,hx=>by
  simp only[iH,Bool.and_eq_true] at h
  cases i with
  |zero=>simp at hx;subst hx;exact h.1
  |succ i=>
   have:=fc r (i0+1) h.2 i x (by simpa using hx)
   have e:i0+1+i=i0+(i+1):=by omega
   rwa [e] at this
theorem fL {α:Type} {f:Nat->α->Nat->α->Bool}: ∀(l:List α) (i0:Nat),gg f i0 l=true-> ∀i j x y,i<j->l[i]?=some x->l[j]?=some y->f (i0+i) x (i0+j) y=true
 | [],i0,_,i,j,x,y,_,hx,_=>by simp at hx
 |z::r,i0,h,i,j,x,y,gn,hx,hy=>by
  simp only[gg,Bool.and_eq_true] at h
  cases j with
  |zero=>omega
  |succ j=>
   have e:i0+1+j=i0+(j+1):=by omega
   cases i with
   |zero=>
    simp at hx
    subst hx
    have:=fc r (i0+1) h.1 j y (by simpa using hy)
    rwa [e] at this
   |succ i=>
    have:=fL r (i0+1) h.2 i j x y (by omega) (by simpa using hx) (by simpa using hy)
    have e2:i0+1+i=i0+(i+1):=by omega
    rwa [e,e2] at this
theorem gI {s s1:S} {dst:Option Nat} {q:P} (h:s.put dst q=some s1):s1.n=s.n/\s1.rg=s.rg/\(∀d,dst=some d->lk s1.tm d=some q)/\
  (∀t,dst≠some t->lk s1.tm t=lk s.tm t):=by
 unfold S.put at h
 split at h
 ·simp at h;subst h;exact⟨rfl,rfl,fun d hd=>(by cases hd),fun t _=>rfl⟩
 ·rename_i d
  split at h
  ·simp at h
   subst h
   exact⟨rfl,rfl,fun d' hd=>(by cases hd;exact bA _ _ _),fun u hu=>bG _ _ (fun e=>hu (by rw[e]))⟩
  ·cases h
theorem DS {s s1 s2:S} {dst:Option Nat} {q:P} (h:s.put dst q=some s1) (hn:s2.n=s.n): ∃s3,s2.put dst q=some s3:=by
 unfold S.put at h⊢
 split at h
 ·exact⟨_,rfl⟩
 ·rw[hn]
  split at h
  ·rename_i hb;rw[if_pos hb];exact⟨_,rfl⟩
  ·cases h
def s6 (Q:Program) (ops:List Oper) (s:S) (x:Oper) (R R':List (Nat×En)):Prop:=
 (∃t m k,x.op= .lookup t m k false)/\ ∀g,bj ops x=some g->pv Q (s.wr R') x g=pv Q (s.wr R) x g
structure Text (Q:Program) (cf:CF) (ops:List Oper) (M:List Nat) (St:Nat->S) (m:Nat):Prop where
 fix: ∀i o,ops[i]?=some o->J2 M i o=true
 pair: ∀i j x y,i<j->ops[i]?=some x->ops[j]?=some y->oo m ops M i x j y=true
 run: ∀i o,ops[i]?=some o->br Q cf ops (St i) o=some (St (i+1))
 info: ∀i j x y,i<j->ops[i]?=some x->ops[j]?=some y->(aA x<=1\/aA y<=1)->Nat.testBit (M.getD j 0) i=false->
  (aA x=0\/aA y=0\/(aA x<=1/\aA y<=1))\/lq (bK Q ops (St i) x) (bK Q ops (St j) y)=true\/
  ((bK Q ops (St i) x).pure=true/\((∀n∈(bK Q ops (St i) x).ns,lk (St (j+1)).rg n=lk (St j).rg n)\/s6 Q ops (St i) x (St j).rg (St (j+1)).rg))\/
  ((bK Q ops (St j) y).pure=true/\((∀n∈(bK Q ops (St j) y).ns,lk (St (i+1)).rg n=lk (St i).rg n)\/s6 Q ops (St j) y (St i).rg (St (i+1)).rg))
section
variable {Q:Program} {cf:CF} {ops:List Oper} {M:List Nat} {St:Nat->S} {m:Nat} (tx:Text Q cf ops M St m)
include tx
theorem Text.back {i:Nat} {o:Oper} (ho:ops[i]?=some o) {e:Edge} (he:e∈o.after) (hb:Region.binds .any e=true):e.on<i:=by
 have:=tx.fix i o ho
 simp only[J2,Bool.and_eq_true] at this
 have h:=List.all_eq_true.1 this.1.2 e (by simpa using he)
 simp[hb] at h
 exact h
theorem Text.mask {i:Nat} {o:Oper} (ho:ops[i]?=some o):M.getD i 0=jX M o.after.toList:=by
 have:=tx.fix i o ho
 simp only[J2,Bool.and_eq_true] at this
 exact Nat.eq_of_beq_eq_true this.1.1
omit tx in
theorem q6 (acc:List Nat) (j:Nat): ∀(es:List Edge),Nat.testBit (jX acc es) j=true-> ∃e∈es,Region.binds .any e=true/\(j=e.on\/Nat.testBit (acc.getD e.on 0) j=true)
 | [],h=>by simp[jX] at h
 |e::es,h=>by
  simp only[jX] at h
  split at h
  ·rename_i hb
   have h':Nat.testBit ((1<<<e.on |||acc.getD e.on 0)|||jX acc es) j=true:=h
   rw[Nat.testBit_or,Nat.testBit_or] at h'
   simp only[Bool.or_eq_true] at h'
   rcases h' with(h' |h')|h'
   ·refine⟨e,by simp,hb,.inl ?_⟩
    rw[Nat.testBit_shiftLeft] at h'
    simp only[Bool.and_eq_true,decide_eq_true_eq,ge_iff_le] at h'
    obtain⟨h1,h2⟩:=h'
    cases hd:j-e.on with
    |zero=>omega
    |succ n=>rw[hd] at h2;simp[Nat.testBit_succ] at h2
   ·exact⟨e,by simp,hb,.inr h'⟩
   ·obtain⟨e',cF,h1,h2⟩:=q6 acc j es h'
    exact⟨e',by simp[cF],h1,h2⟩
  ·obtain⟨e',cF,h1,h2⟩:=q6 acc j es h
   exact⟨e',by simp[cF],h1,h2⟩
omit tx in
def DT (ops:List Oper) (L:Nat->Prop):Prop:= ∀i o,ops[i]?=some o->L i-> ∀e∈o.after,Region.binds .any e=true->L e.on
theorem Text.sub {L:Nat->Prop} (hL:DT ops L): ∀(i:Nat) (o:Oper),ops[i]?=some o->(∀e∈o.after,Region.binds .any e=true->L e.on)-> ∀j,Nat.testBit (M.getD i 0) j=true->L j:=by
 intro i
 induction i using Nat.strongRecOn with
 |ind i ih=>
  intro o ho he j hj
  rw[tx.mask ho] at hj
  obtain⟨e,hm,hb,h⟩:=q6 M j _ hj
  have hm:e∈o.after:=by simpa using hm
  rcases h with h |h
  ·rw[h];exact he e hm hb
  ·have bk:=tx.back ho hm hb
   have hlen:i<ops.length:=(List.getElem?_eq_some_iff.1 ho).1
   have lW:ops[e.on]?=some ops[e.on]:=List.getElem?_eq_getElem (by omega)
   exact ih e.on bk _ lW (hL e.on _ lW (he e hm hb)) j h
theorem Text.lt {i:Nat} {o:Oper} (ho:ops[i]?=some o) {j:Nat} (hj:Nat.testBit (M.getD i 0) j=true):j<i:=
 tx.sub (L:=(· <i)) (fun _ _ hk bk _ he hb=>Nat.lt_trans (tx.back hk he hb) bk) i o ho (fun _ he hb=>tx.back ho he hb) j hj
theorem Text.inj {i j:Nat} {x y:Oper} (hx:ops[i]?=some x) (hy:ops[j]?=some y) (dz:i≠j) {d:Nat} (hd:x.dst=some d):y.dst≠some d:=by
 intro KD
 have key: ∀{i j:Nat} {x y:Oper},i<j->ops[i]?=some x->ops[j]?=some y->x.dst=some d->y.dst=some d->False:=by
  intro i j x y gn hx hy hd KD
  have:=tx.pair i j x y gn hx hy
  simp[oo,AZ,hd,KD] at this
 rcases Nat.lt_or_gt_of_ne dz with h |h
 ·exact key h hx hy hd KD
 ·exact key h hy hx KD hd
theorem Text.rel {i j:Nat} {x y:Oper} (hx:ops[i]?=some x) (hy:ops[j]?=some y) (dz:i≠j) {d:Nat} (hd:x.dst=some d) (hl:d∈looks ops y):
  (i<j/\Nat.testBit (M.getD j 0) i=true)\/(j<i/\Nat.testBit (M.getD i 0) j=true):=by
 have hm:gw d (looks ops y)=true:=(jM _ _).2 hl
 rcases Nat.lt_or_gt_of_ne dz with h |h
 ·refine .inl ⟨h,?_⟩
  have:=tx.pair i j x y h hx hy
  simp only[oo,zx,hd,hm,Bool.and_eq_true,Bool.or_eq_true] at this
  rcases this.2 with h1 |h1
  ·exact h1
  ·simp at h1
 ·refine .inr ⟨h,?_⟩
  have:=tx.pair j i y x h hy hx
  simp only[oo,zx,hd,hm,Bool.and_eq_true,Bool.or_eq_true] at this
  rcases this.2 with h1 |h1
  ·exact h1
  ·simp at h1
theorem Text.kinds {i j:Nat} {x y:Oper} (gn:i<j) (hx:ops[i]?=some x) (hy:ops[j]?=some y):Nat.testBit (M.getD j 0) i=true\/aA x<=1\/aA y<=1\/j=m:=by
 have:=tx.pair i j x y gn hx hy
 simp only[oo,Bool.and_eq_true,Bool.or_eq_true,Nat.ble_eq,Nat.beq_eq] at this
 rcases this.2 with h |h
 ·exact .inl h
 ·rcases h.2 with(h |h)|h
  ·exact .inr (.inl h)
  ·exact .inr (.inr (.inl h))
  ·exact .inr (.inr (.inr h))
theorem Text.step {i:Nat} {o:Oper} (ho:ops[i]?=some o): ∃R q,(⟨(St i).n,(St i).tm,R⟩:S).put o.dst q=some (St (i+1)):=by
 obtain⟨c,h2,_⟩:=q5 (Q:=Q) (cf:=cf) (ops:=ops) (s:=St i) (s2:=St i) (o:=o) (fun _ _=>rfl) rfl rfl
 rw[tx.run i o ho] at h2
 cases c with
 |none=>cases h2
 |some x=>exact⟨x.1,x.2,h2.symm⟩
theorem Text.inv: ∀(i:Nat),i<=ops.length->(St i).n=(St 0).n/\
  (∀t,(∀k o,k<i->ops[k]?=some o->o.dst≠some t)->lk (St i).tm t=lk (St 0).tm t)
 |0,_=>⟨rfl,fun _ _=>rfl⟩
 |i+1,hi=>by
  obtain⟨h1,h3⟩:=Text.inv i (by omega)
  have ho:ops[i]?=some ops[i]:=List.getElem?_eq_getElem (by omega)
  obtain⟨R,q,hg⟩:=tx.step ho
  obtain⟨g1,g2,g3,g4⟩:=gI hg
  refine⟨g1.trans h1,fun t ht=> ?_⟩
  rw[g4 t (ht i _ (by omega) ho)]
  exact h3 t (fun k o hk=>ht k o (by omega))
theorem Text.keep {i:Nat} {o:Oper} (ho:ops[i]?=some o) {t:Nat} (ht:o.dst≠some t):lk (St (i+1)).tm t=lk (St i).tm t:=by
 obtain⟨R,q,hg⟩:=tx.step ho
 exact(gI hg).2.2.2 t ht
theorem Text.stay {i:Nat} {o:Oper} (ho:ops[i]?=some o) {t:Nat} (ht:o.dst=some t): ∀k,i<k->k<=ops.length->lk (St k).tm t=lk (St (i+1)).tm t
 |0,hk,_=>by omega
 |k+1,hk,hl=>by
  rcases Nat.eq_or_lt_of_le hk with h |h
  ·have e:i=k:=by omega
   rw[e]
  ·have ml:ops[k]?=some ops[k]:=List.getElem?_eq_getElem (by omega)
   rw[tx.keep ml (tx.inj ho ml (by omega) ht)]
   exact Text.stay ho ht k (by omega) (by omega)
theorem Text.TD {n:Nat} {i:Nat}: ∀(k:Nat),i<=k->k<=ops.length->(∀j x,i<=j->j<k->ops[j]?=some x->aA x<=1\/ ¬ua (bK Q ops (St j) x).ws n\/lk (St (j+1)).rg n=lk (St j).rg n)->lk (St k).rg n=lk (St i).rg n
 |0,hk,_,_=>by
      have e:i=0:=by omega
      rw[e]
 |k+1,hk,hl,h=>by
  rcases Nat.eq_or_lt_of_le hk with he |bk
  ·rw[he]
  ·have ml:ops[k]?=some ops[k]:=List.getElem?_eq_getElem (by omega)
   rw[<-Text.TD k (by omega) (by omega) (fun j x h1 h2=>h j x h1 (by omega))]
   by_cases gh:aA ops[k]<=1
   ·obtain⟨c,h2,_⟩:=oN (Q:=Q) (cf:=cf) (ops:=ops) (s:=St k) (s2:=St k) (o:=ops[k]) gh (fun _ _=>rfl) rfl (.inr fun g _ x _ n v _=>rfl)
    rw[tx.run k _ ml] at h2
    cases c with
    |none=>cases h2
    |some q=>rw[(gI h2.symm).2.1]
   ·rcases h k _ (by omega) (by omega) ml with h' |h' |h'
    ·exact absurd h' gh
    ·exact jE (by omega) (tx.run k _ ml) h'
    ·exact h'
theorem Text.se {i:Nat}: ∀(k:Nat),i<=k->k<=ops.length->(∀j x,i<=j->j<k->ops[j]?=some x->aA x<=1)->(St k).rg=(St i).rg
 |0,hk,_,_=>by
    have e:i=0:=by omega
    rw[e]
 |k+1,hk,hl,h=>by
  rcases Nat.eq_or_lt_of_le hk with he |bk
  ·rw[he]
  ·have ml:ops[k]?=some ops[k]:=List.getElem?_eq_getElem (by omega)
   rw[<-Text.se k (by omega) (by omega) (fun j x h1 h2=>h j x h1 (by omega))]
   obtain⟨c,h2,_⟩:=oN (Q:=Q) (cf:=cf) (ops:=ops) (s:=St k) (s2:=St k) (o:=ops[k]) (h k _ (by omega) (by omega) ml) (fun _ _=>rfl) rfl (.inr fun g _ x _ n v _=>rfl)
   rw[tx.run k _ ml] at h2
   cases c with
   |none=>cases h2
   |some q=>rw[(gI h2.symm).2.1]
omit tx in
structure Inv (ops:List Oper) (St:Nat->S) (L:Nat->Prop) (s:S):Prop where
 n:s.n=(St 0).n
 tm1: ∀i o t,ops[i]?=some o->L i->o.dst=some t->lk s.tm t=lk (St ops.length).tm t
 tm2: ∀t,(∀i o,ops[i]?=some o->L i->o.dst≠some t)->lk s.tm t=lk (St 0).tm t
 rg: ∃k,k<=ops.length/\s.rg=(St k).rg/\ ∀i o,ops[i]?=some o->1<aA o->(i<k↔L i)
omit tx in
theorem qf0 {ns:List Nat} {W:List Nat×Nat×Nat} (h:Ic ns W=true) {n:Nat} (hn:n∈ns): ¬ua W n:=by
 unfold Ic at h
 have:=List.all_eq_true.1 h n hn
 simp only[Bool.and_eq_true,Bool.not_eq_true',Bool.and_eq_false_iff] at this
 intro hw
 rcases hw with hw |hw
 ·have h1:gw n W.1=true:=(jM _ _).2 hw
  rw[h1] at this
  simp at this
 ·rcases this.2 with h2 |h2
  ·have:Nat.ble W.2.1 n=true:=Nat.ble_eq_true_of_le hw.1
   rw[this] at h2;cases h2
  ·have:Nat.blt n W.2.2=true:=by simp[Nat.blt];omega
   rw[this] at h2;cases h2
omit tx in
theorem pF: ∀(ps:List P) (p:P) (n v:Nat),p∈ps->p.name=some (n,v)->n∈pw ps
 | [],p,n,v,h,_=>by simp at h
 |q::r,p,n,v,h,hn=>by
  simp only[pw]
  rcases List.mem_cons.1 h with h |h
  ·subst h;rw[hn];simp
  ·have:=pF r p n v h hn
   split
   ·exact List.mem_cons_of_mem _ this
   ·exact this
omit tx in
theorem ix {s:S} {o:Oper} (hk:aA o<=1) {g:Option (Nat×Bool)} (hg:bj ops o=some g):(bK Q ops s o).pure=true/\(aA o≠0->(bK Q ops s o).ns=pw (o.op.operands.toList.map (s.eg g))):=by
 unfold bK
 rw[hg]
 simp only[Nat.ble_eq_true_of_le hk,if_true,true_and]
 intro h0
 have:Nat.beq (aA o) 0=false:=by
  cases hb:Nat.beq (aA o) 0 with
  |false=>rfl
  |true=>exact absurd (Nat.eq_of_beq_eq_true hb) h0
 rw[this];rfl
omit tx in
theorem wR {s:S} {o:Oper} (hk:1<aA o):(bK Q ops s o).pure=false:=by
 unfold bK
 have hb:Nat.ble (aA o) 1=false:=by
  cases hx:Nat.ble (aA o) 1 with
  |false=>rfl
  |true=>rw[Nat.ble_eq] at hx;omega
 split
 ·rfl
 ·rw[hb];rfl
theorem Text.go {L:Nat->Prop} (hL:DT ops L) {s:S} (hi:Inv ops St L s) {i:Nat} {o:Oper} (ho:ops[i]?=some o) (b9: ¬L i) (he: ∀e∈o.after,Region.binds .any e=true->L e.on)
  (Ke:L m-> ∀x p,x<m->ops[x]?=some p->1<aA p->L x) (Kf:i=m-> ∀x p,x<m->ops[x]?=some p->1<aA p->L x):
  ∃s1,br Q cf ops s o=some s1/\Inv ops St (fun j=>L j\/j=i) s1:=by
 have bS:i<ops.length:=(List.getElem?_eq_some_iff.1 ho).1
 have lV:=tx.sub hL i o ho he
 have Y8: ∀j x,ops[j]?=some x->L j->Nat.testBit (M.getD j 0) i=false:=fun j x hx hj=>by
  cases hb:Nat.testBit (M.getD j 0) i with
  |false=>rfl
  |true=>exact absurd (tx.sub hL j x hx (hL j x hx hj) i hb) b9
 obtain⟨n1,n3⟩:=tx.inv i (by omega)
 have N5: ∀t∈looks ops o,lk s.tm t=lk (St i).tm t:=by
  intro t ht
  by_cases hex: ∃(k:Nat) (x:Oper),ops[k]?=some x/\x.dst=some t
  ·obtain⟨k,x,hk,hd⟩:=hex
   have zX:k<ops.length:=(List.getElem?_eq_some_iff.1 hk).1
   by_cases W5:k=i
   ·subst W5
    rw[hi.tm2 t (fun j y hj nS DU=>by
     by_cases e:j=k
     ·rw[e] at nS;exact b9 nS
     ·exact tx.inj hj hk e DU hd),n3 t (fun j y bk hj DU=>tx.inj hj hk (by omega) DU hd)]
   ·rcases tx.rel hk ho W5 hd ht with⟨h1,h2⟩| ⟨h1,h2⟩
    ·rw[hi.tm1 k x t hk (lV k h2) hd,tx.stay hk hd _ zX (Nat.le_refl _),tx.stay hk hd i h1 (by omega)]
    ·rw[hi.tm2 t (fun j y hj nS DU=>by
      by_cases e:j=k
      ·subst e
       have:=Y8 j y hj nS
       rw[h2] at this;cases this
      ·exact tx.inj hj hk e DU hd),n3 t (fun j y bk hj DU=>tx.inj hj hk (by omega) DU hd)]
  ·rw[hi.tm2 t (fun j y hj _ DU=>hex ⟨j,y,hj,DU⟩),n3 t (fun j y _ hj DU=>hex ⟨j,y,hj,DU⟩)]
 have Fw:s.n=(St i).n:=by rw[hi.n,n1]
 obtain⟨k,zX,hkr,Fu⟩:=hi.rg
 have N6: ∀(R:List (Nat×En)) (q:P) (s1:S),(∀d,o.dst=some d->lk (St (i+1)).tm d=some q)->(⟨s.n,s.tm,R⟩:S).put o.dst q=some s1->
   (∃k,k<=ops.length/\R=(St k).rg/\ ∀j x,ops[j]?=some x->1<aA x->(j<k↔(L j\/j=i)))->Inv ops St (fun j=>L j\/j=i) s1:=by
  intro R q s1 hval qdk Y9
  obtain⟨g1,g2,g3,g4⟩:=gI qdk
  have keep: ∀t,o.dst≠some t->lk s1.tm t=lk s.tm t:=fun t ht=>g4 t ht
  refine⟨g1.trans hi.n,fun j y t hj nS hd=> ?_,fun t ht=> ?_,?_⟩
  ·rcases nS with nS |rfl
   ·have dz:j≠i:=fun e=>b9 (e▸nS)
    rw[keep t (tx.inj hj ho dz hd),hi.tm1 j y t hj nS hd]
   ·rw[ho] at hj
    cases hj
    rw[g3 t hd,tx.stay ho hd _ bS (Nat.le_refl _),hval t hd]
  ·rw[keep t (ht i o ho (.inr rfl)),hi.tm2 t (fun j y hj nS=>ht j y hj (.inl nS))]
  ·rw[g2];exact Y9
 by_cases hk:aA o<=1
 ·
  have W6: ∀g,bj ops o=some g->aA o≠0-> ∀j y,ops[j]?=some y->1<aA y->(j<i/\ ¬L j\/i<=j/\L j)->
    (∀n∈(bK Q ops (St i) o).ns,lk (St (j+1)).rg n=lk (St j).rg n)\/s6 Q ops (St i) o (St j).rg (St (j+1)).rg:=by
   intro g hg h0 j y hj hy hc
   have p1:=(ix (Q:=Q) (s:=St i) hk hg).1
   have byW:lq (bK Q ops (St i) o) (bK Q ops (St j) y)=true\/lq (bK Q ops (St j) y) (bK Q ops (St i) o)=true-> ∀n∈(bK Q ops (St i) o).ns,lk (St (j+1)).rg n=lk (St j).rg n:=by
    intro h3 n hn
    refine jE (by omega) (tx.run j y hj) ?_
    unfold lq at h3
    rw[p1,wR (o:=y) (by omega)] at h3
    simp only[Bool.false_eq_true,if_false,if_true,or_self] at h3
    exact qf0 h3 hn
   rcases hc with⟨bk,nS⟩| ⟨hle,nS⟩
   ·have Zd:Nat.testBit (M.getD i 0) j=false:=by
     cases hb:Nat.testBit (M.getD i 0) j with
     |false=>rfl
     |true=>exact absurd (lV j hb) nS
    rcases tx.info j i y o bk hj ho (.inr hk) Zd with h3 |h3 |h3 |h3
    ·omega
    ·exact .inl (byW (.inr h3))
    ·rw[wR (o:=y) (by omega)] at h3
     cases h3.1
    ·exact h3.2
   ·have dz:j≠i:=fun e=>b9 (e▸nS)
    rcases tx.info i j o y (by omega) ho hj (.inl hk) (Y8 j y hj nS) with h3 |h3 |h3 |h3
    ·omega
    ·exact .inl (byW (.inl h3))
    ·exact h3.2
    ·rw[wR (o:=y) (by omega)] at h3
     cases h3.1
  have ZQ: ∀j y,ops[j]?=some y->aA y<=1->(St (j+1)).rg=(St j).rg:=fun j y hj hy=>by
   have Fv:j<ops.length:=(List.getElem?_eq_some_iff.1 hj).1
   exact tx.se (i:=j) (j+1) (by omega) (by omega) fun j' y' h1 h2 C2=>by
    have:j'=j:=by omega
    subst this
    rw[hj] at C2
    cases C2
    exact hy
  have chain: ∀{C:List (Nat×En)->Prop},(∀j y,ops[j]?=some y->(j<i/\ ¬L j\/i<=j/\L j)->1<aA y->(C (St j).rg↔C (St (j+1)).rg))->(C (St i).rg↔C s.rg):=by
   intro C hC
   rw[hkr]
   have go: ∀d lo,lo+d<=ops.length->(∀j,lo<=j->j<lo+d-> ∀y,ops[j]?=some y->1<aA y->(j<i/\ ¬L j\/i<=j/\L j))->(C (St lo).rg↔C (St (lo+d)).rg):=by
    intro d
    induction d with
    |zero=>intro lo _ _;exact Iff.rfl
    |succ d ih=>
     intro lo hl bc
     refine(ih lo (by omega) fun j h1 h2=>bc j h1 (by omega)).trans ?_
     have ml:ops[lo+d]?=some ops[lo+d]:=List.getElem?_eq_getElem (by omega)
     by_cases hy:aA ops[lo+d]<=1
     ·rw[show lo+(d+1)=lo+d+1 by omega,ZQ _ _ ml hy]
     ·exact hC _ _ ml (bc _ (by omega) (by omega) _ ml (by omega)) (by omega)
   rcases Nat.le_total k i with W5 |W5
   ·have:=go (i-k) k (by omega) fun j h1 h2 y hj hy=> .inl ⟨by omega,fun h=>by have:=(Fu j y hj hy).2 h;omega⟩
    rw[show k+(i-k)=i by omega] at this
    exact this.symm
   ·have:=go (k-i) i (by omega) fun j h1 h2 y hj hy=> .inr ⟨h1,(Fu j y hj hy).1 (by omega)⟩
    rw[show i+(k-i)=k by omega] at this
    exact this
  have qdl:(aA o=0\/ ∀g,bj ops o=some g-> ∀x∈o.op.operands.toList,fu s.rg (St i).rg ((St i).eg g x))\/((∃t m k,o.op= .lookup t m k false)/\ ∀g,bj ops o=some g->pv Q ((St i).wr s.rg) o g=pv Q (St i) o g):=by
   by_cases h0:aA o=0
   ·exact .inl (.inl h0)
   ·cases hg:bj ops o with
    |none=>exact .inl (.inr fun g J8=>by cases J8)
    |some g=>
     have p2:=(ix (Q:=Q) (s:=St i) hk hg).2 h0
     have agr: ∀R R':List (Nat×En),(∀n∈(bK Q ops (St i) o).ns,lk R' n=lk R n)-> ∀x∈o.op.operands.toList,fu R' R ((St i).eg g x):=fun R R' hRR x hx n v hn=>by
      refine hRR n ?_
      rw[p2]
      exact pF _ _ n v (List.mem_map_of_mem hx) hn
     by_cases n0: ∃t m k,o.op= .lookup t m k false
     ·refine .inr ⟨n0,fun g' J8=> ?_⟩
      cases J8
      have:=chain (C:=fun R=>pv Q ((St i).wr R) o g=pv Q (St i) o g) fun j y hj hc hy=>by
       have e:pv Q ((St i).wr (St (j+1)).rg) o g=pv Q ((St i).wr (St j).rg) o g:=by
        rcases W6 g hg h0 j y hj hy hc with h3 |h3
        ·exact W4 (s:=(St i).wr (St j).rg) (R:=(St (j+1)).rg) (.inr (agr _ _ h3))
        ·exact h3.2 g hg
       rw[e]
      exact this.1 rfl
     ·refine .inl (.inr fun g' J8 x hx n v hn=> ?_)
      cases J8
      have iS:n∈(bK Q ops (St i) o).ns:=by
       rw[p2]
       exact pF _ _ n v (List.mem_map_of_mem hx) hn
      have:=chain (C:=fun R=>lk R n=lk (St i).rg n) fun j y hj hc hy=>by
       rcases W6 g hg h0 j y hj hy hc with h3 |h3
       ·rw[h3 n iS]
       ·exact absurd h3.1 n0
      exact this.1 rfl
  have qdm: ∃c:Option P,br Q cf ops (St i) o=(c.bind fun q=>(St i).put o.dst q)/\br Q cf ops s o=(c.bind fun q=>s.put o.dst q):=by
   rcases qdl with Z5 | ⟨n0,Si⟩
   ·exact oN (Q:=Q) (cf:=cf) (ops:=ops) (s:=St i) (s2:=s) (o:=o) hk N5 Fw Z5
   ·exact DR (Q:=Q) (cf:=cf) (ops:=ops) (s:=St i) (s2:=s) (o:=o) n0 N5 Fw Si
  obtain⟨c,h1,h2⟩:=qdm
  rw[tx.run i o ho] at h1
  cases c with
  |none=>cases h1
  |some q=>
   have h1:(St i).put o.dst q=some (St (i+1)):=h1.symm
   obtain⟨s1,pX⟩:=DS h1 Fw
   refine⟨s1,by rw[h2];exact pX,N6 s.rg q s1 (gI h1).2.2.1 pX ⟨k,zX,hkr,fun j y hj hy=> ?_⟩⟩
   rw[Fu j y hj hy]
   refine⟨.inl,fun h=>h.resolve_right fun e=> ?_⟩
   subst e
   rw[ho] at hj
   cases hj
   omega
 ·
  have oO: ∀j y,ops[j]?=some y->1<aA y->(j<i↔L j):=fun j y hj hy=>by
   constructor
   ·intro bk
    rcases tx.kinds bk hj ho with h |h |h |h
    ·exact lV j h
    ·omega
    ·omega
    ·exact Kf h j y (by omega) hj hy
   ·intro nS
    rcases Nat.lt_trichotomy j i with h |h |h
    ·exact h
    ·exact absurd (h▸nS) b9
    ·rcases tx.kinds h ho hj with h' |h' |h' |h'
     ·rw[Y8 j y hj nS] at h';cases h'
     ·omega
     ·omega
     ·exact absurd (Ke (h'▸nS) i o (by omega) ho (by omega)) b9
  have Y9:s.rg=(St i).rg:=by
   rw[hkr]
   rcases Nat.le_total k i with W5 |W5
   ·refine(tx.se i W5 (by omega) (fun j y h1 h2 hj=> ?_)).symm
    by_cases hy:aA y<=1
    ·exact hy
    ·have:=(Fu j y hj (by omega)).2 ((oO j y hj (by omega)).1 h2);omega
   ·refine tx.se k W5 zX (fun j y h1 h2 hj=> ?_)
    by_cases hy:aA y<=1
    ·exact hy
    ·have:=(oO j y hj (by omega)).2 ((Fu j y hj (by omega)).1 h2);omega
  obtain⟨c,h1,h2⟩:=q5 (Q:=Q) (cf:=cf) (ops:=ops) (s:=St i) (s2:=s) (o:=o) N5 Fw Y9
  rw[tx.run i o ho] at h1
  cases c with
  |none=>cases h1
  |some x=>
   obtain⟨R,q⟩:=x
   have h1:(⟨(St i).n,(St i).tm,R⟩:S).put o.dst q=some (St (i+1)):=h1.symm
   obtain⟨s1,pX⟩:=DS (s2:=⟨s.n,s.tm,R⟩) h1 Fw
   refine⟨s1,by rw[h2];exact pX,N6 R q s1 (gI h1).2.2.1 pX ⟨i+1,by omega,(gI h1).2.1.symm,fun j y hj hy=> ?_⟩⟩
   rw[<-oO j y hj hy]
   omega
theorem Text.last {L:Nat->Prop} {s:S} (hi:Inv ops St L s) (gB: ∀i o,ops[i]?=some o->L i):s.n=(St ops.length).n/\s.rg=(St ops.length).rg/\ ∀t,lk s.tm t=lk (St ops.length).tm t:=by
 obtain⟨n1,n3⟩:=tx.inv ops.length (Nat.le_refl _)
 refine⟨by rw[hi.n,n1],?_,fun t=> ?_⟩
 ·obtain⟨k,zX,hkr,Fu⟩:=hi.rg
  rw[hkr]
  refine(tx.se ops.length zX (Nat.le_refl _) (fun j y h1 h2 hj=> ?_)).symm
  by_cases hy:aA y<=1
  ·exact hy
  ·have:=(Fu j y hj (by omega)).2 (gB j y hj);omega
 ·by_cases hex: ∃(k:Nat) (x:Oper),ops[k]?=some x/\x.dst=some t
  ·obtain⟨k,x,hk,hd⟩:=hex
   exact hi.tm1 k x t hk (gB k x hk) hd
  ·rw[hi.tm2 t (fun j y hj _ DU=>hex ⟨j,y,hj,DU⟩),n3 t (fun j y _ hj DU=>hex ⟨j,y,hj,DU⟩)]
end
end Pi
