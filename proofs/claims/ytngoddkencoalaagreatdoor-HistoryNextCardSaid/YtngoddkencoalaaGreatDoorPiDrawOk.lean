/- The text PiDrawOk. -/
import Derived.Test.YtngoddkencoalaaGreatDoorPiWr
namespace Pi
open Go
theorem fm {α:Type} {f:Nat->α->Bool}: ∀(l:List α) (i0:Nat),jc f i0 l=true-> ∀i x,l[i]?=some x->f (i0+i) x=true
 | [],i0,_,i,x,hx=>by simp at hx
 |y::r,i0,h,i,x,hx=>by
  simp only[jc,zab] at h
  cases i with
  |zero=>grind
  |succ i=>
   have:=fm r (i0+1) h.2 i x (by grind)
   have e:i0+1+i=i0+(i+1):=by omega
   rwa [e] at this
theorem gb {α:Type} {f:Nat->α->Nat->α->Bool}: ∀(l:List α) (i0:Nat),gE f i0 l=true-> ∀i j x y,i<j->l[i]?=some x->l[j]?=some y->f (i0+i) x (i0+j) y=true
 | [],i0,_,i,j,x,y,_,hx,_=>by simp at hx
 |z::r,i0,h,i,j,x,y,qq,hx,hy=>by
  simp only[gE,zab] at h
  cases j with
  |zero=>omega
  |succ j=>
   have e:i0+1+j=i0+(j+1):=by omega
   cases i with
   |zero=>
    simp at hx
    subst hx
    have:=fm r (i0+1) h.1 j y (by grind)
    rwa [e] at this
   |succ i=>
    have:=gb r (i0+1) h.2 i j x y (by omega) (by grind) (by grind)
    have e2:i0+1+i=i0+(i+1):=by omega
    rwa [e,e2] at this
theorem gZ {s s1:S} {dst:Option Nat} {q:P} (h:s.put dst q=some s1):s1.n=s.n/\s1.rg=s.rg/\(∀d,dst=some d->lk s1.tm d=some q)/\
  (∀t,dst≠some t->lk s1.tm t=lk s.tm t):=by
 unfold S.put at h
 grind [bA,bU]
theorem EW {s s1 s2:S} {dst:Option Nat} {q:P} (h:s.put dst q=some s1) (hn:s2.n=s.n): ∃s3,s2.put dst q=some s3:=by
 unfold S.put at h⊢
 grind
def tP (Q:Program) (ops:List Oper) (s:S) (x:Oper) (R R':List (Nat×En)):Prop:=
 (∃t m k,x.op= .lookup t m k false)/\ ∀g,bn ops x=some g->pv Q (s.wr R') x g=pv Q (s.wr R) x g
structure Text (Q:Program) (cf:CF) (ops:List Oper) (M:List Nat) (St:Nat->S) (m:Nat):Prop where
 fix: ∀i o,ops[i]?=some o->LL M i o=true
 pair: ∀i j x y,i<j->ops[i]?=some x->ops[j]?=some y->o4 m ops M i x j y=true
 run: ∀i o,ops[i]?=some o->bu Q cf ops (St i) o=some (St (i+1))
 info: ∀i j x y,i<j->ops[i]?=some x->ops[j]?=some y->(aB x<=1\/aB y<=1)->Nat.testBit (M.getD j 0) i=false->
  (aB x=0\/aB y=0\/(aB x<=1/\aB y<=1))\/l9 (bK Q ops (St i) x) (bK Q ops (St j) y)=true\/
  ((bK Q ops (St i) x).pure=true/\((∀n∈(bK Q ops (St i) x).ns,lk (St (j+1)).rg n=lk (St j).rg n)\/tP Q ops (St i) x (St j).rg (St (j+1)).rg))\/
  ((bK Q ops (St j) y).pure=true/\((∀n∈(bK Q ops (St j) y).ns,lk (St (i+1)).rg n=lk (St i).rg n)\/tP Q ops (St j) y (St i).rg (St (i+1)).rg))
section
variable {Q:Program} {cf:CF} {ops:List Oper} {M:List Nat} {St:Nat->S} {m:Nat} (tx:Text Q cf ops M St m)
include tx
theorem Text.back {i:Nat} {o:Oper} (ho:ops[i]?=some o) {e:Edge} (he:e∈o.after) (hb:Region.binds .any e=true):e.on<i:=by
 have:=tx.fix i o ho
 simp only[LL,zab] at this
 have h:=zbk.1 this.1.2 e (by grind)
 simp_all
theorem Text.mask {i:Nat} {o:Oper} (ho:ops[i]?=some o):M.getD i 0=kJ M o.after.toList:=by
 have:=tx.fix i o ho
 simp_all [LL,zab,zaf]
omit tx in
theorem rn (acc:List Nat) (j:Nat): ∀(es:List Edge),Nat.testBit (kJ acc es) j=true-> ∃e∈es,Region.binds .any e=true/\(j=e.on\/Nat.testBit (acc.getD e.on 0) j=true)
 | [],h=>by simp[kJ] at h
 |e::es,h=>by
  simp only[kJ] at h
  split at h
  ·rename_i hb
   have h':Nat.testBit ((1<<<e.on |||acc.getD e.on 0)|||kJ acc es) j=true:=h
   rw[Nat.testBit_or,Nat.testBit_or] at h'
   simp only[za9] at h'
   rcases h' with(h' |h')|h'
   ·refine⟨e,by simp,hb,.inl ?_⟩
    rw[Nat.testBit_shiftLeft] at h'
    simp only[zab,zah,ge_iff_le] at h'
    obtain⟨h1,h2⟩:=h'
    cases hd:j-e.on with
    |zero=>omega
    |succ n=>rw[hd] at h2;simp[Nat.testBit_succ] at h2
   ·exact⟨e,by simp,hb,.inr h'⟩
   ·obtain⟨e',cI,h1,h2⟩:=rn acc j es h'
    exact⟨e',by simp[cI],h1,h2⟩
  ·obtain⟨e',cI,h1,h2⟩:=rn acc j es h
   exact⟨e',by simp[cI],h1,h2⟩
omit tx in
def EX (ops:List Oper) (L:Nat->Prop):Prop:= ∀i o,ops[i]?=some o->L i-> ∀e∈o.after,Region.binds .any e=true->L e.on
theorem Text.sub {L:Nat->Prop} (hL:EX ops L): ∀(i:Nat) (o:Oper),ops[i]?=some o->(∀e∈o.after,Region.binds .any e=true->L e.on)-> ∀j,Nat.testBit (M.getD i 0) j=true->L j:=by
 intro i
 induction i using Nat.strongRecOn with
 |ind i ih=>
  intro o ho he j hj
  rw[tx.mask ho] at hj
  obtain⟨e,hm,hb,h⟩:=rn M j _ hj
  have hm:e∈o.after:=by grind
  rcases h with h |h
  ·grind
  ·have bG:=tx.back ho hm hb
   have hlen:i<ops.length:=(zad.1 ho).1
   have gf:ops[e.on]?=some ops[e.on]:=zae (by omega)
   exact ih e.on bG _ gf (hL e.on _ gf (he e hm hb)) j h
theorem Text.lt {i:Nat} {o:Oper} (ho:ops[i]?=some o) {j:Nat} (hj:Nat.testBit (M.getD i 0) j=true):j<i:=
 tx.sub (L:=(· <i)) (fun _ _ hk bG _ he hb=>Nat.lt_trans (tx.back hk he hb) bG) i o ho (fun _ he hb=>tx.back ho he hb) j hj
theorem Text.inj {i j:Nat} {x y:Oper} (hx:ops[i]?=some x) (hy:ops[j]?=some y) (dG:i≠j) {d:Nat} (hd:x.dst=some d):y.dst≠some d:=by
 intro PS
 have key: ∀{i j:Nat} {x y:Oper},i<j->ops[i]?=some x->ops[j]?=some y->x.dst=some d->y.dst=some d->False:=by
  intro i j x y qq hx hy hd PS
  have:=tx.pair i j x y qq hx hy
  simp[o4,BZ,hd,PS] at this
 grind
theorem Text.rel {i j:Nat} {x y:Oper} (hx:ops[i]?=some x) (hy:ops[j]?=some y) (dG:i≠j) {d:Nat} (hd:x.dst=some d) (hl:d∈looks ops y):
  (i<j/\Nat.testBit (M.getD j 0) i=true)\/(j<i/\Nat.testBit (M.getD i 0) j=true):=by
 have hm:gR d (looks ops y)=true:=(kx _ _).2 hl
 rcases zch dG with h |h
 ·refine .inl ⟨h,?_⟩
  have:=tx.pair i j x y h hx hy
  grind [o4,Aw]
 ·refine .inr ⟨h,?_⟩
  have:=tx.pair j i y x h hy hx
  grind [o4,Aw]
theorem Text.kinds {i j:Nat} {x y:Oper} (qq:i<j) (hx:ops[i]?=some x) (hy:ops[j]?=some y):Nat.testBit (M.getD j 0) i=true\/aB x<=1\/aB y<=1\/j=m:=by
 have:=tx.pair i j x y qq hx hy
 simp only[o4,zab,za9,zbZ,Nat.beq_eq] at this
 grind
theorem Text.step {i:Nat} {o:Oper} (ho:ops[i]?=some o): ∃R q,(⟨(St i).n,(St i).tm,R⟩:S).put o.dst q=some (St (i+1)):=by
 obtain⟨c,h2,_⟩:=rl (Q:=Q) (cf:=cf) (ops:=ops) (s:=St i) (s2:=St i) (o:=o) (fun _ _=>rfl) rfl rfl
 rw[tx.run i o ho] at h2
 cases c with
 |none=>cases h2
 |some x=>exact⟨x.1,x.2,h2.symm⟩
theorem Text.inv: ∀(i:Nat),i<=ops.length->(St i).n=(St 0).n/\
  (∀t,(∀k o,k<i->ops[k]?=some o->o.dst≠some t)->lk (St i).tm t=lk (St 0).tm t)
 |0,_=>⟨rfl,fun _ _=>rfl⟩
 |i+1,hi=>by
  obtain⟨h1,h3⟩:=Text.inv i (by omega)
  have ho:ops[i]?=some ops[i]:=zae (by omega)
  obtain⟨R,q,hg⟩:=tx.step ho
  obtain⟨g1,g2,g3,g4⟩:=gZ hg
  grind
theorem Text.keep {i:Nat} {o:Oper} (ho:ops[i]?=some o) {t:Nat} (ht:o.dst≠some t):lk (St (i+1)).tm t=lk (St i).tm t:=by
 obtain⟨R,q,hg⟩:=tx.step ho
 exact(gZ hg).2.2.2 t ht
theorem Text.stay {i:Nat} {o:Oper} (ho:ops[i]?=some o) {t:Nat} (ht:o.dst=some t): ∀k,i<k->k<=ops.length->lk (St k).tm t=lk (St (i+1)).tm t
 |0,hk,_=>by omega
 |k+1,hk,hl=>by
  rcases zcN hk with h |h
  ·have e:i=k:=by omega
   rw[e]
  ·have mX:ops[k]?=some ops[k]:=zae (by omega)
   rw[tx.keep mX (tx.inj ho mX (by omega) ht)]
   exact Text.stay ho ht k (by omega) (by omega)
theorem Text.Wc {n:Nat} {i:Nat}: ∀(k:Nat),i<=k->k<=ops.length->(∀j x,i<=j->j<k->ops[j]?=some x->aB x<=1\/ ¬wk (bK Q ops (St j) x).ws n\/lk (St (j+1)).rg n=lk (St j).rg n)->lk (St k).rg n=lk (St i).rg n
 |0,hk,_,_=>by
      have e:i=0:=by omega
      rw[e]
 |k+1,hk,hl,h=>by
  rcases zcN hk with he |bG
  ·rw[he]
  ·have mX:ops[k]?=some ops[k]:=zae (by omega)
   rw[<-Text.Wc k (by omega) (by omega) (fun j x h1 h2=>h j x h1 (by omega))]
   by_cases fW:aB ops[k]<=1
   ·obtain⟨c,h2,_⟩:=py (Q:=Q) (cf:=cf) (ops:=ops) (s:=St k) (s2:=St k) (o:=ops[k]) fW (fun _ _=>rfl) rfl (.inr fun g _ x _ n v _=>rfl)
    rw[tx.run k _ mX] at h2
    cases c with
    |none=>cases h2
    |some q=>rw[(gZ h2.symm).2.1]
   ·rcases h k _ (by omega) (by omega) mX with h' |h' |h'
    ·grind
    ·exact j9 (by omega) (tx.run k _ mX) h'
    ·exact h'
theorem Text.sG {i:Nat}: ∀(k:Nat),i<=k->k<=ops.length->(∀j x,i<=j->j<k->ops[j]?=some x->aB x<=1)->(St k).rg=(St i).rg
 |0,hk,_,_=>by
    have e:i=0:=by omega
    rw[e]
 |k+1,hk,hl,h=>by
  rcases zcN hk with he |bG
  ·rw[he]
  ·have mX:ops[k]?=some ops[k]:=zae (by omega)
   rw[<-Text.sG k (by omega) (by omega) (fun j x h1 h2=>h j x h1 (by omega))]
   obtain⟨c,h2,_⟩:=py (Q:=Q) (cf:=cf) (ops:=ops) (s:=St k) (s2:=St k) (o:=ops[k]) (h k _ (by omega) (by omega) mX) (fun _ _=>rfl) rfl (.inr fun g _ x _ n v _=>rfl)
   rw[tx.run k _ mX] at h2
   cases c with
   |none=>cases h2
   |some q=>rw[(gZ h2.symm).2.1]
omit tx in
structure Inv (ops:List Oper) (St:Nat->S) (L:Nat->Prop) (s:S):Prop where
 n:s.n=(St 0).n
 tm1: ∀i o t,ops[i]?=some o->L i->o.dst=some t->lk s.tm t=lk (St ops.length).tm t
 tm2: ∀t,(∀i o,ops[i]?=some o->L i->o.dst≠some t)->lk s.tm t=lk (St 0).tm t
 rg: ∃k,k<=ops.length/\s.rg=(St k).rg/\ ∀i o,ops[i]?=some o->1<aB o->(i<k↔L i)
omit tx in
theorem qhL {ns:List Nat} {W:List Nat×Nat×Nat} (h:J2 ns W=true) {n:Nat} (hn:n∈ns): ¬wk W n:=by
 unfold J2 at h
 have:=zbk.1 h n hn
 simp only[zab,zbs,Bool.and_eq_false_iff] at this
 intro hw
 rcases hw with hw |hw
 ·have h1:gR n W.1=true:=(kx _ _).2 hw
  rw[h1] at this
  simp at this
 ·rcases this.2 with h2 |h2
  ·have:Nat.ble W.2.1 n=true:=Nat.ble_eq_true_of_le hw.1
   rw[this] at h2;cases h2
  ·have:Nat.blt n W.2.2=true:=by simp[Nat.blt];omega
   rw[this] at h2;cases h2
omit tx in
theorem qc: ∀(ps:List P) (p:P) (n v:Nat),p∈ps->p.name=some (n,v)->n∈pY ps
 | [],p,n,v,h,_=>by simp at h
 |q::r,p,n,v,h,hn=>by
  simp only[pY]
  rcases zav.1 h with h |h
  ·subst h;rw[hn];simp
  ·have:=qc r p n v h hn
   split
   ·exact zaH _ this
   ·exact this
omit tx in
theorem iO {s:S} {o:Oper} (hk:aB o<=1) {g:Option (Nat×Bool)} (hg:bn ops o=some g):(bK Q ops s o).pure=true/\(aB o≠0->(bK Q ops s o).ns=pY (o.op.operands.toList.map (s.eg g))):=by
 unfold bK
 rw[hg]
 simp only[Nat.ble_eq_true_of_le hk,zba,zc9]
 intro h0
 have:Nat.beq (aB o) 0=false:=by
  cases hb:Nat.beq (aB o) 0 with
  |false=>rfl
  |true=>exact absurd (zaf hb) h0
 rw[this];rfl
omit tx in
theorem xE {s:S} {o:Oper} (hk:1<aB o):(bK Q ops s o).pure=false:=by
 unfold bK
 have hb:Nat.ble (aB o) 1=false:=by
  cases hx:Nat.ble (aB o) 1 with
  |false=>rfl
  |true=>rw[zbZ] at hx;omega
 split
 ·rfl
 ·rw[hb];rfl
theorem Text.go {L:Nat->Prop} (hL:EX ops L) {s:S} (hi:Inv ops St L s) {i:Nat} {o:Oper} (ho:ops[i]?=some o) (bZ: ¬L i) (he: ∀e∈o.after,Region.binds .any e=true->L e.on)
  (L2:L m-> ∀x p,x<m->ops[x]?=some p->1<aB p->L x) (EC:i=m-> ∀x p,x<m->ops[x]?=some p->1<aB p->L x):
  ∃s1,bu Q cf ops s o=some s1/\Inv ops St (fun j=>L j\/j=i) s1:=by
 have bN:i<ops.length:=(zad.1 ho).1
 have jL:=tx.sub hL i o ho he
 have qbH: ∀j x,ops[j]?=some x->L j->Nat.testBit (M.getD j 0) i=false:=fun j x hx hj=>by
  cases hb:Nat.testBit (M.getD j 0) i with
  |false=>rfl
  |true=>exact absurd (tx.sub hL j x hx (hL j x hx hj) i hb) bZ
 obtain⟨n1,n3⟩:=tx.inv i (by omega)
 have PT: ∀t∈looks ops o,lk s.tm t=lk (St i).tm t:=by
  intro t ht
  by_cases hex: ∃(k:Nat) (x:Oper),ops[k]?=some x/\x.dst=some t
  ·obtain⟨k,x,hk,hd⟩:=hex
   have tA:k<ops.length:=(zad.1 hk).1
   by_cases hki:k=i
   ·subst hki
    rw[hi.tm2 t (fun j y hj ov EY=>by
     by_cases e:j=k
     ·rw[e] at ov;exact bZ ov
     ·exact tx.inj hj hk e EY hd),n3 t (fun j y bG hj EY=>tx.inj hj hk (by omega) EY hd)]
   ·rcases tx.rel hk ho hki hd ht with⟨h1,h2⟩| ⟨h1,h2⟩
    ·rw[hi.tm1 k x t hk (jL k h2) hd,tx.stay hk hd _ tA (zaj _),tx.stay hk hd i h1 (by omega)]
    ·rw[hi.tm2 t (fun j y hj ov EY=>by
      by_cases e:j=k
      ·subst e
       have:=qbH j y hj ov
       rw[h2] at this;cases this
      ·exact tx.inj hj hk e EY hd),n3 t (fun j y bG hj EY=>tx.inj hj hk (by omega) EY hd)]
  ·rw[hi.tm2 t (fun j y hj _ EY=>hex ⟨j,y,hj,EY⟩),n3 t (fun j y _ hj EY=>hex ⟨j,y,hj,EY⟩)]
 have Pf:s.n=(St i).n:=by rw[hi.n,n1]
 obtain⟨k,tA,hkr,J9⟩:=hi.rg
 have PU: ∀(R:List (Nat×En)) (q:P) (s1:S),(∀d,o.dst=some d->lk (St (i+1)).tm d=some q)->(⟨s.n,s.tm,R⟩:S).put o.dst q=some s1->
   (∃k,k<=ops.length/\R=(St k).rg/\ ∀j x,ops[j]?=some x->1<aB x->(j<k↔(L j\/j=i)))->Inv ops St (fun j=>L j\/j=i) s1:=by
  intro R q s1 hval qe7 hrg
  obtain⟨g1,g2,g3,g4⟩:=gZ qe7
  have keep: ∀t,o.dst≠some t->lk s1.tm t=lk s.tm t:=fun t ht=>g4 t ht
  refine⟨g1.trans hi.n,fun j y t hj ov hd=> ?_,fun t ht=> ?_,?_⟩
  ·rcases ov with ov |rfl
   ·have dG:j≠i:=fun e=>bZ (e▸ov)
    rw[keep t (tx.inj hj ho dG hd),hi.tm1 j y t hj ov hd]
   ·rw[ho] at hj
    cases hj
    rw[g3 t hd,tx.stay ho hd _ bN (zaj _),hval t hd]
  ·rw[keep t (ht i o ho (.inr rfl)),hi.tm2 t (fun j y hj ov=>ht j y hj (.inl ov))]
  ·rw[g2];exact hrg
 by_cases hk:aB o<=1
 ·
  have qaC: ∀g,bn ops o=some g->aB o≠0-> ∀j y,ops[j]?=some y->1<aB y->(j<i/\ ¬L j\/i<=j/\L j)->
    (∀n∈(bK Q ops (St i) o).ns,lk (St (j+1)).rg n=lk (St j).rg n)\/tP Q ops (St i) o (St j).rg (St (j+1)).rg:=by
   intro g hg h0 j y hj hy hc
   have p1:=(iO (Q:=Q) (s:=St i) hk hg).1
   have byW:l9 (bK Q ops (St i) o) (bK Q ops (St j) y)=true\/l9 (bK Q ops (St j) y) (bK Q ops (St i) o)=true-> ∀n∈(bK Q ops (St i) o).ns,lk (St (j+1)).rg n=lk (St j).rg n:=by
    intro h3 n hn
    refine j9 (by omega) (tx.run j y hj) ?_
    unfold l9 at h3
    rw[p1,xE (o:=y) (by omega)] at h3
    simp only[zaz,zbd,zba,or_self] at h3
    exact qhL h3 hn
   rcases hc with⟨bG,ov⟩| ⟨hle,ov⟩
   ·have qbI:Nat.testBit (M.getD i 0) j=false:=by
     cases hb:Nat.testBit (M.getD i 0) j with
     |false=>rfl
     |true=>exact absurd (jL j hb) ov
    rcases tx.info j i y o bG hj ho (.inr hk) qbI with h3 |h3 |h3 |h3
    ·omega
    ·exact .inl (byW (.inr h3))
    ·rw[xE (o:=y) (by omega)] at h3
     cases h3.1
    ·exact h3.2
   ·have dG:j≠i:=fun e=>bZ (e▸ov)
    rcases tx.info i j o y (by omega) ho hj (.inl hk) (qbH j y hj ov) with h3 |h3 |h3 |h3
    ·omega
    ·exact .inl (byW (.inl h3))
    ·exact h3.2
    ·rw[xE (o:=y) (by omega)] at h3
     cases h3.1
  have qbJ: ∀j y,ops[j]?=some y->aB y<=1->(St (j+1)).rg=(St j).rg:=fun j y hj hy=>by
   have Ex:j<ops.length:=(zad.1 hj).1
   exact tx.sG (i:=j) (j+1) (by omega) (by omega) fun j' y' h1 h2 Ki=>by
    have:j'=j:=by omega
    subst this
    rw[hj] at Ki
    cases Ki
    exact hy
  have chain: ∀{C:List (Nat×En)->Prop},(∀j y,ops[j]?=some y->(j<i/\ ¬L j\/i<=j/\L j)->1<aB y->(C (St j).rg↔C (St (j+1)).rg))->(C (St i).rg↔C s.rg):=by
   intro C hC
   rw[hkr]
   have go: ∀d lo,lo+d<=ops.length->(∀j,lo<=j->j<lo+d-> ∀y,ops[j]?=some y->1<aB y->(j<i/\ ¬L j\/i<=j/\L j))->(C (St lo).rg↔C (St (lo+d)).rg):=by
    intro d
    induction d with
    |zero=>intro lo _ _;exact Iff.rfl
    |succ d ih=>
     intro lo hl bg
     refine(ih lo (by omega) fun j h1 h2=>bg j h1 (by omega)).trans ?_
     have mX:ops[lo+d]?=some ops[lo+d]:=zae (by omega)
     by_cases hy:aB ops[lo+d]<=1
     ·rw[show lo+(d+1)=lo+d+1 by omega,qbJ _ _ mX hy]
     ·exact hC _ _ mX (bg _ (by omega) (by omega) _ mX (by omega)) (by omega)
   rcases Nat.le_total k i with hki |hki
   ·have:=go (i-k) k (by omega) fun j h1 h2 y hj hy=> .inl ⟨by omega,fun h=>by have:=(J9 j y hj hy).2 h;omega⟩
    rw[show k+(i-k)=i by omega] at this
    exact this.symm
   ·have:=go (k-i) i (by omega) fun j h1 h2 y hj hy=> .inr ⟨h1,(J9 j y hj hy).1 (by omega)⟩
    rw[show i+(k-i)=k by omega] at this
    exact this
  have qe8:(aB o=0\/ ∀g,bn ops o=some g-> ∀x∈o.op.operands.toList,fL s.rg (St i).rg ((St i).eg g x))\/((∃t m k,o.op= .lookup t m k false)/\ ∀g,bn ops o=some g->pv Q ((St i).wr s.rg) o g=pv Q (St i) o g):=by
   by_cases h0:aB o=0
   ·exact .inl (.inl h0)
   ·cases hg:bn ops o with
    |none=>exact .inl (.inr fun g GR=>by cases GR)
    |some g=>
     have p2:=(iO (Q:=Q) (s:=St i) hk hg).2 h0
     have agr: ∀R R':List (Nat×En),(∀n∈(bK Q ops (St i) o).ns,lk R' n=lk R n)-> ∀x∈o.op.operands.toList,fL R' R ((St i).eg g x):=fun R R' hRR x hx n v hn=>by
      refine hRR n ?_
      rw[p2]
      exact qc _ _ n v (za6 hx) hn
     by_cases oL: ∃t m k,o.op= .lookup t m k false
     ·refine .inr ⟨oL,fun g' GR=> ?_⟩
      cases GR
      have:=chain (C:=fun R=>pv Q ((St i).wr R) o g=pv Q (St i) o g) fun j y hj hc hy=>by
       have e:pv Q ((St i).wr (St (j+1)).rg) o g=pv Q ((St i).wr (St j).rg) o g:=by
        rcases qaC g hg h0 j y hj hy hc with h3 |h3
        ·exact qaB (s:=(St i).wr (St j).rg) (R:=(St (j+1)).rg) (.inr (agr _ _ h3))
        ·exact h3.2 g hg
       rw[e]
      exact this.1 rfl
     ·refine .inl (.inr fun g' GR x hx n v hn=> ?_)
      cases GR
      have fT:n∈(bK Q ops (St i) o).ns:=by
       rw[p2]
       exact qc _ _ n v (za6 hx) hn
      have:=chain (C:=fun R=>lk R n=lk (St i).rg n) fun j y hj hc hy=>by
       rcases qaC g hg h0 j y hj hy hc with h3 |h3
       ·rw[h3 n fT]
       ·exact absurd h3.1 oL
      exact this.1 rfl
  have qe9: ∃c:Option P,bu Q cf ops (St i) o=(c.bind fun q=>(St i).put o.dst q)/\bu Q cf ops s o=(c.bind fun q=>s.put o.dst q):=by
   rcases qe8 with qbK | ⟨oL,U1⟩
   ·exact py (Q:=Q) (cf:=cf) (ops:=ops) (s:=St i) (s2:=s) (o:=o) hk PT Pf qbK
   ·exact EV (Q:=Q) (cf:=cf) (ops:=ops) (s:=St i) (s2:=s) (o:=o) oL PT Pf U1
  obtain⟨c,h1,h2⟩:=qe9
  rw[tx.run i o ho] at h1
  cases c with
  |none=>cases h1
  |some q=>
   have h1:(St i).put o.dst q=some (St (i+1)):=h1.symm
   obtain⟨s1,r0⟩:=EW h1 Pf
   refine⟨s1,by rw[h2];exact r0,PU s.rg q s1 (gZ h1).2.2.1 r0 ⟨k,tA,hkr,fun j y hj hy=> ?_⟩⟩
   rw[J9 j y hj hy]
   refine⟨.inl,fun h=>h.resolve_right fun e=> ?_⟩
   subst e
   rw[ho] at hj
   cases hj
   omega
 ·
  have pz: ∀j y,ops[j]?=some y->1<aB y->(j<i↔L j):=fun j y hj hy=>by
   constructor
   ·intro bG
    rcases tx.kinds bG hj ho with h |h |h |h
    ·exact jL j h
    ·omega
    ·omega
    ·exact EC h j y (by omega) hj hy
   ·intro ov
    rcases Nat.lt_trichotomy j i with h |h |h
    ·exact h
    ·exact absurd (h▸ov) bZ
    ·rcases tx.kinds h ho hj with h' |h' |h' |h'
     ·rw[qbH j y hj ov] at h';cases h'
     ·omega
     ·omega
     ·exact absurd (L2 (h'▸ov) i o (by omega) ho (by omega)) bZ
  have hrg:s.rg=(St i).rg:=by
   rw[hkr]
   rcases Nat.le_total k i with hki |hki
   ·refine(tx.sG i hki (by omega) (fun j y h1 h2 hj=> ?_)).symm
    by_cases hy:aB y<=1
    ·exact hy
    ·have:=(J9 j y hj (by omega)).2 ((pz j y hj (by omega)).1 h2);omega
   ·refine tx.sG k hki tA (fun j y h1 h2 hj=> ?_)
    by_cases hy:aB y<=1
    ·exact hy
    ·have:=(pz j y hj (by omega)).2 ((J9 j y hj (by omega)).1 h2);omega
  obtain⟨c,h1,h2⟩:=rl (Q:=Q) (cf:=cf) (ops:=ops) (s:=St i) (s2:=s) (o:=o) PT Pf hrg
  rw[tx.run i o ho] at h1
  cases c with
  |none=>cases h1
  |some x=>
   obtain⟨R,q⟩:=x
   have h1:(⟨(St i).n,(St i).tm,R⟩:S).put o.dst q=some (St (i+1)):=h1.symm
   obtain⟨s1,r0⟩:=EW (s2:=⟨s.n,s.tm,R⟩) h1 Pf
   refine⟨s1,by rw[h2];exact r0,PU R q s1 (gZ h1).2.2.1 r0 ⟨i+1,by omega,(gZ h1).2.1.symm,fun j y hj hy=> ?_⟩⟩
   rw[<-pz j y hj hy]
   omega
theorem Text.last {L:Nat->Prop} {s:S} (hi:Inv ops St L s) (il: ∀i o,ops[i]?=some o->L i):s.n=(St ops.length).n/\s.rg=(St ops.length).rg/\ ∀t,lk s.tm t=lk (St ops.length).tm t:=by
 obtain⟨n1,n3⟩:=tx.inv ops.length (zaj _)
 refine⟨by rw[hi.n,n1],?_,fun t=> ?_⟩
 ·obtain⟨k,tA,hkr,J9⟩:=hi.rg
  rw[hkr]
  refine(tx.sG ops.length tA (zaj _) (fun j y h1 h2 hj=> ?_)).symm
  by_cases hy:aB y<=1
  ·exact hy
  ·have:=(J9 j y hj (by omega)).2 (il j y hj);omega
 ·by_cases hex: ∃(k:Nat) (x:Oper),ops[k]?=some x/\x.dst=some t
  ·obtain⟨k,x,hk,hd⟩:=hex
   exact hi.tm1 k x t hk (il k x hk) hd
  ·rw[hi.tm2 t (fun j y hj _ EY=>hex ⟨j,y,hj,EY⟩),n3 t (fun j y _ hj EY=>hex ⟨j,y,hj,EY⟩)]
end
end Pi
