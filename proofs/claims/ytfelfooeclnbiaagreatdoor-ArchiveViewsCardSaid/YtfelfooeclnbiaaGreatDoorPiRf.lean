/- The text PiRf. -/
import Derived.Test.YtfelfooeclnbiaaGreatDoorPiT
import Derived.RangeFuncSeq
namespace Pi
open Go
def kX:S->List Nat->List P->Option S
 |s,[],[]=>some s
 |s,t::ts,p::ps=>match s.put (some t) p with |some s1=>kX s1 ts ps |none=>none
 |_,_,_=>none
section
variable{Q:Program}{T:Tg}{F:Nat->Prop}{G:Nat->Value}{w:World}{a:Act}{s:S}
def qQ(F:Nat->Prop)(G:Nat->Value)(R:List (Nat×En))(ds:List Deferred)(l:Nat):Prop:= ¬F l/\ ¬Own G R l/\ ∀d∈ds,d≠{target:= .collected l,args:= #[]}
theorem eO(w:World)(l:Nat)(o:Go.Obj){b:Nat}(hb:b≠l):(w.putObj l o).heap[b]?=w.heap[b]?:=World.putObj_heap_other hb
theorem aB.CT(h:aB Q T F G w a s){l:Nat}(hl:qQ F G s.rg a.defers l)(o:Go.Obj):aB Q T F G (w.putObj l o) a s:=by
 have cU: ∀b,b≠l->(w.putObj l o).heap[b]?=w.heap[b]?:=λb hb=>eO w l o hb;have hF: ∀b,F b->(w.putObj l o).heap[b]?=w.heap[b]?:=λb hb=>cU b λe=>hl.1 (e▸hb);have cM:(w.putObj l o).heap.size=w.heap.size:=by simp
 refine⟨⟨h.r0.1,λd hd=> ?_⟩,h.size,λt p hp=>cy.mono (λ_ h=>h) hF (Names.refl _ _) (h.tm t p hp),
  λn e he=>(h.rg n e he).mono (λ_ h=>h) hF (Names.refl _ _) rfl (λb hb=>cU b λe'=>hl.2.1 ⟨n,e,he,e'▸hb⟩),h.own,h.mg,λb hb=>by rw[cM];exact h.ja b hb,h.tag,
  λb hb=>⟨(h.z b hb).1,(hF b (h.z b hb).1).trans (h.z b hb).2⟩,h.dr,by rw[cM];exact h.sz⟩
 obtain⟨D,h1,h0,h2,h3,h4⟩:=h.r0.2 d hd;exact⟨D,h1,h0,(cU D λe=>hl.2.2 d hd (by rw[h1,e])).trans h2,h3,h4⟩
theorem Bg: ∀(ts:List Nat) (ps:List P) (vs:List Value) (s s1:S) (t0:Array Value),aB Q T F G w ⟨t0,[]⟩ s->kX s ts ps=some s1->vs.length=ps.length->
  (∀(i:Nat) (v:Value) (c:P),vs[i]?=some v->ps[i]?=some c->aF F w G s.rg v c)->aB Q T F G w ⟨(ts.zip vs).foldl (λt (x:Nat×Value)=>t.setIfInBounds x.1 x.2) t0,[]⟩ s1/\s1.rg=s.rg
 | [],[],vs,s,s1,t0,h,hs,hl,hv=>by simp[kX] at hs;subst hs;exact⟨h,rfl⟩
 | [],_::_,vs,s,s1,t0,h,hs,hl,hv=>by simp[kX] at hs
 |_::_,[],vs,s,s1,t0,h,hs,hl,hv=>by simp[kX] at hs
 |t::ts,p::ps,[],s,s1,t0,h,hs,hl,hv=>by simp at hl
 |t::ts,p::ps,v::vs,s,s1,t0,h,hs,hl,hv=>by
  simp only[kX] at hs;split at hs
  next s2 h2=>obtain⟨k1,k2⟩:=cr h h2 (cy.of (hv 0 v p (by simp) (by simp)));obtain⟨j1,j2⟩:=Bg ts ps vs s2 s1 _ k1 hs (by simpa using hl) (λi u c hu hc=>by rw[k2];exact hv (i+1) u c (by simpa using hu) (by simpa using hc));exact⟨j1,j2.trans k2⟩
  cases hs
def KC(s:S):Option (S×List Nat):=
 let ns:=reach s.rg 1000 (s.tm.map (·.2)) []
 if dJ ns then(match sub s.rg (toPos s.rg ns) true 0 ns with
  |some R0=>some (⟨s.n,qG (toPos s.rg ns) (s.tm.map (·.1)) s.tm,R0⟩,ns)
  |none=>none) else none
def yb(s:S)(ns:List Nat)(R1:List (Nat×En))(base:Nat):Option S:=
 let ms:=cX R1 (reach R1 1000 (fe R1 R1) [])
 if dJ ms then(match gm R1 (fc R1 s.rg ns ms base) 0 ns s.rg with
  |some R2=>(match kD R1 (fc R1 s.rg ns ms base) base ms R2 with
   |some R3=>some {s with rg:=R3}
   |none=>none)
  |none=>none) else none
def j7(ps:List Nat)(base:Nat)(keep:Option (List Nat×List Nat))(asg body:S->(PX×S->Prop)->Prop)(s:S)(args:List P)(ae:PX×S->Prop):Prop:=
 match KC s with
 |none=>False
 |some (s0,ns)=>match kX s0 ps args with
  |none=>False
  |some s1=>asg s1 λx=>match x.1 with
   | .normal=>body x.2 λy=>match yb s ns y.2.rg base with
    |some s3=>match cH keep s3 with
     |some s4=>ae (y.1,s4)
     |none=>False
    |none=>False
   |_=>False
def PX.jump:PX->Option Code
 | .normal=>none
 | .exit id=>some (.exit id)
 | .ret=>some .ret
theorem qfA{r:Option Nat}{n:Nat}{P:Program}{c:Code}{Q':Exit->Act->World->Prop}(h:c.wpIn (wd r) 0 P Q' a w):c.wpIn (wd r) n P Q' a w:=
 λb k cs Hn hb _=>h b k cs Hn hb (Wo r _)
theorem j8(w:World)(l:Nat)(o o':Go.Obj):(w.putObj l o).putObj l o'=w.putObj l o':=by
 simp only[World.putObj];congr 1;apply zcV;intro i;simp only[zdc];split
 next h=>subst h;simp
 rfl
theorem Ext.CT{o1 o2 F1 F2:Nat->Prop}{w w':World}(h:Ext o1 o2 F1 F2 w w'){l:Nat}(hl:l<w.heap.size)(o:Go.Obj):Ext o1 o2 F1 F2 (w.putObj l o) (w'.putObj l o):=by
 have e1:(w.putObj l o).heap.size=w.heap.size:=by simp
 have e2:(w'.putObj l o).heap.size=w'.heap.size:=by simp
 refine⟨h.kK,λb hb=>by rw[e1];exact h.mz b hb,λb hb=>by rw[e1];exact h.lv b hb,λb hb hn=> ?_,by rw[e1,e2];exact h.size,h.os,h.tape,h.output⟩;by_cases Qz:b=l
 ·subst Qz;rw[World.putObj_heap_same hl,World.putObj_heap_same (zaW hl h.size)]
 rw[eO w l o Qz,eO w' l o Qz];exact h.keep b (by rw[e1] at hb;exact hb) hn
theorem qQ.of{rec:Loop}{l:Nat}(h:aB Q T F G w a s)(hl:w.heap[l]?=some (.loop rec))(hf: ¬F l)(ho: ¬Own G s.rg l):qQ F G s.rg a.defers l:=by
 refine⟨hf,ho,λd hd e=> ?_⟩;obtain⟨D,h1,_,h2,_⟩:=h.r0.2 d hd;rw[h1] at e;injection e with e1 e2
 injection e1 with e1
 subst e1;rw[hl] at h2;cases h2
theorem Ext.apart{o1 o2 F1 F2:Nat->Prop}{w w':World}(h:Ext o1 o2 F1 F2 w w'){l:Nat}(hl:l<w.heap.size)(hf: ¬F1 l)(ho: ¬o1 l): ¬F2 l/\ ¬o2 l:=
 ⟨λhf'=>(h.mz l hf').elim hf λh1=>h1.elim ho λh2=>by omega,λfA=>(h.lv l fA).elim ho λh2=>by omega⟩
theorem QA{rec:Loop}{l:Nat}(hl:w.heap[l]?=some (.loop rec))(jy:rec.state= .ready)(ht:rec.tmps=a.tmps)(ho:qQ F G s.rg a.defers l)(h:aB Q T F G w a s){base:Nat}{keep:Option (List Nat×List Nat)}{asg body:S->(PX×S->Prop)->Prop}
  (oM: ∀val lo s ae,asg s ae->TW Q ⟨val,T.w0,lo,false⟩ rec.assign s ae) (cD: ∀val lo s ae,body s ae->TW Q ⟨val,T.w0,lo,false⟩ rec.body s ae) {m:Nat} {vs:List Value} {args:List D} (hlen:vs.length=args.length) (mB:vs.length=rec.params.size)
  (hv: ∀(i:Nat) (v:Value) (x:D),vs[i]?=some v->args[i]?=some x->aU F w v x) {ae:PX×S->Prop} (hp:j7 rec.params.toList base keep asg body s (args.map .d) ae):
  YieldAt (wd none) m Q l ⟨vs⟩ w (λe w'=> ∃x s',ae (x,s')/\e= .returned (.bool (PX.jump x).isNone)/\w'.heap[l]?=some (.loop {rec with state:=if(PX.jump x).isNone then .ready else .done,pending:=PX.jump x})/\
   ∃F' G',aB Q T F' G' w' a s'/\qQ F' G' s'.rg a.defers l/\Ext (Own G s.rg) (Own G' s'.rg) F F' (w.putObj l (.deferred none)) (w'.putObj l (.deferred none))):=by
 have bz:l<w.heap.size:=(zau.1 hl).1;unfold j7 at hp;split at hp
 ·exact hp.elim
 rename_i s0 ns hri;split at hp
 ·exact hp.elim
 rename_i s1 hpa;unfold KC at hri;simp only at hri;split at hri
 next ov=>
  split at hri
  next R0 hR0=>
   simp only[zak,zaL] at hri;obtain⟨rfl,rfl⟩:=hri;obtain⟨k1,k2,k3⟩:=h.heap.sub hR0 ov;simp only[zbg] at k1;have h0:=k1.state (a:=⟨a.tmps,[]⟩) (s:=⟨s.n,qG (toPos s.rg (reach s.rg 1000 (s.tm.map (·.2)) [])) (s.tm.map (·.1)) s.tm,R0⟩) rfl .nil h.size (λt p hp=>by obtain⟨q,hq,rfl⟩:=sG _ _ s.tm t p hp;exact(h.tm t q hq).Ar k2);have qfB: ¬Own (λi=>G ((reach s.rg 1000 (s.tm.map (·.2)) []).getD i 0)) R0 l:=λhh=>by obtain⟨n,e,_,he,hb⟩:=k3 l hh;exact ho.2.1 ⟨n,e,he,hb⟩
   obtain⟨j1,j2⟩:=Bg rec.params.toList (args.map .d) vs _ s1 a.tmps h0 hpa (by simpa using hlen) (λi v c hvv ln=>by rw[zaD,zav] at ln;obtain⟨x,hx,rfl⟩:=ln;exact .d (hv i v x hvv hx));refine⟨rec.fn,_,rec.assign,rec.body,run_yield hl (by simpa using mB),?_⟩;refine roundIn_of_wpIn trivial (qfA ?_);have qfC:(rec.params.zip (⟨vs⟩:Array Value)).foldl (λtmps (x:Nat×Value)=>tmps.setIfInBounds x.1 x.2) rec.tmps=(rec.params.toList.zip vs).foldl (λt (x:Nat×Value)=>t.setIfInBounds x.1 x.2) a.tmps:=by rw[ht,<-zcT,Array.toList_zip]
   rw[qfC];refine oM _ _ s1 _ hp (r:=some l) (λe=>by cases e) F _ w _ _ j1 λe s2 a2 w2 Qw hP2=> ?_;cases e with
   |exit id=>exact Qw.elim
   |ret=>exact Qw.elim
   |normal=>
   simp only at Qw;obtain⟨F2,G2,p1,p2⟩:=hP2;rw[j2] at p2;have l2:w2.heap[l]?=some (.loop rec):=(p2.keep l bz qfB).trans hl;obtain⟨n1,n2⟩:=p2.apart bz ho.1 qfB;have lt2:l<w2.heap.size:=zaW bz p2.size;refine⟨_,run_beginRound l2 jy,qfA ?_⟩;have p1':=p1.CT (qQ.of p1 l2 n1 n2) (.loop {rec with state:= .busy});refine cD _ _ s2 _ Qw (r:=some l) (λe=>by cases e) F2 G2 _ _ _ p1' λe s3 a3 w3 hp3 hP3=> ?_;obtain⟨F3,G3,q1,q2⟩:=hP3;have WO:l<(w2.putObj l (.loop {rec with state:= .busy})).heap.size:=by simpa using lt2
   have l3:w3.heap[l]?=some (.loop {rec with state:= .busy}):=(q2.keep l WO n2).trans (World.putObj_heap_same lt2);obtain⟨n3,n4⟩:=q2.apart WO n1 n2;have lt3:l<w3.heap.size:=zaW WO q2.size;have fin: ∃v w4,(Instr.endRound l (PX.jump e)).run Q w3= .ok v w4/\ ∃x s',ae (x,s')/\(Ending.returned v)= .returned (.bool (PX.jump x).isNone)/\w4.heap[l]?=some (.loop {rec with state:=if(PX.jump x).isNone then .ready else .done,pending:=PX.jump x})/\
     ∃F' G',aB Q T F' G' w4 a s'/\qQ F' G' s'.rg a.defers l/\Ext (Own G s.rg) (Own G' s'.rg) F F' (w.putObj l (.deferred none)) (w4.putObj l (.deferred none)):=by
    refine⟨_,_,run_endRound (PX.jump e) l3,?_⟩;cases Hn:yb s (reach s.rg 1000 (s.tm.map (·.2)) []) s3.rg base with
    |none=>simp only[Hn] at hp3
    |some s3'=>
    simp only[Hn] at hp3;cases QB:cH keep s3' with
    |none=>simp only[QB] at hp3
    |some s'=>
    simp only[QB] at hp3;refine⟨e,s',hp3,rfl,World.putObj_heap_same lt3,?_⟩;unfold yb at Hn;simp only at Hn;split at Hn
    ·rename_i hms;split at Hn
     ·rename_i R2 hb;split at Hn
      ·rename_i R3 hn;simp only[zak] at Hn;subst Hn;have e12:Ext (Own (λi=>G ((reach s.rg 1000 (s.tm.map (·.2)) []).getD i 0)) R0) (Own G3 s3.rg) F F3 (w.putObj l (.deferred none)) (w3.putObj l (.deferred none)):=by have x1:=p2.CT bz (.deferred none);have x2:=q2.CT WO (.deferred none);rw[j8] at x2;exact x1.trans x2
       have PQ:=(q1.CT (qQ.of q1 l3 n3 n4) (.deferred none)).heap;obtain⟨G4,z1,z2,z3⟩:=rl (h.CT ho (.deferred none)) ov hms hR0 PQ.lo e12 (eK s3.rg _) hb hn;obtain⟨y1,y2⟩:=z2.apart (by simpa using bz) ho.1 ho.2.1;have hap:qQ F3 G4 R3 a.defers l:=⟨y1,y2,ho.2.2⟩
       have z4:=z1.CT (s:={s with rg:=R3}) hap (.loop {rec with state:=if(PX.jump e).isNone then .ready else .done,pending:=PX.jump e});rw[j8] at z4;obtain⟨G5,v1,v2⟩:=fL z4 QB;have v3:=v2.CT (l:=l) (by simpa using lt3) (.deferred none);rw[j8] at v3;exact⟨F3,G5,v1,⟨y1,(v2.apart (by simpa using lt3) y1 y2).2,ho.2.2⟩,by rw[j8];exact z2.trans v3⟩
      cases Hn
     cases Hn
    cases Hn
   cases e with
   |normal=>exact fin
   |exit id=>exact fin
   |ret=>exact fin
  cases hri
 cases hri
end
end Pi
