/- The text PiRf. -/
import Derived.Test.YtpiohccneeblhaaPiDeep
import Derived.RangeFuncSeq
namespace Pi
open Go
def gX:S->List Nat->List P->Option S
 |s,[],[]=>some s
 |s,t::ts,p::ps=>match s.put (some t) p with |some s1=>gX s1 ts ps |none=>none
 |_,_,_=>none
section
variable{Q:Program}{T:Tg}{F:Nat->Prop}{G:Nat->Value}{w:World}{a:Act}{s:S}
def lK(F:Nat->Prop)(G:Nat->Value)(R:List (Nat×En))(ds:List Deferred)(l:Nat):Prop:= ¬F l/\ ¬Own G R l/\ ∀d∈ds,d≠{target:= .collected l,args:= #[]}
theorem c8(w:World)(l:Nat)(o:Go.Obj){b:Nat}(hb:b≠l):(w.putObj l o).heap[b]?=w.heap[b]?:=World.putObj_heap_other hb
theorem aq.uD(h:aq Q T F G w a s){l:Nat}(hl:lK F G s.rg a.defers l)(o:Go.Obj):aq Q T F G (w.putObj l o) a s:=by
 have ca: ∀b,b≠l->(w.putObj l o).heap[b]?=w.heap[b]?:=λb hb=>c8 w l o hb;have hF: ∀b,F b->(w.putObj l o).heap[b]?=w.heap[b]?:=λb hb=>ca b λe=>hl.1 (e▸hb);have cp:(w.putObj l o).heap.size=w.heap.size:=by simp
 refine⟨⟨h.mf.1,λd hd=> ?_⟩,h.size,λt p hp=>bt.mono (λ_ h=>h) hF (Names.refl _ _) (h.tm t p hp),
  λn e he=>(h.rg n e he).mono (λ_ h=>h) hF (Names.refl _ _) rfl (λb hb=>ca b λe'=>hl.2.1 ⟨n,e,he,e'▸hb⟩),h.own,h.gG,λb hb=>by rw[cp];exact h.fw b hb,h.tag,
  λb hb=>⟨(h.z b hb).1,(hF b (h.z b hb).1).trans (h.z b hb).2⟩,h.dr,by rw[cp];exact h.sz⟩
 obtain⟨D,h1,h0,h2,h3,h4⟩:=h.mf.2 d hd;exact⟨D,h1,h0,(ca D λe=>hl.2.2 d hd (by rw[h1,e])).trans h2,h3,h4⟩
theorem sT: ∀(ts:List Nat) (ps:List P) (vs:List Value) (s s1:S) (t0:Array Value),aq Q T F G w ⟨t0,[]⟩ s->gX s ts ps=some s1->vs.length=ps.length->
  (∀(i:Nat) (v:Value) (c:P),vs[i]?=some v->ps[i]?=some c->ao F w G s.rg v c)->aq Q T F G w ⟨(ts.zip vs).foldl (λt (x:Nat×Value)=>t.setIfInBounds x.1 x.2) t0,[]⟩ s1/\s1.rg=s.rg
 | [],[],vs,s,s1,t0,h,hs,hl,hv=>by simp[gX] at hs;subst hs;exact⟨h,rfl⟩
 | [],_::_,vs,s,s1,t0,h,hs,hl,hv=>by simp[gX] at hs
 |_::_,[],vs,s,s1,t0,h,hs,hl,hv=>by simp[gX] at hs
 |t::ts,p::ps,[],s,s1,t0,h,hs,hl,hv=>by simp at hl
 |t::ts,p::ps,v::vs,s,s1,t0,h,hs,hl,hv=>by
  simp only[gX] at hs;split at hs
  next s2 h2=>obtain⟨k1,k2⟩:=bc h h2 (bt.of (hv 0 v p (by simp) (by simp)));obtain⟨j1,j2⟩:=sT ts ps vs s2 s1 _ k1 hs (by simpa using hl) (λi u c hu hc=>by rw[k2];exact hv (i+1) u c (by simpa using hu) (by simpa using hc));exact⟨j1,j2.trans k2⟩
  cases hs
def zw(s:S):Option (S×List Nat):=
 let ns:=reach s.rg 1000 (s.tm.map (·.2)) []
 if cE ns then(match sub s.rg (toPos s.rg ns) true 0 ns with
  |some R0=>some (⟨s.n,lA (toPos s.rg ns) (s.tm.map (·.1)) s.tm,R0⟩,ns)
  |none=>none) else none
def qH(s:S)(ns:List Nat)(R1:List (Nat×En))(base:Nat):Option S:=
 let ms:=bV R1 (reach R1 1000 (cF R1 R1) [])
 if cE ms then(match dO R1 (dm R1 s.rg ns ms base) 0 ns s.rg with
  |some R2=>(match gB R1 (dm R1 s.rg ns ms base) base ms R2 with
   |some R3=>some {s with rg:=R3}
   |none=>none)
  |none=>none) else none
def iu(ps:List Nat)(base:Nat)(keep:Option (List Nat×List Nat))(asg body:S->(PX×S->Prop)->Prop)(s:S)(args:List P)(ae:PX×S->Prop):Prop:=
 match zw s with
 |none=>False
 |some (s0,ns)=>match gX s0 ps args with
  |none=>False
  |some s1=>asg s1 λx=>match x.1 with
   | .normal=>body x.2 λy=>match qH s ns y.2.rg base with
    |some s3=>match cx keep s3 with
     |some s4=>ae (y.1,s4)
     |none=>False
    |none=>False
   |_=>False
def PX.jump:PX->Option Code
 | .normal=>none
 | .exit id=>some (.exit id)
 | .ret=>some .ret
theorem Kf{r:Option Nat}{n:Nat}{P:Program}{c:Code}{Q':Exit->Act->World->Prop}(h:c.wpIn (wd r) 0 P Q' a w):c.wpIn (wd r) n P Q' a w:=
 λb k cs xf hb _=>h b k cs xf hb (E5 r _)
theorem gi(w:World)(l:Nat)(o o':Go.Obj):(w.putObj l o).putObj l o'=w.putObj l o':=by
 simp only[World.putObj];congr 1;apply Array.ext_getElem?;intro i;simp only[Array.getElem?_setIfInBounds];split
 next h=>subst h;simp
 rfl
theorem Ext.uD{o1 o2 F1 F2:Nat->Prop}{w w':World}(h:Ext o1 o2 F1 F2 w w'){l:Nat}(hl:l<w.heap.size)(o:Go.Obj):Ext o1 o2 F1 F2 (w.putObj l o) (w'.putObj l o):=by
 have e1:(w.putObj l o).heap.size=w.heap.size:=by simp
 have e2:(w'.putObj l o).heap.size=w'.heap.size:=by simp
 refine⟨h.fV,λb hb=>by rw[e1];exact h.iN b hb,λb hb=>by rw[e1];exact h.fe b hb,λb hb hn=> ?_,by rw[e1,e2];exact h.size,h.os,h.tape,h.output⟩;by_cases Eh:b=l
 ·subst Eh;rw[World.putObj_heap_same hl,World.putObj_heap_same (zaK hl h.size)]
 rw[c8 w l o Eh,c8 w' l o Eh];exact h.keep b (by rw[e1] at hb;exact hb) hn
theorem lK.of{rec:Loop}{l:Nat}(h:aq Q T F G w a s)(hl:w.heap[l]?=some (.loop rec))(hf: ¬F l)(ho: ¬Own G s.rg l):lK F G s.rg a.defers l:=by
 refine⟨hf,ho,λd hd e=> ?_⟩;obtain⟨D,h1,_,h2,_⟩:=h.mf.2 d hd;rw[h1] at e;injection e with e1 e2
 injection e1 with e1
 subst e1;rw[hl] at h2;cases h2
theorem Ext.apart{o1 o2 F1 F2:Nat->Prop}{w w':World}(h:Ext o1 o2 F1 F2 w w'){l:Nat}(hl:l<w.heap.size)(hf: ¬F1 l)(ho: ¬o1 l): ¬F2 l/\ ¬o2 l:=
 ⟨λIE=>(h.iN l IE).elim hf λh1=>h1.elim ho λh2=>by omega,λeZ=>(h.fe l eZ).elim ho λh2=>by omega⟩
theorem Dn{rec:Loop}{l:Nat}(hl:w.heap[l]?=some (.loop rec))(iO:rec.state= .ready)(ht:rec.tmps=a.tmps)(ho:lK F G s.rg a.defers l)(h:aq Q T F G w a s){base:Nat}{keep:Option (List Nat×List Nat)}{asg body:S->(PX×S->Prop)->Prop}
  (jV: ∀val lo s ae,asg s ae->TW Q ⟨val,T.w0,lo,false⟩ rec.assign s ae) (bZ: ∀val lo s ae,body s ae->TW Q ⟨val,T.w0,lo,false⟩ rec.body s ae) {m:Nat} {vs:List Value} {args:List D} (hlen:vs.length=args.length) (km:vs.length=rec.params.size)
  (hv: ∀(i:Nat) (v:Value) (x:D),vs[i]?=some v->args[i]?=some x->aA F w v x) {ae:PX×S->Prop} (hp:iu rec.params.toList base keep asg body s (args.map .d) ae):
  YieldAt (wd none) m Q l ⟨vs⟩ w (λe w'=> ∃x s',ae (x,s')/\e= .returned (.bool (PX.jump x).isNone)/\w'.heap[l]?=some (.loop {rec with state:=if(PX.jump x).isNone then .ready else .done,pending:=PX.jump x})/\
   ∃F' G',aq Q T F' G' w' a s'/\lK F' G' s'.rg a.defers l/\Ext (Own G s.rg) (Own G' s'.rg) F F' (w.putObj l (.deferred none)) (w'.putObj l (.deferred none))):=by
 have bj:l<w.heap.size:=(zap.1 hl).1;unfold iu at hp;split at hp
 ·exact hp.elim
 rename_i s0 ns Gx;split at hp
 ·exact hp.elim
 rename_i s1 P4;unfold zw at Gx;simp only at Gx;split at Gx
 next hY=>
  split at Gx
  next R0 MO=>
   simp only[zaf,za9] at Gx;obtain⟨rfl,rfl⟩:=Gx;obtain⟨k1,k2,k3⟩:=h.heap.sub MO hY;simp only[zaT] at k1;have h0:=k1.state (a:=⟨a.tmps,[]⟩) (s:=⟨s.n,lA (toPos s.rg (reach s.rg 1000 (s.tm.map (·.2)) [])) (s.tm.map (·.1)) s.tm,R0⟩) rfl .nil h.size (λt p hp=>by obtain⟨q,hq,rfl⟩:=mI _ _ s.tm t p hp;exact(h.tm t q hq).nb k2);have Kg: ¬Own (λi=>G ((reach s.rg 1000 (s.tm.map (·.2)) []).getD i 0)) R0 l:=λhh=>by obtain⟨n,e,_,he,hb⟩:=k3 l hh;exact ho.2.1 ⟨n,e,he,hb⟩
   obtain⟨j1,j2⟩:=sT rec.params.toList (args.map .d) vs _ s1 a.tmps h0 P4 (by simpa using hlen) (λi v c JY fO=>by rw[zai,zaj] at fO;obtain⟨x,hx,rfl⟩:=fO;exact .d (hv i v x JY hx));refine⟨rec.fn,_,rec.assign,rec.body,run_yield hl (by simpa using km),?_⟩;refine roundIn_of_wpIn trivial (Kf ?_);have Kh:(rec.params.zip (⟨vs⟩:Array Value)).foldl (λtmps (x:Nat×Value)=>tmps.setIfInBounds x.1 x.2) rec.tmps=(rec.params.toList.zip vs).foldl (λt (x:Nat×Value)=>t.setIfInBounds x.1 x.2) a.tmps:=by rw[ht,<-zcl,Array.toList_zip]
   rw[Kh];refine jV _ _ s1 _ hp (r:=some l) (λe=>by cases e) F _ w _ _ j1 λe s2 a2 w2 Gv M0=> ?_;cases e with
   |exit id=>exact Gv.elim
   |ret=>exact Gv.elim
   |normal=>
   simp only at Gv;obtain⟨F2,G2,p1,p2⟩:=M0;rw[j2] at p2;have l2:w2.heap[l]?=some (.loop rec):=(p2.keep l bj Kg).trans hl;obtain⟨n1,n2⟩:=p2.apart bj ho.1 Kg;have OI:l<w2.heap.size:=zaK bj p2.size;refine⟨_,run_beginRound l2 iO,Kf ?_⟩;have P5:=p1.uD (lK.of p1 l2 n1 n2) (.loop {rec with state:= .busy});refine bZ _ _ s2 _ Gv (r:=some l) (λe=>by cases e) F2 G2 _ _ _ P5 λe s3 a3 w3 HF P6=> ?_;obtain⟨F3,G3,q1,q2⟩:=P6;have Fu:l<(w2.putObj l (.loop {rec with state:= .busy})).heap.size:=by simpa using OI
   have l3:w3.heap[l]?=some (.loop {rec with state:= .busy}):=(q2.keep l Fu n2).trans (World.putObj_heap_same OI);obtain⟨n3,n4⟩:=q2.apart Fu n1 n2;have M5:l<w3.heap.size:=zaK Fu q2.size;have fin: ∃v w4,(Instr.endRound l (PX.jump e)).run Q w3= .ok v w4/\ ∃x s',ae (x,s')/\(Ending.returned v)= .returned (.bool (PX.jump x).isNone)/\w4.heap[l]?=some (.loop {rec with state:=if(PX.jump x).isNone then .ready else .done,pending:=PX.jump x})/\
     ∃F' G',aq Q T F' G' w4 a s'/\lK F' G' s'.rg a.defers l/\Ext (Own G s.rg) (Own G' s'.rg) F F' (w.putObj l (.deferred none)) (w4.putObj l (.deferred none)):=by
    refine⟨_,_,run_endRound (PX.jump e) l3,?_⟩;cases xf:qH s (reach s.rg 1000 (s.tm.map (·.2)) []) s3.rg base with
    |none=>simp only[xf] at HF
    |some P7=>
    simp only[xf] at HF;cases HG:cx keep P7 with
    |none=>simp only[HG] at HF
    |some s'=>
    simp only[HG] at HF;refine⟨e,s',HF,rfl,World.putObj_heap_same M5,?_⟩;unfold qH at xf;simp only at xf;split at xf
    ·rename_i MC;split at xf
     ·rename_i R2 hb;split at xf
      ·rename_i R3 hn;simp only[zaf] at xf;subst xf;have Ki:Ext (Own (λi=>G ((reach s.rg 1000 (s.tm.map (·.2)) []).getD i 0)) R0) (Own G3 s3.rg) F F3 (w.putObj l (.deferred none)) (w3.putObj l (.deferred none)):=by have x1:=p2.uD bj (.deferred none);have x2:=q2.uD Fu (.deferred none);rw[gi] at x2;exact x1.trans x2
       have E2:=(q1.uD (lK.of q1 l3 n3 n4) (.deferred none)).heap;obtain⟨G4,z1,z2,z3⟩:=lU (h.uD ho (.deferred none)) hY MC MO E2.lo Ki (c7 s3.rg _) hb hn;obtain⟨y1,y2⟩:=z2.apart (by simpa using bj) ho.1 ho.2.1;have MK:lK F3 G4 R3 a.defers l:=⟨y1,y2,ho.2.2⟩
       have z4:=z1.uD (s:={s with rg:=R3}) MK (.loop {rec with state:=if(PX.jump e).isNone then .ready else .done,pending:=PX.jump e});rw[gi] at z4;obtain⟨G5,v1,v2⟩:=dD z4 HG;have v3:=v2.uD (l:=l) (by simpa using M5) (.deferred none);rw[gi] at v3;exact⟨F3,G5,v1,⟨y1,(v2.apart (by simpa using M5) y1 y2).2,ho.2.2⟩,by rw[gi];exact z2.trans v3⟩
      cases xf
     cases xf
    cases xf
   cases e with
   |normal=>exact fin
   |exit id=>exact fin
   |ret=>exact fin
  cases Gx
 cases Gx
end
end Pi
