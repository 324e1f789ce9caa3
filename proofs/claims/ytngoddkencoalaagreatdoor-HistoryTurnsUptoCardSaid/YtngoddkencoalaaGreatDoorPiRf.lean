/- The text PiRf. -/
import Derived.Test.YtngoddkencoalaaGreatDoorPiT
import Derived.RangeFuncSeq
namespace Pi
open Go
def lI:S->List Nat->List P->Option S
 |s,[],[]=>some s
 |s,t::ts,p::ps=>match s.put (some t) p with |some s1=>lI s1 ts ps |none=>none
 |_,_,_=>none
section
variable{Q:Program}{T:Tg}{F:Nat->Prop}{G:Nat->Value}{w:World}{a:Act}{s:S}
def r1(F:Nat->Prop)(G:Nat->Value)(R:List (Nat×En))(ds:List Deferred)(l:Nat):Prop:= ¬F l/\ ¬Own G R l/\ ∀d∈ds,d≠{target:= .collected l,args:= #[]}
theorem eW(w:World)(l:Nat)(o:Go.Obj){b:Nat}(hb:b≠l):(w.putObj l o).heap[b]?=w.heap[b]?:=World.putObj_heap_other hb
theorem aG.EC(h:aG Q T F G w a s){l:Nat}(hl:r1 F G s.rg a.defers l)(o:Go.Obj):aG Q T F G (w.putObj l o) a s:=by
 have dQ: ∀b,b≠l->(w.putObj l o).heap[b]?=w.heap[b]?:=λb hb=>eW w l o hb;have hF: ∀b,F b->(w.putObj l o).heap[b]?=w.heap[b]?:=λb hb=>dQ b λe=>hl.1 (e▸hb);have dN:(w.putObj l o).heap.size=w.heap.size:=by simp
 refine⟨⟨h.sg.1,λd hd=> ?_⟩,h.size,λt p hp=>cA.mono (λ_ h=>h) hF (Names.refl _ _) (h.tm t p hp),
  λn e he=>(h.rg n e he).mono (λ_ h=>h) hF (Names.refl _ _) rfl (λb hb=>dQ b λe'=>hl.2.1 ⟨n,e,he,e'▸hb⟩),h.own,h.nf,λb hb=>by rw[dN];exact h.jE b hb,h.tag,
  λb hb=>⟨(h.z b hb).1,(hF b (h.z b hb).1).trans (h.z b hb).2⟩,h.dr,by rw[dN];exact h.sz⟩
 obtain⟨D,h1,h0,h2,h3,h4⟩:=h.sg.2 d hd;exact⟨D,h1,h0,(dQ D λe=>hl.2.2 d hd (by rw[h1,e])).trans h2,h3,h4⟩
theorem CX: ∀(ts:List Nat) (ps:List P) (vs:List Value) (s s1:S) (t0:Array Value),aG Q T F G w ⟨t0,[]⟩ s->lI s ts ps=some s1->vs.length=ps.length->
  (∀(i:Nat) (v:Value) (c:P),vs[i]?=some v->ps[i]?=some c->aH F w G s.rg v c)->aG Q T F G w ⟨(ts.zip vs).foldl (λt (x:Nat×Value)=>t.setIfInBounds x.1 x.2) t0,[]⟩ s1/\s1.rg=s.rg
 | [],[],vs,s,s1,t0,h,hs,hl,hv=>by simp[lI] at hs;subst hs;exact⟨h,rfl⟩
 | [],_::_,vs,s,s1,t0,h,hs,hl,hv=>by simp[lI] at hs
 |_::_,[],vs,s,s1,t0,h,hs,hl,hv=>by simp[lI] at hs
 |t::ts,p::ps,[],s,s1,t0,h,hs,hl,hv=>by simp at hl
 |t::ts,p::ps,v::vs,s,s1,t0,h,hs,hl,hv=>by
  simp only[lI] at hs;split at hs
  next s2 h2=>obtain⟨k1,k2⟩:=cC h h2 (cA.of (hv 0 v p (by simp) (by simp)));obtain⟨j1,j2⟩:=CX ts ps vs s2 s1 _ k1 hs (by simpa using hl) (λi u c hu hc=>by rw[k2];exact hv (i+1) u c (by simpa using hu) (by simpa using hc));exact⟨j1,j2.trans k2⟩
  cases hs
def MP(s:S):Option (S×List Nat):=
 let ns:=reach s.rg 1000 (s.tm.map (·.2)) []
 if dZ ns then(match sub s.rg (toPos s.rg ns) true 0 ns with
  |some R0=>some (⟨s.n,rN (toPos s.rg ns) (s.tm.map (·.1)) s.tm,R0⟩,ns)
  |none=>none) else none
def zJ(s:S)(ns:List Nat)(R1:List (Nat×En))(base:Nat):Option S:=
 let ms:=dh R1 (reach R1 1000 (fp R1 R1) [])
 if dZ ms then(match gw R1 (fo R1 s.rg ns ms base) 0 ns s.rg with
  |some R2=>(match ln R1 (fo R1 s.rg ns ms base) base ms R2 with
   |some R3=>some {s with rg:=R3}
   |none=>none)
  |none=>none) else none
def kJ(ps:List Nat)(base:Nat)(keep:Option (List Nat×List Nat))(asg body:S->(PX×S->Prop)->Prop)(s:S)(args:List P)(ae:PX×S->Prop):Prop:=
 match MP s with
 |none=>False
 |some (s0,ns)=>match lI s0 ps args with
  |none=>False
  |some s1=>asg s1 λx=>match x.1 with
   | .normal=>body x.2 λy=>match zJ s ns y.2.rg base with
    |some s3=>match cz keep s3 with
     |some s4=>ae (y.1,s4)
     |none=>False
    |none=>False
   |_=>False
def PX.jump:PX->Option Code
 | .normal=>none
 | .exit id=>some (.exit id)
 | .ret=>some .ret
theorem qin{r:Option Nat}{n:Nat}{P:Program}{c:Code}{Q':Exit->Act->World->Prop}(h:c.wpIn (wd r) 0 P Q' a w):c.wpIn (wd r) n P Q' a w:=
 λb k cs Js hb _=>h b k cs Js hb (qac r _)
theorem kK(w:World)(l:Nat)(o o':Go.Obj):(w.putObj l o).putObj l o'=w.putObj l o':=by
 simp only[World.putObj];congr 1;apply zc4;intro i;simp only[Array.getElem?_setIfInBounds];split
 next h=>subst h;simp
 rfl
theorem Ext.EC{o1 o2 F1 F2:Nat->Prop}{w w':World}(h:Ext o1 o2 F1 F2 w w'){l:Nat}(hl:l<w.heap.size)(o:Go.Obj):Ext o1 o2 F1 F2 (w.putObj l o) (w'.putObj l o):=by
 have e1:(w.putObj l o).heap.size=w.heap.size:=by simp
 have e2:(w'.putObj l o).heap.size=w'.heap.size:=by simp
 refine⟨h.lx,λb hb=>by rw[e1];exact h.nC b hb,λb hb=>by rw[e1];exact h.mc b hb,λb hb hn=> ?_,by rw[e1,e2];exact h.size,h.os,h.tape,h.output⟩;by_cases S8:b=l
 ·subst S8;rw[World.putObj_heap_same hl,World.putObj_heap_same (zbb hl h.size)]
 rw[eW w l o S8,eW w' l o S8];exact h.keep b (by rw[e1] at hb;exact hb) hn
theorem r1.of{rec:Loop}{l:Nat}(h:aG Q T F G w a s)(hl:w.heap[l]?=some (.loop rec))(hf: ¬F l)(ho: ¬Own G s.rg l):r1 F G s.rg a.defers l:=by
 refine⟨hf,ho,λd hd e=> ?_⟩;obtain⟨D,h1,_,h2,_⟩:=h.sg.2 d hd;rw[h1] at e;injection e with e1 e2
 injection e1 with e1
 subst e1;rw[hl] at h2;cases h2
theorem Ext.apart{o1 o2 F1 F2:Nat->Prop}{w w':World}(h:Ext o1 o2 F1 F2 w w'){l:Nat}(hl:l<w.heap.size)(hf: ¬F1 l)(ho: ¬o1 l): ¬F2 l/\ ¬o2 l:=
 ⟨λhf'=>(h.nC l hf').elim hf λh1=>h1.elim ho λh2=>by omega,λff=>(h.mc l ff).elim ho λh2=>by omega⟩
theorem S9{rec:Loop}{l:Nat}(hl:w.heap[l]?=some (.loop rec))(jv:rec.state= .ready)(ht:rec.tmps=a.tmps)(ho:r1 F G s.rg a.defers l)(h:aG Q T F G w a s){base:Nat}{keep:Option (List Nat×List Nat)}{asg body:S->(PX×S->Prop)->Prop}
  (pJ: ∀val lo s ae,asg s ae->TW Q ⟨val,T.w0,lo,false⟩ rec.assign s ae) (cN: ∀val lo s ae,body s ae->TW Q ⟨val,T.w0,lo,false⟩ rec.body s ae) {m:Nat} {vs:List Value} {args:List D} (hlen:vs.length=args.length) (rP:vs.length=rec.params.size)
  (hv: ∀(i:Nat) (v:Value) (x:D),vs[i]?=some v->args[i]?=some x->aS F w v x) {ae:PX×S->Prop} (hp:kJ rec.params.toList base keep asg body s (args.map .d) ae):
  YieldAt (wd none) m Q l ⟨vs⟩ w (λe w'=> ∃x s',ae (x,s')/\e= .returned (.bool (PX.jump x).isNone)/\w'.heap[l]?=some (.loop {rec with state:=if(PX.jump x).isNone then .ready else .done,pending:=PX.jump x})/\
   ∃F' G',aG Q T F' G' w' a s'/\r1 F' G' s'.rg a.defers l/\Ext (Own G s.rg) (Own G' s'.rg) F F' (w.putObj l (.deferred none)) (w'.putObj l (.deferred none))):=by
 have bJ:l<w.heap.size:=(zaz.1 hl).1;unfold kJ at hp;split at hp
 ·exact hp.elim
 rename_i s0 ns hri;split at hp
 ·exact hp.elim
 rename_i s1 hpa;unfold MP at hri;simp only at hri;split at hri
 next kY=>
  split at hri
  next R0 hR0=>
   simp only[zam,zbN] at hri;obtain⟨rfl,rfl⟩:=hri;obtain⟨k1,k2,k3⟩:=h.heap.sub hR0 kY;simp only[zbr] at k1;have h0:=k1.state (a:=⟨a.tmps,[]⟩) (s:=⟨s.n,rN (toPos s.rg (reach s.rg 1000 (s.tm.map (·.2)) [])) (s.tm.map (·.1)) s.tm,R0⟩) rfl .nil h.size (λt p hp=>by obtain⟨q,hq,rfl⟩:=tN _ _ s.tm t p hp;exact(h.tm t q hq).Cg k2);have qio: ¬Own (λi=>G ((reach s.rg 1000 (s.tm.map (·.2)) []).getD i 0)) R0 l:=λhh=>by obtain⟨n,e,_,he,hb⟩:=k3 l hh;exact ho.2.1 ⟨n,e,he,hb⟩
   obtain⟨j1,j2⟩:=CX rec.params.toList (args.map .d) vs _ s1 a.tmps h0 hpa (by simpa using hlen) (λi v c hvv l7=>by rw[zaD,zax] at l7;obtain⟨x,hx,rfl⟩:=l7;exact .d (hv i v x hvv hx));refine⟨rec.fn,_,rec.assign,rec.body,run_yield hl (by simpa using rP),?_⟩;refine roundIn_of_wpIn trivial (qin ?_);have qip:(rec.params.zip (⟨vs⟩:Array Value)).foldl (λtmps (x:Nat×Value)=>tmps.setIfInBounds x.1 x.2) rec.tmps=(rec.params.toList.zip vs).foldl (λt (x:Nat×Value)=>t.setIfInBounds x.1 x.2) a.tmps:=by rw[ht,<-zc2,Array.toList_zip]
   rw[qip];refine pJ _ _ s1 _ hp (r:=some l) (λe=>by cases e) F _ w _ _ j1 λe s2 a2 w2 hp2 hP2=> ?_;cases e with
   |exit id=>exact hp2.elim
   |ret=>exact hp2.elim
   |normal=>
   simp only at hp2;obtain⟨F2,G2,p1,p2⟩:=hP2;rw[j2] at p2;have l2:w2.heap[l]?=some (.loop rec):=(p2.keep l bJ qio).trans hl;obtain⟨n1,n2⟩:=p2.apart bJ ho.1 qio;have lt2:l<w2.heap.size:=zbb bJ p2.size;refine⟨_,run_beginRound l2 jv,qin ?_⟩;have p1':=p1.EC (r1.of p1 l2 n1 n2) (.loop {rec with state:= .busy});refine cN _ _ s2 _ hp2 (r:=some l) (λe=>by cases e) F2 G2 _ _ _ p1' λe s3 a3 w3 hp3 hP3=> ?_;obtain⟨F3,G3,q1,q2⟩:=hP3;have qav:l<(w2.putObj l (.loop {rec with state:= .busy})).heap.size:=by simpa using lt2
   have l3:w3.heap[l]?=some (.loop {rec with state:= .busy}):=(q2.keep l qav n2).trans (World.putObj_heap_same lt2);obtain⟨n3,n4⟩:=q2.apart qav n1 n2;have lt3:l<w3.heap.size:=zbb qav q2.size;have fin: ∃v w4,(Instr.endRound l (PX.jump e)).run Q w3= .ok v w4/\ ∃x s',ae (x,s')/\(Ending.returned v)= .returned (.bool (PX.jump x).isNone)/\w4.heap[l]?=some (.loop {rec with state:=if(PX.jump x).isNone then .ready else .done,pending:=PX.jump x})/\
     ∃F' G',aG Q T F' G' w4 a s'/\r1 F' G' s'.rg a.defers l/\Ext (Own G s.rg) (Own G' s'.rg) F F' (w.putObj l (.deferred none)) (w4.putObj l (.deferred none)):=by
    refine⟨_,_,run_endRound (PX.jump e) l3,?_⟩;cases Js:zJ s (reach s.rg 1000 (s.tm.map (·.2)) []) s3.rg base with
    |none=>simp only[Js] at hp3
    |some s3'=>
    simp only[Js] at hp3;cases hhd:cz keep s3' with
    |none=>simp only[hhd] at hp3
    |some s'=>
    simp only[hhd] at hp3;refine⟨e,s',hp3,rfl,World.putObj_heap_same lt3,?_⟩;unfold zJ at Js;simp only at Js;split at Js
    ·rename_i hms;split at Js
     ·rename_i R2 hb;split at Js
      ·rename_i R3 hn;simp only[zam] at Js;subst Js;have e12:Ext (Own (λi=>G ((reach s.rg 1000 (s.tm.map (·.2)) []).getD i 0)) R0) (Own G3 s3.rg) F F3 (w.putObj l (.deferred none)) (w3.putObj l (.deferred none)):=by have x1:=p2.EC bJ (.deferred none);have x2:=q2.EC qav (.deferred none);rw[kK] at x2;exact x1.trans x2
       have Sv:=(q1.EC (r1.of q1 l3 n3 n4) (.deferred none)).heap;obtain⟨G4,z1,z2,z3⟩:=su (h.EC ho (.deferred none)) kY hms hR0 Sv.lo e12 (eT s3.rg _) hb hn;obtain⟨y1,y2⟩:=z2.apart (by simpa using bJ) ho.1 ho.2.1;have hap:r1 F3 G4 R3 a.defers l:=⟨y1,y2,ho.2.2⟩
       have z4:=z1.EC (s:={s with rg:=R3}) hap (.loop {rec with state:=if(PX.jump e).isNone then .ready else .done,pending:=PX.jump e});rw[kK] at z4;obtain⟨G5,v1,v2⟩:=fO z4 hhd;have v3:=v2.EC (l:=l) (by simpa using lt3) (.deferred none);rw[kK] at v3;exact⟨F3,G5,v1,⟨y1,(v2.apart (by simpa using lt3) y1 y2).2,ho.2.2⟩,by rw[kK];exact z2.trans v3⟩
      cases Js
     cases Js
    cases Js
   cases e with
   |normal=>exact fin
   |exit id=>exact fin
   |ret=>exact fin
  cases hri
 cases hri
end
end Pi
