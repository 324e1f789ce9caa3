/- The text PiRf. -/
import Derived.Test.YtdgkdigdflkjhaaGreatDoorPiT
import Derived.RangeFuncSeq
namespace Pi
open Go
def lX:S->List Nat->List P->Option S
 |s,[],[]=>some s
 |s,t::ts,p::ps=>match s.put (some t) p with |some s1=>lX s1 ts ps |none=>none
 |_,_,_=>none
section
variable{Q:Program}{T:Tg}{F:Nat->Prop}{G:Nat->Value}{w:World}{a:Act}{s:S}
def sG(F:Nat->Prop) G R (ds:List Deferred) l:= ¬F l/\ ¬Own G R l/\ ∀d∈ds,d≠{target:= .collected l,args:= #[]}
theorem eZ(w:World) l o {b}(hb:b≠l):(w.putObj l o).heap[b]?=w.heap[b]?:=World.putObj_heap_other hb
theorem aC.FR(h:aC Q T F G w a s){l}(hl:sG F G s.rg a.defers l) o:aC Q T F G (w.putObj l o) a s:=by
 have cO: ∀b,b≠l->(w.putObj l o).heap[b]?=w.heap[b]?:=λb hb=>eZ w l o hb;have hF: ∀b,F b->(w.putObj l o).heap[b]?=w.heap[b]?:=λb hb=>cO b λe=>hl.1 (e▸hb);have dS:(w.putObj l o).heap.size=w.heap.size:=by simp
 refine⟨⟨h.s7.1,λd hd=> ?_⟩,h.size,λt p hp=>cE.mono (λ_ h=>h) hF (Names.refl _ _) (h.tm t p hp),
  λn e he=>(h.rg n e he).mono (λ_ h=>h) hF (Names.refl _ _) rfl (λb hb=>cO b λe'=>hl.2.1 ⟨n,e,he,e'▸hb⟩),h.own,h.nA,λb hb=>by rw[dS];exact h.jE b hb,h.tag,
  λb hb=>⟨(h.z b hb).1,(hF b (h.z b hb).1).trans (h.z b hb).2⟩,h.dr,by rw[dS];exact h.sz⟩
 obtain⟨D,h1,h0,h2,h3,h4⟩:=h.s7.2 d hd;exact⟨D,h1,h0,(cO D λe=>hl.2.2 d hd (by rw[h1,e])).trans h2,h3,h4⟩
theorem DU: ∀ts ps vs s s1 t0,aC Q T F G w ⟨t0,[]⟩ s->lX s ts ps=some s1->vs.length=ps.length->
  (∀(i:Nat) (v:Value) (c:P),vs[i]?=some v->ps[i]?=some c->aH F w G s.rg v c)->aC Q T F G w ⟨(ts.zip vs).foldl (λt (x:Nat×Value)=>t.setIfInBounds x.1 x.2) t0,[]⟩ s1/\s1.rg=s.rg
 | [],[],vs,s,s1,t0,h,hs,hl,hv=>by simp[lX] at hs;subst hs;exact⟨h,rfl⟩
 | [],_::_,vs,s,s1,t0,h,hs,hl,hv=>by simp[lX] at hs
 |_::_,[],vs,s,s1,t0,h,hs,hl,hv=>by simp[lX] at hs
 |t::ts,p::ps,[],s,s1,t0,h,hs,hl,hv=>by simp at hl
 |t::ts,p::ps,v::vs,s,s1,t0,h,hs,hl,hv=>by
  simp only[lX] at hs;split at hs
  next s2 h2=>obtain⟨k1,k2⟩:=cy h h2 (cE.of (hv 0 v p (by simp) (by simp)));obtain⟨j1,j2⟩:=DU ts ps vs s2 s1 _ k1 hs (by simpa using hl) (λi u c hu hc=>by rw[k2];exact hv (i+1) u c (by simpa using hu) (by simpa using hc));exact⟨j1,j2.trans k2⟩
  cases hs
def N8(s:S):Option (S×List Nat):=
 let ns:=reach s.rg 1000 (s.tm.map (·.2)) []
 if ez ns then(match sub s.rg (toPos s.rg ns) true 0 ns with
  |some R0=>some (⟨s.n,sj (toPos s.rg ns) (s.tm.map (·.1)) s.tm,R0⟩,ns)
  |none=>none) else none
def AE(s:S)(ns:List Nat)(R1:List (Nat×En))(base:Nat):Option S:=
 let ms:=du R1 (reach R1 1000 (fu R1 R1) [])
 if ez ms then(match gM R1 (ft R1 s.rg ns ms base) 0 ns s.rg with
  |some R2=>(match lA R1 (ft R1 s.rg ns ms base) base ms R2 with
   |some R3=>some {s with rg:=R3}
   |none=>none)
  |none=>none) else none
def kR(ps:List Nat)(base:Nat)(keep:Option (List Nat×List Nat))(asg body:S->(PX×S->Prop)->Prop)(s:S)(args:List P)(ae:PX×S->Prop):Prop:=
 match N8 s with
 |none=>False
 |some (s0,ns)=>match lX s0 ps args with
  |none=>False
  |some s1=>asg s1 λx=>match x.1 with
   | .normal=>body x.2 λy=>match AE s ns y.2.rg base with
    |some s3=>match cG keep s3 with
     |some s4=>ae (y.1,s4)
     |none=>False
    |none=>False
   |_=>False
def PX.jump:PX->Option Code
 | .normal=>none
 | .exit id=>some (.exit id)
 | .ret=>some .ret
theorem qiM{r n P}{c:Code}{Q'}(h:c.wpIn (wd r) 0 P Q' a w):c.wpIn (wd r) n P Q' a w:=
 λb k cs KS hb _=>h b k cs KS hb (qau r _)
theorem kS(w:World) l o o':(w.putObj l o).putObj l o'=w.putObj l o':=by
 simp only[World.putObj];congr 1;apply zc9;intro i;simp only[Array.getElem?_setIfInBounds];split
 next h=>subst h;simp
 rfl
theorem Ext.FR{o1 o2 F1 F2 w w'}(h:Ext o1 o2 F1 F2 w w'){l}(hl:l<w.heap.size) o:Ext o1 o2 F1 F2 (w.putObj l o) (w'.putObj l o):=by
 have e1:(w.putObj l o).heap.size=w.heap.size:=by simp
 have e2:(w'.putObj l o).heap.size=w'.heap.size:=by simp
 refine⟨h.lH,λb hb=>by rw[e1];exact h.n9 b hb,λb hb=>by rw[e1];exact h.mH b hb,λb hb hn=> ?_,by rw[e1,e2];exact h.size,h.os,h.tape,h.output⟩;by_cases SD:b=l
 ·subst SD;rw[World.putObj_heap_same hl,World.putObj_heap_same (zbf hl h.size)]
 rw[eZ w l o SD,eZ w' l o SD];exact h.keep b (by rw[e1] at hb;exact hb) hn
theorem sG.of{rec l}(h:aC Q T F G w a s)(hl:w.heap[l]?=some (.loop rec))(hf: ¬F l)(ho: ¬Own G s.rg l):sG F G s.rg a.defers l:=by
 refine⟨hf,ho,λd hd e=> ?_⟩;obtain⟨D,h1,_,h2,_⟩:=h.s7.2 d hd;rw[h1] at e;injection e with e1 e2
 injection e1 with e1
 subst e1;rw[hl] at h2;cases h2
theorem Ext.apart{o1 o2 F1 F2 w w'}(h:Ext o1 o2 F1 F2 w w'){l}(hl:l<w.heap.size)(hf: ¬F1 l)(ho: ¬o1 l): ¬F2 l/\ ¬o2 l:=
 ⟨λhf'=>(h.n9 l hf').elim hf λh1=>h1.elim ho λh2=>by omega,λgK=>(h.mH l gK).elim ho λh2=>by omega⟩
theorem UW{rec l}(hl:w.heap[l]?=some (.loop rec))(kH:rec.state= .ready)(ht:rec.tmps=a.tmps)(ho:sG F G s.rg a.defers l)(h:aC Q T F G w a s){base keep asg body}
  (p9: ∀val lo s ae,asg s ae->TW Q ⟨val,T.w0,lo,false⟩ rec.assign s ae) (cS: ∀val lo s ae,body s ae->TW Q ⟨val,T.w0,lo,false⟩ rec.body s ae) {m vs} {args:List D} (hlen:vs.length=args.length) (sq:vs.length=rec.params.size)
  (hv: ∀(i:Nat) (v:Value) (x:D),vs[i]?=some v->args[i]?=some x->aY F w v x) {ae} (hp:kR rec.params.toList base keep asg body s (args.map .d) ae):
  YieldAt (wd none) m Q l ⟨vs⟩ w (λe w'=> ∃x s',ae (x,s')/\e= .returned (.bool (PX.jump x).isNone)/\w'.heap[l]?=some (.loop {rec with state:=if(PX.jump x).isNone then .ready else .done,pending:=PX.jump x})/\
   ∃F' G',aC Q T F' G' w' a s'/\sG F' G' s'.rg a.defers l/\Ext (Own G s.rg) (Own G' s'.rg) F F' (w.putObj l (.deferred none)) (w'.putObj l (.deferred none))):=by
 have bK:l<w.heap.size:=(zax.1 hl).1;unfold kR at hp;split at hp
 ·exact hp.elim
 rename_i s0 ns hri;split at hp
 ·exact hp.elim
 rename_i s1 hpa;unfold N8 at hri;simp only at hri;split at hri
 next oO=>
  split at hri
  next R0 hR0=>
   simp only[zam,zbt] at hri;obtain⟨rfl,rfl⟩:=hri;obtain⟨k1,k2,k3⟩:=h.heap.sub hR0 oO;simp only[zbo] at k1;have h0:=k1.state (a:=⟨a.tmps,[]⟩) (s:=⟨s.n,sj (toPos s.rg (reach s.rg 1000 (s.tm.map (·.2)) [])) (s.tm.map (·.1)) s.tm,R0⟩) rfl .nil h.size (λt p hp=>by obtain⟨q,hq,rfl⟩:=uD _ _ s.tm t p hp;exact(h.tm t q hq).Df k2);have qiN: ¬Own (λi=>G ((reach s.rg 1000 (s.tm.map (·.2)) []).getD i 0)) R0 l:=λhh=>by obtain⟨n,e,_,he,hb⟩:=k3 l hh;exact ho.2.1 ⟨n,e,he,hb⟩
   obtain⟨j1,j2⟩:=DU rec.params.toList (args.map .d) vs _ s1 a.tmps h0 hpa (by simpa using hlen) (λi v c hvv lF=>by rw[zaN,zay] at lF;obtain⟨x,hx,rfl⟩:=lF;exact .d (hv i v x hvv hx));refine⟨rec.fn,_,rec.assign,rec.body,run_yield hl (by simpa using sq),?_⟩;refine roundIn_of_wpIn trivial (qiM ?_);have qiO:(rec.params.zip (⟨vs⟩:Array Value)).foldl (λtmps (x:Nat×Value)=>tmps.setIfInBounds x.1 x.2) rec.tmps=(rec.params.toList.zip vs).foldl (λt (x:Nat×Value)=>t.setIfInBounds x.1 x.2) a.tmps:=by rw[ht,<-zc7,Array.toList_zip]
   rw[qiO];refine p9 _ _ s1 _ hp (r:=some l) (λe=>by cases e) F _ w _ _ j1 λe s2 a2 w2 hp2 hP2=> ?_;cases e with
   |exit id=>exact hp2.elim
   |ret=>exact hp2.elim
   |normal=>
   simp only at hp2;obtain⟨F2,G2,p1,p2⟩:=hP2;rw[j2] at p2;have l2:w2.heap[l]?=some (.loop rec):=(p2.keep l bK qiN).trans hl;obtain⟨n1,n2⟩:=p2.apart bK ho.1 qiN;have lt2:l<w2.heap.size:=zbf bK p2.size;refine⟨_,run_beginRound l2 kH,qiM ?_⟩;have p1':=p1.FR (sG.of p1 l2 n1 n2) (.loop {rec with state:= .busy});refine cS _ _ s2 _ hp2 (r:=some l) (λe=>by cases e) F2 G2 _ _ _ p1' λe s3 a3 w3 hp3 hP3=> ?_;obtain⟨F3,G3,q1,q2⟩:=hP3;have qaN:l<(w2.putObj l (.loop {rec with state:= .busy})).heap.size:=by simpa using lt2
   have l3:w3.heap[l]?=some (.loop {rec with state:= .busy}):=(q2.keep l qaN n2).trans (World.putObj_heap_same lt2);obtain⟨n3,n4⟩:=q2.apart qaN n1 n2;have lt3:l<w3.heap.size:=zbf qaN q2.size;have fin: ∃v w4,(Instr.endRound l (PX.jump e)).run Q w3= .ok v w4/\ ∃x s',ae (x,s')/\(Ending.returned v)= .returned (.bool (PX.jump x).isNone)/\w4.heap[l]?=some (.loop {rec with state:=if(PX.jump x).isNone then .ready else .done,pending:=PX.jump x})/\
     ∃F' G',aC Q T F' G' w4 a s'/\sG F' G' s'.rg a.defers l/\Ext (Own G s.rg) (Own G' s'.rg) F F' (w.putObj l (.deferred none)) (w4.putObj l (.deferred none)):=by
    refine⟨_,_,run_endRound (PX.jump e) l3,?_⟩;cases KS:AE s (reach s.rg 1000 (s.tm.map (·.2)) []) s3.rg base with
    |none=>simp only[KS] at hp3
    |some s3'=>
    simp only[KS] at hp3;cases hhd:cG keep s3' with
    |none=>simp only[hhd] at hp3
    |some s'=>
    simp only[hhd] at hp3;refine⟨e,s',hp3,rfl,World.putObj_heap_same lt3,?_⟩;unfold AE at KS;simp only at KS;split at KS
    ·rename_i hms;split at KS
     ·rename_i R2 hb;split at KS
      ·rename_i R3 hn;simp only[zam] at KS;subst KS;have e12:Ext (Own (λi=>G ((reach s.rg 1000 (s.tm.map (·.2)) []).getD i 0)) R0) (Own G3 s3.rg) F F3 (w.putObj l (.deferred none)) (w3.putObj l (.deferred none)):=by have x1:=p2.FR bK (.deferred none);have x2:=q2.FR qaN (.deferred none);rw[kS] at x2;exact x1.trans x2
       have Ul:=(q1.FR (sG.of q1 l3 n3 n4) (.deferred none)).heap;obtain⟨G4,z1,z2,z3⟩:=ti (h.FR ho (.deferred none)) oO hms hR0 Ul.lo e12 (eX s3.rg _) hb hn;obtain⟨y1,y2⟩:=z2.apart (by simpa using bK) ho.1 ho.2.1;have hap:sG F3 G4 R3 a.defers l:=⟨y1,y2,ho.2.2⟩
       have z4:=z1.FR (s:={s with rg:=R3}) hap (.loop {rec with state:=if(PX.jump e).isNone then .ready else .done,pending:=PX.jump e});rw[kS] at z4;obtain⟨G5,v1,v2⟩:=fZ z4 hhd;have v3:=v2.FR (l:=l) (by simpa using lt3) (.deferred none);rw[kS] at v3;exact⟨F3,G5,v1,⟨y1,(v2.apart (by simpa using lt3) y1 y2).2,ho.2.2⟩,by rw[kS];exact z2.trans v3⟩
      cases KS
     cases KS
    cases KS
   cases e with
   |normal=>exact fin
   |exit id=>exact fin
   |ret=>exact fin
  cases hri
 cases hri
end
end Pi
