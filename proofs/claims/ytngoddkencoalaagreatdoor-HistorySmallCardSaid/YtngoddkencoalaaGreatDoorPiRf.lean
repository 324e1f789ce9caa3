/- The text PiRf. -/
import Derived.Test.YtngoddkencoalaaGreatDoorPiT
import Derived.RangeFuncSeq
namespace Pi
open Go
def lE:S->List Nat->List P->Option S
 |s,[],[]=>some s
 |s,t::ts,p::ps=>match s.put (some t) p with |some s1=>lE s1 ts ps |none=>none
 |_,_,_=>none
section
variable{Q:Program}{T:Tg}{F:Nat->Prop}{G:Nat->Value}{w:World}{a:Act}{s:S}
def rP(F:Nat->Prop)(G:Nat->Value)(R:List (Nat×En))(ds:List Deferred)(l:Nat):Prop:= ¬F l/\ ¬Own G R l/\ ∀d∈ds,d≠{target:= .collected l,args:= #[]}
theorem eV(w:World)(l:Nat)(o:Go.Obj){b:Nat}(hb:b≠l):(w.putObj l o).heap[b]?=w.heap[b]?:=World.putObj_heap_other hb
theorem aG.Dw(h:aG Q T F G w a s){l:Nat}(hl:rP F G s.rg a.defers l)(o:Go.Obj):aG Q T F G (w.putObj l o) a s:=by
 have dP: ∀b,b≠l->(w.putObj l o).heap[b]?=w.heap[b]?:=λb hb=>eV w l o hb;have hF: ∀b,F b->(w.putObj l o).heap[b]?=w.heap[b]?:=λb hb=>dP b λe=>hl.1 (e▸hb);have dB:(w.putObj l o).heap.size=w.heap.size:=by simp
 refine⟨⟨h.r9.1,λd hd=> ?_⟩,h.size,λt p hp=>cB.mono (λ_ h=>h) hF (Names.refl _ _) (h.tm t p hp),
  λn e he=>(h.rg n e he).mono (λ_ h=>h) hF (Names.refl _ _) rfl (λb hb=>dP b λe'=>hl.2.1 ⟨n,e,he,e'▸hb⟩),h.own,h.mU,λb hb=>by rw[dB];exact h.jz b hb,h.tag,
  λb hb=>⟨(h.z b hb).1,(hF b (h.z b hb).1).trans (h.z b hb).2⟩,h.dr,by rw[dB];exact h.sz⟩
 obtain⟨D,h1,h0,h2,h3,h4⟩:=h.r9.2 d hd;exact⟨D,h1,h0,(dP D λe=>hl.2.2 d hd (by rw[h1,e])).trans h2,h3,h4⟩
theorem BX: ∀(ts:List Nat) (ps:List P) (vs:List Value) (s s1:S) (t0:Array Value),aG Q T F G w ⟨t0,[]⟩ s->lE s ts ps=some s1->vs.length=ps.length->
  (∀(i:Nat) (v:Value) (c:P),vs[i]?=some v->ps[i]?=some c->aH F w G s.rg v c)->aG Q T F G w ⟨(ts.zip vs).foldl (λt (x:Nat×Value)=>t.setIfInBounds x.1 x.2) t0,[]⟩ s1/\s1.rg=s.rg
 | [],[],vs,s,s1,t0,h,hs,hl,hv=>by simp[lE] at hs;subst hs;exact⟨h,rfl⟩
 | [],_::_,vs,s,s1,t0,h,hs,hl,hv=>by simp[lE] at hs
 |_::_,[],vs,s,s1,t0,h,hs,hl,hv=>by simp[lE] at hs
 |t::ts,p::ps,[],s,s1,t0,h,hs,hl,hv=>by simp at hl
 |t::ts,p::ps,v::vs,s,s1,t0,h,hs,hl,hv=>by
  simp only[lE] at hs;split at hs
  next s2 h2=>obtain⟨k1,k2⟩:=cD h h2 (cB.of (hv 0 v p (by simp) (by simp)));obtain⟨j1,j2⟩:=BX ts ps vs s2 s1 _ k1 hs (by simpa using hl) (λi u c hu hc=>by rw[k2];exact hv (i+1) u c (by simpa using hu) (by simpa using hc));exact⟨j1,j2.trans k2⟩
  cases hs
def Le(s:S):Option (S×List Nat):=
 let ns:=reach s.rg 1000 (s.tm.map (·.2)) []
 if ep ns then(match sub s.rg (toPos s.rg ns) true 0 ns with
  |some R0=>some (⟨s.n,rB (toPos s.rg ns) (s.tm.map (·.1)) s.tm,R0⟩,ns)
  |none=>none) else none
def yT(s:S)(ns:List Nat)(R1:List (Nat×En))(base:Nat):Option S:=
 let ms:=dm R1 (reach R1 1000 (fm R1 R1) [])
 if ep ms then(match gy R1 (fk R1 s.rg ns ms base) 0 ns s.rg with
  |some R2=>(match la R1 (fk R1 s.rg ns ms base) base ms R2 with
   |some R3=>some {s with rg:=R3}
   |none=>none)
  |none=>none) else none
def kG(ps:List Nat)(base:Nat)(keep:Option (List Nat×List Nat))(asg body:S->(PX×S->Prop)->Prop)(s:S)(args:List P)(ae:PX×S->Prop):Prop:=
 match Le s with
 |none=>False
 |some (s0,ns)=>match lE s0 ps args with
  |none=>False
  |some s1=>asg s1 λx=>match x.1 with
   | .normal=>body x.2 λy=>match yT s ns y.2.rg base with
    |some s3=>match cA keep s3 with
     |some s4=>ae (y.1,s4)
     |none=>False
    |none=>False
   |_=>False
def PX.jump:PX->Option Code
 | .normal=>none
 | .exit id=>some (.exit id)
 | .ret=>some .ret
theorem qgf{r:Option Nat}{n:Nat}{P:Program}{c:Code}{Q':Exit->Act->World->Prop}(h:c.wpIn (wd r) 0 P Q' a w):c.wpIn (wd r) n P Q' a w:=
 λb k cs HO hb _=>h b k cs HO hb (W6 r _)
theorem kH(w:World)(l:Nat)(o o':Go.Obj):(w.putObj l o).putObj l o'=w.putObj l o':=by
 simp only[World.putObj];congr 1;apply zcR;intro i;simp only[Array.getElem?_setIfInBounds];split
 next h=>subst h;simp
 rfl
theorem Ext.Dw{o1 o2 F1 F2:Nat->Prop}{w w':World}(h:Ext o1 o2 F1 F2 w w'){l:Nat}(hl:l<w.heap.size)(o:Go.Obj):Ext o1 o2 F1 F2 (w.putObj l o) (w'.putObj l o):=by
 have e1:(w.putObj l o).heap.size=w.heap.size:=by simp
 have e2:(w'.putObj l o).heap.size=w'.heap.size:=by simp
 refine⟨h.ll,λb hb=>by rw[e1];exact h.nj b hb,λb hb=>by rw[e1];exact h.l4 b hb,λb hb hn=> ?_,by rw[e1,e2];exact h.size,h.os,h.tape,h.output⟩;by_cases VZ:b=l
 ·subst VZ;rw[World.putObj_heap_same hl,World.putObj_heap_same (za4 hl h.size)]
 rw[eV w l o VZ,eV w' l o VZ];exact h.keep b (by rw[e1] at hb;exact hb) hn
theorem rP.of{rec:Loop}{l:Nat}(h:aG Q T F G w a s)(hl:w.heap[l]?=some (.loop rec))(hf: ¬F l)(ho: ¬Own G s.rg l):rP F G s.rg a.defers l:=by
 refine⟨hf,ho,λd hd e=> ?_⟩;obtain⟨D,h1,_,h2,_⟩:=h.r9.2 d hd;rw[h1] at e;injection e with e1 e2
 injection e1 with e1
 subst e1;rw[hl] at h2;cases h2
theorem Ext.apart{o1 o2 F1 F2:Nat->Prop}{w w':World}(h:Ext o1 o2 F1 F2 w w'){l:Nat}(hl:l<w.heap.size)(hf: ¬F1 l)(ho: ¬o1 l): ¬F2 l/\ ¬o2 l:=
 ⟨λhf'=>(h.nj l hf').elim hf λh1=>h1.elim ho λh2=>by omega,λgg=>(h.l4 l gg).elim ho λh2=>by omega⟩
theorem Rn{rec:Loop}{l:Nat}(hl:w.heap[l]?=some (.loop rec))(ln:rec.state= .ready)(ht:rec.tmps=a.tmps)(ho:rP F G s.rg a.defers l)(h:aG Q T F G w a s){base:Nat}{keep:Option (List Nat×List Nat)}{asg body:S->(PX×S->Prop)->Prop}
  (o9: ∀val lo s ae,asg s ae->TW Q ⟨val,T.w0,lo,false⟩ rec.assign s ae) (cO: ∀val lo s ae,body s ae->TW Q ⟨val,T.w0,lo,false⟩ rec.body s ae) {m:Nat} {vs:List Value} {args:List D} (hlen:vs.length=args.length) (rD:vs.length=rec.params.size)
  (hv: ∀(i:Nat) (v:Value) (x:D),vs[i]?=some v->args[i]?=some x->bc F w v x) {ae:PX×S->Prop} (hp:kG rec.params.toList base keep asg body s (args.map .d) ae):
  YieldAt (wd none) m Q l ⟨vs⟩ w (λe w'=> ∃x s',ae (x,s')/\e= .returned (.bool (PX.jump x).isNone)/\w'.heap[l]?=some (.loop {rec with state:=if(PX.jump x).isNone then .ready else .done,pending:=PX.jump x})/\
   ∃F' G',aG Q T F' G' w' a s'/\rP F' G' s'.rg a.defers l/\Ext (Own G s.rg) (Own G' s'.rg) F F' (w.putObj l (.deferred none)) (w'.putObj l (.deferred none))):=by
 have bG:l<w.heap.size:=(zar.1 hl).1;unfold kG at hp;split at hp
 ·exact hp.elim
 rename_i s0 ns hri;split at hp
 ·exact hp.elim
 rename_i s1 hpa;unfold Le at hri;simp only at hri;split at hri
 next kS=>
  split at hri
  next R0 hR0=>
   simp only[zam,zbC] at hri;obtain⟨rfl,rfl⟩:=hri;obtain⟨k1,k2,k3⟩:=h.heap.sub hR0 kS;simp only[zba] at k1;have h0:=k1.state (a:=⟨a.tmps,[]⟩) (s:=⟨s.n,rB (toPos s.rg (reach s.rg 1000 (s.tm.map (·.2)) [])) (s.tm.map (·.1)) s.tm,R0⟩) rfl .nil h.size (λt p hp=>by obtain⟨q,hq,rfl⟩:=tI _ _ s.tm t p hp;exact(h.tm t q hq).Bj k2);have qgg: ¬Own (λi=>G ((reach s.rg 1000 (s.tm.map (·.2)) []).getD i 0)) R0 l:=λhh=>by obtain⟨n,e,_,he,hb⟩:=k3 l hh;exact ho.2.1 ⟨n,e,he,hb⟩
   obtain⟨j1,j2⟩:=BX rec.params.toList (args.map .d) vs _ s1 a.tmps h0 hpa (by simpa using hlen) (λi v c hvv jU=>by rw[zaK,zax] at jU;obtain⟨x,hx,rfl⟩:=jU;exact .d (hv i v x hvv hx));refine⟨rec.fn,_,rec.assign,rec.body,run_yield hl (by simpa using rD),?_⟩;refine roundIn_of_wpIn trivial (qgf ?_);have qgh:(rec.params.zip (⟨vs⟩:Array Value)).foldl (λtmps (x:Nat×Value)=>tmps.setIfInBounds x.1 x.2) rec.tmps=(rec.params.toList.zip vs).foldl (λt (x:Nat×Value)=>t.setIfInBounds x.1 x.2) a.tmps:=by rw[ht,<-zcP,Array.toList_zip]
   rw[qgh];refine o9 _ _ s1 _ hp (r:=some l) (λe=>by cases e) F _ w _ _ j1 λe s2 a2 w2 O9 hP2=> ?_;cases e with
   |exit id=>exact O9.elim
   |ret=>exact O9.elim
   |normal=>
   simp only at O9;obtain⟨F2,G2,p1,p2⟩:=hP2;rw[j2] at p2;have l2:w2.heap[l]?=some (.loop rec):=(p2.keep l bG qgg).trans hl;obtain⟨n1,n2⟩:=p2.apart bG ho.1 qgg;have lt2:l<w2.heap.size:=za4 bG p2.size;refine⟨_,run_beginRound l2 ln,qgf ?_⟩;have p1':=p1.Dw (rP.of p1 l2 n1 n2) (.loop {rec with state:= .busy});refine cO _ _ s2 _ O9 (r:=some l) (λe=>by cases e) F2 G2 _ _ _ p1' λe s3 a3 w3 hp3 hP3=> ?_;obtain⟨F3,G3,q1,q2⟩:=hP3;have Xr:l<(w2.putObj l (.loop {rec with state:= .busy})).heap.size:=by simpa using lt2
   have l3:w3.heap[l]?=some (.loop {rec with state:= .busy}):=(q2.keep l Xr n2).trans (World.putObj_heap_same lt2);obtain⟨n3,n4⟩:=q2.apart Xr n1 n2;have lt3:l<w3.heap.size:=za4 Xr q2.size;have fin: ∃v w4,(Instr.endRound l (PX.jump e)).run Q w3= .ok v w4/\ ∃x s',ae (x,s')/\(Ending.returned v)= .returned (.bool (PX.jump x).isNone)/\w4.heap[l]?=some (.loop {rec with state:=if(PX.jump x).isNone then .ready else .done,pending:=PX.jump x})/\
     ∃F' G',aG Q T F' G' w4 a s'/\rP F' G' s'.rg a.defers l/\Ext (Own G s.rg) (Own G' s'.rg) F F' (w.putObj l (.deferred none)) (w4.putObj l (.deferred none)):=by
    refine⟨_,_,run_endRound (PX.jump e) l3,?_⟩;cases HO:yT s (reach s.rg 1000 (s.tm.map (·.2)) []) s3.rg base with
    |none=>simp only[HO] at hp3
    |some s3'=>
    simp only[HO] at hp3;cases hhd:cA keep s3' with
    |none=>simp only[hhd] at hp3
    |some s'=>
    simp only[hhd] at hp3;refine⟨e,s',hp3,rfl,World.putObj_heap_same lt3,?_⟩;unfold yT at HO;simp only at HO;split at HO
    ·rename_i hms;split at HO
     ·rename_i R2 hb;split at HO
      ·rename_i R3 hn;simp only[zam] at HO;subst HO;have e12:Ext (Own (λi=>G ((reach s.rg 1000 (s.tm.map (·.2)) []).getD i 0)) R0) (Own G3 s3.rg) F F3 (w.putObj l (.deferred none)) (w3.putObj l (.deferred none)):=by have x1:=p2.Dw bG (.deferred none);have x2:=q2.Dw Xr (.deferred none);rw[kH] at x2;exact x1.trans x2
       have QG:=(q1.Dw (rP.of q1 l3 n3 n4) (.deferred none)).heap;obtain⟨G4,z1,z2,z3⟩:=sd (h.Dw ho (.deferred none)) kS hms hR0 QG.lo e12 (eS s3.rg _) hb hn;obtain⟨y1,y2⟩:=z2.apart (by simpa using bG) ho.1 ho.2.1;have hap:rP F3 G4 R3 a.defers l:=⟨y1,y2,ho.2.2⟩
       have z4:=z1.Dw (s:={s with rg:=R3}) hap (.loop {rec with state:=if(PX.jump e).isNone then .ready else .done,pending:=PX.jump e});rw[kH] at z4;obtain⟨G5,v1,v2⟩:=fP z4 hhd;have v3:=v2.Dw (l:=l) (by simpa using lt3) (.deferred none);rw[kH] at v3;exact⟨F3,G5,v1,⟨y1,(v2.apart (by simpa using lt3) y1 y2).2,ho.2.2⟩,by rw[kH];exact z2.trans v3⟩
      cases HO
     cases HO
    cases HO
   cases e with
   |normal=>exact fin
   |exit id=>exact fin
   |ret=>exact fin
  cases hri
 cases hri
end
end Pi
