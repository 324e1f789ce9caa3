/- The text PiRf. -/
import Derived.Test.YtngoddkencoalaaGreatDoorPiT
import Derived.RangeFuncSeq
namespace Pi
open Go
def kZ:S->List Nat->List P->Option S
 |s,[],[]=>some s
 |s,t::ts,p::ps=>match s.put (some t) p with |some s1=>kZ s1 ts ps |none=>none
 |_,_,_=>none
section
variable {Q:Program} {T:Tg} {F:Nat->Prop} {G:Nat->Value} {w:World} {a:Act} {s:S}
def qV (F:Nat->Prop) (G:Nat->Value) (R:List (Nat×En)) (ds:List Deferred) (l:Nat):Prop:= ¬F l/\ ¬Own G R l/\ ∀d∈ds,d≠{target:= .collected l,args:= #[]}
theorem eR (w:World) (l:Nat) (o:Go.Obj) {b:Nat} (hb:b≠l):(w.putObj l o).heap[b]?=w.heap[b]?:=World.putObj_heap_other hb
theorem aC.CU (h:aC Q T F G w a s) {l:Nat} (hl:qV F G s.rg a.defers l) (o:Go.Obj):aC Q T F G (w.putObj l o) a s:=by
 have dG: ∀b,b≠l->(w.putObj l o).heap[b]?=w.heap[b]?:=fun b hb=>eR w l o hb
 have hF: ∀b,F b->(w.putObj l o).heap[b]?=w.heap[b]?:=fun b hb=>dG b fun e=>hl.1 (e▸hb)
 have dq:(w.putObj l o).heap.size=w.heap.size:=by simp
 refine⟨⟨h.rf.1,fun d hd=> ?_⟩,h.size,fun t p hp=>ct.mono (fun _ h=>h) hF (Names.refl _ _) (h.tm t p hp),
  fun n e he=>(h.rg n e he).mono (fun _ h=>h) hF (Names.refl _ _) rfl (fun b hb=>dG b fun e'=>hl.2.1 ⟨n,e,he,e'▸hb⟩),h.own,h.mq,fun b hb=>by rw[dq];exact h.jm b hb,h.tag,
  fun b hb=>⟨(h.z b hb).1,(hF b (h.z b hb).1).trans (h.z b hb).2⟩,h.dr,by rw[dq];exact h.sz⟩
 obtain⟨D,h1,h0,h2,h3,h4⟩:=h.rf.2 d hd
 exact⟨D,h1,h0,(dG D fun e=>hl.2.2 d hd (by rw[h1,e])).trans h2,h3,h4⟩
theorem Bb: ∀(ts:List Nat) (ps:List P) (vs:List Value) (s s1:S) (t0:Array Value),aC Q T F G w ⟨t0,[]⟩ s->kZ s ts ps=some s1->vs.length=ps.length->
  (∀(i:Nat) (v:Value) (c:P),vs[i]?=some v->ps[i]?=some c->aF F w G s.rg v c)->aC Q T F G w ⟨(ts.zip vs).foldl (fun t (x:Nat×Value)=>t.setIfInBounds x.1 x.2) t0,[]⟩ s1/\s1.rg=s.rg
 | [],[],vs,s,s1,t0,h,hs,hl,hv=>by
  simp[kZ] at hs
  subst hs
  exact⟨h,rfl⟩
 | [],_::_,vs,s,s1,t0,h,hs,hl,hv=>by simp[kZ] at hs
 |_::_,[],vs,s,s1,t0,h,hs,hl,hv=>by simp[kZ] at hs
 |t::ts,p::ps,[],s,s1,t0,h,hs,hl,hv=>by simp at hl
 |t::ts,p::ps,v::vs,s,s1,t0,h,hs,hl,hv=>by
  simp only[kZ] at hs
  split at hs
  ·rename_i s2 h2
   obtain⟨k1,k2⟩:=cv h h2 (ct.of (hv 0 v p (by simp) (by simp)))
   obtain⟨j1,j2⟩:=Bb ts ps vs s2 s1 _ k1 hs (by simpa using hl) (fun i u c hu hc=>by rw[k2];exact hv (i+1) u c (by simpa using hu) (by simpa using hc))
   exact⟨j1,j2.trans k2⟩
  ·cases hs
def Kz (s:S):Option (S×List Nat):=
 let ns:=reach s.rg 1000 (s.tm.map (·.2)) []
 if dU ns then(match sub s.rg (toPos s.rg ns) true 0 ns with
  |some R0=>some (⟨s.n,qI (toPos s.rg ns) (s.tm.map (·.1)) s.tm,R0⟩,ns)
  |none=>none) else none
def xZ (s:S) (ns:List Nat) (R1:List (Nat×En)) (base:Nat):Option S:=
 let ms:=c8 R1 (reach R1 1000 (fb R1 R1) [])
 if dU ms then(match gk R1 (fa R1 s.rg ns ms base) 0 ns s.rg with
  |some R2=>(match kI R1 (fa R1 s.rg ns ms base) base ms R2 with
   |some R3=>some {s with rg:=R3}
   |none=>none)
  |none=>none) else none
def kc (ps:List Nat) (base:Nat) (keep:Option (List Nat×List Nat)) (asg body:S->(PX×S->Prop)->Prop) (s:S) (args:List P) (post:PX×S->Prop):Prop:=
 match Kz s with
 |none=>False
 |some (s0,ns)=>match kZ s0 ps args with
  |none=>False
  |some s1=>asg s1 fun x=>match x.1 with
   | .normal=>body x.2 fun y=>match xZ s ns y.2.rg base with
    |some s3=>match cr keep s3 with
     |some s4=>post (y.1,s4)
     |none=>False
    |none=>False
   |_=>False
def PX.jump:PX->Option Code
 | .normal=>none
 | .exit id=>some (.exit id)
 | .ret=>some .ret
theorem qfg {r:Option Nat} {n:Nat} {P:Program} {c:Code} {Q':Exit->Act->World->Prop} (h:c.wpIn (wd r) 0 P Q' a w):c.wpIn (wd r) n P Q' a w:=
 fun b k cs GV hb _=>h b k cs GV hb (V8 r _)
theorem ke (w:World) (l:Nat) (o o':Go.Obj):(w.putObj l o).putObj l o'=w.putObj l o':=by
 simp only[World.putObj]
 congr 1
 apply zcO
 intro i
 simp only[Array.getElem?_setIfInBounds]
 split
 ·rename_i h
  subst h
  simp
 ·rfl
theorem Ext.CU {o1 o2 F1 F2:Nat->Prop} {w w':World} (h:Ext o1 o2 F1 F2 w w') {l:Nat} (hl:l<w.heap.size) (o:Go.Obj):Ext o1 o2 F1 F2 (w.putObj l o) (w'.putObj l o):=by
 have e1:(w.putObj l o).heap.size=w.heap.size:=by simp
 have e2:(w'.putObj l o).heap.size=w'.heap.size:=by simp
 refine⟨h.kN,fun b hb=>by rw[e1];exact h.mD b hb,fun b hb=>by rw[e1];exact h.lD b hb,fun b hb hn=> ?_,by rw[e1,e2];exact h.size,h.os,h.tape,h.output⟩
 by_cases U6:b=l
 ·subst U6
  rw[World.putObj_heap_same hl,World.putObj_heap_same (za3 hl h.size)]
 ·rw[eR w l o U6,eR w' l o U6]
  exact h.keep b (by rw[e1] at hb;exact hb) hn
theorem qV.of {rec:Loop} {l:Nat} (h:aC Q T F G w a s) (hl:w.heap[l]?=some (.loop rec)) (hf: ¬F l) (ho: ¬Own G s.rg l):qV F G s.rg a.defers l:=by
 refine⟨hf,ho,fun d hd e=> ?_⟩
 obtain⟨D,h1,_,h2,_⟩:=h.rf.2 d hd
 rw[h1] at e
 injection e with e1 e2
 injection e1 with e1
 subst e1
 rw[hl] at h2
 cases h2
theorem Ext.apart {o1 o2 F1 F2:Nat->Prop} {w w':World} (h:Ext o1 o2 F1 F2 w w') {l:Nat} (hl:l<w.heap.size) (hf: ¬F1 l) (ho: ¬o1 l): ¬F2 l/\ ¬o2 l:=
 ⟨fun hf'=>(h.mD l hf').elim hf fun h1=>h1.elim ho fun h2=>by omega,fun gf=>(h.lD l gf).elim ho fun h2=>by omega⟩
theorem Qq {rec:Loop} {l:Nat} (hl:w.heap[l]?=some (.loop rec)) (kO:rec.state= .ready) (ht:rec.tmps=a.tmps) (ho:qV F G s.rg a.defers l) (h:aC Q T F G w a s) {base:Nat} {keep:Option (List Nat×List Nat)} {asg body:S->(PX×S->Prop)->Prop}
  (oz: ∀val lo s post,asg s post->TW Q ⟨val,T.w0,lo,false⟩ rec.assign s post) (cE: ∀val lo s post,body s post->TW Q ⟨val,T.w0,lo,false⟩ rec.body s post) {m:Nat} {vs:List Value} {args:List D} (hlen:vs.length=args.length) (qK:vs.length=rec.params.size)
  (hv: ∀(i:Nat) (v:Value) (x:D),vs[i]?=some v->args[i]?=some x->a7 F w v x) {post:PX×S->Prop} (hp:kc rec.params.toList base keep asg body s (args.map .d) post):
  YieldAt (wd none) m Q l ⟨vs⟩ w (fun e w'=> ∃x s',post (x,s')/\e= .returned (.bool (PX.jump x).isNone)/\w'.heap[l]?=some (.loop {rec with state:=if(PX.jump x).isNone then .ready else .done,pending:=PX.jump x})/\
   ∃F' G',aC Q T F' G' w' a s'/\qV F' G' s'.rg a.defers l/\Ext (Own G s.rg) (Own G' s'.rg) F F' (w.putObj l (.deferred none)) (w'.putObj l (.deferred none))):=by
 have bG:l<w.heap.size:=(zar.1 hl).1
 unfold kc at hp
 split at hp
 ·exact hp.elim
 rename_i s0 ns hri
 split at hp
 ·exact hp.elim
 rename_i s1 hpa
 unfold Kz at hri
 simp only at hri
 split at hri
 ·rename_i ky
  split at hri
  ·rename_i R0 hR0
   simp only[zal,zbB] at hri
   obtain⟨rfl,rfl⟩:=hri
   obtain⟨k1,k2,k3⟩:=h.heap.sub hR0 ky
   simp only[zba] at k1
   have h0:=k1.state (a:=⟨a.tmps,[]⟩) (s:=⟨s.n,qI (toPos s.rg (reach s.rg 1000 (s.tm.map (·.2)) [])) (s.tm.map (·.1)) s.tm,R0⟩) rfl .nil h.size (fun t p hp=>by
    obtain⟨q,hq,rfl⟩:=sx _ _ s.tm t p hp
    exact(h.tm t q hq).Av k2)
   have qfh: ¬Own (fun i=>G ((reach s.rg 1000 (s.tm.map (·.2)) []).getD i 0)) R0 l:=fun hh=>by
    obtain⟨n,e,_,he,hb⟩:=k3 l hh
    exact ho.2.1 ⟨n,e,he,hb⟩
   obtain⟨j1,j2⟩:=Bb rec.params.toList (args.map .d) vs _ s1 a.tmps h0 hpa (by simpa using hlen) (fun i v c hvv jG=>by
    rw[zaJ,zaw] at jG
    obtain⟨x,hx,rfl⟩:=jG
    exact .d (hv i v x hvv hx))
   refine⟨rec.fn,_,rec.assign,rec.body,run_yield hl (by simpa using qK),?_⟩
   refine roundIn_of_wpIn trivial (qfg ?_)
   have qfi:(rec.params.zip (⟨vs⟩:Array Value)).foldl (fun tmps (x:Nat×Value)=>tmps.setIfInBounds x.1 x.2) rec.tmps=(rec.params.toList.zip vs).foldl (fun t (x:Nat×Value)=>t.setIfInBounds x.1 x.2) a.tmps:=by
    rw[ht,<-zcM,Array.toList_zip]
   rw[qfi]
   refine oz _ _ s1 _ hp (r:=some l) (fun e=>by cases e) F _ w _ _ j1 fun e s2 a2 w2 hp2 hP2=> ?_
   cases e with
   |exit id=>exact hp2.elim
   |ret=>exact hp2.elim
   |normal=>
   simp only at hp2
   obtain⟨F2,G2,p1,p2⟩:=hP2
   rw[j2] at p2
   have l2:w2.heap[l]?=some (.loop rec):=(p2.keep l bG qfh).trans hl
   obtain⟨n1,n2⟩:=p2.apart bG ho.1 qfh
   have lt2:l<w2.heap.size:=za3 bG p2.size
   refine⟨_,run_beginRound l2 kO,qfg ?_⟩
   have p1':=p1.CU (qV.of p1 l2 n1 n2) (.loop {rec with state:= .busy})
   refine cE _ _ s2 _ hp2 (r:=some l) (fun e=>by cases e) F2 G2 _ _ _ p1' fun e s3 a3 w3 hp3 hP3=> ?_
   obtain⟨F3,G3,q1,q2⟩:=hP3
   have Wu:l<(w2.putObj l (.loop {rec with state:= .busy})).heap.size:=by simpa using lt2
   have l3:w3.heap[l]?=some (.loop {rec with state:= .busy}):=(q2.keep l Wu n2).trans (World.putObj_heap_same lt2)
   obtain⟨n3,n4⟩:=q2.apart Wu n1 n2
   have lt3:l<w3.heap.size:=za3 Wu q2.size
   have fin: ∃v w4,(Instr.endRound l (PX.jump e)).run Q w3= .ok v w4/\ ∃x s',post (x,s')/\(Ending.returned v)= .returned (.bool (PX.jump x).isNone)/\w4.heap[l]?=some (.loop {rec with state:=if(PX.jump x).isNone then .ready else .done,pending:=PX.jump x})/\
     ∃F' G',aC Q T F' G' w4 a s'/\qV F' G' s'.rg a.defers l/\Ext (Own G s.rg) (Own G' s'.rg) F F' (w.putObj l (.deferred none)) (w4.putObj l (.deferred none)):=by
    refine⟨_,_,run_endRound (PX.jump e) l3,?_⟩
    cases GV:xZ s (reach s.rg 1000 (s.tm.map (·.2)) []) s3.rg base with
    |none=>simp only[GV] at hp3
    |some s3'=>
    simp only[GV] at hp3
    cases hhd:cr keep s3' with
    |none=>simp only[hhd] at hp3
    |some s'=>
    simp only[hhd] at hp3
    refine⟨e,s',hp3,rfl,World.putObj_heap_same lt3,?_⟩
    unfold xZ at GV
    simp only at GV
    split at GV
    ·rename_i hms
     split at GV
     ·rename_i R2 hb
      split at GV
      ·rename_i R3 hn
       simp only[zal] at GV
       subst GV
       have e12:Ext (Own (fun i=>G ((reach s.rg 1000 (s.tm.map (·.2)) []).getD i 0)) R0) (Own G3 s3.rg) F F3 (w.putObj l (.deferred none)) (w3.putObj l (.deferred none)):=by
        have x1:=p2.CU bG (.deferred none)
        have x2:=q2.CU Wu (.deferred none)
        rw[ke] at x2
        exact x1.trans x2
       have PD:=(q1.CU (qV.of q1 l3 n3 n4) (.deferred none)).heap
       obtain⟨G4,z1,z2,z3⟩:=rk (h.CU ho (.deferred none)) ky hms hR0 PD.lo e12 (eO s3.rg _) hb hn
       obtain⟨y1,y2⟩:=z2.apart (by simpa using bG) ho.1 ho.2.1
       have hap:qV F3 G4 R3 a.defers l:=⟨y1,y2,ho.2.2⟩
       have z4:=z1.CU (s:={s with rg:=R3}) hap (.loop {rec with state:=if(PX.jump e).isNone then .ready else .done,pending:=PX.jump e})
       rw[ke] at z4
       obtain⟨G5,v1,v2⟩:=fI z4 hhd
       have v3:=v2.CU (l:=l) (by simpa using lt3) (.deferred none)
       rw[ke] at v3
       exact⟨F3,G5,v1,⟨y1,(v2.apart (by simpa using lt3) y1 y2).2,ho.2.2⟩,by rw[ke];exact z2.trans v3⟩
      ·cases GV
     ·cases GV
    ·cases GV
   cases e with
   |normal=>exact fin
   |exit id=>exact fin
   |ret=>exact fin
  ·cases hri
 ·cases hri
end
end Pi
