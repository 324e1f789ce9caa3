/- The text PiRep. -/
import Derived.Test.YtngoddkencoalaaGreatDoorPiK
import Derived.Calls
import Derived.Tactics2
import Derived.Laws.AppendOwn
import Derived.Laws.CopyRow
import Derived.Laws.Slices
import Derived.LoopN
namespace Pi
open Go
section
variable {α:Type}
theorem F9 (k:Nat) (v:α): ∀(m:List (Nat×α)) (j:Nat),lk (ins k v m) j=if k=j then some v else lk m j
 | [],j=>by by_cases h:k=j<;>simp[ins,lk,h]
 | (i,u)::r,j=>by
  have ih:=F9 k v r j
  simp only[ins]
  split
  ·by_cases h:k=j<;>simp[lk,h]
  ·split
   ·rename_i h1 h2
    have e:k=i:=by simpa using h2
    subst e
    by_cases h:k=j<;>simp[lk,h]
   ·rename_i h1 h2
    have e: ¬i=k:=fun e=>h2 (by simp[e])
    simp only[lk,ih]
    by_cases h:k=j
    ·subst h;simp[e]
    ·simp[h]
theorem bA (k:Nat) (v:α) (m:List (Nat×α)):lk (ins k v m) k=some v:=by rw[F9,if_pos rfl]
theorem bG {k j:Nat} (v:α) (m:List (Nat×α)) (h:k≠j):lk (ins k v m) j=lk m j:=by rw[F9,if_neg h]
end
def Obj.live:Obj->Bool
 | .gone=>false
 |_=>true
inductive aW (F:Nat->Prop) (w:World):Value->D->Prop
 |bool (b:Bool):aW F w (.bool b) (.bool b)
 |int (k:IntKind) (n:Int):aW F w (.int k n) (.int k n)
 |str (s:List UInt8):aW F w (.string ⟨⟨s⟩⟩) (.str s)
 |gu:aW F w (.slice none 0 0) .gu
 |qP:aW F w (.pointer none) .qP
 |rR:aW F w (.map none) .rR
 |AW:aW F w .nilFunc .AW
 |AX:aW F w .nilIface .AX
 |agg (vs:List Value) (cs:List D) (hl:vs.length=cs.length) (bY: ∀c∈cs,c.bC=true) (hc: ∀(i:Nat) (v:Value) (c:D),vs[i]?=some v->cs[i]?=some c->aW F w v c):aW F w (.agg ⟨vs⟩) (.agg cs)
 |Mm (a:Option Addr) (k cap:Nat):aW F w (.slice a 0 cap) (.sl k [])
 |Na (b off k cap:Nat) (es:List D) (f:Nat->Value) (A9:es.length<=cap) (hb:F b) (hk: ∀x∈es,x.cells.length=k) (bY: ∀x∈es,∀c∈x.cells,c.bC=true)
  (hw: ∀i,i<es.length*k->w.cell? ⟨b,off+i,none⟩=some (f i)) (hr: ∀(i j:Nat) (x c:D),es[i]?=some x->x.cells[j]?=some c->aW F w (f (i*k+j)) c):aW F w (.slice (some ⟨b,off,none⟩) es.length cap) (.sl k es)
theorem zB {w w':World} {b:Nat} (h:w'.heap[b]?=w.heap[b]?) (o:Nat):w'.cell? ⟨b,o,none⟩=w.cell? ⟨b,o,none⟩:=by
 simp[World.cell?,h]
theorem aW.mono {F F':Nat->Prop} {w w':World} (hF: ∀b,F b->F' b) (hw: ∀b,F b->w'.heap[b]?=w.heap[b]?) {v:Value} {x:D} (h:aW F w v x):aW F' w' v x:=by
 induction h with
 |agg vs cs hl bY _ ih=>exact .agg vs cs hl bY ih
 |Na b off k cap es f A9 hb hk bY hc _ ih=>exact .Na b off k cap es f A9 (hF _ hb) hk bY (fun i hi=>(zB (hw b hb) _).trans (hc i hi)) ih
 |_=>constructor
theorem aW.fW {F:Nat->Prop} {w:World} {v:Value} {x:D} (h:aW F w v x) {u:Value} (hu:x.fW=some u):v=u:=by
 cases h<;>simp_all [D.fW]
theorem aW.cR {F:Nat->Prop} {w:World}: ∀(cs:List D) (us vs:List Value),D.cR cs=some us->vs.length=cs.length->(∀(i:Nat) (v:Value) (c:D),vs[i]?=some v->cs[i]?=some c->aW F w v c)->vs=us
 | [],us,vs,h,hl,_=>by simp[D.cR] at h;subst h;simpa using hl
 |c::cs,us,vs,h,hl,hc=>by
  cases vs with
  |nil=>simp at hl
  |cons v vs=>
   simp only[D.cR] at h
   cases h1:c.fW with
   |none=>simp[h1] at h
   |some u1=>
    cases h2:D.cR cs with
    |none=>simp[h1,h2] at h
    |some us2=>
     simp[h1,h2] at h
     subst h
     have e1:=(hc 0 v c (by simp) (by simp)).fW h1
     have e2:=aW.cR cs us2 vs h2 (by simpa using hl) (fun i v c hv iQ=>hc (i+1) v c (by simpa using hv) (by simpa using iQ))
     rw[e1,e2]
theorem aW.cw {F:Nat->Prop} {w:World} {v:Value} {x:D} (h:aW F w v x) {u:Value} (hu:x.cw=some u):v=u:=by
 cases x with
 |agg cs=>
  cases h with
  |agg vs _ hl _ hc=>
   simp only[D.cw] at hu
   cases h2:D.cR cs with
   |none=>simp[h2] at hu
   |some us=>simp[h2] at hu;rw[<-hu,aW.cR cs us vs h2 hl hc]
 |_=>exact h.fW hu
theorem aW.lh (F:Nat->Prop) (w:World) {v:Value} {x:D} (h:D.lh v=some x):aW F w v x:=by
 unfold D.lh at h
 split at h<;>simp at h<;>subst h
 case h_3 s=>cases s with |mk a=>cases a with |mk l=>exact .str l
 all_goals constructor
theorem D.J4 {v:Value} {x:D} (h:D.lh v=some x):x.bC=true:=by
 unfold D.lh at h
 split at h<;>simp at h<;>subst h<;>rfl
theorem aW.AY (F:Nat->Prop) (w:World): ∀(vs:List Value) (xs:List D),D.AY vs=some xs->vs.length=xs.length/\(∀c∈xs,c.bC=true)/\ ∀(i:Nat) (v:Value) (c:D),vs[i]?=some v->xs[i]?=some c->aW F w v c
 | [],xs,h=>by simp[D.AY] at h;subst h;simp
 |v::vs,xs,h=>by
  simp only[D.AY] at h
  cases h1:D.lh v with
  |none=>simp[h1] at h
  |some x1=>
   cases h2:D.AY vs with
   |none=>simp[h1,h2] at h
   |some YL=>
    simp[h1,h2] at h
    subst h
    obtain⟨e1,e2,e3⟩:=aW.AY F w vs YL h2
    refine⟨by simp[e1],?_,?_⟩
    ·intro c hc
     rcases List.mem_cons.1 hc with rfl |hc
     ·exact D.J4 h1
     ·exact e2 c hc
    ·intro i u c hu iQ
     cases i with
     |zero=>simp at hu iQ;subst hu;subst iQ;exact aW.lh F w h1
     |succ i=>exact e3 i u c (by simpa using hu) (by simpa using iQ)
theorem aW.sQ (F:Nat->Prop) (w:World) {v:Value} {x:D} (h:D.sQ v=some x):aW F w v x:=by
 unfold D.sQ at h
 split at h
 ·rename_i cs
  split at h
  ·rename_i xs YM
   simp at h
   subst h
   obtain⟨e1,e2,e3⟩:=aW.AY F w cs.toList xs YM
   have:=aW.agg (F:=F) (w:=w) cs.toList xs e1 e2 e3
   simpa using this
  ·cases h
 ·exact aW.lh F w h
theorem aW.mK {F:Nat->Prop} {w:World} {v:Value} {x:D} (h:aW F w v x) (hx:x.bC=true):v.oneCell'=true:=by
 cases h<;>simp_all [D.bC,Value.oneCell']
theorem aW.bC {F:Nat->Prop} {w:World} {v:Value} {x:D} (h:aW F w v x) (hv:v.oneCell'=true):x.bC=true:=by
 cases h<;>simp_all [D.bC,Value.oneCell']
def dZ (R:List (Nat×En)) (n aU:Nat) (C:Prop):Prop:= ∃e,lk R n=some e/\aU<=e.aU/\(aU=e.aU->e.obj.live=true->C)
inductive aD (F:Nat->Prop) (w:World) (G:Nat->Value) (R:List (Nat×En)):Value->P->Prop
 |d {v:Value} {x:D} (h:aW F w v x):aD F w G R v (.d x)
 |agg (vs:List Value) (ps:List P) (hl:vs.length=ps.length) (gm: ∀v∈vs,v.oneCell'=true) (hc: ∀(i:Nat) (v:Value) (c:P),vs[i]?=some v->ps[i]?=some c->aD F w G R v c):aD F w G R (.agg ⟨vs⟩) (.agg ps)
 |da (vs:List Value) (ps:List P) (hl:vs.length=ps.length) (hc: ∀(i:Nat) (v:Value) (c:P),vs[i]?=some v->ps[i]?=some c->aD F w G R v c):aD F w G R (.tuple ⟨vs⟩) (.da ps)
 |ref (n aU off:Nat) (v:Value) (h:dZ R n aU (∃b,G n= .pointer (some ⟨b,0,none⟩)/\v= .pointer (some ⟨b,off,none⟩))) (h1:v.oneCell'=true):aD F w G R v (.ref n aU off)
 |dn (n aU i k off:Nat) (v:Value) (h1:v.oneCell'=true) (h:dZ R n aU (∃b N cap,G n= .slice (some ⟨b,0,none⟩) N cap/\v= .pointer (some ⟨b,i*k+off,none⟩))):aD F w G R v (.dn n aU i k off)
 |eS (x:D) (off b o:Nat) (hb:F b) (bY: ∀c∈x.cells,c.bC=true) (f:Nat->Value) (hw: ∀j,j<x.cells.length->w.cell? ⟨b,o+j,none⟩=some (f j)) (hr: ∀(j:Nat) (c:D),x.cells[j]?=some c->aW F w (f j) c):aD F w G R (.pointer (some ⟨b,o+off,none⟩)) (.eS x off)
 |sl (n aU len:Nat) (v:Value) (h1:v.oneCell'=true) (h:dZ R n aU (∃a N cap,G n= .slice a N cap/\v= .slice a len cap/\len<=N)):aD F w G R v (.sl n aU len)
 |kT (n aU k off len:Nat) (v:Value) (h1:v.oneCell'=true) (h:dZ R n aU (∃a N cap,G n= .slice a N cap/\off+len<=N/\ ∃a' im,v= .slice a' len im/\len<=im/\(len=0\/ ∃b,a=some ⟨b,0,none⟩/\a'=some ⟨b,off*k,none⟩))):aD F w G R v (.kT n aU k off len)
 |mp (n aU:Nat) (v:Value) (h1:v.oneCell'=true) (h:dZ R n aU (v=G n)):aD F w G R v (.mp n aU)
 |fn (f:FuncId) (vs:List Value) (cy:List P) (hl:vs.length=cy.length) (hc: ∀(i:Nat) (v:Value) (c:P),vs[i]?=some v->cy[i]?=some c->aD F w G R v c):aD F w G R (.func (.func f) #[] ⟨vs⟩) (.fn f cy)
 |bad (v:Value):aD F w G R v .bad
theorem dZ.mono {R R':List (Nat×En)} {n aU:Nat} {C C':Prop} (hC:C->C') (hR: ∀e,lk R n=some e-> ∃e',lk R' n=some e'/\e.aU<=e'.aU/\(e.aU=e'.aU->e'.obj.live=true->e.obj.live=true)) (h:dZ R n aU C):dZ R' n aU C':=by
 obtain⟨e,he,hv,hc⟩:=h
 obtain⟨e',cF,Ga,hl⟩:=hR e he
 refine⟨e',cF,Nat.le_trans hv Ga,fun h1 h2=>hC (hc (by omega) (hl (by omega) h2))⟩
structure Names (G G':Nat->Value) (R R':List (Nat×En)):Prop where
 on: ∀n e,lk R n=some e-> ∃e',lk R' n=some e'/\e.aU<=e'.aU/\(e.aU=e'.aU->e'.obj.live=true->e.obj.live=true)
 same: ∀n e e',lk R n=some e->lk R' n=some e'->e.aU=e'.aU->e'.obj.live=true->G' n=G n
theorem dZ.go {G G':Nat->Value} {R R':List (Nat×En)} (hn:Names G G' R R') {n aU:Nat} {C:(Value->Prop)} (h:dZ R n aU (C (G n))):dZ R' n aU (C (G' n)):=by
 obtain⟨e,he,hv,hc⟩:=h
 obtain⟨e',cF,Ga,hl⟩:=hn.on n e he
 refine⟨e',cF,Nat.le_trans hv Ga,fun h1 h2=> ?_⟩
 have e0:e.aU=e'.aU:=by omega
 rw[hn.same n e e' he cF e0 h2]
 exact hc (by omega) (hl e0 h2)
theorem aD.mono {F F':Nat->Prop} {w w':World} {G G':Nat->Value} {R R':List (Nat×En)} (hF: ∀b,F b->F' b) (hw: ∀b,F b->w'.heap[b]?=w.heap[b]?) (hn:Names G G' R R')
  {v:Value} {p:P} (h:aD F w G R v p):aD F' w' G' R' v p:=by
 induction h with
 |d h=>exact .d (h.mono hF hw)
 |agg vs ps hl bY _ ih=>exact .agg vs ps hl bY ih
 |da vs ps hl _ ih=>exact .da vs ps hl ih
 |ref n aU off v h h1=>exact .ref n aU off v (dZ.go (C:=fun g=> ∃b,g= .pointer (some ⟨b,0,none⟩)/\v= .pointer (some ⟨b,off,none⟩)) hn h) h1
 |dn n aU i k off v h1 h=>exact .dn n aU i k off v h1 (dZ.go (C:=fun g=> ∃b N cap,g= .slice (some ⟨b,0,none⟩) N cap/\v= .pointer (some ⟨b,i*k+off,none⟩)) hn h)
 |eS x off b o hb bY f hc hr=>exact .eS x off b o (hF _ hb) bY f (fun j hj=>(zB (hw b hb) _).trans (hc j hj)) (fun j c hj=>(hr j c hj).mono hF hw)
 |sl n aU len v h1 h=>exact .sl n aU len v h1 (dZ.go (C:=fun g=> ∃a N cap,g= .slice a N cap/\v= .slice a len cap/\len<=N) hn h)
 |kT n aU k off len v h1 h=>exact .kT n aU k off len v h1 (dZ.go (C:=fun g=> ∃a N cap,g= .slice a N cap/\off+len<=N/\ ∃a' im,v= .slice a' len im/\len<=im/\(len=0\/ ∃b,a=some ⟨b,0,none⟩/\a'=some ⟨b,off*k,none⟩)) hn h)
 |mp n aU v h1 h=>exact .mp n aU v h1 (dZ.go (C:=fun g=>v=g) hn h)
 |fn f vs cy hl _ ih=>exact .fn f vs cy hl ih
 |bad v=>exact .bad v
theorem aD.mK {F:Nat->Prop} {w:World} {G:Nat->Value} {R:List (Nat×En)} {v:Value} {p:P} (h:aD F w G R v p) (hp:p.bC=true):v.oneCell'=true:=by
 cases h<;>try simp_all [P.bC]
 case d x h=>exact h.mK hp
 all_goals simp[Value.oneCell']
def aL:Value->Option Nat
 | .pointer (some a)=>some a.block
 | .slice (some a) _ _=>some a.block
 | .map r=>r
 |_=>none
def bu (g:Value):Obj->Option Nat
 | .gone=>none
 | .box _ _=>aL g
 | .arr _ fz _=>if fz then none else aL g
 | .map _ _ _ fz=>if fz then none else aL g
 | .iter ..=>aL g
 | .dX=>none
 | .jA ..=>aL g
def lR (F:Nat->Prop) (w:World) (cs:Array Value) (k:Nat) (es:List D):Prop:=
 ∀(i:Nat) (x:D),es[i]?=some x->x.cells.length=k/\(∀c∈x.cells,c.bC=true)/\ ∀(j:Nat) (c:D),x.cells[j]?=some c->aW F w (cs.getD (i*k+j) undef) c
def nQ (Q:Program) (F:Nat->Prop) (w:World) (kt:TypeId) (get:D->Option D) (n:Int) (es:List MapEntry) (clock:Nat):Prop:=
 ∃ks:List (D×D),ks.length=es.length/\n=(es.length:Int)/\(∀(i:Nat) (p:D×D) (e:MapEntry),ks[i]?=some p->es[i]?=some e->fB Q kt p.1=true/\p.1.cw=some e.key/\aW F w e.val p.2)/\
  (ks.map (·.1)).Nodup/\(∀k v,get k=some v↔(k,v)∈ks)/\(∀e∈es,e.born<clock)/\(es.map (·.born)).Nodup
theorem nQ.mono {Q:Program} {F F':Nat->Prop} {w w':World} {kt:TypeId} {get:D->Option D} {n:Int} {es:List MapEntry} {clock:Nat} (hF: ∀b,F b->F' b) (hw: ∀b,F b->w'.heap[b]?=w.heap[b]?) (h:nQ Q F w kt get n es clock):nQ Q F' w' kt get n es clock:=by
 obtain⟨ks,h1,h2,h3,h4,h5,h6,h7⟩:=h
 exact⟨ks,h1,h2,fun i p e hp he=>let ⟨a,b,c⟩:=h3 i p e hp he;⟨a,b,c.mono hF hw⟩,h4,h5,h6,h7⟩
def yF (Q:Program) (F:Nat->Prop) (w:World) (kt:TypeId) (left:D->Option D) (es:List MapEntry) (clock:Nat) (seen:Array Nat):Prop:=
 ∃ks:List (D×D),ks.length=es.length/\(∀(i:Nat) (p:D×D) (e:MapEntry),ks[i]?=some p->es[i]?=some e->fB Q kt p.1=true/\p.1.cw=some e.key/\aW F w e.val p.2)/\
  (ks.map (·.1)).Nodup/\(∀e∈es,e.born<clock)/\(es.map (·.born)).Nodup/\ ∀k v,left k=some v↔ ∃(i:Nat) (e:MapEntry),ks[i]?=some (k,v)/\es[i]?=some e/\seen.contains e.born=false
theorem yF.mono {Q:Program} {F F':Nat->Prop} {w w':World} {kt:TypeId} {left:D->Option D} {es:List MapEntry} {clock:Nat} {seen:Array Nat} (hF: ∀b,F b->F' b) (hw: ∀b,F b->w'.heap[b]?=w.heap[b]?) (h:yF Q F w kt left es clock seen):yF Q F' w' kt left es clock seen:=by
 obtain⟨ks,h1,h3,h4,h5,h6,h7⟩:=h
 exact⟨ks,h1,fun i p e hp he=>let ⟨a,b,c⟩:=h3 i p e hp he;⟨a,b,c.mono hF hw⟩,h4,h5,h6,h7⟩
theorem nQ.iter {Q:Program} {F:Nat->Prop} {w:World} {kt:TypeId} {get:D->Option D} {n:Int} {es:List MapEntry} {clock:Nat} (h:nQ Q F w kt get n es clock):yF Q F w kt get es clock #[]:=by
 obtain⟨ks,h1,_,h3,h4,h5,h6,h7⟩:=h
 refine⟨ks,h1,h3,h4,h6,h7,fun k v=>⟨fun hk=> ?_,fun⟨i,e,hi,_,_⟩=>(h5 k v).2 (List.mem_of_getElem? hi)⟩⟩
 obtain⟨i,hi⟩:=List.getElem?_of_mem ((h5 k v).1 hk)
 have bk:i<es.length:=by have:=(List.getElem?_eq_some_iff.1 hi).1;omega
 exact⟨i,es[i],hi,List.getElem?_eq_getElem bk,by simp⟩
def nR (Q:Program) (F:Nat->Prop) (w:World) (G:Nat->Value) (R:List (Nat×En)) (n:Nat):Obj->Prop
 | .gone=>True
 | .box T ps=> ∃b cs,G n= .pointer (some ⟨b,0,none⟩)/\w.heap[b]?=some (.cells cs T (0,0))/\cs.size=ps.length/\(∀v∈cs.toList,v.oneCell'=true)/\ ∀(i:Nat) (p:P),ps[i]?=some p->aD F w G R (cs.getD i undef) p
 | .arr ty fz es=>(G n= .slice none 0 0/\es=[])\/
  ∃b cap cs k,G n= .slice (some ⟨b,0,none⟩) es.length cap/\w.heap[b]?=some (.cells cs ty (0,0))/\sz Q ty=some k/\0<k/\es.length<=cap/\cap<=maxLen/\cs.size=cap*k/\(fz=true->F b)/\lR F w cs k es
 | .map kt get c fz=> ∃b es clock,G n= .map (some b)/\w.heap[b]?=some (.map es clock)/\nQ Q F w kt get c es.toList clock/\(fz=true->F b)
 | .dX=>True
 | .jA kt get c p kd=> ∃b es clock,G n= .map (some b)/\w.heap[b]?=some (.map es clock)/\nQ Q F w kt get c es.toList clock/\ ∃(i:Nat) (e:MapEntry),es[i]?=some e/\aD F w G R (.int .i64 (e.born:Int)) p/\kd.cw=some e.key/\(get kd).isSome=true
 | .iter kt _ left cur=> ∃b mo since seen last,G n= .pointer (some ⟨b,0,none⟩)/\w.heap[b]?=some (.mapIter mo since seen last)/\
  ((mo=none/\(∀k,left k=none)/\cur=none)\/ ∃m es,mo=some m/\F m/\w.heap[m]?=some (.map es since)/\last=since/\yF Q F w kt left es.toList since seen/\ ∀k v,cur=some (k,v)-> ∃e∈es.toList,seen.back?=some e.born/\k.cw=some e.key/\aW F w e.val v)
def cr (F:Nat->Prop) (w:World) (G:Nat->Value) (R:List (Nat×En)) (_tmps:Array Value) (v:Value):P->Prop
 | .when ..=>v=undef
 |p=>aD F w G R v p
theorem cr.of {F:Nat->Prop} {w:World} {G:Nat->Value} {R:List (Nat×En)} {tmps:Array Value} {v:Value} {p:P} (h:aD F w G R v p):cr F w G R tmps v p:=by
 cases p<;>first |exact h |cases h
theorem cr.mono {F F':Nat->Prop} {w w':World} {G G':Nat->Value} {R R':List (Nat×En)} (hF: ∀b,F b->F' b) (hw: ∀b,F b->w'.heap[b]?=w.heap[b]?) (hn:Names G G' R R')
  {tmps:Array Value} {v:Value} {p:P} (h:cr F w G R tmps v p):cr F' w' G' R' tmps v p:=by
 cases p with
 |when t b q=>exact h
 |_=>exact aD.mono hF hw hn h
structure Tg where
 val:Nat->Value
 w0:World
 lo:Nat
 Nb:Bool
instance:CoeFun Tg fun _=>Nat->Value:=⟨Tg.val⟩
def Own (G:Nat->Value) (R:List (Nat×En)) (b:Nat):Prop:= ∃n e,lk R n=some e/\bu (G n) e.obj=some b
def iJ (T:Tg) (F:Nat->Prop) (G:Nat->Value) (R:List (Nat×En)) (w:World) (ds:List Deferred):Prop:=
 ds.Nodup/\ ∀d∈ds,∃D,d={target:= .collected D,args:= #[]}/\(T.lo<=D/\T.Nb=true)/\w.heap[D]?=some (.deferred (some []))/\ ¬F D/\ ¬Own G R D
theorem iJ.nil {T:Tg} {F:Nat->Prop} {G:Nat->Value} {R:List (Nat×En)} {w:World}:iJ T F G R w []:=⟨by simp,fun d h=>by cases h⟩
structure aB (Q:Program) (T:Tg) (F:Nat->Prop) (G:Nat->Value) (w:World) (a:Act) (s:S):Prop where
 qV:iJ T F G s.rg w a.defers
 size:s.n<=a.tmps.size
 tm: ∀t p,lk s.tm t=some p->cr F w G s.rg a.tmps (a.tmps.getD t undef) p
 rg: ∀n e,lk s.rg n=some e->nR Q F w G s.rg n e.obj
 own: ∀n m e e' b,lk s.rg n=some e->lk s.rg m=some e'->bu (G n) e.obj=some b->bu (G m) e'.obj=some b->n=m
 lr: ∀n e b,lk s.rg n=some e->bu (G n) e.obj=some b-> ¬F b
 iR: ∀b,F b->b<w.heap.size
 tag: ∀n e i,lk s.rg n=some e->e.tag=some i->e.obj.live=true->G n=T i
 z: ∀b,b<T.w0.heap.size->F b/\w.heap[b]?=T.w0.heap[b]?
 dr:T.w0.drawn<=w.drawn
 sz:T.lo<=w.heap.size
structure Ext (own qfL F F':Nat->Prop) (w w':World):Prop where
 j7: ∀b,F b->F' b
 lS: ∀b,F' b->F b\/own b\/w.heap.size<=b
 kU: ∀b,qfL b->own b\/w.heap.size<=b
 keep: ∀b,b<w.heap.size-> ¬own b->w'.heap[b]?=w.heap[b]?
 size:w.heap.size<=w'.heap.size
 os:w'.os=w.os
 tape:w'.tape=w.tape
 output:w'.output=w.output
theorem iJ.go {T:Tg} {F F':Nat->Prop} {G G':Nat->Value} {R R':List (Nat×En)} {w w':World} {ds:List Deferred} (h:iJ T F G R w ds) (hx:Ext (Own G R) (Own G' R') F F' w w'):iJ T F' G' R' w' ds:=by
 refine⟨h.1,fun d hd=> ?_⟩
 obtain⟨D,h1,h0,h2,h3,h4⟩:=h.2 d hd
 have bk:D<w.heap.size:=(Array.getElem?_eq_some_iff.1 h2).1
 refine⟨D,h1,h0,(hx.keep D bk h4).trans h2,fun hf=> ?_,fun ho=> ?_⟩
 ·rcases hx.lS D hf with h |h |h
  ·exact h3 h
  ·exact h4 h
  ·omega
 ·rcases hx.kU D ho with h |h
  ·exact h4 h
  ·omega
theorem iJ.C1 {T:Tg} {F F':Nat->Prop} {G:Nat->Value} {R R':List (Nat×En)} {w:World} {ds:List Deferred} (h:iJ T F G R w ds) (hF: ∀b,F' b->F b\/Own G R b) (hO: ∀b,Own G R' b->Own G R b):iJ T F' G R' w ds:=
 ⟨h.1,fun d hd=>let ⟨D,h1,h0,h2,h3,h4⟩:=h.2 d hd;⟨D,h1,h0,h2,fun hf=>(hF D hf).elim h3 h4,fun ho=>h4 (hO D ho)⟩⟩
theorem Ext.refl (own F:Nat->Prop) (w:World):Ext own own F F w w:=
 ⟨fun _ h=>h,fun _ h=> .inl h,fun _ h=> .inl h,fun _ _ _=>rfl,Nat.le_refl _,rfl,rfl,rfl⟩
theorem Ext.trans {o1 o2 o3 F1 F2 F3:Nat->Prop} {w1 w2 w3:World} (h:Ext o1 o2 F1 F2 w1 w2) (k:Ext o2 o3 F2 F3 w2 w3):Ext o1 o3 F1 F3 w1 w3 where
 j7 b hb:=k.j7 b (h.j7 b hb)
 lS b hb:=by
  rcases k.lS b hb with h1 |h1 |h1
  ·exact h.lS b h1
  ·rcases h.kU b h1 with h2 |h2
   ·exact .inr (.inl h2)
   ·exact .inr (.inr h2)
  ·exact .inr (.inr (Nat.le_trans h.size h1))
 kU b hb:=by
  rcases k.kU b hb with h1 |h1
  ·exact h.kU b h1
  ·exact .inr (Nat.le_trans h.size h1)
 keep b hb hn:=by
  have J5: ¬o2 b:=fun h2=>by rcases h.kU b h2 with h3 |h3;exact hn h3;omega
  rw[k.keep b (Nat.lt_of_lt_of_le hb h.size) J5,h.keep b hb hn]
 size:=Nat.le_trans h.size k.size
 os:=k.os.trans h.os
 tape:=k.tape.trans h.tape
 output:=k.output.trans h.output
theorem Names.refl (G:Nat->Value) (R:List (Nat×En)):Names G G R R:=⟨fun _ e h=>⟨e,h,Nat.le_refl _,fun _ h=>h⟩,fun _ _ _ _ _ _ _=>rfl⟩
theorem nR.lt {Q:Program} {F:Nat->Prop} {w:World} {G:Nat->Value} {R:List (Nat×En)} {n:Nat} {o:Obj} (h:nR Q F w G R n o) {b:Nat} (hb:bu (G n) o=some b):b<w.heap.size:=by
 cases o with
 |gone=>simp[bu] at hb
 |box T ps=>
  obtain⟨b',cs,hg,hh,_⟩:=h
  simp[bu,hg,aL] at hb
  subst hb
  exact(Array.getElem?_eq_some_iff.1 hh).1
 |arr ty fz es=>
  rcases h with⟨hg,_⟩| ⟨b',cap,cs,k,hg,hh,_⟩
  ·simp[bu,hg,aL] at hb
  ·simp[bu,hg,aL] at hb
   obtain⟨_,rfl⟩:=hb
   exact(Array.getElem?_eq_some_iff.1 hh).1
 |map kt get c fz=>
  obtain⟨b',es,clock,hg,hh,_⟩:=h
  simp[bu,hg,aL] at hb
  obtain⟨_,rfl⟩:=hb
  exact(Array.getElem?_eq_some_iff.1 hh).1
 |iter kt vt left cur=>
  obtain⟨b',mo,since,seen,last,hg,hh,_⟩:=h
  simp[bu,hg,aL] at hb
  subst hb
  exact(Array.getElem?_eq_some_iff.1 hh).1
 |dX=>simp[bu] at hb
 |jA kt get c p kd=>
  obtain⟨b',es,clock,hg,hh,_⟩:=h
  simp[bu,hg,aL] at hb
  subst hb
  exact(Array.getElem?_eq_some_iff.1 hh).1
theorem aB.lT {Q:Program} {T:Tg} {F:Nat->Prop} {G:Nat->Value} {w:World} {a:Act} {s:S} (h:aB Q T F G w a s) {b:Nat} (hb:Own G s.rg b):b<w.heap.size:=by
 obtain⟨n,e,he,hb⟩:=hb
 exact(h.rg n e he).lt hb
end Pi
