/- The text PiRep. -/
import Derived.Test.YtngoddkencoalaaGreatDoorPiK
import Derived.Calls
import Derived.Tactics2
import Derived.Laws.AppendOwn
import Derived.Laws.CopyRow
import Derived.Laws.Slices
import Derived.LoopN
namespace Pi
open Go
section
variable {α:Type}
theorem HG (k:Nat) (v:α): ∀(m:List (Nat×α)) (j:Nat),lk (ins k v m) j=if k=j then some v else lk m j
 | [],j=>by by_cases h:k=j<;>simp[ins,lk,h]
 | (i,u)::r,j=>by
  have ih:=HG k v r j
  simp only[ins]
  split
  ·by_cases h:k=j<;>simp[lk,h]
  ·split
   ·rename_i h1 h2
    have e:k=i:=by simpa using h2
    subst e
    by_cases h:k=j<;>simp[lk,h]
   ·rename_i h1 h2
    have e: ¬i=k:=fun e=>h2 (by simp[e])
    simp only[lk,ih]
    by_cases h:k=j
    ·subst h;simp[e]
    ·simp[h]
theorem bA (k:Nat) (v:α) (m:List (Nat×α)):lk (ins k v m) k=some v:=by rw[HG,zao rfl]
theorem bU {k j:Nat} (v:α) (m:List (Nat×α)) (h:k≠j):lk (ins k v m) j=lk m j:=by rw[HG,zam h]
end
def Obj.live:Obj->Bool
 | .gone=>false
 |_=>true
inductive a7 (F:Nat->Prop) (w:World):Value->D->Prop
 |bool (b:Bool):a7 F w (.bool b) (.bool b)
 |int (k:IntKind) (n:Int):a7 F w (.int k n) (.int k n)
 |str (s:List UInt8):a7 F w (.string ⟨⟨s⟩⟩) (.str s)
 |fQ:a7 F w (.slice none 0 0) .fQ
 |q7:a7 F w (.pointer none) .q7
 |sa:a7 F w (.map none) .sa
 |BW:a7 F w .nilFunc .BW
 |BX:a7 F w .nilIface .BX
 |agg (vs:List Value) (cs:List D) (hl:vs.length=cs.length) (ca: ∀c∈cs,c.bC=true) (hc: ∀(i:Nat) (v:Value) (c:D),vs[i]?=some v->cs[i]?=some c->a7 F w v c):a7 F w (.agg ⟨vs⟩) (.agg cs)
 |N4 (a:Option Addr) (k cap:Nat):a7 F w (.slice a 0 cap) (.sl k [])
 |O0 (b off k cap:Nat) (es:List D) (f:Nat->Value) (B9:es.length<=cap) (hb:F b) (hk: ∀x∈es,x.cells.length=k) (ca: ∀x∈es,∀c∈x.cells,c.bC=true)
  (hw: ∀i,i<es.length*k->w.cell? ⟨b,off+i,none⟩=some (f i)) (hr: ∀(i j:Nat) (x c:D),es[i]?=some x->x.cells[j]?=some c->a7 F w (f (i*k+j)) c):a7 F w (.slice (some ⟨b,off,none⟩) es.length cap) (.sl k es)
theorem AA {w w':World} {b:Nat} (h:w'.heap[b]?=w.heap[b]?) (o:Nat):w'.cell? ⟨b,o,none⟩=w.cell? ⟨b,o,none⟩:=by
 simp[World.cell?,h]
theorem a7.mono {F F':Nat->Prop} {w w':World} (hF: ∀b,F b->F' b) (hw: ∀b,F b->w'.heap[b]?=w.heap[b]?) {v:Value} {x:D} (h:a7 F w v x):a7 F' w' v x:=by
 induction h with
 |agg vs cs hl ca _ ih=>exact .agg vs cs hl ca ih
 |O0 b off k cap es f B9 hb hk ca hc _ ih=>exact .O0 b off k cap es f B9 (hF _ hb) hk ca (fun i hi=>(AA (hw b hb) _).trans (hc i hi)) ih
 |_=>constructor
theorem a7.gu {F:Nat->Prop} {w:World} {v:Value} {x:D} (h:a7 F w v x) {u:Value} (hu:x.gu=some u):v=u:=by
 cases h<;>simp_all [D.gu]
theorem a7.c7 {F:Nat->Prop} {w:World}: ∀(cs:List D) (us vs:List Value),D.c7 cs=some us->vs.length=cs.length->(∀(i:Nat) (v:Value) (c:D),vs[i]?=some v->cs[i]?=some c->a7 F w v c)->vs=us
 | [],us,vs,h,hl,_=>by simp[D.c7] at h;subst h;simpa using hl
 |c::cs,us,vs,h,hl,hc=>by
  cases vs with
  |nil=>simp at hl
  |cons v vs=>
   simp only[D.c7] at h
   cases h1:c.gu with
   |none=>simp[h1] at h
   |some u1=>
    cases h2:D.c7 cs with
    |none=>simp[h1,h2] at h
    |some us2=>
     simp[h1,h2] at h
     subst h
     have e1:=(hc 0 v c (by simp) (by simp)).gu h1
     have e2:=a7.c7 cs us2 vs h2 (by simpa using hl) (fun i v c hv jG=>hc (i+1) v c (by simpa using hv) (by simpa using jG))
     rw[e1,e2]
theorem a7.cy {F:Nat->Prop} {w:World} {v:Value} {x:D} (h:a7 F w v x) {u:Value} (hu:x.cy=some u):v=u:=by
 cases x with
 |agg cs=>
  cases h with
  |agg vs _ hl _ hc=>
   simp only[D.cy] at hu
   cases h2:D.c7 cs with
   |none=>simp[h2] at hu
   |some us=>simp[h2] at hu;rw[<-hu,a7.c7 cs us vs h2 hl hc]
 |_=>exact h.gu hu
theorem a7.l4 (F:Nat->Prop) (w:World) {v:Value} {x:D} (h:D.l4 v=some x):a7 F w v x:=by
 unfold D.l4 at h
 split at h<;>simp at h<;>subst h
 case h_3 s=>cases s with |mk a=>cases a with |mk l=>exact .str l
 all_goals constructor
theorem D.LO {v:Value} {x:D} (h:D.l4 v=some x):x.bC=true:=by
 unfold D.l4 at h
 split at h<;>simp at h<;>subst h<;>rfl
theorem a7.BY (F:Nat->Prop) (w:World): ∀(vs:List Value) (xs:List D),D.BY vs=some xs->vs.length=xs.length/\(∀c∈xs,c.bC=true)/\ ∀(i:Nat) (v:Value) (c:D),vs[i]?=some v->xs[i]?=some c->a7 F w v c
 | [],xs,h=>by simp[D.BY] at h;subst h;simp
 |v::vs,xs,h=>by
  simp only[D.BY] at h
  cases h1:D.l4 v with
  |none=>simp[h1] at h
  |some x1=>
   cases h2:D.BY vs with
   |none=>simp[h1,h2] at h
   |some xs2=>
    simp[h1,h2] at h
    subst h
    obtain⟨e1,e2,e3⟩:=a7.BY F w vs xs2 h2
    refine⟨by simp[e1],?_,?_⟩
    ·intro c hc
     rcases zav.1 hc with rfl |hc
     ·exact D.LO h1
     ·exact e2 c hc
    ·intro i u c hu jG
     cases i with
     |zero=>simp at hu jG;subst hu;subst jG;exact a7.l4 F w h1
     |succ i=>exact e3 i u c (by simpa using hu) (by simpa using jG)
theorem a7.tF (F:Nat->Prop) (w:World) {v:Value} {x:D} (h:D.tF v=some x):a7 F w v x:=by
 unfold D.tF at h
 split at h
 ·rename_i cs
  split at h
  ·rename_i xs VK
   simp at h
   subst h
   obtain⟨e1,e2,e3⟩:=a7.BY F w cs.toList xs VK
   have:=a7.agg (F:=F) (w:=w) cs.toList xs e1 e2 e3
   simpa using this
  ·cases h
 ·exact a7.l4 F w h
theorem a7.nw {F:Nat->Prop} {w:World} {v:Value} {x:D} (h:a7 F w v x) (hx:x.bC=true):v.oneCell'=true:=by
 cases h<;>simp_all [D.bC,Value.oneCell']
theorem a7.bC {F:Nat->Prop} {w:World} {v:Value} {x:D} (h:a7 F w v x) (hv:v.oneCell'=true):x.bC=true:=by
 cases h<;>simp_all [D.bC,Value.oneCell']
def ez (R:List (Nat×En)) (n aX:Nat) (C:Prop):Prop:= ∃e,lk R n=some e/\aX<=e.aX/\(aX=e.aX->e.obj.live=true->C)
inductive aF (F:Nat->Prop) (w:World) (G:Nat->Value) (R:List (Nat×En)):Value->P->Prop
 |d {v:Value} {x:D} (h:a7 F w v x):aF F w G R v (.d x)
 |agg (vs:List Value) (ps:List P) (hl:vs.length=ps.length) (ij: ∀v∈vs,v.oneCell'=true) (hc: ∀(i:Nat) (v:Value) (c:P),vs[i]?=some v->ps[i]?=some c->aF F w G R v c):aF F w G R (.agg ⟨vs⟩) (.agg ps)
 |cV (vs:List Value) (ps:List P) (hl:vs.length=ps.length) (hc: ∀(i:Nat) (v:Value) (c:P),vs[i]?=some v->ps[i]?=some c->aF F w G R v c):aF F w G R (.tuple ⟨vs⟩) (.cV ps)
 |ref (n aX off:Nat) (v:Value) (h:ez R n aX (∃b,G n= .pointer (some ⟨b,0,none⟩)/\v= .pointer (some ⟨b,off,none⟩))) (h1:v.oneCell'=true):aF F w G R v (.ref n aX off)
 |dx (n aX i k off:Nat) (v:Value) (h1:v.oneCell'=true) (h:ez R n aX (∃b N cap,G n= .slice (some ⟨b,0,none⟩) N cap/\v= .pointer (some ⟨b,i*k+off,none⟩))):aF F w G R v (.dx n aX i k off)
 |eZ (x:D) (off b o:Nat) (hb:F b) (ca: ∀c∈x.cells,c.bC=true) (f:Nat->Value) (hw: ∀j,j<x.cells.length->w.cell? ⟨b,o+j,none⟩=some (f j)) (hr: ∀(j:Nat) (c:D),x.cells[j]?=some c->a7 F w (f j) c):aF F w G R (.pointer (some ⟨b,o+off,none⟩)) (.eZ x off)
 |sl (n aX len:Nat) (v:Value) (h1:v.oneCell'=true) (h:ez R n aX (∃a N cap,G n= .slice a N cap/\v= .slice a len cap/\len<=N)):aF F w G R v (.sl n aX len)
 |lC (n aX k off len:Nat) (v:Value) (h1:v.oneCell'=true) (h:ez R n aX (∃a N cap,G n= .slice a N cap/\off+len<=N/\ ∃a' iJ,v= .slice a' len iJ/\len<=iJ/\(len=0\/ ∃b,a=some ⟨b,0,none⟩/\a'=some ⟨b,off*k,none⟩))):aF F w G R v (.lC n aX k off len)
 |mp (n aX:Nat) (v:Value) (h1:v.oneCell'=true) (h:ez R n aX (v=G n)):aF F w G R v (.mp n aX)
 |fn (f:FuncId) (vs:List Value) (cG:List P) (hl:vs.length=cG.length) (hc: ∀(i:Nat) (v:Value) (c:P),vs[i]?=some v->cG[i]?=some c->aF F w G R v c):aF F w G R (.func (.func f) #[] ⟨vs⟩) (.fn f cG)
 |bad (v:Value):aF F w G R v .bad
theorem ez.mono {R R':List (Nat×En)} {n aX:Nat} {C C':Prop} (hC:C->C') (hR: ∀e,lk R n=some e-> ∃e',lk R' n=some e'/\e.aX<=e'.aX/\(e.aX=e'.aX->e'.obj.live=true->e.obj.live=true)) (h:ez R n aX C):ez R' n aX C':=by
 obtain⟨e,he,hv,hc⟩:=h
 obtain⟨e',cI,J6,hl⟩:=hR e he
 refine⟨e',cI,zaI hv J6,fun h1 h2=>hC (hc (by omega) (hl (by omega) h2))⟩
structure Names (G G':Nat->Value) (R R':List (Nat×En)):Prop where
 on: ∀n e,lk R n=some e-> ∃e',lk R' n=some e'/\e.aX<=e'.aX/\(e.aX=e'.aX->e'.obj.live=true->e.obj.live=true)
 same: ∀n e e',lk R n=some e->lk R' n=some e'->e.aX=e'.aX->e'.obj.live=true->G' n=G n
theorem ez.go {G G':Nat->Value} {R R':List (Nat×En)} (hn:Names G G' R R') {n aX:Nat} {C:(Value->Prop)} (h:ez R n aX (C (G n))):ez R' n aX (C (G' n)):=by
 obtain⟨e,he,hv,hc⟩:=h
 obtain⟨e',cI,J6,hl⟩:=hn.on n e he
 refine⟨e',cI,zaI hv J6,fun h1 h2=> ?_⟩
 have e0:e.aX=e'.aX:=by omega
 rw[hn.same n e e' he cI e0 h2]
 exact hc (by omega) (hl e0 h2)
theorem aF.mono {F F':Nat->Prop} {w w':World} {G G':Nat->Value} {R R':List (Nat×En)} (hF: ∀b,F b->F' b) (hw: ∀b,F b->w'.heap[b]?=w.heap[b]?) (hn:Names G G' R R')
  {v:Value} {p:P} (h:aF F w G R v p):aF F' w' G' R' v p:=by
 induction h with
 |d h=>exact .d (h.mono hF hw)
 |agg vs ps hl ca _ ih=>exact .agg vs ps hl ca ih
 |cV vs ps hl _ ih=>exact .cV vs ps hl ih
 |ref n aX off v h h1=>exact .ref n aX off v (ez.go (C:=fun g=> ∃b,g= .pointer (some ⟨b,0,none⟩)/\v= .pointer (some ⟨b,off,none⟩)) hn h) h1
 |dx n aX i k off v h1 h=>exact .dx n aX i k off v h1 (ez.go (C:=fun g=> ∃b N cap,g= .slice (some ⟨b,0,none⟩) N cap/\v= .pointer (some ⟨b,i*k+off,none⟩)) hn h)
 |eZ x off b o hb ca f hc hr=>exact .eZ x off b o (hF _ hb) ca f (fun j hj=>(AA (hw b hb) _).trans (hc j hj)) (fun j c hj=>(hr j c hj).mono hF hw)
 |sl n aX len v h1 h=>exact .sl n aX len v h1 (ez.go (C:=fun g=> ∃a N cap,g= .slice a N cap/\v= .slice a len cap/\len<=N) hn h)
 |lC n aX k off len v h1 h=>exact .lC n aX k off len v h1 (ez.go (C:=fun g=> ∃a N cap,g= .slice a N cap/\off+len<=N/\ ∃a' iJ,v= .slice a' len iJ/\len<=iJ/\(len=0\/ ∃b,a=some ⟨b,0,none⟩/\a'=some ⟨b,off*k,none⟩)) hn h)
 |mp n aX v h1 h=>exact .mp n aX v h1 (ez.go (C:=fun g=>v=g) hn h)
 |fn f vs cG hl _ ih=>exact .fn f vs cG hl ih
 |bad v=>exact .bad v
theorem aF.nw {F:Nat->Prop} {w:World} {G:Nat->Value} {R:List (Nat×En)} {v:Value} {p:P} (h:aF F w G R v p) (hp:p.bC=true):v.oneCell'=true:=by
 cases h<;>try simp_all [P.bC]
 case d x h=>exact h.nw hp
 all_goals simp[Value.oneCell']
def aQ:Value->Option Nat
 | .pointer (some a)=>some a.block
 | .slice (some a) _ _=>some a.block
 | .map r=>r
 |_=>none
def bF (g:Value):Obj->Option Nat
 | .gone=>none
 | .box _ _=>aQ g
 | .arr _ fz _=>if fz then none else aQ g
 | .map _ _ _ fz=>if fz then none else aQ g
 | .iter ..=>aQ g
 | .ew=>none
 | .jZ ..=>aQ g
def mC (F:Nat->Prop) (w:World) (cs:Array Value) (k:Nat) (es:List D):Prop:=
 ∀(i:Nat) (x:D),es[i]?=some x->x.cells.length=k/\(∀c∈x.cells,c.bC=true)/\ ∀(j:Nat) (c:D),x.cells[j]?=some c->a7 F w (cs.getD (i*k+j) undef) c
def oq (Q:Program) (F:Nat->Prop) (w:World) (kt:TypeId) (get:D->Option D) (n:Int) (es:List MapEntry) (clock:Nat):Prop:=
 ∃ks:List (D×D),ks.length=es.length/\n=(es.length:Int)/\(∀(i:Nat) (p:D×D) (e:MapEntry),ks[i]?=some p->es[i]?=some e->fR Q kt p.1=true/\p.1.cy=some e.key/\a7 F w e.val p.2)/\
  (ks.map (·.1)).Nodup/\(∀k v,get k=some v↔(k,v)∈ks)/\(∀e∈es,e.born<clock)/\(es.map (·.born)).Nodup
theorem oq.mono {Q:Program} {F F':Nat->Prop} {w w':World} {kt:TypeId} {get:D->Option D} {n:Int} {es:List MapEntry} {clock:Nat} (hF: ∀b,F b->F' b) (hw: ∀b,F b->w'.heap[b]?=w.heap[b]?) (h:oq Q F w kt get n es clock):oq Q F' w' kt get n es clock:=by
 obtain⟨ks,h1,h2,h3,h4,h5,h6,h7⟩:=h
 exact⟨ks,h1,h2,fun i p e hp he=>let ⟨a,b,c⟩:=h3 i p e hp he;⟨a,b,c.mono hF hw⟩,h4,h5,h6,h7⟩
def zB (Q:Program) (F:Nat->Prop) (w:World) (kt:TypeId) (left:D->Option D) (es:List MapEntry) (clock:Nat) (seen:Array Nat):Prop:=
 ∃ks:List (D×D),ks.length=es.length/\(∀(i:Nat) (p:D×D) (e:MapEntry),ks[i]?=some p->es[i]?=some e->fR Q kt p.1=true/\p.1.cy=some e.key/\a7 F w e.val p.2)/\
  (ks.map (·.1)).Nodup/\(∀e∈es,e.born<clock)/\(es.map (·.born)).Nodup/\ ∀k v,left k=some v↔ ∃(i:Nat) (e:MapEntry),ks[i]?=some (k,v)/\es[i]?=some e/\seen.contains e.born=false
theorem zB.mono {Q:Program} {F F':Nat->Prop} {w w':World} {kt:TypeId} {left:D->Option D} {es:List MapEntry} {clock:Nat} {seen:Array Nat} (hF: ∀b,F b->F' b) (hw: ∀b,F b->w'.heap[b]?=w.heap[b]?) (h:zB Q F w kt left es clock seen):zB Q F' w' kt left es clock seen:=by
 obtain⟨ks,h1,h3,h4,h5,h6,h7⟩:=h
 exact⟨ks,h1,fun i p e hp he=>let ⟨a,b,c⟩:=h3 i p e hp he;⟨a,b,c.mono hF hw⟩,h4,h5,h6,h7⟩
theorem oq.iter {Q:Program} {F:Nat->Prop} {w:World} {kt:TypeId} {get:D->Option D} {n:Int} {es:List MapEntry} {clock:Nat} (h:oq Q F w kt get n es clock):zB Q F w kt get es clock #[]:=by
 obtain⟨ks,h1,_,h3,h4,h5,h6,h7⟩:=h
 refine⟨ks,h1,h3,h4,h6,h7,fun k v=>⟨fun hk=> ?_,fun⟨i,e,hi,_,_⟩=>(h5 k v).2 (zaC hi)⟩⟩
 obtain⟨i,hi⟩:=zaP ((h5 k v).1 hk)
 have bG:i<es.length:=by have:=(zad.1 hi).1;omega
 exact⟨i,es[i],hi,zae bG,by simp⟩
def ot (Q:Program) (F:Nat->Prop) (w:World) (G:Nat->Value) (R:List (Nat×En)) (n:Nat):Obj->Prop
 | .gone=>True
 | .box T ps=> ∃b cs,G n= .pointer (some ⟨b,0,none⟩)/\w.heap[b]?=some (.cells cs T (0,0))/\cs.size=ps.length/\(∀v∈cs.toList,v.oneCell'=true)/\ ∀(i:Nat) (p:P),ps[i]?=some p->aF F w G R (cs.getD i undef) p
 | .arr ty fz es=>(G n= .slice none 0 0/\es=[])\/
  ∃b cap cs k,G n= .slice (some ⟨b,0,none⟩) es.length cap/\w.heap[b]?=some (.cells cs ty (0,0))/\sz Q ty=some k/\0<k/\es.length<=cap/\cap<=maxLen/\cs.size=cap*k/\(fz=true->F b)/\mC F w cs k es
 | .map kt get c fz=> ∃b es clock,G n= .map (some b)/\w.heap[b]?=some (.map es clock)/\oq Q F w kt get c es.toList clock/\(fz=true->F b)
 | .ew=>True
 | .jZ kt get c p kd=> ∃b es clock,G n= .map (some b)/\w.heap[b]?=some (.map es clock)/\oq Q F w kt get c es.toList clock/\ ∃(i:Nat) (e:MapEntry),es[i]?=some e/\aF F w G R (.int .i64 (e.born:Int)) p/\kd.cy=some e.key/\(get kd).isSome=true
 | .iter kt _ left cur=> ∃b mo since seen last,G n= .pointer (some ⟨b,0,none⟩)/\w.heap[b]?=some (.mapIter mo since seen last)/\
  ((mo=none/\(∀k,left k=none)/\cur=none)\/ ∃m es,mo=some m/\F m/\w.heap[m]?=some (.map es since)/\last=since/\zB Q F w kt left es.toList since seen/\ ∀k v,cur=some (k,v)-> ∃e∈es.toList,seen.back?=some e.born/\k.cy=some e.key/\a7 F w e.val v)
def ct (F:Nat->Prop) (w:World) (G:Nat->Value) (R:List (Nat×En)) (_tmps:Array Value) (v:Value):P->Prop
 | .when ..=>v=undef
 |p=>aF F w G R v p
theorem ct.of {F:Nat->Prop} {w:World} {G:Nat->Value} {R:List (Nat×En)} {tmps:Array Value} {v:Value} {p:P} (h:aF F w G R v p):ct F w G R tmps v p:=by
 cases p<;>first |exact h |cases h
theorem ct.mono {F F':Nat->Prop} {w w':World} {G G':Nat->Value} {R R':List (Nat×En)} (hF: ∀b,F b->F' b) (hw: ∀b,F b->w'.heap[b]?=w.heap[b]?) (hn:Names G G' R R')
  {tmps:Array Value} {v:Value} {p:P} (h:ct F w G R tmps v p):ct F' w' G' R' tmps v p:=by
 cases p with
 |when t b q=>exact h
 |_=>exact aF.mono hF hw hn h
structure Tg where
 val:Nat->Value
 w0:World
 lo:Nat
 O1:Bool
instance:CoeFun Tg fun _=>Nat->Value:=⟨Tg.val⟩
def Own (G:Nat->Value) (R:List (Nat×En)) (b:Nat):Prop:= ∃n e,lk R n=some e/\bF (G n) e.obj=some b
def je (T:Tg) (F:Nat->Prop) (G:Nat->Value) (R:List (Nat×En)) (w:World) (ds:List Deferred):Prop:=
 ds.Nodup/\ ∀d∈ds,∃D,d={target:= .collected D,args:= #[]}/\(T.lo<=D/\T.O1=true)/\w.heap[D]?=some (.deferred (some []))/\ ¬F D/\ ¬Own G R D
theorem je.nil {T:Tg} {F:Nat->Prop} {G:Nat->Value} {R:List (Nat×En)} {w:World}:je T F G R w []:=⟨by simp,fun d h=>by cases h⟩
structure aC (Q:Program) (T:Tg) (F:Nat->Prop) (G:Nat->Value) (w:World) (a:Act) (s:S):Prop where
 rf:je T F G s.rg w a.defers
 size:s.n<=a.tmps.size
 tm: ∀t p,lk s.tm t=some p->ct F w G s.rg a.tmps (a.tmps.getD t undef) p
 rg: ∀n e,lk s.rg n=some e->ot Q F w G s.rg n e.obj
 own: ∀n m e e' b,lk s.rg n=some e->lk s.rg m=some e'->bF (G n) e.obj=some b->bF (G m) e'.obj=some b->n=m
 mq: ∀n e b,lk s.rg n=some e->bF (G n) e.obj=some b-> ¬F b
 jm: ∀b,F b->b<w.heap.size
 tag: ∀n e i,lk s.rg n=some e->e.tag=some i->e.obj.live=true->G n=T i
 z: ∀b,b<T.w0.heap.size->F b/\w.heap[b]?=T.w0.heap[b]?
 dr:T.w0.drawn<=w.drawn
 sz:T.lo<=w.heap.size
structure Ext (own qhx F F':Nat->Prop) (w w':World):Prop where
 kN: ∀b,F b->F' b
 mD: ∀b,F' b->F b\/own b\/w.heap.size<=b
 lD: ∀b,qhx b->own b\/w.heap.size<=b
 keep: ∀b,b<w.heap.size-> ¬own b->w'.heap[b]?=w.heap[b]?
 size:w.heap.size<=w'.heap.size
 os:w'.os=w.os
 tape:w'.tape=w.tape
 output:w'.output=w.output
theorem je.go {T:Tg} {F F':Nat->Prop} {G G':Nat->Value} {R R':List (Nat×En)} {w w':World} {ds:List Deferred} (h:je T F G R w ds) (hx:Ext (Own G R) (Own G' R') F F' w w'):je T F' G' R' w' ds:=by
 refine⟨h.1,fun d hd=> ?_⟩
 obtain⟨D,h1,h0,h2,h3,h4⟩:=h.2 d hd
 have bG:D<w.heap.size:=(zar.1 h2).1
 refine⟨D,h1,h0,(hx.keep D bG h4).trans h2,fun hf=> ?_,fun ho=> ?_⟩
 ·rcases hx.mD D hf with h |h |h
  ·exact h3 h
  ·exact h4 h
  ·omega
 ·rcases hx.lD D ho with h |h
  ·exact h4 h
  ·omega
theorem je.DP {T:Tg} {F F':Nat->Prop} {G:Nat->Value} {R R':List (Nat×En)} {w:World} {ds:List Deferred} (h:je T F G R w ds) (hF: ∀b,F' b->F b\/Own G R b) (hO: ∀b,Own G R' b->Own G R b):je T F' G R' w ds:=
 ⟨h.1,fun d hd=>let ⟨D,h1,h0,h2,h3,h4⟩:=h.2 d hd;⟨D,h1,h0,h2,fun hf=>(hF D hf).elim h3 h4,fun ho=>h4 (hO D ho)⟩⟩
theorem Ext.refl (own F:Nat->Prop) (w:World):Ext own own F F w w:=
 ⟨fun _ h=>h,fun _ h=> .inl h,fun _ h=> .inl h,fun _ _ _=>rfl,zaj _,rfl,rfl,rfl⟩
theorem Ext.trans {o1 o2 o3 F1 F2 F3:Nat->Prop} {w1 w2 w3:World} (h:Ext o1 o2 F1 F2 w1 w2) (k:Ext o2 o3 F2 F3 w2 w3):Ext o1 o3 F1 F3 w1 w3 where
 kN b hb:=k.kN b (h.kN b hb)
 mD b hb:=by
  rcases k.mD b hb with h1 |h1 |h1
  ·exact h.mD b h1
  ·rcases h.lD b h1 with h2 |h2
   ·exact .inr (.inl h2)
   ·exact .inr (.inr h2)
  ·exact .inr (.inr (zaI h.size h1))
 lD b hb:=by
  rcases k.lD b hb with h1 |h1
  ·exact h.lD b h1
  ·exact .inr (zaI h.size h1)
 keep b hb hn:=by
  have UW: ¬o2 b:=fun h2=>by rcases h.lD b h2 with h3 |h3;exact hn h3;omega
  rw[k.keep b (za3 hb h.size) UW,h.keep b hb hn]
 size:=zaI h.size k.size
 os:=k.os.trans h.os
 tape:=k.tape.trans h.tape
 output:=k.output.trans h.output
theorem Names.refl (G:Nat->Value) (R:List (Nat×En)):Names G G R R:=⟨fun _ e h=>⟨e,h,zaj _,fun _ h=>h⟩,fun _ _ _ _ _ _ _=>rfl⟩
theorem ot.lt {Q:Program} {F:Nat->Prop} {w:World} {G:Nat->Value} {R:List (Nat×En)} {n:Nat} {o:Obj} (h:ot Q F w G R n o) {b:Nat} (hb:bF (G n) o=some b):b<w.heap.size:=by
 cases o with
 |gone=>simp[bF] at hb
 |box T ps=>
  obtain⟨b',cs,hg,hh,_⟩:=h
  simp[bF,hg,aQ] at hb
  subst hb
  exact(zar.1 hh).1
 |arr ty fz es=>
  rcases h with⟨hg,_⟩| ⟨b',cap,cs,k,hg,hh,_⟩
  ·simp[bF,hg,aQ] at hb
  ·simp[bF,hg,aQ] at hb
   obtain⟨_,rfl⟩:=hb
   exact(zar.1 hh).1
 |map kt get c fz=>
  obtain⟨b',es,clock,hg,hh,_⟩:=h
  simp[bF,hg,aQ] at hb
  obtain⟨_,rfl⟩:=hb
  exact(zar.1 hh).1
 |iter kt vt left cur=>
  obtain⟨b',mo,since,seen,last,hg,hh,_⟩:=h
  simp[bF,hg,aQ] at hb
  subst hb
  exact(zar.1 hh).1
 |ew=>simp[bF] at hb
 |jZ kt get c p kd=>
  obtain⟨b',es,clock,hg,hh,_⟩:=h
  simp[bF,hg,aQ] at hb
  subst hb
  exact(zar.1 hh).1
theorem aC.mE {Q:Program} {T:Tg} {F:Nat->Prop} {G:Nat->Value} {w:World} {a:Act} {s:S} (h:aC Q T F G w a s) {b:Nat} (hb:Own G s.rg b):b<w.heap.size:=by
 obtain⟨n,e,he,hb⟩:=hb
 exact(h.rg n e he).lt hb
end Pi
