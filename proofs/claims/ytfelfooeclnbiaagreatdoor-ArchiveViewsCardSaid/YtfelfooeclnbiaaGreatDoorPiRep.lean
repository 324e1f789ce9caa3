/- The text PiRep. -/
import Derived.Test.YtfelfooeclnbiaaGreatDoorPiK
import Derived.Calls
import Derived.Tactics2
import Derived.Laws.AppendOwn
import Derived.Laws.CopyRow
import Derived.Laws.Slices
import Derived.LoopN
namespace Pi
open Go
section
variable{α:Type}
theorem HZ(k:Nat)(v:α): ∀(m:List (Nat×α)) (j:Nat),lk (ins k v m) j=if k=j then some v else lk m j
 | [],j=>by by_cases h:k=j<;>simp[ins,lk,h]
 | (i,u)::r,j=>by
  have ih:=HZ k v r j;simp only[ins];split
  ·by_cases h:k=j<;>simp[lk,h]
  split
  next h1 h2=>
   have e:k=i:=by simpa using h2
   subst e;by_cases h:k=j<;>simp[lk,h]
  rename_i h1 h2;have e: ¬i=k:=λe=>h2 (by simp[e]);simp only[lk,ih];by_cases h:k=j
  ·subst h;simp[e]
  simp[h]
theorem bp(k:Nat)(v:α)(m:List (Nat×α)):lk (ins k v m) k=some v:=by rw[HZ,zaq rfl]
theorem bT{k j:Nat}(v:α)(m:List (Nat×α))(h:k≠j):lk (ins k v m) j=lk m j:=by rw[HZ,zap h]
end
def Obj.live:Obj->Bool
 | .gone=>false
 |_=>true
inductive aU(F:Nat->Prop)(w:World):Value->D->Prop
 |bool (b:Bool):aU F w (.bool b) (.bool b)
 |int (k:IntKind) (n:Int):aU F w (.int k n) (.int k n)
 |str (s:List UInt8):aU F w (.string ⟨⟨s⟩⟩) (.str s)
 |dS:aU F w (.slice none 0 0) .dS
 |ni:aU F w (.pointer none) .ni
 |se:aU F w (.map none) .se
 |BX:aU F w .nilFunc .BX
 |oY:aU F w .nilIface .oY
 |agg (vs:List Value) (cs:List D) (hl:vs.length=cs.length) (bU: ∀c∈cs,c.bt=true) (hc: ∀(i:Nat) (v:Value) (c:D),vs[i]?=some v->cs[i]?=some c->aU F w v c):aU F w (.agg ⟨vs⟩) (.agg cs)
 |Oe (a:Option Addr) (k cap:Nat):aU F w (.slice a 0 cap) (.sl k [])
 |Pg (b off k cap:Nat) (es:List D) (f:Nat->Value) (zC:es.length<=cap) (hb:F b) (hk: ∀x∈es,x.cells.length=k) (bU: ∀x∈es,∀c∈x.cells,c.bt=true)
  (hw: ∀i,i<es.length*k->w.cell? ⟨b,off+i,none⟩=some (f i)) (hr: ∀(i j:Nat) (x c:D),es[i]?=some x->x.cells[j]?=some c->aU F w (f (i*k+j)) c):aU F w (.slice (some ⟨b,off,none⟩) es.length cap) (.sl k es)
theorem Ax{w w':World}{b:Nat}(h:w'.heap[b]?=w.heap[b]?)(o:Nat):w'.cell? ⟨b,o,none⟩=w.cell? ⟨b,o,none⟩:=by simp[World.cell?,h]
theorem aU.mono{F F':Nat->Prop}{w w':World}(hF: ∀b,F b->F' b)(hw: ∀b,F b->w'.heap[b]?=w.heap[b]?){v:Value}{x:D}(h:aU F w v x):aU F' w' v x:=by
 induction h with
 |agg vs cs hl bU _ ih=>exact .agg vs cs hl bU ih
 |Pg b off k cap es f zC hb hk bU hc _ ih=>exact .Pg b off k cap es f zC (hF _ hb) hk bU (λi hi=>(Ax (hw b hb) _).trans (hc i hi)) ih
 |_=>constructor
theorem aU.fE{F:Nat->Prop}{w:World}{v:Value}{x:D}(h:aU F w v x){u:Value}(hu:x.fE=some u):v=u:=by cases h<;>simp_all [D.fE]
theorem aU.cW{F:Nat->Prop}{w:World}: ∀(cs:List D) (us vs:List Value),D.cW cs=some us->vs.length=cs.length->(∀(i:Nat) (v:Value) (c:D),vs[i]?=some v->cs[i]?=some c->aU F w v c)->vs=us
 | [],us,vs,h,hl,_=>by grind [D.cW]
 |c::cs,us,vs,h,hl,hc=>by
  cases vs with
  |nil=>simp at hl
  |cons v vs=>
   simp only[D.cW] at h;cases h1:c.fE with
   |none=>grind
   |some u1=>
    cases h2:D.cW cs with
    |none=>grind
    |some us2=>simp[h1,h2] at h;subst h;have e1:=(hc 0 v c (by simp) (by simp)).fE h1;have e2:=aU.cW cs us2 vs h2 (by grind) (λi v c hv ln=>hc (i+1) v c (by grind) (by grind));rw[e1,e2]
theorem aU.cp{F:Nat->Prop}{w:World}{v:Value}{x:D}(h:aU F w v x){u:Value}(hu:x.cp=some u):v=u:=by
 cases x with
 |agg cs=>
  cases h with
  |agg vs _ hl _ hc=>
   simp only[D.cp] at hu;cases h2:D.cW cs with
   |none=>grind
   |some us=>simp[h2] at hu;rw[<-hu,aU.cW cs us vs h2 hl hc]
 |_=>exact h.fE hu
theorem aU.lT(F:Nat->Prop)(w:World){v:Value}{x:D}(h:D.lT v=some x):aU F w v x:=by
 unfold D.lT at h;split at h<;>simp at h<;>subst h
 case h_3 s=>cases s with |mk a=>cases a with |mk l=>exact .str l
 all_goals constructor
theorem D.L3{v:Value}{x:D}(h:D.lT v=some x):x.bt=true:=by unfold D.lT at h;split at h<;>simp at h<;>subst h<;>rfl
theorem aU.BY(F:Nat->Prop)(w:World): ∀(vs:List Value) (xs:List D),D.BY vs=some xs->vs.length=xs.length/\(∀c∈xs,c.bt=true)/\ ∀(i:Nat) (v:Value) (c:D),vs[i]?=some v->xs[i]?=some c->aU F w v c
 | [],xs,h=>by grind [D.BY]
 |v::vs,xs,h=>by
  simp only[D.BY] at h;cases h1:D.lT v with
  |none=>grind
  |some x1=>
   cases h2:D.BY vs with
   |none=>grind
   |some xs2=>obtain⟨e1,e2,e3⟩:=aU.BY F w vs xs2 h2;grind [D.L3,aU.lT]
theorem aU.tX(F:Nat->Prop)(w:World){v:Value}{x:D}(h:D.tX v=some x):aU F w v x:=by
 unfold D.tX at h;split at h
 next cs=>
  split at h
  next xs V0=>simp at h;subst h;obtain⟨e1,e2,e3⟩:=aU.BY F w cs.toList xs V0;have:=aU.agg (F:=F) (w:=w) cs.toList xs e1 e2 e3;omega
  cases h
 exact aU.lT F w h
theorem aU.nw{F:Nat->Prop}{w:World}{v:Value}{x:D}(h:aU F w v x)(hx:x.bt=true):v.oneCell'=true:=by cases h<;>simp_all [D.bt,Value.oneCell']
theorem aU.bt{F:Nat->Prop}{w:World}{v:Value}{x:D}(h:aU F w v x)(hv:v.oneCell'=true):x.bt=true:=by cases h<;>simp_all [D.bt,Value.oneCell']
def dY(R:List (Nat×En))(n aR:Nat)(C:Prop):Prop:= ∃e,lk R n=some e/\aR<=e.aR/\(aR=e.aR->e.obj.live=true->C)
inductive aF(F:Nat->Prop)(w:World)(G:Nat->Value)(R:List (Nat×En)):Value->P->Prop
 |d {v:Value} {x:D} (h:aU F w v x):aF F w G R v (.d x)
 |agg (vs:List Value) (ps:List P) (hl:vs.length=ps.length) (gb: ∀v∈vs,v.oneCell'=true) (hc: ∀(i:Nat) (v:Value) (c:P),vs[i]?=some v->ps[i]?=some c->aF F w G R v c):aF F w G R (.agg ⟨vs⟩) (.agg ps)
 |bI (vs:List Value) (ps:List P) (hl:vs.length=ps.length) (hc: ∀(i:Nat) (v:Value) (c:P),vs[i]?=some v->ps[i]?=some c->aF F w G R v c):aF F w G R (.tuple ⟨vs⟩) (.bI ps)
 |ref (n aR off:Nat) (v:Value) (h:dY R n aR (∃b,G n= .pointer (some ⟨b,0,none⟩)/\v= .pointer (some ⟨b,off,none⟩))) (h1:v.oneCell'=true):aF F w G R v (.ref n aR off)
 |dj (n aR i k off:Nat) (v:Value) (h1:v.oneCell'=true) (h:dY R n aR (∃b N cap,G n= .slice (some ⟨b,0,none⟩) N cap/\v= .pointer (some ⟨b,i*k+off,none⟩))):aF F w G R v (.dj n aR i k off)
 |eX (x:D) (off b o:Nat) (hb:F b) (bU: ∀c∈x.cells,c.bt=true) (f:Nat->Value) (hw: ∀j,j<x.cells.length->w.cell? ⟨b,o+j,none⟩=some (f j)) (hr: ∀(j:Nat) (c:D),x.cells[j]?=some c->aU F w (f j) c):aF F w G R (.pointer (some ⟨b,o+off,none⟩)) (.eX x off)
 |sl (n aR len:Nat) (v:Value) (h1:v.oneCell'=true) (h:dY R n aR (∃a N cap,G n= .slice a N cap/\v= .slice a len cap/\len<=N)):aF F w G R v (.sl n aR len)
 |lu (n aR k off len:Nat) (v:Value) (h1:v.oneCell'=true) (h:dY R n aR (∃a N cap,G n= .slice a N cap/\off+len<=N/\ ∃a' ig,v= .slice a' len ig/\len<=ig/\(len=0\/ ∃b,a=some ⟨b,0,none⟩/\a'=some ⟨b,off*k,none⟩))):aF F w G R v (.lu n aR k off len)
 |mp (n aR:Nat) (v:Value) (h1:v.oneCell'=true) (h:dY R n aR (v=G n)):aF F w G R v (.mp n aR)
 |fn (f:FuncId) (vs:List Value) (cF:List P) (hl:vs.length=cF.length) (hc: ∀(i:Nat) (v:Value) (c:P),vs[i]?=some v->cF[i]?=some c->aF F w G R v c):aF F w G R (.func (.func f) #[] ⟨vs⟩) (.fn f cF)
 |bad (v:Value):aF F w G R v .bad
theorem dY.mono{R R':List (Nat×En)}{n aR:Nat}{C C':Prop}(hC:C->C')(hR: ∀e,lk R n=some e-> ∃e',lk R' n=some e'/\e.aR<=e'.aR/\(e.aR=e'.aR->e'.obj.live=true->e.obj.live=true))(h:dY R n aR C):dY R' n aR C':=by obtain⟨e,he,hv,hc⟩:=h;obtain⟨e',cx,Em,hl⟩:=hR e he;refine⟨e',cx,zaE hv Em,λh1 h2=>hC (hc (by omega) (hl (by omega) h2))⟩
structure Names(G G':Nat->Value)(R R':List (Nat×En)):Prop where
 on: ∀n e,lk R n=some e-> ∃e',lk R' n=some e'/\e.aR<=e'.aR/\(e.aR=e'.aR->e'.obj.live=true->e.obj.live=true)
 same: ∀n e e',lk R n=some e->lk R' n=some e'->e.aR=e'.aR->e'.obj.live=true->G' n=G n
theorem dY.go{G G':Nat->Value}{R R':List (Nat×En)}(hn:Names G G' R R'){n aR:Nat}{C:(Value->Prop)}(h:dY R n aR (C (G n))):dY R' n aR (C (G' n)):=by
 obtain⟨e,he,hv,hc⟩:=h;obtain⟨e',cx,Em,hl⟩:=hn.on n e he;refine⟨e',cx,zaE hv Em,λh1 h2=> ?_⟩;have e0:e.aR=e'.aR:=by omega
 rw[hn.same n e e' he cx e0 h2];grind
theorem aF.mono{F F':Nat->Prop}{w w':World}{G G':Nat->Value}{R R':List (Nat×En)}(hF: ∀b,F b->F' b)(hw: ∀b,F b->w'.heap[b]?=w.heap[b]?)(hn:Names G G' R R')
  {v:Value} {p:P} (h:aF F w G R v p):aF F' w' G' R' v p:=by
 induction h with
 |d h=>exact .d (h.mono hF hw)
 |agg vs ps hl bU _ ih=>exact .agg vs ps hl bU ih
 |bI vs ps hl _ ih=>exact .bI vs ps hl ih
 |ref n aR off v h h1=>exact .ref n aR off v (dY.go (C:=λg=> ∃b,g= .pointer (some ⟨b,0,none⟩)/\v= .pointer (some ⟨b,off,none⟩)) hn h) h1
 |dj n aR i k off v h1 h=>exact .dj n aR i k off v h1 (dY.go (C:=λg=> ∃b N cap,g= .slice (some ⟨b,0,none⟩) N cap/\v= .pointer (some ⟨b,i*k+off,none⟩)) hn h)
 |eX x off b o hb bU f hc hr=>exact .eX x off b o (hF _ hb) bU f (λj hj=>(Ax (hw b hb) _).trans (hc j hj)) (λj c hj=>(hr j c hj).mono hF hw)
 |sl n aR len v h1 h=>exact .sl n aR len v h1 (dY.go (C:=λg=> ∃a N cap,g= .slice a N cap/\v= .slice a len cap/\len<=N) hn h)
 |lu n aR k off len v h1 h=>exact .lu n aR k off len v h1 (dY.go (C:=λg=> ∃a N cap,g= .slice a N cap/\off+len<=N/\ ∃a' ig,v= .slice a' len ig/\len<=ig/\(len=0\/ ∃b,a=some ⟨b,0,none⟩/\a'=some ⟨b,off*k,none⟩)) hn h)
 |mp n aR v h1 h=>exact .mp n aR v h1 (dY.go (C:=λg=>v=g) hn h)
 |fn f vs cF hl _ ih=>exact .fn f vs cF hl ih
 |bad v=>exact .bad v
theorem aF.nw{F:Nat->Prop}{w:World}{G:Nat->Value}{R:List (Nat×En)}{v:Value}{p:P}(h:aF F w G R v p)(hp:p.bt=true):v.oneCell'=true:=by
 cases h<;>try simp_all [P.bt]
 case d x h=>exact h.nw hp
 all_goals rfl
def aI:Value->Option Nat
 | .pointer (some a)=>some a.block
 | .slice (some a) _ _=>some a.block
 | .map r=>r
 |_=>none
def bm(g:Value):Obj->Option Nat
 | .gone=>none
 | .box _ _=>aI g
 | .arr _ fz _=>if fz then none else aI g
 | .map _ _ _ fz=>if fz then none else aI g
 | .iter ..=>aI g
 | .je=>none
 | .jV ..=>aI g
def lZ(F:Nat->Prop)(w:World)(cs:Array Value)(k:Nat)(es:List D):Prop:=
 ∀(i:Nat) (x:D),es[i]?=some x->x.cells.length=k/\(∀c∈x.cells,c.bt=true)/\ ∀(j:Nat) (c:D),x.cells[j]?=some c->aU F w (cs.getD (i*k+j) undef) c
def oI(Q:Program)(F:Nat->Prop)(w:World)(kt:TypeId)(get:D->Option D)(n:Int)(es:List MapEntry)(clock:Nat):Prop:=
 ∃ks:List (D×D),ks.length=es.length/\n=(es.length:Int)/\(∀(i:Nat) (p:D×D) (e:MapEntry),ks[i]?=some p->es[i]?=some e->fS Q kt p.1=true/\p.1.cp=some e.key/\aU F w e.val p.2)/\
  (ks.map (·.1)).Nodup/\(∀k v,get k=some v↔(k,v)∈ks)/\(∀e∈es,e.born<clock)/\(es.map (·.born)).Nodup
theorem oI.mono{Q:Program}{F F':Nat->Prop}{w w':World}{kt:TypeId}{get:D->Option D}{n:Int}{es:List MapEntry}{clock:Nat}(hF: ∀b,F b->F' b)(hw: ∀b,F b->w'.heap[b]?=w.heap[b]?)(h:oI Q F w kt get n es clock):oI Q F' w' kt get n es clock:=by obtain⟨ks,h1,h2,h3,h4,h5,h6,h7⟩:=h;exact⟨ks,h1,h2,λi p e hp he=>let ⟨a,b,c⟩:=h3 i p e hp he;⟨a,b,c.mono hF hw⟩,h4,h5,h6,h7⟩
def zD(Q:Program)(F:Nat->Prop)(w:World)(kt:TypeId)(left:D->Option D)(es:List MapEntry)(clock:Nat)(seen:Array Nat):Prop:=
 ∃ks:List (D×D),ks.length=es.length/\(∀(i:Nat) (p:D×D) (e:MapEntry),ks[i]?=some p->es[i]?=some e->fS Q kt p.1=true/\p.1.cp=some e.key/\aU F w e.val p.2)/\
  (ks.map (·.1)).Nodup/\(∀e∈es,e.born<clock)/\(es.map (·.born)).Nodup/\ ∀k v,left k=some v↔ ∃(i:Nat) (e:MapEntry),ks[i]?=some (k,v)/\es[i]?=some e/\seen.contains e.born=false
theorem zD.mono{Q:Program}{F F':Nat->Prop}{w w':World}{kt:TypeId}{left:D->Option D}{es:List MapEntry}{clock:Nat}{seen:Array Nat}(hF: ∀b,F b->F' b)(hw: ∀b,F b->w'.heap[b]?=w.heap[b]?)(h:zD Q F w kt left es clock seen):zD Q F' w' kt left es clock seen:=by obtain⟨ks,h1,h3,h4,h5,h6,h7⟩:=h;exact⟨ks,h1,λi p e hp he=>let ⟨a,b,c⟩:=h3 i p e hp he;⟨a,b,c.mono hF hw⟩,h4,h5,h6,h7⟩
theorem oI.iter{Q:Program}{F:Nat->Prop}{w:World}{kt:TypeId}{get:D->Option D}{n:Int}{es:List MapEntry}{clock:Nat}(h:oI Q F w kt get n es clock):zD Q F w kt get es clock #[]:=by
 obtain⟨ks,h1,_,h3,h4,h5,h6,h7⟩:=h;refine⟨ks,h1,h3,h4,h6,h7,λk v=>⟨λhk=> ?_,λ⟨i,e,hi,_,_⟩=>(h5 k v).2 (zaz hi)⟩⟩;obtain⟨i,hi⟩:=zaP ((h5 k v).1 hk);have bz:i<es.length:=by have:=(zae.1 hi).1;omega
 exact⟨i,es[i],hi,zac bz,by simp⟩
def oJ(Q:Program)(F:Nat->Prop)(w:World)(G:Nat->Value)(R:List (Nat×En))(n:Nat):Obj->Prop
 | .gone=>True
 | .box T ps=> ∃b cs,G n= .pointer (some ⟨b,0,none⟩)/\w.heap[b]?=some (.cells cs T (0,0))/\cs.size=ps.length/\(∀v∈cs.toList,v.oneCell'=true)/\ ∀(i:Nat) (p:P),ps[i]?=some p->aF F w G R (cs.getD i undef) p
 | .arr ty fz es=>(G n= .slice none 0 0/\es=[])\/
  ∃b cap cs k,G n= .slice (some ⟨b,0,none⟩) es.length cap/\w.heap[b]?=some (.cells cs ty (0,0))/\sz Q ty=some k/\0<k/\es.length<=cap/\cap<=maxLen/\cs.size=cap*k/\(fz=true->F b)/\lZ F w cs k es
 | .map kt get c fz=> ∃b es clock,G n= .map (some b)/\w.heap[b]?=some (.map es clock)/\oI Q F w kt get c es.toList clock/\(fz=true->F b)
 | .je=>True
 | .jV kt get c p kd=> ∃b es clock,G n= .map (some b)/\w.heap[b]?=some (.map es clock)/\oI Q F w kt get c es.toList clock/\ ∃(i:Nat) (e:MapEntry),es[i]?=some e/\aF F w G R (.int .i64 (e.born:Int)) p/\kd.cp=some e.key/\(get kd).isSome=true
 | .iter kt _ left cur=> ∃b mo since seen last,G n= .pointer (some ⟨b,0,none⟩)/\w.heap[b]?=some (.mapIter mo since seen last)/\
  ((mo=none/\(∀k,left k=none)/\cur=none)\/ ∃m es,mo=some m/\F m/\w.heap[m]?=some (.map es since)/\last=since/\zD Q F w kt left es.toList since seen/\ ∀k v,cur=some (k,v)-> ∃e∈es.toList,seen.back?=some e.born/\k.cp=some e.key/\aU F w e.val v)
def cy(F:Nat->Prop)(w:World)(G:Nat->Value)(R:List (Nat×En))(_tmps:Array Value)(v:Value):P->Prop
 | .when ..=>v=undef
 |p=>aF F w G R v p
theorem cy.of{F:Nat->Prop}{w:World}{G:Nat->Value}{R:List (Nat×En)}{tmps:Array Value}{v:Value}{p:P}(h:aF F w G R v p):cy F w G R tmps v p:=by cases p<;>first |exact h |cases h
theorem cy.mono{F F':Nat->Prop}{w w':World}{G G':Nat->Value}{R R':List (Nat×En)}(hF: ∀b,F b->F' b)(hw: ∀b,F b->w'.heap[b]?=w.heap[b]?)(hn:Names G G' R R')
  {tmps:Array Value} {v:Value} {p:P} (h:cy F w G R tmps v p):cy F' w' G' R' tmps v p:=by
 cases p with
 |when t b q=>exact h
 |_=>exact aF.mono hF hw hn h
structure Tg where
 val:Nat->Value
 w0:World
 lo:Nat
 Ph:Bool
instance:CoeFun Tg λ_=>Nat->Value:=⟨Tg.val⟩
def Own(G:Nat->Value)(R:List (Nat×En))(b:Nat):Prop:= ∃n e,lk R n=some e/\bm (G n) e.obj=some b
def iZ(T:Tg)(F:Nat->Prop)(G:Nat->Value)(R:List (Nat×En))(w:World)(ds:List Deferred):Prop:=
 ds.Nodup/\ ∀d∈ds,∃D,d={target:= .collected D,args:= #[]}/\(T.lo<=D/\T.Ph=true)/\w.heap[D]?=some (.deferred (some []))/\ ¬F D/\ ¬Own G R D
theorem iZ.nil{T:Tg}{F:Nat->Prop}{G:Nat->Value}{R:List (Nat×En)}{w:World}:iZ T F G R w []:=⟨by simp,λd h=>by cases h⟩
structure aB(Q:Program)(T:Tg)(F:Nat->Prop)(G:Nat->Value)(w:World)(a:Act)(s:S):Prop where
 r0:iZ T F G s.rg w a.defers
 size:s.n<=a.tmps.size
 tm: ∀t p,lk s.tm t=some p->cy F w G s.rg a.tmps (a.tmps.getD t undef) p
 rg: ∀n e,lk s.rg n=some e->oJ Q F w G s.rg n e.obj
 own: ∀n m e e' b,lk s.rg n=some e->lk s.rg m=some e'->bm (G n) e.obj=some b->bm (G m) e'.obj=some b->n=m
 mg: ∀n e b,lk s.rg n=some e->bm (G n) e.obj=some b-> ¬F b
 ja: ∀b,F b->b<w.heap.size
 tag: ∀n e i,lk s.rg n=some e->e.tag=some i->e.obj.live=true->G n=T i
 z: ∀b,b<T.w0.heap.size->F b/\w.heap[b]?=T.w0.heap[b]?
 dr:T.w0.drawn<=w.drawn
 sz:T.lo<=w.heap.size
structure Ext(own qhA F F':Nat->Prop)(w w':World):Prop where
 kK: ∀b,F b->F' b
 mz: ∀b,F' b->F b\/own b\/w.heap.size<=b
 lv: ∀b,qhA b->own b\/w.heap.size<=b
 keep: ∀b,b<w.heap.size-> ¬own b->w'.heap[b]?=w.heap[b]?
 size:w.heap.size<=w'.heap.size
 os:w'.os=w.os
 tape:w'.tape=w.tape
 output:w'.output=w.output
theorem iZ.go{T:Tg}{F F':Nat->Prop}{G G':Nat->Value}{R R':List (Nat×En)}{w w':World}{ds:List Deferred}(h:iZ T F G R w ds)(hx:Ext (Own G R) (Own G' R') F F' w w'):iZ T F' G' R' w' ds:=by
 refine⟨h.1,λd hd=> ?_⟩;obtain⟨D,h1,h0,h2,h3,h4⟩:=h.2 d hd;have bz:D<w.heap.size:=(zau.1 h2).1;refine⟨D,h1,h0,(hx.keep D bz h4).trans h2,λhf=> ?_,λho=> ?_⟩
 ·rcases hx.mz D hf with h |h |h
  ·exact h3 h
  ·exact h4 h
  omega
 rcases hx.lv D ho with h |h
 ·exact h4 h
 omega
theorem iZ.DM{T:Tg}{F F':Nat->Prop}{G:Nat->Value}{R R':List (Nat×En)}{w:World}{ds:List Deferred}(h:iZ T F G R w ds)(hF: ∀b,F' b->F b\/Own G R b)(hO: ∀b,Own G R' b->Own G R b):iZ T F' G R' w ds:=
 ⟨h.1,λd hd=>let ⟨D,h1,h0,h2,h3,h4⟩:=h.2 d hd;⟨D,h1,h0,h2,λhf=>(hF D hf).elim h3 h4,λho=>h4 (hO D ho)⟩⟩
theorem Ext.refl(own F:Nat->Prop)(w:World):Ext own own F F w w:=
 ⟨λ_ h=>h,λ_ h=> .inl h,λ_ h=> .inl h,λ_ _ _=>rfl,zai _,rfl,rfl,rfl⟩
theorem Ext.trans{o1 o2 o3 F1 F2 F3:Nat->Prop}{w1 w2 w3:World}(h:Ext o1 o2 F1 F2 w1 w2)(k:Ext o2 o3 F2 F3 w2 w3):Ext o1 o3 F1 F3 w1 w3 where
 kK b hb:=k.kK b (h.kK b hb)
 mz b hb:=by
  rcases k.mz b hb with h1 |h1 |h1
  ·exact h.mz b h1
  ·rcases h.lv b h1 with h2 |h2
   ·grind
   grind
  exact .inr (.inr (zaE h.size h1))
 lv b hb:=by
  rcases k.lv b hb with h1 |h1
  ·exact h.lv b h1
  exact .inr (zaE h.size h1)
 keep b hb hn:=by
  have hn2: ¬o2 b:=λh2=>by rcases h.lv b h2 with h3 |h3;exact hn h3;omega
  rw[k.keep b (zaW hb h.size) hn2,h.keep b hb hn]
 size:=zaE h.size k.size
 os:=k.os.trans h.os
 tape:=k.tape.trans h.tape
 output:=k.output.trans h.output
theorem Names.refl(G:Nat->Value)(R:List (Nat×En)):Names G G R R:=⟨λ_ e h=>⟨e,h,zai _,λ_ h=>h⟩,λ_ _ _ _ _ _ _=>rfl⟩
theorem oJ.lt{Q:Program}{F:Nat->Prop}{w:World}{G:Nat->Value}{R:List (Nat×En)}{n:Nat}{o:Obj}(h:oJ Q F w G R n o){b:Nat}(hb:bm (G n) o=some b):b<w.heap.size:=by
 cases o with
 |gone=>simp[bm] at hb
 |box T ps=>obtain⟨b',cs,hg,hh,_⟩:=h;grind [bm,aI]
 |arr ty fz es=>
  rcases h with⟨hg,_⟩| ⟨b',cap,cs,k,hg,hh,_⟩
  ·simp[bm,hg,aI] at hb
  grind [bm,aI]
 |map kt get c fz=>obtain⟨b',es,clock,hg,hh,_⟩:=h;grind [bm,aI]
 |iter kt vt left cur=>obtain⟨b',mo,since,seen,last,hg,hh,_⟩:=h;grind [bm,aI]
 |je=>simp[bm] at hb
 |jV kt get c p kd=>obtain⟨b',es,clock,hg,hh,_⟩:=h;grind [bm,aI]
theorem aB.mA{Q:Program}{T:Tg}{F:Nat->Prop}{G:Nat->Value}{w:World}{a:Act}{s:S}(h:aB Q T F G w a s){b:Nat}(hb:Own G s.rg b):b<w.heap.size:=by obtain⟨n,e,he,hb⟩:=hb;exact(h.rg n e he).lt hb
end Pi
