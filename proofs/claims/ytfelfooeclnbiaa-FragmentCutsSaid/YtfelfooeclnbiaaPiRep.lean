/- The text PiRep. -/
import Derived.Test.YtfelfooeclnbiaaPiK
import Derived.Calls
import Derived.Tactics2
import Derived.Laws.AppendOwn
import Derived.Laws.CopyRow
import Derived.Laws.Slices
import Derived.LoopN
namespace Pi
open Go
section
variable{α:Type}
theorem qW(k:Nat)(v:α): ∀(m:List (Nat×α)) (j:Nat),lk (ins k v m) j=if k=j then some v else lk m j
 | [],j=>by by_cases h:k=j<;>simp[ins,lk,h]
 | (i,u)::r,j=>by
  have ih:=qW k v r j;simp only[ins];split
  ·by_cases h:k=j<;>simp[lk,h]
  split
  next h1 h2=>
   have e:k=i:=by simpa using h2
   subst e;by_cases h:k=j<;>simp[lk,h]
  rename_i h1 h2;have e: ¬i=k:=λe=>h2 (by simp[e]);simp only[lk,ih];by_cases h:k=j
  ·subst h;simp[e]
  simp[h]
theorem aK(k:Nat)(v:α)(m:List (Nat×α)):lk (ins k v m) k=some v:=by rw[qW,zax rfl]
theorem aQ{k j:Nat}(v:α)(m:List (Nat×α))(h:k≠j):lk (ins k v m) j=lk m j:=by rw[qW,zaB h]
end
def Obj.live:Obj->Bool
 | .gone=>false
 |_=>true
inductive ay(F:Nat->Prop)(w:World):Value->D->Prop
 |bool (b:Bool):ay F w (.bool b) (.bool b)
 |int (k:IntKind) (n:Int):ay F w (.int k n) (.int k n)
 |str (s:List UInt8):ay F w (.string ⟨⟨s⟩⟩) (.str s)
 |cV:ay F w (.slice none 0 0) .cV
 |gf:ay F w (.pointer none) .gf
 |jg:ay F w (.map none) .jg
 |nZ:ay F w .nilFunc .nZ
 |n0:ay F w .nilIface .n0
 |agg (vs:List Value) (cs:List D) (hl:vs.length=cs.length) (aO: ∀c∈cs,c.aG=true) (hc: ∀(i:Nat) (v:Value) (c:D),vs[i]?=some v->cs[i]?=some c->ay F w v c):ay F w (.agg ⟨vs⟩) (.agg cs)
 |sS (a:Option Addr) (k cap:Nat):ay F w (.slice a 0 cap) (.sl k [])
 |ui (b off k cap:Nat) (es:List D) (f:Nat->Value) (jq:es.length<=cap) (hb:F b) (hk: ∀x∈es,x.cells.length=k) (aO: ∀x∈es,∀c∈x.cells,c.aG=true)
  (hw: ∀i,i<es.length*k->w.cell? ⟨b,off+i,none⟩=some (f i)) (hr: ∀(i j:Nat) (x c:D),es[i]?=some x->x.cells[j]?=some c->ay F w (f (i*k+j)) c):ay F w (.slice (some ⟨b,off,none⟩) es.length cap) (.sl k es)
theorem nu{w w':World}{b:Nat}(h:w'.heap[b]?=w.heap[b]?)(o:Nat):w'.cell? ⟨b,o,none⟩=w.cell? ⟨b,o,none⟩:=by simp[World.cell?,h]
theorem ay.mono{F F':Nat->Prop}{w w':World}(hF: ∀b,F b->F' b)(hw: ∀b,F b->w'.heap[b]?=w.heap[b]?){v:Value}{x:D}(h:ay F w v x):ay F' w' v x:=by
 induction h with
 |agg vs cs hl aO _ ih=>exact .agg vs cs hl aO ih
 |ui b off k cap es f jq hb hk aO hc _ ih=>exact .ui b off k cap es f jq (hF _ hb) hk aO (λi hi=>(nu (hw b hb) _).trans (hc i hi)) ih
 |_=>constructor
theorem ay.bW{F:Nat->Prop}{w:World}{v:Value}{x:D}(h:ay F w v x){u:Value}(hu:x.bW=some u):v=u:=by cases h<;>simp_all [D.bW]
theorem ay.bc{F:Nat->Prop}{w:World}: ∀(cs:List D) (us vs:List Value),D.bc cs=some us->vs.length=cs.length->(∀(i:Nat) (v:Value) (c:D),vs[i]?=some v->cs[i]?=some c->ay F w v c)->vs=us
 | [],us,vs,h,hl,_=>by grind [D.bc]
 |c::cs,us,vs,h,hl,hc=>by
  cases vs with
  |nil=>simp at hl
  |cons v vs=>
   simp only[D.bc] at h;cases h1:c.bW with
   |none=>grind
   |some u1=>
    cases h2:D.bc cs with
    |none=>grind
    |some Ds=>simp[h1,h2] at h;subst h;have e1:=(hc 0 v c (by simp) (by simp)).bW h1;have e2:=ay.bc cs Ds vs h2 (by grind) (λi v c hv fB=>hc (i+1) v c (by grind) (by grind));rw[e1,e2]
theorem ay.aV{F:Nat->Prop}{w:World}{v:Value}{x:D}(h:ay F w v x){u:Value}(hu:x.aV=some u):v=u:=by
 cases x with
 |agg cs=>
  cases h with
  |agg vs _ hl _ hc=>
   simp only[D.aV] at hu;cases h2:D.bc cs with
   |none=>grind
   |some us=>simp[h2] at hu;rw[<-hu,ay.bc cs us vs h2 hl hc]
 |_=>exact h.bW hu
theorem ay.eU(F:Nat->Prop)(w:World){v:Value}{x:D}(h:D.eU v=some x):ay F w v x:=by
 unfold D.eU at h;split at h<;>simp at h<;>subst h
 case h_3 s=>cases s with |mk a=>cases a with |mk l=>exact .str l
 all_goals constructor
theorem D.sT{v:Value}{x:D}(h:D.eU v=some x):x.aG=true:=by unfold D.eU at h;split at h<;>simp at h<;>subst h<;>rfl
theorem ay.n4(F:Nat->Prop)(w:World): ∀(vs:List Value) (xs:List D),D.n4 vs=some xs->vs.length=xs.length/\(∀c∈xs,c.aG=true)/\ ∀(i:Nat) (v:Value) (c:D),vs[i]?=some v->xs[i]?=some c->ay F w v c
 | [],xs,h=>by grind [D.n4]
 |v::vs,xs,h=>by
  simp only[D.n4] at h;cases h1:D.eU v with
  |none=>grind
  |some x1=>
   cases h2:D.n4 vs with
   |none=>grind
   |some yy=>obtain⟨e1,e2,e3⟩:=ay.n4 F w vs yy h2;grind [D.sT,ay.eU]
theorem ay.jK(F:Nat->Prop)(w:World){v:Value}{x:D}(h:D.jK v=some x):ay F w v x:=by
 unfold D.jK at h;split at h
 next cs=>
  split at h
  next xs zN=>simp at h;subst h;obtain⟨e1,e2,e3⟩:=ay.n4 F w cs.toList xs zN;have:=ay.agg (F:=F) (w:=w) cs.toList xs e1 e2 e3;omega
  cases h
 exact ay.eU F w h
theorem ay.fK{F:Nat->Prop}{w:World}{v:Value}{x:D}(h:ay F w v x)(hx:x.aG=true):v.oneCell'=true:=by cases h<;>simp_all [D.aG,Value.oneCell']
theorem ay.aG{F:Nat->Prop}{w:World}{v:Value}{x:D}(h:ay F w v x)(hv:v.oneCell'=true):x.aG=true:=by cases h<;>simp_all [D.aG,Value.oneCell']
def bL(R:List (Nat×En))(n aw:Nat)(C:Prop):Prop:= ∃e,lk R n=some e/\aw<=e.aw/\(aw=e.aw->e.obj.live=true->C)
inductive ao(F:Nat->Prop)(w:World)(G:Nat->Value)(R:List (Nat×En)):Value->P->Prop
 |d {v:Value} {x:D} (h:ay F w v x):ao F w G R v (.d x)
 |agg (vs:List Value) (ps:List P) (hl:vs.length=ps.length) (cK: ∀v∈vs,v.oneCell'=true) (hc: ∀(i:Nat) (v:Value) (c:P),vs[i]?=some v->ps[i]?=some c->ao F w G R v c):ao F w G R (.agg ⟨vs⟩) (.agg ps)
 |dR (vs:List Value) (ps:List P) (hl:vs.length=ps.length) (hc: ∀(i:Nat) (v:Value) (c:P),vs[i]?=some v->ps[i]?=some c->ao F w G R v c):ao F w G R (.tuple ⟨vs⟩) (.dR ps)
 |ref (n aw off:Nat) (v:Value) (h:bL R n aw (∃b,G n= .pointer (some ⟨b,0,none⟩)/\v= .pointer (some ⟨b,off,none⟩))) (h1:v.oneCell'=true):ao F w G R v (.ref n aw off)
 |bs (n aw i k off:Nat) (v:Value) (h1:v.oneCell'=true) (h:bL R n aw (∃b N cap,G n= .slice (some ⟨b,0,none⟩) N cap/\v= .pointer (some ⟨b,i*k+off,none⟩))):ao F w G R v (.bs n aw i k off)
 |bT (x:D) (off b o:Nat) (hb:F b) (aO: ∀c∈x.cells,c.aG=true) (f:Nat->Value) (hw: ∀j,j<x.cells.length->w.cell? ⟨b,o+j,none⟩=some (f j)) (hr: ∀(j:Nat) (c:D),x.cells[j]?=some c->ay F w (f j) c):ao F w G R (.pointer (some ⟨b,o+off,none⟩)) (.bT x off)
 |sl (n aw len:Nat) (v:Value) (h1:v.oneCell'=true) (h:bL R n aw (∃a N cap,G n= .slice a N cap/\v= .slice a len cap/\len<=N)):ao F w G R v (.sl n aw len)
 |eL (n aw k off len:Nat) (v:Value) (h1:v.oneCell'=true) (h:bL R n aw (∃a N cap,G n= .slice a N cap/\off+len<=N/\ ∃a' cX,v= .slice a' len cX/\len<=cX/\(len=0\/ ∃b,a=some ⟨b,0,none⟩/\a'=some ⟨b,off*k,none⟩))):ao F w G R v (.eL n aw k off len)
 |mp (n aw:Nat) (v:Value) (h1:v.oneCell'=true) (h:bL R n aw (v=G n)):ao F w G R v (.mp n aw)
 |fn (f:FuncId) (vs:List Value) (bV:List P) (hl:vs.length=bV.length) (hc: ∀(i:Nat) (v:Value) (c:P),vs[i]?=some v->bV[i]?=some c->ao F w G R v c):ao F w G R (.func (.func f) #[] ⟨vs⟩) (.fn f bV)
 |bad (v:Value):ao F w G R v .bad
theorem bL.mono{R R':List (Nat×En)}{n aw:Nat}{C C':Prop}(hC:C->C')(hR: ∀e,lk R n=some e-> ∃e',lk R' n=some e'/\e.aw<=e'.aw/\(e.aw=e'.aw->e'.obj.live=true->e.obj.live=true))(h:bL R n aw C):bL R' n aw C':=by obtain⟨e,he,hv,hc⟩:=h;obtain⟨e',aW,r7,hl⟩:=hR e he;refine⟨e',aW,zaA hv r7,λh1 h2=>hC (hc (by omega) (hl (by omega) h2))⟩
structure Names(G G':Nat->Value)(R R':List (Nat×En)):Prop where
 on: ∀n e,lk R n=some e-> ∃e',lk R' n=some e'/\e.aw<=e'.aw/\(e.aw=e'.aw->e'.obj.live=true->e.obj.live=true)
 same: ∀n e e',lk R n=some e->lk R' n=some e'->e.aw=e'.aw->e'.obj.live=true->G' n=G n
theorem bL.go{G G':Nat->Value}{R R':List (Nat×En)}(hn:Names G G' R R'){n aw:Nat}{C:(Value->Prop)}(h:bL R n aw (C (G n))):bL R' n aw (C (G' n)):=by
 obtain⟨e,he,hv,hc⟩:=h;obtain⟨e',aW,r7,hl⟩:=hn.on n e he;refine⟨e',aW,zaA hv r7,λh1 h2=> ?_⟩;have e0:e.aw=e'.aw:=by omega
 rw[hn.same n e e' he aW e0 h2];grind
theorem ao.mono{F F':Nat->Prop}{w w':World}{G G':Nat->Value}{R R':List (Nat×En)}(hF: ∀b,F b->F' b)(hw: ∀b,F b->w'.heap[b]?=w.heap[b]?)(hn:Names G G' R R')
  {v:Value} {p:P} (h:ao F w G R v p):ao F' w' G' R' v p:=by
 induction h with
 |d h=>exact .d (h.mono hF hw)
 |agg vs ps hl aO _ ih=>exact .agg vs ps hl aO ih
 |dR vs ps hl _ ih=>exact .dR vs ps hl ih
 |ref n aw off v h h1=>exact .ref n aw off v (bL.go (C:=λg=> ∃b,g= .pointer (some ⟨b,0,none⟩)/\v= .pointer (some ⟨b,off,none⟩)) hn h) h1
 |bs n aw i k off v h1 h=>exact .bs n aw i k off v h1 (bL.go (C:=λg=> ∃b N cap,g= .slice (some ⟨b,0,none⟩) N cap/\v= .pointer (some ⟨b,i*k+off,none⟩)) hn h)
 |bT x off b o hb aO f hc hr=>exact .bT x off b o (hF _ hb) aO f (λj hj=>(nu (hw b hb) _).trans (hc j hj)) (λj c hj=>(hr j c hj).mono hF hw)
 |sl n aw len v h1 h=>exact .sl n aw len v h1 (bL.go (C:=λg=> ∃a N cap,g= .slice a N cap/\v= .slice a len cap/\len<=N) hn h)
 |eL n aw k off len v h1 h=>exact .eL n aw k off len v h1 (bL.go (C:=λg=> ∃a N cap,g= .slice a N cap/\off+len<=N/\ ∃a' cX,v= .slice a' len cX/\len<=cX/\(len=0\/ ∃b,a=some ⟨b,0,none⟩/\a'=some ⟨b,off*k,none⟩)) hn h)
 |mp n aw v h1 h=>exact .mp n aw v h1 (bL.go (C:=λg=>v=g) hn h)
 |fn f vs bV hl _ ih=>exact .fn f vs bV hl ih
 |bad v=>exact .bad v
theorem ao.fK{F:Nat->Prop}{w:World}{G:Nat->Value}{R:List (Nat×En)}{v:Value}{p:P}(h:ao F w G R v p)(hp:p.aG=true):v.oneCell'=true:=by
 cases h<;>try simp_all [P.aG]
 case d x h=>exact h.fK hp
 all_goals rfl
def au:Value->Option Nat
 | .pointer (some a)=>some a.block
 | .slice (some a) _ _=>some a.block
 | .map r=>r
 |_=>none
def aD(g:Value):Obj->Option Nat
 | .gone=>none
 | .box _ _=>au g
 | .arr _ fz _=>if fz then none else au g
 | .map _ _ _ fz=>if fz then none else au g
 | .iter ..=>au g
 | .iq=>none
 | .dS ..=>au g
 | .cb ..=>au g
def fj(F:Nat->Prop)(w:World)(cs:Array Value)(k:Nat)(es:List D):Prop:=
 ∀(i:Nat) (x:D),es[i]?=some x->x.cells.length=k/\(∀c∈x.cells,c.aG=true)/\ ∀(j:Nat) (c:D),x.cells[j]?=some c->ay F w (cs.getD (i*k+j) undef) c
def gh(Q:Program)(F:Nat->Prop)(w:World)(kt:TypeId)(get:D->Option D)(n:Int)(es:List MapEntry)(clock:Nat):Prop:=
 ∃ks:List (D×D),ks.length=es.length/\n=(es.length:Int)/\(∀(i:Nat) (p:D×D) (e:MapEntry),ks[i]?=some p->es[i]?=some e->bu Q kt p.1=true/\p.1.aV=some e.key/\ay F w e.val p.2)/\
  (ks.map (·.1)).Nodup/\(∀k v,get k=some v↔(k,v)∈ks)/\(∀e∈es,e.born<clock)/\(es.map (·.born)).Nodup
theorem gh.mono{Q:Program}{F F':Nat->Prop}{w w':World}{kt:TypeId}{get:D->Option D}{n:Int}{es:List MapEntry}{clock:Nat}(hF: ∀b,F b->F' b)(hw: ∀b,F b->w'.heap[b]?=w.heap[b]?)(h:gh Q F w kt get n es clock):gh Q F' w' kt get n es clock:=by obtain⟨ks,h1,h2,h3,h4,h5,h6,h7⟩:=h;exact⟨ks,h1,h2,λi p e hp he=>let ⟨a,b,c⟩:=h3 i p e hp he;⟨a,b,c.mono hF hw⟩,h4,h5,h6,h7⟩
def mN(Q:Program)(F:Nat->Prop)(w:World)(kt:TypeId)(left:D->Option D)(es:List MapEntry)(clock:Nat)(seen:Array Nat):Prop:=
 ∃ks:List (D×D),ks.length=es.length/\(∀(i:Nat) (p:D×D) (e:MapEntry),ks[i]?=some p->es[i]?=some e->bu Q kt p.1=true/\p.1.aV=some e.key/\ay F w e.val p.2)/\
  (ks.map (·.1)).Nodup/\(∀e∈es,e.born<clock)/\(es.map (·.born)).Nodup/\ ∀k v,left k=some v↔ ∃(i:Nat) (e:MapEntry),ks[i]?=some (k,v)/\es[i]?=some e/\seen.contains e.born=false
theorem mN.mono{Q:Program}{F F':Nat->Prop}{w w':World}{kt:TypeId}{left:D->Option D}{es:List MapEntry}{clock:Nat}{seen:Array Nat}(hF: ∀b,F b->F' b)(hw: ∀b,F b->w'.heap[b]?=w.heap[b]?)(h:mN Q F w kt left es clock seen):mN Q F' w' kt left es clock seen:=by obtain⟨ks,h1,h3,h4,h5,h6,h7⟩:=h;exact⟨ks,h1,λi p e hp he=>let ⟨a,b,c⟩:=h3 i p e hp he;⟨a,b,c.mono hF hw⟩,h4,h5,h6,h7⟩
theorem gh.iter{Q:Program}{F:Nat->Prop}{w:World}{kt:TypeId}{get:D->Option D}{n:Int}{es:List MapEntry}{clock:Nat}(h:gh Q F w kt get n es clock):mN Q F w kt get es clock #[]:=by
 obtain⟨ks,h1,_,h3,h4,h5,h6,h7⟩:=h;refine⟨ks,h1,h3,h4,h6,h7,λk v=>⟨λhk=> ?_,λ⟨i,e,hi,_,_⟩=>(h5 k v).2 (zao hi)⟩⟩;obtain⟨i,hi⟩:=zar ((h5 k v).1 hk);have bm:i<es.length:=by have:=(zaa.1 hi).1;omega
 exact⟨i,es[i],hi,zab bm,by simp⟩
def pr(Q:Program)(F:Nat->Prop)(w:World)(G:Nat->Value)(R:List (Nat×En))(kt:TypeId)(ks:List (D×P))(es:List MapEntry)(clock:Nat):Prop:=
 ks.length=es.length/\(∀(i:Nat) (p:D×P) (e:MapEntry),ks[i]?=some p->es[i]?=some e->bu Q kt p.1=true/\p.1.aV=some e.key/\ao F w G R e.val p.2)/\
  (ks.map (·.1)).Nodup/\(∀e∈es,e.born<clock)/\(es.map (·.born)).Nodup
theorem pr.mono{Q:Program}{F F':Nat->Prop}{w w':World}{G G':Nat->Value}{R R':List (Nat×En)}{kt:TypeId}{ks:List (D×P)}{es:List MapEntry}{clock:Nat}(hF: ∀b,F b->F' b)(hw: ∀b,F b->w'.heap[b]?=w.heap[b]?)(hn:Names G G' R R')(h:pr Q F w G R kt ks es clock):pr Q F' w' G' R' kt ks es clock:=
 ⟨h.1,λi p e hp he=>let ⟨a,b,c⟩:=h.2.1 i p e hp he;⟨a,b,c.mono hF hw hn⟩,h.2.2⟩
def gi(Q:Program)(F:Nat->Prop)(w:World)(G:Nat->Value)(R:List (Nat×En))(n:Nat):Obj->Prop
 | .gone=>True
 | .box T ps=> ∃b cs,G n= .pointer (some ⟨b,0,none⟩)/\w.heap[b]?=some (.cells cs T (0,0))/\cs.size=ps.length/\(∀v∈cs.toList,v.oneCell'=true)/\ ∀(i:Nat) (p:P),ps[i]?=some p->ao F w G R (cs.getD i undef) p
 | .arr ty fz es=>(G n= .slice none 0 0/\es=[])\/
  ∃b cap cs k,G n= .slice (some ⟨b,0,none⟩) es.length cap/\w.heap[b]?=some (.cells cs ty (0,0))/\sz Q ty=some k/\0<k/\es.length<=cap/\cap<=maxLen/\cs.size=cap*k/\(fz=true->F b)/\fj F w cs k es
 | .map kt get c fz=> ∃b es clock,G n= .map (some b)/\w.heap[b]?=some (.map es clock)/\gh Q F w kt get c es.toList clock/\(fz=true->F b)
 | .iq=>True
 | .cb kt ks=> ∃b es clock,G n= .map (some b)/\w.heap[b]?=some (.map es clock)/\pr Q F w G R kt ks es.toList clock
 | .dS kt get c p kd=> ∃b es clock,G n= .map (some b)/\w.heap[b]?=some (.map es clock)/\gh Q F w kt get c es.toList clock/\ ∃(i:Nat) (e:MapEntry),es[i]?=some e/\ao F w G R (.int .i64 (e.born:Int)) p/\kd.aV=some e.key/\(get kd).isSome=true
 | .iter kt _ left cur=> ∃b mo since seen last,G n= .pointer (some ⟨b,0,none⟩)/\w.heap[b]?=some (.mapIter mo since seen last)/\
  ((mo=none/\(∀k,left k=none)/\cur=none)\/ ∃m es,mo=some m/\F m/\w.heap[m]?=some (.map es since)/\last=since/\mN Q F w kt left es.toList since seen/\ ∀k v,cur=some (k,v)-> ∃e∈es.toList,seen.back?=some e.born/\k.aV=some e.key/\ay F w e.val v)
def bj(F:Nat->Prop)(w:World)(G:Nat->Value)(R:List (Nat×En))(_tmps:Array Value)(v:Value):P->Prop
 | .when ..=>v=undef
 |p=>ao F w G R v p
theorem bj.of{F:Nat->Prop}{w:World}{G:Nat->Value}{R:List (Nat×En)}{tmps:Array Value}{v:Value}{p:P}(h:ao F w G R v p):bj F w G R tmps v p:=by cases p<;>first |exact h |cases h
theorem bj.mono{F F':Nat->Prop}{w w':World}{G G':Nat->Value}{R R':List (Nat×En)}(hF: ∀b,F b->F' b)(hw: ∀b,F b->w'.heap[b]?=w.heap[b]?)(hn:Names G G' R R')
  {tmps:Array Value} {v:Value} {p:P} (h:bj F w G R tmps v p):bj F' w' G' R' tmps v p:=by
 cases p with
 |when t b q=>exact h
 |_=>exact ao.mono hF hw hn h
structure Tg where
 val:Nat->Value
 w0:World
 lo:Nat
 Dt:Bool
instance:CoeFun Tg λ_=>Nat->Value:=⟨Tg.val⟩
def Own(G:Nat->Value)(R:List (Nat×En))(b:Nat):Prop:= ∃n e,lk R n=some e/\aD (G n) e.obj=some b
def dA(T:Tg)(F:Nat->Prop)(G:Nat->Value)(R:List (Nat×En))(w:World)(ds:List Deferred):Prop:=
 ds.Nodup/\ ∀d∈ds,∃D,d={target:= .collected D,args:= #[]}/\(T.lo<=D/\T.Dt=true)/\w.heap[D]?=some (.deferred (some []))/\ ¬F D/\ ¬Own G R D
theorem dA.nil{T:Tg}{F:Nat->Prop}{G:Nat->Value}{R:List (Nat×En)}{w:World}:dA T F G R w []:=⟨by simp,λd h=>by cases h⟩
structure ar(Q:Program)(T:Tg)(F:Nat->Prop)(G:Nat->Value)(w:World)(a:Act)(s:S):Prop where
 qX:dA T F G s.rg w a.defers
 size:s.n<=a.tmps.size
 tm: ∀t p,lk s.tm t=some p->bj F w G s.rg a.tmps (a.tmps.getD t undef) p
 rg: ∀n e,lk s.rg n=some e->gi Q F w G s.rg n e.obj
 own: ∀n m e e' b,lk s.rg n=some e->lk s.rg m=some e'->aD (G n) e.obj=some b->aD (G m) e'.obj=some b->n=m
 hS: ∀n e b,lk s.rg n=some e->aD (G n) e.obj=some b-> ¬F b
 fL: ∀b,F b->b<w.heap.size
 tag: ∀n e i,lk s.rg n=some e->e.tag=some i->e.obj.live=true->G n=T i
 z: ∀b,b<T.w0.heap.size->F b/\w.heap[b]?=T.w0.heap[b]?
 dr:T.w0.drawn<=w.drawn
 sz:T.lo<=w.heap.size
structure Ext(own BL F F':Nat->Prop)(w w':World):Prop where
 gG: ∀b,F b->F' b
 lD: ∀b,F' b->F b\/own b\/w.heap.size<=b
 jr: ∀b,BL b->own b\/w.heap.size<=b
 keep: ∀b,b<w.heap.size-> ¬own b->w'.heap[b]?=w.heap[b]?
 size:w.heap.size<=w'.heap.size
 os:w'.os=w.os
 tape:w'.tape=w.tape
 output:w'.output=w.output
theorem dA.go{T:Tg}{F F':Nat->Prop}{G G':Nat->Value}{R R':List (Nat×En)}{w w':World}{ds:List Deferred}(h:dA T F G R w ds)(hx:Ext (Own G R) (Own G' R') F F' w w'):dA T F' G' R' w' ds:=by
 refine⟨h.1,λd hd=> ?_⟩;obtain⟨D,h1,h0,h2,h3,h4⟩:=h.2 d hd;have bm:D<w.heap.size:=(zal.1 h2).1;refine⟨D,h1,h0,(hx.keep D bm h4).trans h2,λhf=> ?_,λho=> ?_⟩
 ·rcases hx.lD D hf with h |h |h
  ·exact h3 h
  ·exact h4 h
  omega
 rcases hx.jr D ho with h |h
 ·exact h4 h
 omega
theorem dA.pe{T:Tg}{F F':Nat->Prop}{G:Nat->Value}{R R':List (Nat×En)}{w:World}{ds:List Deferred}(h:dA T F G R w ds)(hF: ∀b,F' b->F b\/Own G R b)(hO: ∀b,Own G R' b->Own G R b):dA T F' G R' w ds:=
 ⟨h.1,λd hd=>let ⟨D,h1,h0,h2,h3,h4⟩:=h.2 d hd;⟨D,h1,h0,h2,λhf=>(hF D hf).elim h3 h4,λho=>h4 (hO D ho)⟩⟩
theorem Ext.refl(own F:Nat->Prop)(w:World):Ext own own F F w w:=
 ⟨λ_ h=>h,λ_ h=> .inl h,λ_ h=> .inl h,λ_ _ _=>rfl,zag _,rfl,rfl,rfl⟩
theorem Ext.trans{o1 o2 o3 F1 F2 F3:Nat->Prop}{w1 w2 w3:World}(h:Ext o1 o2 F1 F2 w1 w2)(k:Ext o2 o3 F2 F3 w2 w3):Ext o1 o3 F1 F3 w1 w3 where
 gG b hb:=k.gG b (h.gG b hb)
 lD b hb:=by
  rcases k.lD b hb with h1 |h1 |h1
  ·exact h.lD b h1
  ·rcases h.jr b h1 with h2 |h2
   ·grind
   grind
  exact .inr (.inr (zaA h.size h1))
 jr b hb:=by
  rcases k.jr b hb with h1 |h1
  ·exact h.jr b h1
  exact .inr (zaA h.size h1)
 keep b hb hn:=by
  have Bi: ¬o2 b:=λh2=>by rcases h.jr b h2 with h3 |h3;exact hn h3;omega
  rw[k.keep b (zaS hb h.size) Bi,h.keep b hb hn]
 size:=zaA h.size k.size
 os:=k.os.trans h.os
 tape:=k.tape.trans h.tape
 output:=k.output.trans h.output
theorem Names.refl(G:Nat->Value)(R:List (Nat×En)):Names G G R R:=⟨λ_ e h=>⟨e,h,zag _,λ_ h=>h⟩,λ_ _ _ _ _ _ _=>rfl⟩
theorem gi.lt{Q:Program}{F:Nat->Prop}{w:World}{G:Nat->Value}{R:List (Nat×En)}{n:Nat}{o:Obj}(h:gi Q F w G R n o){b:Nat}(hb:aD (G n) o=some b):b<w.heap.size:=by
 cases o with
 |gone=>simp[aD] at hb
 |box T ps=>obtain⟨b',cs,hg,hh,_⟩:=h;grind [aD,au]
 |arr ty fz es=>
  rcases h with⟨hg,_⟩| ⟨b',cap,cs,k,hg,hh,_⟩
  ·simp[aD,hg,au] at hb
  grind [aD,au]
 |map kt get c fz=>obtain⟨b',es,clock,hg,hh,_⟩:=h;grind [aD,au]
 |iter kt vt left cur=>obtain⟨b',mo,since,seen,last,hg,hh,_⟩:=h;grind [aD,au]
 |iq=>simp[aD] at hb
 |dS kt get c p kd=>obtain⟨b',es,clock,hg,hh,_⟩:=h;grind [aD,au]
 |cb kt ks=>obtain⟨b',es,clock,hg,hh,_⟩:=h;grind [aD,au]
end Pi
