/- The text PiRep. -/
import Derived.Test.YtdgkdigdflkjhaaGreatDoorPiK
import Derived.Calls
import Derived.Tactics2
import Derived.Laws.AppendOwn
import Derived.Laws.CopyRow
import Derived.Laws.Slices
import Derived.LoopN
namespace Pi
open Go
section
variable{α:Type}
theorem Lu k (v:α): ∀m j,lk (ins k v m) j=if k=j then some v else lk m j
 | [],j=>by by_cases h:k=j<;>simp[ins,lk,h]
 | (i,u)::r,j=>by
  have ih:=Lu k v r j;simp only[ins];split
  ·by_cases h:k=j<;>simp[lk,h]
  split
  next h1 h2=>
   have e:k=i:=by simpa using h2
   subst e;by_cases h:k=j<;>simp[lk,h]
  rename_i h1 h2;have e: ¬i=k:=λe=>h2 (by simp[e]);simp only[lk,ih];by_cases h:k=j
  ·subst h;simp[e]
  simp[h]
theorem bE k (v:α) m:lk (ins k v m) k=some v:=by rw[Lu,zap rfl]
theorem cc{k j}(v:α) m (h:k≠j):lk (ins k v m) j=lk m j:=by rw[Lu,zan h]
end
def Obj.live:Obj->Bool
 | .gone=>false
 |_=>true
inductive aY(F:Nat->Prop)(w:World):Value->D->Prop
 |bool (b:Bool):aY F w (.bool b) (.bool b)
 |int (k:IntKind) (n:Int):aY F w (.int k n) (.int k n)
 |str (s:List UInt8):aY F w (.string ⟨⟨s⟩⟩) (.str s)
 |e9:aY F w (.slice none 0 0) .e9
 |sW:aY F w (.pointer none) .sW
 |ui:aY F w (.map none) .ui
 |ES:aY F w .nilFunc .ES
 |ET:aY F w .nilIface .ET
 |agg (vs:List Value) (cs:List D) (hl:vs.length=cs.length) (cm: ∀c∈cs,c.bL=true) (hc: ∀(i:Nat) (v:Value) (c:D),vs[i]?=some v->cs[i]?=some c->aY F w v c):aY F w (.agg ⟨vs⟩) (.agg cs)
 |Qf (a:Option Addr) (k cap:Nat):aY F w (.slice a 0 cap) (.sl k [])
 |Sv (b off k cap:Nat) (es:List D) (f:Nat->Value) (vU:es.length<=cap) (hb:F b) (hk: ∀x∈es,x.cells.length=k) (cm: ∀x∈es,∀c∈x.cells,c.bL=true)
  (hw: ∀i,i<es.length*k->w.cell? ⟨b,off+i,none⟩=some (f i)) (hr: ∀(i j:Nat) (x c:D),es[i]?=some x->x.cells[j]?=some c->aY F w (f (i*k+j)) c):aY F w (.slice (some ⟨b,off,none⟩) es.length cap) (.sl k es)
theorem Dk{w w':World}{b}(h:w'.heap[b]?=w.heap[b]?) o:w'.cell? ⟨b,o,none⟩=w.cell? ⟨b,o,none⟩:=by simp[World.cell?,h]
theorem aY.mono{F F' w w'}(hF: ∀b,F b->F' b)(hw: ∀b,F b->w'.heap[b]?=w.heap[b]?){v x}(h:aY F w v x):aY F' w' v x:=by
 induction h with
 |agg vs cs hl cm _ ih=>exact .agg vs cs hl cm ih
 |Sv b off k cap es f vU hb hk cm hc _ ih=>exact .Sv b off k cap es f vU (hF _ hb) hk cm (λi hi=>(Dk (hw b hb) _).trans (hc i hi)) ih
 |_=>constructor
theorem aY.gG{F w v x}(h:aY F w v x){u}(hu:x.gG=some u):v=u:=by cases h<;>simp_all [D.gG]
theorem aY.dt{F w}: ∀cs us vs,D.dt cs=some us->vs.length=cs.length->(∀(i:Nat) (v:Value) (c:D),vs[i]?=some v->cs[i]?=some c->aY F w v c)->vs=us
 | [],us,vs,h,hl,_=>by grind [D.dt]
 |c::cs,us,vs,h,hl,hc=>by
  cases vs with
  |nil=>simp at hl
  |cons v vs=>
   simp only[D.dt] at h;cases h1:c.gG with
   |none=>grind
   |some u1=>
    cases h2:D.dt cs with
    |none=>grind
    |some us2=>simp[h1,h2] at h;subst h;have e1:=(hc 0 v c (by simp) (by simp)).gG h1;have e2:=aY.dt cs us2 vs h2 (by grind) (λi v c hv lF=>hc (i+1) v c (by grind) (by grind));rw[e1,e2]
theorem aY.cD{F w v x}(h:aY F w v x){u}(hu:x.cD=some u):v=u:=by
 cases x with
 |agg cs=>
  cases h with
  |agg vs _ hl _ hc=>
   simp only[D.cD] at hu;cases h2:D.dt cs with
   |none=>grind
   |some us=>simp[h2] at hu;rw[<-hu,aY.dt cs us vs h2 hl hc]
 |_=>exact h.gG hu
theorem aY.nr F w {v x}(h:D.nr v=some x):aY F w v x:=by
 unfold D.nr at h;split at h<;>simp at h<;>subst h
 case h_3 s=>cases s with |mk a=>cases a with |mk l=>exact .str l
 all_goals constructor
theorem D.Qg{v x}(h:D.nr v=some x):x.bL=true:=by unfold D.nr at h;split at h<;>simp at h<;>subst h<;>rfl
theorem aY.EU F w: ∀vs xs,D.EU vs=some xs->vs.length=xs.length/\(∀c∈xs,c.bL=true)/\ ∀(i:Nat) (v:Value) (c:D),vs[i]?=some v->xs[i]?=some c->aY F w v c
 | [],xs,h=>by grind [D.EU]
 |v::vs,xs,h=>by
  simp only[D.EU] at h;cases h1:D.nr v with
  |none=>grind
  |some x1=>
   cases h2:D.EU vs with
   |none=>grind
   |some xs2=>obtain⟨e1,e2,e3⟩:=aY.EU F w vs xs2 h2;grind [D.Qg,aY.nr]
theorem aY.vQ F w {v x}(h:D.vQ v=some x):aY F w v x:=by
 unfold D.vQ at h;split at h
 next cs=>
  split at h
  next xs hxs=>simp at h;subst h;obtain⟨e1,e2,e3⟩:=aY.EU F w cs.toList xs hxs;have:=aY.agg (F:=F) (w:=w) cs.toList xs e1 e2 e3;omega
  cases h
 exact aY.nr F w h
theorem aY.o5{F w v x}(h:aY F w v x)(hx:x.bL=true):v.oneCell'=true:=by cases h<;>simp_all [D.bL,Value.oneCell']
theorem aY.bL{F w v x}(h:aY F w v x)(hv:v.oneCell'=true):x.bL=true:=by cases h<;>simp_all [D.bL,Value.oneCell']
def eL(R:List (Nat×En)) n aV (C:Prop):= ∃e,lk R n=some e/\aV<=e.aV/\(aV=e.aV->e.obj.live=true->C)
inductive aH(F:Nat->Prop)(w:World)(G:Nat->Value)(R:List (Nat×En)):Value->P->Prop
 |d {v:Value} {x:D} (h:aY F w v x):aH F w G R v (.d x)
 |agg (vs:List Value) (ps:List P) (hl:vs.length=ps.length) (jk: ∀v∈vs,v.oneCell'=true) (hc: ∀(i:Nat) (v:Value) (c:P),vs[i]?=some v->ps[i]?=some c->aH F w G R v c):aH F w G R (.agg ⟨vs⟩) (.agg ps)
 |dz (vs:List Value) (ps:List P) (hl:vs.length=ps.length) (hc: ∀(i:Nat) (v:Value) (c:P),vs[i]?=some v->ps[i]?=some c->aH F w G R v c):aH F w G R (.tuple ⟨vs⟩) (.dz ps)
 |ref (n aV off:Nat) (v:Value) (h:eL R n aV (∃b,G n= .pointer (some ⟨b,0,none⟩)/\v= .pointer (some ⟨b,off,none⟩))) (h1:v.oneCell'=true):aH F w G R v (.ref n aV off)
 |dJ (n aV i k off:Nat) (v:Value) (h1:v.oneCell'=true) (h:eL R n aV (∃b N cap,G n= .slice (some ⟨b,0,none⟩) N cap/\v= .pointer (some ⟨b,i*k+off,none⟩))):aH F w G R v (.dJ n aV i k off)
 |fh (x:D) (off b o:Nat) (hb:F b) (cm: ∀c∈x.cells,c.bL=true) (f:Nat->Value) (hw: ∀j,j<x.cells.length->w.cell? ⟨b,o+j,none⟩=some (f j)) (hr: ∀(j:Nat) (c:D),x.cells[j]?=some c->aY F w (f j) c):aH F w G R (.pointer (some ⟨b,o+off,none⟩)) (.fh x off)
 |sl (n aV len:Nat) (v:Value) (h1:v.oneCell'=true) (h:eL R n aV (∃a N cap,G n= .slice a N cap/\v= .slice a len cap/\len<=N)):aH F w G R v (.sl n aV len)
 |mG (n aV k off len:Nat) (v:Value) (h1:v.oneCell'=true) (h:eL R n aV (∃a N cap,G n= .slice a N cap/\off+len<=N/\ ∃a' jl,v= .slice a' len jl/\len<=jl/\(len=0\/ ∃b,a=some ⟨b,0,none⟩/\a'=some ⟨b,off*k,none⟩))):aH F w G R v (.mG n aV k off len)
 |mp (n aV:Nat) (v:Value) (h1:v.oneCell'=true) (h:eL R n aV (v=G n)):aH F w G R v (.mp n aV)
 |fn (f:FuncId) (vs:List Value) (cW:List P) (hl:vs.length=cW.length) (hc: ∀(i:Nat) (v:Value) (c:P),vs[i]?=some v->cW[i]?=some c->aH F w G R v c):aH F w G R (.func (.func f) #[] ⟨vs⟩) (.fn f cW)
 |bad (v:Value):aH F w G R v .bad
theorem eL.mono{R R' n aV}{C C':Prop}(hC:C->C')(hR: ∀e,lk R n=some e-> ∃e',lk R' n=some e'/\e.aV<=e'.aV/\(e.aV=e'.aV->e'.obj.live=true->e.obj.live=true))(h:eL R n aV C):eL R' n aV C':=by obtain⟨e,he,hv,hc⟩:=h;obtain⟨e',cR,Qh,hl⟩:=hR e he;refine⟨e',cR,zaL hv Qh,λh1 h2=>hC (hc (by omega) (hl (by omega) h2))⟩
structure Names(G G':Nat->Value)(R R':List (Nat×En)):Prop where
 on: ∀n e,lk R n=some e-> ∃e',lk R' n=some e'/\e.aV<=e'.aV/\(e.aV=e'.aV->e'.obj.live=true->e.obj.live=true)
 same: ∀n e e',lk R n=some e->lk R' n=some e'->e.aV=e'.aV->e'.obj.live=true->G' n=G n
theorem eL.go{G G' R R'}(hn:Names G G' R R'){n aV}{C:(Value->Prop)}(h:eL R n aV (C (G n))):eL R' n aV (C (G' n)):=by
 obtain⟨e,he,hv,hc⟩:=h;obtain⟨e',cR,Qh,hl⟩:=hn.on n e he;refine⟨e',cR,zaL hv Qh,λh1 h2=> ?_⟩;have e0:e.aV=e'.aV:=by omega
 rw[hn.same n e e' he cR e0 h2];grind
theorem aH.mono{F F' w w' G G' R R'}(hF: ∀b,F b->F' b)(hw: ∀b,F b->w'.heap[b]?=w.heap[b]?)(hn:Names G G' R R')
  {v p} (h:aH F w G R v p):aH F' w' G' R' v p:=by
 induction h with
 |d h=>exact .d (h.mono hF hw)
 |agg vs ps hl cm _ ih=>exact .agg vs ps hl cm ih
 |dz vs ps hl _ ih=>exact .dz vs ps hl ih
 |ref n aV off v h h1=>exact .ref n aV off v (eL.go (C:=λg=> ∃b,g= .pointer (some ⟨b,0,none⟩)/\v= .pointer (some ⟨b,off,none⟩)) hn h) h1
 |dJ n aV i k off v h1 h=>exact .dJ n aV i k off v h1 (eL.go (C:=λg=> ∃b N cap,g= .slice (some ⟨b,0,none⟩) N cap/\v= .pointer (some ⟨b,i*k+off,none⟩)) hn h)
 |fh x off b o hb cm f hc hr=>exact .fh x off b o (hF _ hb) cm f (λj hj=>(Dk (hw b hb) _).trans (hc j hj)) (λj c hj=>(hr j c hj).mono hF hw)
 |sl n aV len v h1 h=>exact .sl n aV len v h1 (eL.go (C:=λg=> ∃a N cap,g= .slice a N cap/\v= .slice a len cap/\len<=N) hn h)
 |mG n aV k off len v h1 h=>exact .mG n aV k off len v h1 (eL.go (C:=λg=> ∃a N cap,g= .slice a N cap/\off+len<=N/\ ∃a' jl,v= .slice a' len jl/\len<=jl/\(len=0\/ ∃b,a=some ⟨b,0,none⟩/\a'=some ⟨b,off*k,none⟩)) hn h)
 |mp n aV v h1 h=>exact .mp n aV v h1 (eL.go (C:=λg=>v=g) hn h)
 |fn f vs cW hl _ ih=>exact .fn f vs cW hl ih
 |bad v=>exact .bad v
theorem aH.o5{F w G R}{v p}(h:aH F w G R v p)(hp:p.bL=true):v.oneCell'=true:=by
 cases h<;>try simp_all [P.bL]
 case d x h=>exact h.o5 hp
 all_goals rfl
def aO:Value->Option Nat
 | .pointer (some a)=>some a.block
 | .slice (some a) _ _=>some a.block
 | .map r=>r
 |_=>none
def bB(g:Value):Obj->Option Nat
 | .gone=>none
 | .box _ _=>aO g
 | .arr _ fz _=>if fz then none else aO g
 | .map _ _ _ fz=>if fz then none else aO g
 | .iter ..=>aO g
 | .eJ=>none
 | .kM ..=>aO g
def n5 F w (cs:Array Value) k (es:List D):=
 ∀(i:Nat) (x:D),es[i]?=some x->x.cells.length=k/\(∀c∈x.cells,c.bL=true)/\ ∀(j:Nat) (c:D),x.cells[j]?=some c->aY F w (cs.getD (i*k+j) undef) c
def lG Q F w kt (get:D->Option D) n (es:List MapEntry) clock:=
 ∃ks:List (D×D),ks.length=es.length/\n=(es.length:Int)/\(∀(i:Nat) (p:D×D) (e:MapEntry),ks[i]?=some p->es[i]?=some e->fp Q kt p.1=true/\p.1.cD=some e.key/\aY F w e.val p.2)/\
  (ks.map (·.1)).Nodup/\(∀k v,get k=some v↔(k,v)∈ks)/\(∀e∈es,e.born<clock)/\(es.map (·.born)).Nodup
theorem lG.mono{Q F F' w w' kt}{get n es clock}(hF: ∀b,F b->F' b)(hw: ∀b,F b->w'.heap[b]?=w.heap[b]?)(h:lG Q F w kt get n es clock):lG Q F' w' kt get n es clock:=by obtain⟨ks,h1,h2,h3,h4,h5,h6,h7⟩:=h;exact⟨ks,h1,h2,λi p e hp he=>let ⟨a,b,c⟩:=h3 i p e hp he;⟨a,b,c.mono hF hw⟩,h4,h5,h6,h7⟩
def Ck Q F w kt (left:D->Option D)(es:List MapEntry) clock (seen:Array Nat):=
 ∃ks:List (D×D),ks.length=es.length/\(∀(i:Nat) (p:D×D) (e:MapEntry),ks[i]?=some p->es[i]?=some e->fp Q kt p.1=true/\p.1.cD=some e.key/\aY F w e.val p.2)/\
  (ks.map (·.1)).Nodup/\(∀e∈es,e.born<clock)/\(es.map (·.born)).Nodup/\ ∀k v,left k=some v↔ ∃(i:Nat) (e:MapEntry),ks[i]?=some (k,v)/\es[i]?=some e/\seen.contains e.born=false
theorem Ck.mono{Q F F' w w' kt}{left es clock seen}(hF: ∀b,F b->F' b)(hw: ∀b,F b->w'.heap[b]?=w.heap[b]?)(h:Ck Q F w kt left es clock seen):Ck Q F' w' kt left es clock seen:=by obtain⟨ks,h1,h3,h4,h5,h6,h7⟩:=h;exact⟨ks,h1,λi p e hp he=>let ⟨a,b,c⟩:=h3 i p e hp he;⟨a,b,c.mono hF hw⟩,h4,h5,h6,h7⟩
theorem lG.iter{Q F w kt}{get n es clock}(h:lG Q F w kt get n es clock):Ck Q F w kt get es clock #[]:=by
 obtain⟨ks,h1,_,h3,h4,h5,h6,h7⟩:=h;refine⟨ks,h1,h3,h4,h6,h7,λk v=>⟨λhk=> ?_,λ⟨i,e,hi,_,_⟩=>(h5 k v).2 (zaA hi)⟩⟩;obtain⟨i,hi⟩:=zaV ((h5 k v).1 hk);have bK:i<es.length:=by have:=(zae.1 hi).1;omega
 exact⟨i,es[i],hi,zad bK,by simp⟩
def pZ(Q:Program)(F:Nat->Prop)(w:World)(G:Nat->Value)(R:List (Nat×En))(n:Nat):Obj->Prop
 | .gone=>True
 | .box T ps=> ∃b cs,G n= .pointer (some ⟨b,0,none⟩)/\w.heap[b]?=some (.cells cs T (0,0))/\cs.size=ps.length/\(∀v∈cs.toList,v.oneCell'=true)/\ ∀(i:Nat) (p:P),ps[i]?=some p->aH F w G R (cs.getD i undef) p
 | .arr ty fz es=>(G n= .slice none 0 0/\es=[])\/
  ∃b cap cs k,G n= .slice (some ⟨b,0,none⟩) es.length cap/\w.heap[b]?=some (.cells cs ty (0,0))/\sz Q ty=some k/\0<k/\es.length<=cap/\cap<=maxLen/\cs.size=cap*k/\(fz=true->F b)/\n5 F w cs k es
 | .map kt get c fz=> ∃b es clock,G n= .map (some b)/\w.heap[b]?=some (.map es clock)/\lG Q F w kt get c es.toList clock/\(fz=true->F b)
 | .eJ=>True
 | .kM kt get c p kd=> ∃b es clock,G n= .map (some b)/\w.heap[b]?=some (.map es clock)/\lG Q F w kt get c es.toList clock/\ ∃(i:Nat) (e:MapEntry),es[i]?=some e/\aH F w G R (.int .i64 (e.born:Int)) p/\kd.cD=some e.key/\(get kd).isSome=true
 | .iter kt _ left cur=> ∃b mo since seen last,G n= .pointer (some ⟨b,0,none⟩)/\w.heap[b]?=some (.mapIter mo since seen last)/\
  ((mo=none/\(∀k,left k=none)/\cur=none)\/ ∃m es,mo=some m/\F m/\w.heap[m]?=some (.map es since)/\last=since/\Ck Q F w kt left es.toList since seen/\ ∀k v,cur=some (k,v)-> ∃e∈es.toList,seen.back?=some e.born/\k.cD=some e.key/\aY F w e.val v)
def cE(F:Nat->Prop)(w:World)(G:Nat->Value)(R:List (Nat×En))(_tmps:Array Value)(v:Value):P->Prop
 | .when ..=>v=undef
 |p=>aH F w G R v p
theorem cE.of{F w G R}{tmps v p}(h:aH F w G R v p):cE F w G R tmps v p:=by cases p<;>first |exact h |cases h
theorem cE.mono{F F' w w' G G' R R'}(hF: ∀b,F b->F' b)(hw: ∀b,F b->w'.heap[b]?=w.heap[b]?)(hn:Names G G' R R')
  {tmps v p} (h:cE F w G R tmps v p):cE F' w' G' R' tmps v p:=by
 cases p with
 |when t b q=>exact h
 |_=>exact aH.mono hF hw hn h
structure Tg where
 val:Nat->Value
 w0:World
 lo:Nat
 TK:Bool
instance:CoeFun Tg λ_=>Nat->Value:=⟨Tg.val⟩
def Own(G:Nat->Value)(R:List (Nat×En)) b:= ∃n e,lk R n=some e/\bB (G n) e.obj=some b
def jD(T:Tg)(F:Nat->Prop) G R (w:World)(ds:List Deferred):=
 ds.Nodup/\ ∀d∈ds,∃D,d={target:= .collected D,args:= #[]}/\(T.lo<=D/\T.TK=true)/\w.heap[D]?=some (.deferred (some []))/\ ¬F D/\ ¬Own G R D
theorem jD.nil{T F G R}{w}:jD T F G R w []:=⟨by simp,λd h=>by cases h⟩
structure aC(Q:Program)(T:Tg)(F:Nat->Prop)(G:Nat->Value)(w:World)(a:Act)(s:S):Prop where
 s7:jD T F G s.rg w a.defers
 size:s.n<=a.tmps.size
 tm: ∀t p,lk s.tm t=some p->cE F w G s.rg a.tmps (a.tmps.getD t undef) p
 rg: ∀n e,lk s.rg n=some e->pZ Q F w G s.rg n e.obj
 own: ∀n m e e' b,lk s.rg n=some e->lk s.rg m=some e'->bB (G n) e.obj=some b->bB (G m) e'.obj=some b->n=m
 nA: ∀n e b,lk s.rg n=some e->bB (G n) e.obj=some b-> ¬F b
 jE: ∀b,F b->b<w.heap.size
 tag: ∀n e i,lk s.rg n=some e->e.tag=some i->e.obj.live=true->G n=T i
 z: ∀b,b<T.w0.heap.size->F b/\w.heap[b]?=T.w0.heap[b]?
 dr:T.w0.drawn<=w.drawn
 sz:T.lo<=w.heap.size
structure Ext(own qm8 F F':Nat->Prop)(w w':World):Prop where
 lH: ∀b,F b->F' b
 n9: ∀b,F' b->F b\/own b\/w.heap.size<=b
 mH: ∀b,qm8 b->own b\/w.heap.size<=b
 keep: ∀b,b<w.heap.size-> ¬own b->w'.heap[b]?=w.heap[b]?
 size:w.heap.size<=w'.heap.size
 os:w'.os=w.os
 tape:w'.tape=w.tape
 output:w'.output=w.output
theorem jD.go{T F F' G G' R R'}{w w' ds}(h:jD T F G R w ds)(hx:Ext (Own G R) (Own G' R') F F' w w'):jD T F' G' R' w' ds:=by
 refine⟨h.1,λd hd=> ?_⟩;obtain⟨D,h1,h0,h2,h3,h4⟩:=h.2 d hd;have bK:D<w.heap.size:=(zax.1 h2).1;refine⟨D,h1,h0,(hx.keep D bK h4).trans h2,λhf=> ?_,λho=> ?_⟩
 ·rcases hx.n9 D hf with h |h |h
  ·exact h3 h
  ·exact h4 h
  omega
 rcases hx.mH D ho with h |h
 ·exact h4 h
 omega
theorem jD.Hc{T F F' G R R'}{w ds}(h:jD T F G R w ds)(hF: ∀b,F' b->F b\/Own G R b)(hO: ∀b,Own G R' b->Own G R b):jD T F' G R' w ds:=
 ⟨h.1,λd hd=>let ⟨D,h1,h0,h2,h3,h4⟩:=h.2 d hd;⟨D,h1,h0,h2,λhf=>(hF D hf).elim h3 h4,λho=>h4 (hO D ho)⟩⟩
theorem Ext.refl own F w:Ext own own F F w w:=
 ⟨λ_ h=>h,λ_ h=> .inl h,λ_ h=> .inl h,λ_ _ _=>rfl,zal _,rfl,rfl,rfl⟩
theorem Ext.trans{o1 o2 o3 F1 F2 F3:Nat->Prop}{w1 w2 w3:World}(h:Ext o1 o2 F1 F2 w1 w2)(k:Ext o2 o3 F2 F3 w2 w3):Ext o1 o3 F1 F3 w1 w3 where
 lH b hb:=k.lH b (h.lH b hb)
 n9 b hb:=by
  rcases k.n9 b hb with h1 |h1 |h1
  ·exact h.n9 b h1
  ·rcases h.mH b h1 with h2 |h2
   ·grind
   grind
  exact .inr (.inr (zaL h.size h1))
 mH b hb:=by
  rcases k.mH b hb with h1 |h1
  ·exact h.mH b h1
  exact .inr (zaL h.size h1)
 keep b hb hn:=by
  have hn2: ¬o2 b:=λh2=>by rcases h.mH b h2 with h3 |h3;exact hn h3;omega
  rw[k.keep b (zbf hb h.size) hn2,h.keep b hb hn]
 size:=zaL h.size k.size
 os:=k.os.trans h.os
 tape:=k.tape.trans h.tape
 output:=k.output.trans h.output
theorem Names.refl G R:Names G G R R:=⟨λ_ e h=>⟨e,h,zal _,λ_ h=>h⟩,λ_ _ _ _ _ _ _=>rfl⟩
theorem pZ.lt{Q F w G}{R n o}(h:pZ Q F w G R n o){b}(hb:bB (G n) o=some b):b<w.heap.size:=by
 cases o with
 |gone=>simp[bB] at hb
 |box T ps=>obtain⟨b',cs,hg,hh,_⟩:=h;grind [bB,aO]
 |arr ty fz es=>
  rcases h with⟨hg,_⟩| ⟨b',cap,cs,k,hg,hh,_⟩
  ·simp[bB,hg,aO] at hb
  grind [bB,aO]
 |map kt get c fz=>obtain⟨b',es,clock,hg,hh,_⟩:=h;grind [bB,aO]
 |iter kt vt left cur=>obtain⟨b',mo,since,seen,last,hg,hh,_⟩:=h;grind [bB,aO]
 |eJ=>simp[bB] at hb
 |kM kt get c p kd=>obtain⟨b',es,clock,hg,hh,_⟩:=h;grind [bB,aO]
theorem aC.oa{Q T F G}{w a s}(h:aC Q T F G w a s){b}(hb:Own G s.rg b):b<w.heap.size:=by obtain⟨n,e,he,hb⟩:=hb;exact(h.rg n e he).lt hb
end Pi
