/- The text PiRep. -/
import Derived.Test.YtfelfooeclnbiaaPiK
import Derived.Calls
import Derived.Tactics2
import Derived.Laws.AppendOwn
import Derived.Laws.CopyRow
import Derived.Laws.Slices
import Derived.LoopN
namespace Pi
open Go
section
variable{α:Type}
theorem r3(k:Nat)(v:α): ∀(m:List (Nat×α)) (j:Nat),lk (ins k v m) j=if k=j then some v else lk m j
 | [],j=>by by_cases h:k=j<;>simp[ins,lk,h]
 | (i,u)::r,j=>by
  have ih:=r3 k v r j;simp only[ins];split
  ·by_cases h:k=j<;>simp[lk,h]
  split
  next h1 h2=>
   have e:k=i:=by simpa using h2
   subst e;by_cases h:k=j<;>simp[lk,h]
  rename_i h1 h2;have e: ¬i=k:=λe=>h2 (by simp[e]);simp only[lk,ih];by_cases h:k=j
  ·subst h;simp[e]
  simp[h]
theorem aK(k:Nat)(v:α)(m:List (Nat×α)):lk (ins k v m) k=some v:=by rw[r3,zau rfl]
theorem aS{k j:Nat}(v:α)(m:List (Nat×α))(h:k≠j):lk (ins k v m) j=lk m j:=by rw[r3,zay h]
end
def Obj.live:Obj->Bool
 | .gone=>false
 |_=>true
inductive az(F:Nat->Prop)(w:World):Value->D->Prop
 |bool (b:Bool):az F w (.bool b) (.bool b)
 |int (k:IntKind) (n:Int):az F w (.int k n) (.int k n)
 |str (s:List UInt8):az F w (.string ⟨⟨s⟩⟩) (.str s)
 |dq:az F w (.slice none 0 0) .dq
 |gC:az F w (.pointer none) .gC
 |jJ:az F w (.map none) .jJ
 |oW:az F w .nilFunc .oW
 |oX:az F w .nilIface .oX
 |agg (vs:List Value) (cs:List D) (hl:vs.length=cs.length) (aP: ∀c∈cs,c.aF=true) (hc: ∀(i:Nat) (v:Value) (c:D),vs[i]?=some v->cs[i]?=some c->az F w v c):az F w (.agg ⟨vs⟩) (.agg cs)
 |ur (a:Option Addr) (k cap:Nat):az F w (.slice a 0 cap) (.sl k [])
 |vI (b off k cap:Nat) (es:List D) (f:Nat->Value) (jT:es.length<=cap) (hb:F b) (hk: ∀x∈es,x.cells.length=k) (aP: ∀x∈es,∀c∈x.cells,c.aF=true)
  (hw: ∀i,i<es.length*k->w.cell? ⟨b,off+i,none⟩=some (f i)) (hr: ∀(i j:Nat) (x c:D),es[i]?=some x->x.cells[j]?=some c->az F w (f (i*k+j)) c):az F w (.slice (some ⟨b,off,none⟩) es.length cap) (.sl k es)
theorem oa{w w':World}{b:Nat}(h:w'.heap[b]?=w.heap[b]?)(o:Nat):w'.cell? ⟨b,o,none⟩=w.cell? ⟨b,o,none⟩:=by simp[World.cell?,h]
theorem az.mono{F F':Nat->Prop}{w w':World}(hF: ∀b,F b->F' b)(hw: ∀b,F b->w'.heap[b]?=w.heap[b]?){v:Value}{x:D}(h:az F w v x):az F' w' v x:=by
 induction h with
 |agg vs cs hl aP _ ih=>exact .agg vs cs hl aP ih
 |vI b off k cap es f jT hb hk aP hc _ ih=>exact .vI b off k cap es f jT (hF _ hb) hk aP (λi hi=>(oa (hw b hb) _).trans (hc i hi)) ih
 |_=>constructor
theorem az.cp{F:Nat->Prop}{w:World}{v:Value}{x:D}(h:az F w v x){u:Value}(hu:x.cp=some u):v=u:=by cases h<;>simp_all [D.cp]
theorem az.bq{F:Nat->Prop}{w:World}: ∀(cs:List D) (us vs:List Value),D.bq cs=some us->vs.length=cs.length->(∀(i:Nat) (v:Value) (c:D),vs[i]?=some v->cs[i]?=some c->az F w v c)->vs=us
 | [],us,vs,h,hl,_=>by grind [D.bq]
 |c::cs,us,vs,h,hl,hc=>by
  cases vs with
  |nil=>simp at hl
  |cons v vs=>
   simp only[D.bq] at h;cases h1:c.cp with
   |none=>grind
   |some u1=>
    cases h2:D.bq cs with
    |none=>grind
    |some GB=>simp[h1,h2] at h;subst h;have e1:=(hc 0 v c (by simp) (by simp)).cp h1;have e2:=az.bq cs GB vs h2 (by grind) (λi v c hv fQ=>hc (i+1) v c (by grind) (by grind));rw[e1,e2]
theorem az.aX{F:Nat->Prop}{w:World}{v:Value}{x:D}(h:az F w v x){u:Value}(hu:x.aX=some u):v=u:=by
 cases x with
 |agg cs=>
  cases h with
  |agg vs _ hl _ hc=>
   simp only[D.aX] at hu;cases h2:D.bq cs with
   |none=>grind
   |some us=>simp[h2] at hu;rw[<-hu,az.bq cs us vs h2 hl hc]
 |_=>exact h.cp hu
theorem az.fg(F:Nat->Prop)(w:World){v:Value}{x:D}(h:D.fg v=some x):az F w v x:=by
 unfold D.fg at h;split at h<;>simp at h<;>subst h
 case h_3 s=>cases s with |mk a=>cases a with |mk l=>exact .str l
 all_goals constructor
theorem D.uu{v:Value}{x:D}(h:D.fg v=some x):x.aF=true:=by unfold D.fg at h;split at h<;>simp at h<;>subst h<;>rfl
theorem az.oY(F:Nat->Prop)(w:World): ∀(vs:List Value) (xs:List D),D.oY vs=some xs->vs.length=xs.length/\(∀c∈xs,c.aF=true)/\ ∀(i:Nat) (v:Value) (c:D),vs[i]?=some v->xs[i]?=some c->az F w v c
 | [],xs,h=>by grind [D.oY]
 |v::vs,xs,h=>by
  simp only[D.oY] at h;cases h1:D.fg v with
  |none=>grind
  |some x1=>
   cases h2:D.oY vs with
   |none=>grind
   |some Az=>obtain⟨e1,e2,e3⟩:=az.oY F w vs Az h2;grind [D.uu,az.fg]
theorem az.kq(F:Nat->Prop)(w:World){v:Value}{x:D}(h:D.kq v=some x):az F w v x:=by
 unfold D.kq at h;split at h
 next cs=>
  split at h
  next xs Dy=>simp at h;subst h;obtain⟨e1,e2,e3⟩:=az.oY F w cs.toList xs Dy;have:=az.agg (F:=F) (w:=w) cs.toList xs e1 e2 e3;omega
  cases h
 exact az.fg F w h
theorem az.iB{F:Nat->Prop}{w:World}{v:Value}{x:D}(h:az F w v x)(hx:x.aF=true):v.oneCell'=true:=by cases h<;>simp_all [D.aF,Value.oneCell']
theorem az.aF{F:Nat->Prop}{w:World}{v:Value}{x:D}(h:az F w v x)(hv:v.oneCell'=true):x.aF=true:=by cases h<;>simp_all [D.aF,Value.oneCell']
def bW(R:List (Nat×En))(n ay:Nat)(C:Prop):Prop:= ∃e,lk R n=some e/\ay<=e.ay/\(ay=e.ay->e.obj.live=true->C)
inductive ao(F:Nat->Prop)(w:World)(G:Nat->Value)(R:List (Nat×En)):Value->P->Prop
 |d {v:Value} {x:D} (h:az F w v x):ao F w G R v (.d x)
 |agg (vs:List Value) (ps:List P) (hl:vs.length=ps.length) (cW: ∀v∈vs,v.oneCell'=true) (hc: ∀(i:Nat) (v:Value) (c:P),vs[i]?=some v->ps[i]?=some c->ao F w G R v c):ao F w G R (.agg ⟨vs⟩) (.agg ps)
 |dW (vs:List Value) (ps:List P) (hl:vs.length=ps.length) (hc: ∀(i:Nat) (v:Value) (c:P),vs[i]?=some v->ps[i]?=some c->ao F w G R v c):ao F w G R (.tuple ⟨vs⟩) (.dW ps)
 |ref (n ay off:Nat) (v:Value) (h:bW R n ay (∃b,G n= .pointer (some ⟨b,0,none⟩)/\v= .pointer (some ⟨b,off,none⟩))) (h1:v.oneCell'=true):ao F w G R v (.ref n ay off)
 |bG (n ay i k off:Nat) (v:Value) (h1:v.oneCell'=true) (h:bW R n ay (∃b N cap,G n= .slice (some ⟨b,0,none⟩) N cap/\v= .pointer (some ⟨b,i*k+off,none⟩))):ao F w G R v (.bG n ay i k off)
 |cl (x:D) (off b o:Nat) (hb:F b) (aP: ∀c∈x.cells,c.aF=true) (f:Nat->Value) (hw: ∀j,j<x.cells.length->w.cell? ⟨b,o+j,none⟩=some (f j)) (hr: ∀(j:Nat) (c:D),x.cells[j]?=some c->az F w (f j) c):ao F w G R (.pointer (some ⟨b,o+off,none⟩)) (.cl x off)
 |sl (n ay len:Nat) (v:Value) (h1:v.oneCell'=true) (h:bW R n ay (∃a N cap,G n= .slice a N cap/\v= .slice a len cap/\len<=N)):ao F w G R v (.sl n ay len)
 |eZ (n ay k off len:Nat) (v:Value) (h1:v.oneCell'=true) (h:bW R n ay (∃a N cap,G n= .slice a N cap/\off+len<=N/\ ∃a' dS,v= .slice a' len dS/\len<=dS/\(len=0\/ ∃b,a=some ⟨b,0,none⟩/\a'=some ⟨b,off*k,none⟩))):ao F w G R v (.eZ n ay k off len)
 |mp (n ay:Nat) (v:Value) (h1:v.oneCell'=true) (h:bW R n ay (v=G n)):ao F w G R v (.mp n ay)
 |fn (f:FuncId) (vs:List Value) (cn:List P) (hl:vs.length=cn.length) (hc: ∀(i:Nat) (v:Value) (c:P),vs[i]?=some v->cn[i]?=some c->ao F w G R v c):ao F w G R (.func (.func f) #[] ⟨vs⟩) (.fn f cn)
 |bad (v:Value):ao F w G R v .bad
theorem bW.mono{R R':List (Nat×En)}{n ay:Nat}{C C':Prop}(hC:C->C')(hR: ∀e,lk R n=some e-> ∃e',lk R' n=some e'/\e.ay<=e'.ay/\(e.ay=e'.ay->e'.obj.live=true->e.obj.live=true))(h:bW R n ay C):bW R' n ay C':=by obtain⟨e,he,hv,hc⟩:=h;obtain⟨e',bb,tl,hl⟩:=hR e he;refine⟨e',bb,zaB hv tl,λh1 h2=>hC (hc (by omega) (hl (by omega) h2))⟩
structure Names(G G':Nat->Value)(R R':List (Nat×En)):Prop where
 on: ∀n e,lk R n=some e-> ∃e',lk R' n=some e'/\e.ay<=e'.ay/\(e.ay=e'.ay->e'.obj.live=true->e.obj.live=true)
 same: ∀n e e',lk R n=some e->lk R' n=some e'->e.ay=e'.ay->e'.obj.live=true->G' n=G n
theorem bW.go{G G':Nat->Value}{R R':List (Nat×En)}(hn:Names G G' R R'){n ay:Nat}{C:(Value->Prop)}(h:bW R n ay (C (G n))):bW R' n ay (C (G' n)):=by
 obtain⟨e,he,hv,hc⟩:=h;obtain⟨e',bb,tl,hl⟩:=hn.on n e he;refine⟨e',bb,zaB hv tl,λh1 h2=> ?_⟩;have e0:e.ay=e'.ay:=by omega
 rw[hn.same n e e' he bb e0 h2];grind
theorem ao.mono{F F':Nat->Prop}{w w':World}{G G':Nat->Value}{R R':List (Nat×En)}(hF: ∀b,F b->F' b)(hw: ∀b,F b->w'.heap[b]?=w.heap[b]?)(hn:Names G G' R R')
  {v:Value} {p:P} (h:ao F w G R v p):ao F' w' G' R' v p:=by
 induction h with
 |d h=>exact .d (h.mono hF hw)
 |agg vs ps hl aP _ ih=>exact .agg vs ps hl aP ih
 |dW vs ps hl _ ih=>exact .dW vs ps hl ih
 |ref n ay off v h h1=>exact .ref n ay off v (bW.go (C:=λg=> ∃b,g= .pointer (some ⟨b,0,none⟩)/\v= .pointer (some ⟨b,off,none⟩)) hn h) h1
 |bG n ay i k off v h1 h=>exact .bG n ay i k off v h1 (bW.go (C:=λg=> ∃b N cap,g= .slice (some ⟨b,0,none⟩) N cap/\v= .pointer (some ⟨b,i*k+off,none⟩)) hn h)
 |cl x off b o hb aP f hc hr=>exact .cl x off b o (hF _ hb) aP f (λj hj=>(oa (hw b hb) _).trans (hc j hj)) (λj c hj=>(hr j c hj).mono hF hw)
 |sl n ay len v h1 h=>exact .sl n ay len v h1 (bW.go (C:=λg=> ∃a N cap,g= .slice a N cap/\v= .slice a len cap/\len<=N) hn h)
 |eZ n ay k off len v h1 h=>exact .eZ n ay k off len v h1 (bW.go (C:=λg=> ∃a N cap,g= .slice a N cap/\off+len<=N/\ ∃a' dS,v= .slice a' len dS/\len<=dS/\(len=0\/ ∃b,a=some ⟨b,0,none⟩/\a'=some ⟨b,off*k,none⟩)) hn h)
 |mp n ay v h1 h=>exact .mp n ay v h1 (bW.go (C:=λg=>v=g) hn h)
 |fn f vs cn hl _ ih=>exact .fn f vs cn hl ih
 |bad v=>exact .bad v
theorem ao.iB{F:Nat->Prop}{w:World}{G:Nat->Value}{R:List (Nat×En)}{v:Value}{p:P}(h:ao F w G R v p)(hp:p.aF=true):v.oneCell'=true:=by
 cases h<;>try simp_all [P.aF]
 case d x h=>exact h.iB hp
 all_goals rfl
def au:Value->Option Nat
 | .pointer (some a)=>some a.block
 | .slice (some a) _ _=>some a.block
 | .map r=>r
 |_=>none
def aH(g:Value):Obj->Option Nat
 | .gone=>none
 | .box _ _=>au g
 | .arr _ fz _=>if fz then none else au g
 | .map _ _ _ fz=>if fz then none else au g
 | .iter ..=>au g
 | .iX=>none
 | .eb ..=>au g
 | .a7 ..=>au g
def iN(F:Nat->Prop)(w:World)(cs:Array Value)(k:Nat)(es:List D):Prop:=
 ∀(i:Nat) (x:D),es[i]?=some x->x.cells.length=k/\(∀c∈x.cells,c.aF=true)/\ ∀(j:Nat) (c:D),x.cells[j]?=some c->az F w (cs.getD (i*k+j) undef) c
def gG(Q:Program)(F:Nat->Prop)(w:World)(kt:TypeId)(get:D->Option D)(n:Int)(es:List MapEntry)(clock:Nat):Prop:=
 ∃ks:List (D×D),ks.length=es.length/\n=(es.length:Int)/\(∀(i:Nat) (p:D×D) (e:MapEntry),ks[i]?=some p->es[i]?=some e->bH Q kt p.1=true/\p.1.aX=some e.key/\az F w e.val p.2)/\
  (ks.map (·.1)).Nodup/\(∀k v,get k=some v↔(k,v)∈ks)/\(∀e∈es,e.born<clock)/\(es.map (·.born)).Nodup
theorem gG.mono{Q:Program}{F F':Nat->Prop}{w w':World}{kt:TypeId}{get:D->Option D}{n:Int}{es:List MapEntry}{clock:Nat}(hF: ∀b,F b->F' b)(hw: ∀b,F b->w'.heap[b]?=w.heap[b]?)(h:gG Q F w kt get n es clock):gG Q F' w' kt get n es clock:=by obtain⟨ks,h1,h2,h3,h4,h5,h6,h7⟩:=h;exact⟨ks,h1,h2,λi p e hp he=>let ⟨a,b,c⟩:=h3 i p e hp he;⟨a,b,c.mono hF hw⟩,h4,h5,h6,h7⟩
def nG(Q:Program)(F:Nat->Prop)(w:World)(kt:TypeId)(left:D->Option D)(es:List MapEntry)(clock:Nat)(seen:Array Nat):Prop:=
 ∃ks:List (D×D),ks.length=es.length/\(∀(i:Nat) (p:D×D) (e:MapEntry),ks[i]?=some p->es[i]?=some e->bH Q kt p.1=true/\p.1.aX=some e.key/\az F w e.val p.2)/\
  (ks.map (·.1)).Nodup/\(∀e∈es,e.born<clock)/\(es.map (·.born)).Nodup/\ ∀k v,left k=some v↔ ∃(i:Nat) (e:MapEntry),ks[i]?=some (k,v)/\es[i]?=some e/\seen.contains e.born=false
theorem nG.mono{Q:Program}{F F':Nat->Prop}{w w':World}{kt:TypeId}{left:D->Option D}{es:List MapEntry}{clock:Nat}{seen:Array Nat}(hF: ∀b,F b->F' b)(hw: ∀b,F b->w'.heap[b]?=w.heap[b]?)(h:nG Q F w kt left es clock seen):nG Q F' w' kt left es clock seen:=by obtain⟨ks,h1,h3,h4,h5,h6,h7⟩:=h;exact⟨ks,h1,λi p e hp he=>let ⟨a,b,c⟩:=h3 i p e hp he;⟨a,b,c.mono hF hw⟩,h4,h5,h6,h7⟩
theorem gG.iter{Q:Program}{F:Nat->Prop}{w:World}{kt:TypeId}{get:D->Option D}{n:Int}{es:List MapEntry}{clock:Nat}(h:gG Q F w kt get n es clock):nG Q F w kt get es clock #[]:=by
 obtain⟨ks,h1,_,h3,h4,h5,h6,h7⟩:=h;refine⟨ks,h1,h3,h4,h6,h7,λk v=>⟨λhk=> ?_,λ⟨i,e,hi,_,_⟩=>(h5 k v).2 (zaq hi)⟩⟩;obtain⟨i,hi⟩:=zas ((h5 k v).1 hk);have bA:i<es.length:=by have:=(zaa.1 hi).1;omega
 exact⟨i,es[i],hi,zad bA,by simp⟩
def qj(Q:Program)(F:Nat->Prop)(w:World)(G:Nat->Value)(R:List (Nat×En))(kt:TypeId)(ks:List (D×P))(es:List MapEntry)(clock:Nat):Prop:=
 ks.length=es.length/\(∀(i:Nat) (p:D×P) (e:MapEntry),ks[i]?=some p->es[i]?=some e->bH Q kt p.1=true/\p.1.aX=some e.key/\ao F w G R e.val p.2)/\
  (ks.map (·.1)).Nodup/\(∀e∈es,e.born<clock)/\(es.map (·.born)).Nodup
theorem qj.mono{Q:Program}{F F':Nat->Prop}{w w':World}{G G':Nat->Value}{R R':List (Nat×En)}{kt:TypeId}{ks:List (D×P)}{es:List MapEntry}{clock:Nat}(hF: ∀b,F b->F' b)(hw: ∀b,F b->w'.heap[b]?=w.heap[b]?)(hn:Names G G' R R')(h:qj Q F w G R kt ks es clock):qj Q F' w' G' R' kt ks es clock:=
 ⟨h.1,λi p e hp he=>let ⟨a,b,c⟩:=h.2.1 i p e hp he;⟨a,b,c.mono hF hw hn⟩,h.2.2⟩
def gY(Q:Program)(F:Nat->Prop)(w:World)(G:Nat->Value)(R:List (Nat×En))(n:Nat):Obj->Prop
 | .gone=>True
 | .box T ps=> ∃b cs,G n= .pointer (some ⟨b,0,none⟩)/\w.heap[b]?=some (.cells cs T (0,0))/\cs.size=ps.length/\(∀v∈cs.toList,v.oneCell'=true)/\ ∀(i:Nat) (p:P),ps[i]?=some p->ao F w G R (cs.getD i undef) p
 | .arr ty fz es=>(G n= .slice none 0 0/\es=[])\/
  ∃b cap cs k,G n= .slice (some ⟨b,0,none⟩) es.length cap/\w.heap[b]?=some (.cells cs ty (0,0))/\sz Q ty=some k/\0<k/\es.length<=cap/\cap<=maxLen/\cs.size=cap*k/\(fz=true->F b)/\iN F w cs k es
 | .map kt get c fz=> ∃b es clock,G n= .map (some b)/\w.heap[b]?=some (.map es clock)/\gG Q F w kt get c es.toList clock/\(fz=true->F b)
 | .iX=>True
 | .a7 kt ks=> ∃b es clock,G n= .map (some b)/\w.heap[b]?=some (.map es clock)/\qj Q F w G R kt ks es.toList clock
 | .eb kt get c p kd=> ∃b es clock,G n= .map (some b)/\w.heap[b]?=some (.map es clock)/\gG Q F w kt get c es.toList clock/\ ∃(i:Nat) (e:MapEntry),es[i]?=some e/\ao F w G R (.int .i64 (e.born:Int)) p/\kd.aX=some e.key/\(get kd).isSome=true
 | .iter kt _ left cur=> ∃b mo since seen last,G n= .pointer (some ⟨b,0,none⟩)/\w.heap[b]?=some (.mapIter mo since seen last)/\
  ((mo=none/\(∀k,left k=none)/\cur=none)\/ ∃m es,mo=some m/\F m/\w.heap[m]?=some (.map es since)/\last=since/\nG Q F w kt left es.toList since seen/\ ∀k v,cur=some (k,v)-> ∃e∈es.toList,seen.back?=some e.born/\k.aX=some e.key/\az F w e.val v)
def bx(F:Nat->Prop)(w:World)(G:Nat->Value)(R:List (Nat×En))(_tmps:Array Value)(v:Value):P->Prop
 | .when ..=>v=undef
 |p=>ao F w G R v p
theorem bx.of{F:Nat->Prop}{w:World}{G:Nat->Value}{R:List (Nat×En)}{tmps:Array Value}{v:Value}{p:P}(h:ao F w G R v p):bx F w G R tmps v p:=by cases p<;>first |exact h |cases h
theorem bx.mono{F F':Nat->Prop}{w w':World}{G G':Nat->Value}{R R':List (Nat×En)}(hF: ∀b,F b->F' b)(hw: ∀b,F b->w'.heap[b]?=w.heap[b]?)(hn:Names G G' R R')
  {tmps:Array Value} {v:Value} {p:P} (h:bx F w G R tmps v p):bx F' w' G' R' tmps v p:=by
 cases p with
 |when t b q=>exact h
 |_=>exact ao.mono hF hw hn h
structure Tg where
 val:Nat->Value
 w0:World
 lo:Nat
 GC:Bool
instance:CoeFun Tg λ_=>Nat->Value:=⟨Tg.val⟩
def Own(G:Nat->Value)(R:List (Nat×En))(b:Nat):Prop:= ∃n e,lk R n=some e/\aH (G n) e.obj=some b
def dI(T:Tg)(F:Nat->Prop)(G:Nat->Value)(R:List (Nat×En))(w:World)(ds:List Deferred):Prop:=
 ds.Nodup/\ ∀d∈ds,∃D,d={target:= .collected D,args:= #[]}/\(T.lo<=D/\T.GC=true)/\w.heap[D]?=some (.deferred (some []))/\ ¬F D/\ ¬Own G R D
theorem dI.nil{T:Tg}{F:Nat->Prop}{G:Nat->Value}{R:List (Nat×En)}{w:World}:dI T F G R w []:=⟨by simp,λd h=>by cases h⟩
structure ar(Q:Program)(T:Tg)(F:Nat->Prop)(G:Nat->Value)(w:World)(a:Act)(s:S):Prop where
 r4:dI T F G s.rg w a.defers
 size:s.n<=a.tmps.size
 tm: ∀t p,lk s.tm t=some p->bx F w G s.rg a.tmps (a.tmps.getD t undef) p
 rg: ∀n e,lk s.rg n=some e->gY Q F w G s.rg n e.obj
 own: ∀n m e e' b,lk s.rg n=some e->lk s.rg m=some e'->aH (G n) e.obj=some b->aH (G m) e'.obj=some b->n=m
 iO: ∀n e b,lk s.rg n=some e->aH (G n) e.obj=some b-> ¬F b
 gK: ∀b,F b->b<w.heap.size
 tag: ∀n e i,lk s.rg n=some e->e.tag=some i->e.obj.live=true->G n=T i
 z: ∀b,b<T.w0.heap.size->F b/\w.heap[b]?=T.w0.heap[b]?
 dr:T.w0.drawn<=w.drawn
 sz:T.lo<=w.heap.size
structure Ext(own Em F F':Nat->Prop)(w w':World):Prop where
 gZ: ∀b,F b->F' b
 mc: ∀b,F' b->F b\/own b\/w.heap.size<=b
 jU: ∀b,Em b->own b\/w.heap.size<=b
 keep: ∀b,b<w.heap.size-> ¬own b->w'.heap[b]?=w.heap[b]?
 size:w.heap.size<=w'.heap.size
 os:w'.os=w.os
 tape:w'.tape=w.tape
 output:w'.output=w.output
theorem dI.go{T:Tg}{F F':Nat->Prop}{G G':Nat->Value}{R R':List (Nat×En)}{w w':World}{ds:List Deferred}(h:dI T F G R w ds)(hx:Ext (Own G R) (Own G' R') F F' w w'):dI T F' G' R' w' ds:=by
 refine⟨h.1,λd hd=> ?_⟩;obtain⟨D,h1,h0,h2,h3,h4⟩:=h.2 d hd;have bA:D<w.heap.size:=(zan.1 h2).1;refine⟨D,h1,h0,(hx.keep D bA h4).trans h2,λhf=> ?_,λho=> ?_⟩
 ·rcases hx.mc D hf with h |h |h
  ·exact h3 h
  ·exact h4 h
  omega
 rcases hx.jU D ho with h |h
 ·exact h4 h
 omega
theorem dI.qc{T:Tg}{F F':Nat->Prop}{G:Nat->Value}{R R':List (Nat×En)}{w:World}{ds:List Deferred}(h:dI T F G R w ds)(hF: ∀b,F' b->F b\/Own G R b)(hO: ∀b,Own G R' b->Own G R b):dI T F' G R' w ds:=
 ⟨h.1,λd hd=>let ⟨D,h1,h0,h2,h3,h4⟩:=h.2 d hd;⟨D,h1,h0,h2,λhf=>(hF D hf).elim h3 h4,λho=>h4 (hO D ho)⟩⟩
theorem Ext.refl(own F:Nat->Prop)(w:World):Ext own own F F w w:=
 ⟨λ_ h=>h,λ_ h=> .inl h,λ_ h=> .inl h,λ_ _ _=>rfl,zaf _,rfl,rfl,rfl⟩
theorem Ext.trans{o1 o2 o3 F1 F2 F3:Nat->Prop}{w1 w2 w3:World}(h:Ext o1 o2 F1 F2 w1 w2)(k:Ext o2 o3 F2 F3 w2 w3):Ext o1 o3 F1 F3 w1 w3 where
 gZ b hb:=k.gZ b (h.gZ b hb)
 mc b hb:=by
  rcases k.mc b hb with h1 |h1 |h1
  ·exact h.mc b h1
  ·rcases h.jU b h1 with h2 |h2
   ·grind
   grind
  exact .inr (.inr (zaB h.size h1))
 jU b hb:=by
  rcases k.jU b hb with h1 |h1
  ·exact h.jU b h1
  exact .inr (zaB h.size h1)
 keep b hb hn:=by
  have Dz: ¬o2 b:=λh2=>by rcases h.jU b h2 with h3 |h3;exact hn h3;omega
  rw[k.keep b (zbm hb h.size) Dz,h.keep b hb hn]
 size:=zaB h.size k.size
 os:=k.os.trans h.os
 tape:=k.tape.trans h.tape
 output:=k.output.trans h.output
theorem Names.refl(G:Nat->Value)(R:List (Nat×En)):Names G G R R:=⟨λ_ e h=>⟨e,h,zaf _,λ_ h=>h⟩,λ_ _ _ _ _ _ _=>rfl⟩
theorem gY.lt{Q:Program}{F:Nat->Prop}{w:World}{G:Nat->Value}{R:List (Nat×En)}{n:Nat}{o:Obj}(h:gY Q F w G R n o){b:Nat}(hb:aH (G n) o=some b):b<w.heap.size:=by
 cases o with
 |gone=>simp[aH] at hb
 |box T ps=>obtain⟨b',cs,hg,hh,_⟩:=h;grind [aH,au]
 |arr ty fz es=>
  rcases h with⟨hg,_⟩| ⟨b',cap,cs,k,hg,hh,_⟩
  ·simp[aH,hg,au] at hb
  grind [aH,au]
 |map kt get c fz=>obtain⟨b',es,clock,hg,hh,_⟩:=h;grind [aH,au]
 |iter kt vt left cur=>obtain⟨b',mo,since,seen,last,hg,hh,_⟩:=h;grind [aH,au]
 |iX=>simp[aH] at hb
 |eb kt get c p kd=>obtain⟨b',es,clock,hg,hh,_⟩:=h;grind [aH,au]
 |a7 kt ks=>obtain⟨b',es,clock,hg,hh,_⟩:=h;grind [aH,au]
end Pi
