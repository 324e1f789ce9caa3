/- The text PiRep. -/
import Derived.Test.YtngoddkencoalaaGreatDoorPiK
import Derived.Calls
import Derived.Tactics2
import Derived.Laws.AppendOwn
import Derived.Laws.CopyRow
import Derived.Laws.Slices
import Derived.LoopN
namespace Pi
open Go
section
variable{α:Type}
theorem HR(k:Nat)(v:α): ∀(m:List (Nat×α)) (j:Nat),lk (ins k v m) j=if k=j then some v else lk m j
 | [],j=>by by_cases h:k=j<;>simp[ins,lk,h]
 | (i,u)::r,j=>by
  have ih:=HR k v r j;simp only[ins];split
  ·by_cases h:k=j<;>simp[lk,h]
  split
  next h1 h2=>
   have e:k=i:=by simpa using h2
   subst e;by_cases h:k=j<;>simp[lk,h]
  rename_i h1 h2;have e: ¬i=k:=λe=>h2 (by simp[e]);simp only[lk,ih];by_cases h:k=j
  ·subst h;simp[e]
  simp[h]
theorem bC(k:Nat)(v:α)(m:List (Nat×α)):lk (ins k v m) k=some v:=by rw[HR,zao rfl]
theorem bU{k j:Nat}(v:α)(m:List (Nat×α))(h:k≠j):lk (ins k v m) j=lk m j:=by rw[HR,zam h]
end
def Obj.live:Obj->Bool
 | .gone=>false
 |_=>true
inductive a8(F:Nat->Prop)(w:World):Value->D->Prop
 |bool (b:Bool):a8 F w (.bool b) (.bool b)
 |int (k:IntKind) (n:Int):a8 F w (.int k n) (.int k n)
 |str (s:List UInt8):a8 F w (.string ⟨⟨s⟩⟩) (.str s)
 |fP:a8 F w (.slice none 0 0) .fP
 |rh:a8 F w (.pointer none) .rh
 |sg:a8 F w (.map none) .sg
 |BZ:a8 F w .nilFunc .BZ
 |B0:a8 F w .nilIface .B0
 |agg (vs:List Value) (cs:List D) (hl:vs.length=cs.length) (cc: ∀c∈cs,c.bF=true) (hc: ∀(i:Nat) (v:Value) (c:D),vs[i]?=some v->cs[i]?=some c->a8 F w v c):a8 F w (.agg ⟨vs⟩) (.agg cs)
 |Og (a:Option Addr) (k cap:Nat):a8 F w (.slice a 0 cap) (.sl k [])
 |O8 (b off k cap:Nat) (es:List D) (f:Nat->Value) (Cc:es.length<=cap) (hb:F b) (hk: ∀x∈es,x.cells.length=k) (cc: ∀x∈es,∀c∈x.cells,c.bF=true)
  (hw: ∀i,i<es.length*k->w.cell? ⟨b,off+i,none⟩=some (f i)) (hr: ∀(i j:Nat) (x c:D),es[i]?=some x->x.cells[j]?=some c->a8 F w (f (i*k+j)) c):a8 F w (.slice (some ⟨b,off,none⟩) es.length cap) (.sl k es)
theorem AI{w w':World}{b:Nat}(h:w'.heap[b]?=w.heap[b]?)(o:Nat):w'.cell? ⟨b,o,none⟩=w.cell? ⟨b,o,none⟩:=by simp[World.cell?,h]
theorem a8.mono{F F':Nat->Prop}{w w':World}(hF: ∀b,F b->F' b)(hw: ∀b,F b->w'.heap[b]?=w.heap[b]?){v:Value}{x:D}(h:a8 F w v x):a8 F' w' v x:=by
 induction h with
 |agg vs cs hl cc _ ih=>exact .agg vs cs hl cc ih
 |O8 b off k cap es f Cc hb hk cc hc _ ih=>exact .O8 b off k cap es f Cc (hF _ hb) hk cc (λi hi=>(AI (hw b hb) _).trans (hc i hi)) ih
 |_=>constructor
theorem a8.gw{F:Nat->Prop}{w:World}{v:Value}{x:D}(h:a8 F w v x){u:Value}(hu:x.gw=some u):v=u:=by cases h<;>simp_all [D.gw]
theorem a8.c8{F:Nat->Prop}{w:World}: ∀(cs:List D) (us vs:List Value),D.c8 cs=some us->vs.length=cs.length->(∀(i:Nat) (v:Value) (c:D),vs[i]?=some v->cs[i]?=some c->a8 F w v c)->vs=us
 | [],us,vs,h,hl,_=>by simp[D.c8] at h;subst h;simpa using hl
 |c::cs,us,vs,h,hl,hc=>by
  cases vs with
  |nil=>simp at hl
  |cons v vs=>
   simp only[D.c8] at h;cases h1:c.gw with
   |none=>simp[h1] at h
   |some u1=>
    cases h2:D.c8 cs with
    |none=>simp[h1,h2] at h
    |some us2=>simp[h1,h2] at h;subst h;have e1:=(hc 0 v c (by simp) (by simp)).gw h1;have e2:=a8.c8 cs us2 vs h2 (by simpa using hl) (λi v c hv jI=>hc (i+1) v c (by simpa using hv) (by simpa using jI));rw[e1,e2]
theorem a8.cA{F:Nat->Prop}{w:World}{v:Value}{x:D}(h:a8 F w v x){u:Value}(hu:x.cA=some u):v=u:=by
 cases x with
 |agg cs=>
  cases h with
  |agg vs _ hl _ hc=>
   simp only[D.cA] at hu;cases h2:D.c8 cs with
   |none=>simp[h2] at hu
   |some us=>simp[h2] at hu;rw[<-hu,a8.c8 cs us vs h2 hl hc]
 |_=>exact h.gw hu
theorem a8.l5(F:Nat->Prop)(w:World){v:Value}{x:D}(h:D.l5 v=some x):a8 F w v x:=by
 unfold D.l5 at h;split at h<;>simp at h<;>subst h
 case h_3 s=>cases s with |mk a=>cases a with |mk l=>exact .str l
 all_goals constructor
theorem D.L0{v:Value}{x:D}(h:D.l5 v=some x):x.bF=true:=by unfold D.l5 at h;split at h<;>simp at h<;>subst h<;>rfl
theorem a8.B1(F:Nat->Prop)(w:World): ∀(vs:List Value) (xs:List D),D.B1 vs=some xs->vs.length=xs.length/\(∀c∈xs,c.bF=true)/\ ∀(i:Nat) (v:Value) (c:D),vs[i]?=some v->xs[i]?=some c->a8 F w v c
 | [],xs,h=>by simp[D.B1] at h;subst h;simp
 |v::vs,xs,h=>by
  simp only[D.B1] at h;cases h1:D.l5 v with
  |none=>simp[h1] at h
  |some x1=>
   cases h2:D.B1 vs with
   |none=>simp[h1,h2] at h
   |some xs2=>
    simp[h1,h2] at h;subst h;obtain⟨e1,e2,e3⟩:=a8.B1 F w vs xs2 h2;refine⟨by simp[e1],?_,?_⟩
    ·intro c hc;rcases zav.1 hc with rfl |hc
     ·exact D.L0 h1
     exact e2 c hc
    intro i u c hu jI;cases i with
    |zero=>simp at hu jI;subst hu;subst jI;exact a8.l5 F w h1
    |succ i=>exact e3 i u c (by simpa using hu) (by simpa using jI)
theorem a8.tM(F:Nat->Prop)(w:World){v:Value}{x:D}(h:D.tM v=some x):a8 F w v x:=by
 unfold D.tM at h;split at h
 next cs=>
  split at h
  next xs VY=>simp at h;subst h;obtain⟨e1,e2,e3⟩:=a8.B1 F w cs.toList xs VY;have:=a8.agg (F:=F) (w:=w) cs.toList xs e1 e2 e3;simpa using this
  cases h
 exact a8.l5 F w h
theorem a8.nA{F:Nat->Prop}{w:World}{v:Value}{x:D}(h:a8 F w v x)(hx:x.bF=true):v.oneCell'=true:=by cases h<;>simp_all [D.bF,Value.oneCell']
theorem a8.bF{F:Nat->Prop}{w:World}{v:Value}{x:D}(h:a8 F w v x)(hv:v.oneCell'=true):x.bF=true:=by cases h<;>simp_all [D.bF,Value.oneCell']
def ez(R:List (Nat×En))(n aY:Nat)(C:Prop):Prop:= ∃e,lk R n=some e/\aY<=e.aY/\(aY=e.aY->e.obj.live=true->C)
inductive aF(F:Nat->Prop)(w:World)(G:Nat->Value)(R:List (Nat×En)):Value->P->Prop
 |d {v:Value} {x:D} (h:a8 F w v x):aF F w G R v (.d x)
 |agg (vs:List Value) (ps:List P) (hl:vs.length=ps.length) (im: ∀v∈vs,v.oneCell'=true) (hc: ∀(i:Nat) (v:Value) (c:P),vs[i]?=some v->ps[i]?=some c->aF F w G R v c):aF F w G R (.agg ⟨vs⟩) (.agg ps)
 |cX (vs:List Value) (ps:List P) (hl:vs.length=ps.length) (hc: ∀(i:Nat) (v:Value) (c:P),vs[i]?=some v->ps[i]?=some c->aF F w G R v c):aF F w G R (.tuple ⟨vs⟩) (.cX ps)
 |ref (n aY off:Nat) (v:Value) (h:ez R n aY (∃b,G n= .pointer (some ⟨b,0,none⟩)/\v= .pointer (some ⟨b,off,none⟩))) (h1:v.oneCell'=true):aF F w G R v (.ref n aY off)
 |dz (n aY i k off:Nat) (v:Value) (h1:v.oneCell'=true) (h:ez R n aY (∃b N cap,G n= .slice (some ⟨b,0,none⟩) N cap/\v= .pointer (some ⟨b,i*k+off,none⟩))):aF F w G R v (.dz n aY i k off)
 |e8 (x:D) (off b o:Nat) (hb:F b) (cc: ∀c∈x.cells,c.bF=true) (f:Nat->Value) (hw: ∀j,j<x.cells.length->w.cell? ⟨b,o+j,none⟩=some (f j)) (hr: ∀(j:Nat) (c:D),x.cells[j]?=some c->a8 F w (f j) c):aF F w G R (.pointer (some ⟨b,o+off,none⟩)) (.e8 x off)
 |sl (n aY len:Nat) (v:Value) (h1:v.oneCell'=true) (h:ez R n aY (∃a N cap,G n= .slice a N cap/\v= .slice a len cap/\len<=N)):aF F w G R v (.sl n aY len)
 |lG (n aY k off len:Nat) (v:Value) (h1:v.oneCell'=true) (h:ez R n aY (∃a N cap,G n= .slice a N cap/\off+len<=N/\ ∃a' iK,v= .slice a' len iK/\len<=iK/\(len=0\/ ∃b,a=some ⟨b,0,none⟩/\a'=some ⟨b,off*k,none⟩))):aF F w G R v (.lG n aY k off len)
 |mp (n aY:Nat) (v:Value) (h1:v.oneCell'=true) (h:ez R n aY (v=G n)):aF F w G R v (.mp n aY)
 |fn (f:FuncId) (vs:List Value) (cI:List P) (hl:vs.length=cI.length) (hc: ∀(i:Nat) (v:Value) (c:P),vs[i]?=some v->cI[i]?=some c->aF F w G R v c):aF F w G R (.func (.func f) #[] ⟨vs⟩) (.fn f cI)
 |bad (v:Value):aF F w G R v .bad
theorem ez.mono{R R':List (Nat×En)}{n aY:Nat}{C C':Prop}(hC:C->C')(hR: ∀e,lk R n=some e-> ∃e',lk R' n=some e'/\e.aY<=e'.aY/\(e.aY=e'.aY->e'.obj.live=true->e.obj.live=true))(h:ez R n aY C):ez R' n aY C':=by obtain⟨e,he,hv,hc⟩:=h;obtain⟨e',cK,Kb,hl⟩:=hR e he;refine⟨e',cK,zaI hv Kb,λh1 h2=>hC (hc (by omega) (hl (by omega) h2))⟩
structure Names(G G':Nat->Value)(R R':List (Nat×En)):Prop where
 on: ∀n e,lk R n=some e-> ∃e',lk R' n=some e'/\e.aY<=e'.aY/\(e.aY=e'.aY->e'.obj.live=true->e.obj.live=true)
 same: ∀n e e',lk R n=some e->lk R' n=some e'->e.aY=e'.aY->e'.obj.live=true->G' n=G n
theorem ez.go{G G':Nat->Value}{R R':List (Nat×En)}(hn:Names G G' R R'){n aY:Nat}{C:(Value->Prop)}(h:ez R n aY (C (G n))):ez R' n aY (C (G' n)):=by
 obtain⟨e,he,hv,hc⟩:=h;obtain⟨e',cK,Kb,hl⟩:=hn.on n e he;refine⟨e',cK,zaI hv Kb,λh1 h2=> ?_⟩;have e0:e.aY=e'.aY:=by omega
 rw[hn.same n e e' he cK e0 h2];exact hc (by omega) (hl e0 h2)
theorem aF.mono{F F':Nat->Prop}{w w':World}{G G':Nat->Value}{R R':List (Nat×En)}(hF: ∀b,F b->F' b)(hw: ∀b,F b->w'.heap[b]?=w.heap[b]?)(hn:Names G G' R R')
  {v:Value} {p:P} (h:aF F w G R v p):aF F' w' G' R' v p:=by
 induction h with
 |d h=>exact .d (h.mono hF hw)
 |agg vs ps hl cc _ ih=>exact .agg vs ps hl cc ih
 |cX vs ps hl _ ih=>exact .cX vs ps hl ih
 |ref n aY off v h h1=>exact .ref n aY off v (ez.go (C:=λg=> ∃b,g= .pointer (some ⟨b,0,none⟩)/\v= .pointer (some ⟨b,off,none⟩)) hn h) h1
 |dz n aY i k off v h1 h=>exact .dz n aY i k off v h1 (ez.go (C:=λg=> ∃b N cap,g= .slice (some ⟨b,0,none⟩) N cap/\v= .pointer (some ⟨b,i*k+off,none⟩)) hn h)
 |e8 x off b o hb cc f hc hr=>exact .e8 x off b o (hF _ hb) cc f (λj hj=>(AI (hw b hb) _).trans (hc j hj)) (λj c hj=>(hr j c hj).mono hF hw)
 |sl n aY len v h1 h=>exact .sl n aY len v h1 (ez.go (C:=λg=> ∃a N cap,g= .slice a N cap/\v= .slice a len cap/\len<=N) hn h)
 |lG n aY k off len v h1 h=>exact .lG n aY k off len v h1 (ez.go (C:=λg=> ∃a N cap,g= .slice a N cap/\off+len<=N/\ ∃a' iK,v= .slice a' len iK/\len<=iK/\(len=0\/ ∃b,a=some ⟨b,0,none⟩/\a'=some ⟨b,off*k,none⟩)) hn h)
 |mp n aY v h1 h=>exact .mp n aY v h1 (ez.go (C:=λg=>v=g) hn h)
 |fn f vs cI hl _ ih=>exact .fn f vs cI hl ih
 |bad v=>exact .bad v
theorem aF.nA{F:Nat->Prop}{w:World}{G:Nat->Value}{R:List (Nat×En)}{v:Value}{p:P}(h:aF F w G R v p)(hp:p.bF=true):v.oneCell'=true:=by
 cases h<;>try simp_all [P.bF]
 case d x h=>exact h.nA hp
 all_goals simp[Value.oneCell']
def aR:Value->Option Nat
 | .pointer (some a)=>some a.block
 | .slice (some a) _ _=>some a.block
 | .map r=>r
 |_=>none
def bH(g:Value):Obj->Option Nat
 | .gone=>none
 | .box _ _=>aR g
 | .arr _ fz _=>if fz then none else aR g
 | .map _ _ _ fz=>if fz then none else aR g
 | .iter ..=>aR g
 | .ew=>none
 | .j7 ..=>aR g
def mG(F:Nat->Prop)(w:World)(cs:Array Value)(k:Nat)(es:List D):Prop:=
 ∀(i:Nat) (x:D),es[i]?=some x->x.cells.length=k/\(∀c∈x.cells,c.bF=true)/\ ∀(j:Nat) (c:D),x.cells[j]?=some c->a8 F w (cs.getD (i*k+j) undef) c
def oA(Q:Program)(F:Nat->Prop)(w:World)(kt:TypeId)(get:D->Option D)(n:Int)(es:List MapEntry)(clock:Nat):Prop:=
 ∃ks:List (D×D),ks.length=es.length/\n=(es.length:Int)/\(∀(i:Nat) (p:D×D) (e:MapEntry),ks[i]?=some p->es[i]?=some e->fQ Q kt p.1=true/\p.1.cA=some e.key/\a8 F w e.val p.2)/\
  (ks.map (·.1)).Nodup/\(∀k v,get k=some v↔(k,v)∈ks)/\(∀e∈es,e.born<clock)/\(es.map (·.born)).Nodup
theorem oA.mono{Q:Program}{F F':Nat->Prop}{w w':World}{kt:TypeId}{get:D->Option D}{n:Int}{es:List MapEntry}{clock:Nat}(hF: ∀b,F b->F' b)(hw: ∀b,F b->w'.heap[b]?=w.heap[b]?)(h:oA Q F w kt get n es clock):oA Q F' w' kt get n es clock:=by obtain⟨ks,h1,h2,h3,h4,h5,h6,h7⟩:=h;exact⟨ks,h1,h2,λi p e hp he=>let ⟨a,b,c⟩:=h3 i p e hp he;⟨a,b,c.mono hF hw⟩,h4,h5,h6,h7⟩
def zL(Q:Program)(F:Nat->Prop)(w:World)(kt:TypeId)(left:D->Option D)(es:List MapEntry)(clock:Nat)(seen:Array Nat):Prop:=
 ∃ks:List (D×D),ks.length=es.length/\(∀(i:Nat) (p:D×D) (e:MapEntry),ks[i]?=some p->es[i]?=some e->fQ Q kt p.1=true/\p.1.cA=some e.key/\a8 F w e.val p.2)/\
  (ks.map (·.1)).Nodup/\(∀e∈es,e.born<clock)/\(es.map (·.born)).Nodup/\ ∀k v,left k=some v↔ ∃(i:Nat) (e:MapEntry),ks[i]?=some (k,v)/\es[i]?=some e/\seen.contains e.born=false
theorem zL.mono{Q:Program}{F F':Nat->Prop}{w w':World}{kt:TypeId}{left:D->Option D}{es:List MapEntry}{clock:Nat}{seen:Array Nat}(hF: ∀b,F b->F' b)(hw: ∀b,F b->w'.heap[b]?=w.heap[b]?)(h:zL Q F w kt left es clock seen):zL Q F' w' kt left es clock seen:=by obtain⟨ks,h1,h3,h4,h5,h6,h7⟩:=h;exact⟨ks,h1,λi p e hp he=>let ⟨a,b,c⟩:=h3 i p e hp he;⟨a,b,c.mono hF hw⟩,h4,h5,h6,h7⟩
theorem oA.iter{Q:Program}{F:Nat->Prop}{w:World}{kt:TypeId}{get:D->Option D}{n:Int}{es:List MapEntry}{clock:Nat}(h:oA Q F w kt get n es clock):zL Q F w kt get es clock #[]:=by
 obtain⟨ks,h1,_,h3,h4,h5,h6,h7⟩:=h;refine⟨ks,h1,h3,h4,h6,h7,λk v=>⟨λhk=> ?_,λ⟨i,e,hi,_,_⟩=>(h5 k v).2 (zaC hi)⟩⟩;obtain⟨i,hi⟩:=zaS ((h5 k v).1 hk);have bI:i<es.length:=by have:=(zad.1 hi).1;omega
 exact⟨i,es[i],hi,zae bI,by simp⟩
def oB(Q:Program)(F:Nat->Prop)(w:World)(G:Nat->Value)(R:List (Nat×En))(n:Nat):Obj->Prop
 | .gone=>True
 | .box T ps=> ∃b cs,G n= .pointer (some ⟨b,0,none⟩)/\w.heap[b]?=some (.cells cs T (0,0))/\cs.size=ps.length/\(∀v∈cs.toList,v.oneCell'=true)/\ ∀(i:Nat) (p:P),ps[i]?=some p->aF F w G R (cs.getD i undef) p
 | .arr ty fz es=>(G n= .slice none 0 0/\es=[])\/
  ∃b cap cs k,G n= .slice (some ⟨b,0,none⟩) es.length cap/\w.heap[b]?=some (.cells cs ty (0,0))/\sz Q ty=some k/\0<k/\es.length<=cap/\cap<=maxLen/\cs.size=cap*k/\(fz=true->F b)/\mG F w cs k es
 | .map kt get c fz=> ∃b es clock,G n= .map (some b)/\w.heap[b]?=some (.map es clock)/\oA Q F w kt get c es.toList clock/\(fz=true->F b)
 | .ew=>True
 | .j7 kt get c p kd=> ∃b es clock,G n= .map (some b)/\w.heap[b]?=some (.map es clock)/\oA Q F w kt get c es.toList clock/\ ∃(i:Nat) (e:MapEntry),es[i]?=some e/\aF F w G R (.int .i64 (e.born:Int)) p/\kd.cA=some e.key/\(get kd).isSome=true
 | .iter kt _ left cur=> ∃b mo since seen last,G n= .pointer (some ⟨b,0,none⟩)/\w.heap[b]?=some (.mapIter mo since seen last)/\
  ((mo=none/\(∀k,left k=none)/\cur=none)\/ ∃m es,mo=some m/\F m/\w.heap[m]?=some (.map es since)/\last=since/\zL Q F w kt left es.toList since seen/\ ∀k v,cur=some (k,v)-> ∃e∈es.toList,seen.back?=some e.born/\k.cA=some e.key/\a8 F w e.val v)
def cx(F:Nat->Prop)(w:World)(G:Nat->Value)(R:List (Nat×En))(_tmps:Array Value)(v:Value):P->Prop
 | .when ..=>v=undef
 |p=>aF F w G R v p
theorem cx.of{F:Nat->Prop}{w:World}{G:Nat->Value}{R:List (Nat×En)}{tmps:Array Value}{v:Value}{p:P}(h:aF F w G R v p):cx F w G R tmps v p:=by cases p<;>first |exact h |cases h
theorem cx.mono{F F':Nat->Prop}{w w':World}{G G':Nat->Value}{R R':List (Nat×En)}(hF: ∀b,F b->F' b)(hw: ∀b,F b->w'.heap[b]?=w.heap[b]?)(hn:Names G G' R R')
  {tmps:Array Value} {v:Value} {p:P} (h:cx F w G R tmps v p):cx F' w' G' R' tmps v p:=by
 cases p with
 |when t b q=>exact h
 |_=>exact aF.mono hF hw hn h
structure Tg where
 val:Nat->Value
 w0:World
 lo:Nat
 O9:Bool
instance:CoeFun Tg λ_=>Nat->Value:=⟨Tg.val⟩
def Own(G:Nat->Value)(R:List (Nat×En))(b:Nat):Prop:= ∃n e,lk R n=some e/\bH (G n) e.obj=some b
def jd(T:Tg)(F:Nat->Prop)(G:Nat->Value)(R:List (Nat×En))(w:World)(ds:List Deferred):Prop:=
 ds.Nodup/\ ∀d∈ds,∃D,d={target:= .collected D,args:= #[]}/\(T.lo<=D/\T.O9=true)/\w.heap[D]?=some (.deferred (some []))/\ ¬F D/\ ¬Own G R D
theorem jd.nil{T:Tg}{F:Nat->Prop}{G:Nat->Value}{R:List (Nat×En)}{w:World}:jd T F G R w []:=⟨by simp,λd h=>by cases h⟩
structure aD(Q:Program)(T:Tg)(F:Nat->Prop)(G:Nat->Value)(w:World)(a:Act)(s:S):Prop where
 rp:jd T F G s.rg w a.defers
 size:s.n<=a.tmps.size
 tm: ∀t p,lk s.tm t=some p->cx F w G s.rg a.tmps (a.tmps.getD t undef) p
 rg: ∀n e,lk s.rg n=some e->oB Q F w G s.rg n e.obj
 own: ∀n m e e' b,lk s.rg n=some e->lk s.rg m=some e'->bH (G n) e.obj=some b->bH (G m) e'.obj=some b->n=m
 my: ∀n e b,lk s.rg n=some e->bH (G n) e.obj=some b-> ¬F b
 ji: ∀b,F b->b<w.heap.size
 tag: ∀n e i,lk s.rg n=some e->e.tag=some i->e.obj.live=true->G n=T i
 z: ∀b,b<T.w0.heap.size->F b/\w.heap[b]?=T.w0.heap[b]?
 dr:T.w0.drawn<=w.drawn
 sz:T.lo<=w.heap.size
structure Ext(own qhC F F':Nat->Prop)(w w':World):Prop where
 kN: ∀b,F b->F' b
 mH: ∀b,F' b->F b\/own b\/w.heap.size<=b
 lH: ∀b,qhC b->own b\/w.heap.size<=b
 keep: ∀b,b<w.heap.size-> ¬own b->w'.heap[b]?=w.heap[b]?
 size:w.heap.size<=w'.heap.size
 os:w'.os=w.os
 tape:w'.tape=w.tape
 output:w'.output=w.output
theorem jd.go{T:Tg}{F F':Nat->Prop}{G G':Nat->Value}{R R':List (Nat×En)}{w w':World}{ds:List Deferred}(h:jd T F G R w ds)(hx:Ext (Own G R) (Own G' R') F F' w w'):jd T F' G' R' w' ds:=by
 refine⟨h.1,λd hd=> ?_⟩;obtain⟨D,h1,h0,h2,h3,h4⟩:=h.2 d hd;have bI:D<w.heap.size:=(zar.1 h2).1;refine⟨D,h1,h0,(hx.keep D bI h4).trans h2,λhf=> ?_,λho=> ?_⟩
 ·rcases hx.mH D hf with h |h |h
  ·exact h3 h
  ·exact h4 h
  omega
 rcases hx.lH D ho with h |h
 ·exact h4 h
 omega
theorem jd.DV{T:Tg}{F F':Nat->Prop}{G:Nat->Value}{R R':List (Nat×En)}{w:World}{ds:List Deferred}(h:jd T F G R w ds)(hF: ∀b,F' b->F b\/Own G R b)(hO: ∀b,Own G R' b->Own G R b):jd T F' G R' w ds:=
 ⟨h.1,λd hd=>let ⟨D,h1,h0,h2,h3,h4⟩:=h.2 d hd;⟨D,h1,h0,h2,λhf=>(hF D hf).elim h3 h4,λho=>h4 (hO D ho)⟩⟩
theorem Ext.refl(own F:Nat->Prop)(w:World):Ext own own F F w w:=
 ⟨λ_ h=>h,λ_ h=> .inl h,λ_ h=> .inl h,λ_ _ _=>rfl,zaj _,rfl,rfl,rfl⟩
theorem Ext.trans{o1 o2 o3 F1 F2 F3:Nat->Prop}{w1 w2 w3:World}(h:Ext o1 o2 F1 F2 w1 w2)(k:Ext o2 o3 F2 F3 w2 w3):Ext o1 o3 F1 F3 w1 w3 where
 kN b hb:=k.kN b (h.kN b hb)
 mH b hb:=by
  rcases k.mH b hb with h1 |h1 |h1
  ·exact h.mH b h1
  ·rcases h.lH b h1 with h2 |h2
   ·exact .inr (.inl h2)
   exact .inr (.inr h2)
  exact .inr (.inr (zaI h.size h1))
 lH b hb:=by
  rcases k.lH b hb with h1 |h1
  ·exact h.lH b h1
  exact .inr (zaI h.size h1)
 keep b hb hn:=by
  have Va: ¬o2 b:=λh2=>by rcases h.lH b h2 with h3 |h3;exact hn h3;omega
  rw[k.keep b (za4 hb h.size) Va,h.keep b hb hn]
 size:=zaI h.size k.size
 os:=k.os.trans h.os
 tape:=k.tape.trans h.tape
 output:=k.output.trans h.output
theorem Names.refl(G:Nat->Value)(R:List (Nat×En)):Names G G R R:=⟨λ_ e h=>⟨e,h,zaj _,λ_ h=>h⟩,λ_ _ _ _ _ _ _=>rfl⟩
theorem oB.lt{Q:Program}{F:Nat->Prop}{w:World}{G:Nat->Value}{R:List (Nat×En)}{n:Nat}{o:Obj}(h:oB Q F w G R n o){b:Nat}(hb:bH (G n) o=some b):b<w.heap.size:=by
 cases o with
 |gone=>simp[bH] at hb
 |box T ps=>obtain⟨b',cs,hg,hh,_⟩:=h;simp[bH,hg,aR] at hb;subst hb;exact(zar.1 hh).1
 |arr ty fz es=>
  rcases h with⟨hg,_⟩| ⟨b',cap,cs,k,hg,hh,_⟩
  ·simp[bH,hg,aR] at hb
  simp[bH,hg,aR] at hb;obtain⟨_,rfl⟩:=hb;exact(zar.1 hh).1
 |map kt get c fz=>obtain⟨b',es,clock,hg,hh,_⟩:=h;simp[bH,hg,aR] at hb;obtain⟨_,rfl⟩:=hb;exact(zar.1 hh).1
 |iter kt vt left cur=>obtain⟨b',mo,since,seen,last,hg,hh,_⟩:=h;simp[bH,hg,aR] at hb;subst hb;exact(zar.1 hh).1
 |ew=>simp[bH] at hb
 |j7 kt get c p kd=>obtain⟨b',es,clock,hg,hh,_⟩:=h;simp[bH,hg,aR] at hb;subst hb;exact(zar.1 hh).1
theorem aD.mI{Q:Program}{T:Tg}{F:Nat->Prop}{G:Nat->Value}{w:World}{a:Act}{s:S}(h:aD Q T F G w a s){b:Nat}(hb:Own G s.rg b):b<w.heap.size:=by obtain⟨n,e,he,hb⟩:=hb;exact(h.rg n e he).lt hb
end Pi
