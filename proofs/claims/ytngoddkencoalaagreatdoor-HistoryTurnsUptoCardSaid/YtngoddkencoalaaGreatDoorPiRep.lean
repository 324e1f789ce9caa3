/- The text PiRep. -/
import Derived.Test.YtngoddkencoalaaGreatDoorPiK
import Derived.Calls
import Derived.Tactics2
import Derived.Laws.AppendOwn
import Derived.Laws.CopyRow
import Derived.Laws.Slices
import Derived.LoopN
namespace Pi
open Go
section
variable{α:Type}
theorem J3(k:Nat)(v:α): ∀(m:List (Nat×α)) (j:Nat),lk (ins k v m) j=if k=j then some v else lk m j
 | [],j=>by by_cases h:k=j<;>simp[ins,lk,h]
 | (i,u)::r,j=>by
  have ih:=J3 k v r j;simp only[ins];split
  ·by_cases h:k=j<;>simp[lk,h]
  split
  next h1 h2=>
   have e:k=i:=by simpa using h2
   subst e;by_cases h:k=j<;>simp[lk,h]
  rename_i h1 h2;have e: ¬i=k:=λe=>h2 (by simp[e]);simp only[lk,ih];by_cases h:k=j
  ·subst h;simp[e]
  simp[h]
theorem bC(k:Nat)(v:α)(m:List (Nat×α)):lk (ins k v m) k=some v:=by rw[J3,zap rfl]
theorem b8{k j:Nat}(v:α)(m:List (Nat×α))(h:k≠j):lk (ins k v m) j=lk m j:=by rw[J3,zan h]
end
def Obj.live:Obj->Bool
 | .gone=>false
 |_=>true
inductive aS(F:Nat->Prop)(w:World):Value->D->Prop
 |bool (b:Bool):aS F w (.bool b) (.bool b)
 |int (k:IntKind) (n:Int):aS F w (.int k n) (.int k n)
 |str (s:List UInt8):aS F w (.string ⟨⟨s⟩⟩) (.str s)
 |fk:aS F w (.slice none 0 0) .fk
 |p9:aS F w (.pointer none) .p9
 |rp:aS F w (.map none) .rp
 |yq:aS F w .nilFunc .yq
 |yr:aS F w .nilIface .yr
 |agg (vs:List Value) (cs:List D) (hl:vs.length=cs.length) (bR: ∀c∈cs,c.bA=true) (hc: ∀(i:Nat) (v:Value) (c:D),vs[i]?=some v->cs[i]?=some c->aS F w v c):aS F w (.agg ⟨vs⟩) (.agg cs)
 |J4 (a:Option Addr) (k cap:Nat):aS F w (.slice a 0 cap) (.sl k [])
 |Ml (b off k cap:Nat) (es:List D) (f:Nat->Value) (xf:es.length<=cap) (hb:F b) (hk: ∀x∈es,x.cells.length=k) (bR: ∀x∈es,∀c∈x.cells,c.bA=true)
  (hw: ∀i,i<es.length*k->w.cell? ⟨b,off+i,none⟩=some (f i)) (hr: ∀(i j:Nat) (x c:D),es[i]?=some x->x.cells[j]?=some c->aS F w (f (i*k+j)) c):aS F w (.slice (some ⟨b,off,none⟩) es.length cap) (.sl k es)
theorem Cl{w w':World}{b:Nat}(h:w'.heap[b]?=w.heap[b]?)(o:Nat):w'.cell? ⟨b,o,none⟩=w.cell? ⟨b,o,none⟩:=by simp[World.cell?,h]
theorem aS.mono{F F':Nat->Prop}{w w':World}(hF: ∀b,F b->F' b)(hw: ∀b,F b->w'.heap[b]?=w.heap[b]?){v:Value}{x:D}(h:aS F w v x):aS F' w' v x:=by
 induction h with
 |agg vs cs hl bR _ ih=>exact .agg vs cs hl bR ih
 |Ml b off k cap es f xf hb hk bR hc _ ih=>exact .Ml b off k cap es f xf (hF _ hb) hk bR (λi hi=>(Cl (hw b hb) _).trans (hc i hi)) ih
 |_=>constructor
theorem aS.gj{F:Nat->Prop}{w:World}{v:Value}{x:D}(h:aS F w v x){u:Value}(hu:x.gj=some u):v=u:=by cases h<;>simp_all [D.gj]
theorem aS.df{F:Nat->Prop}{w:World}: ∀(cs:List D) (us vs:List Value),D.df cs=some us->vs.length=cs.length->(∀(i:Nat) (v:Value) (c:D),vs[i]?=some v->cs[i]?=some c->aS F w v c)->vs=us
 | [],us,vs,h,hl,_=>by grind [D.df]
 |c::cs,us,vs,h,hl,hc=>by
  cases vs with
  |nil=>simp at hl
  |cons v vs=>
   simp only[D.df] at h;cases h1:c.gj with
   |none=>grind
   |some u1=>
    cases h2:D.df cs with
    |none=>grind
    |some us2=>simp[h1,h2] at h;subst h;have e1:=(hc 0 v c (by simp) (by simp)).gj h1;have e2:=aS.df cs us2 vs h2 (by grind) (λi v c hv l7=>hc (i+1) v c (by grind) (by grind));rw[e1,e2]
theorem aS.cF{F:Nat->Prop}{w:World}{v:Value}{x:D}(h:aS F w v x){u:Value}(hu:x.cF=some u):v=u:=by
 cases x with
 |agg cs=>
  cases h with
  |agg vs _ hl _ hc=>
   simp only[D.cF] at hu;cases h2:D.df cs with
   |none=>grind
   |some us=>simp[h2] at hu;rw[<-hu,aS.df cs us vs h2 hl hc]
 |_=>exact h.gj hu
theorem aS.mO(F:Nat->Prop)(w:World){v:Value}{x:D}(h:D.mO v=some x):aS F w v x:=by
 unfold D.mO at h;split at h<;>simp at h<;>subst h
 case h_3 s=>cases s with |mk a=>cases a with |mk l=>exact .str l
 all_goals constructor
theorem D.Ot{v:Value}{x:D}(h:D.mO v=some x):x.bA=true:=by unfold D.mO at h;split at h<;>simp at h<;>subst h<;>rfl
theorem aS.DH(F:Nat->Prop)(w:World): ∀(vs:List Value) (xs:List D),D.DH vs=some xs->vs.length=xs.length/\(∀c∈xs,c.bA=true)/\ ∀(i:Nat) (v:Value) (c:D),vs[i]?=some v->xs[i]?=some c->aS F w v c
 | [],xs,h=>by grind [D.DH]
 |v::vs,xs,h=>by
  simp only[D.DH] at h;cases h1:D.mO v with
  |none=>grind
  |some x1=>
   cases h2:D.DH vs with
   |none=>grind
   |some xs2=>obtain⟨e1,e2,e3⟩:=aS.DH F w vs xs2 h2;grind [D.Ot,aS.mO]
theorem aS.vi(F:Nat->Prop)(w:World){v:Value}{x:D}(h:D.vi v=some x):aS F w v x:=by
 unfold D.vi at h;split at h
 next cs=>
  split at h
  next xs YU=>simp at h;subst h;obtain⟨e1,e2,e3⟩:=aS.DH F w cs.toList xs YU;have:=aS.agg (F:=F) (w:=w) cs.toList xs e1 e2 e3;omega
  cases h
 exact aS.mO F w h
theorem aS.oD{F:Nat->Prop}{w:World}{v:Value}{x:D}(h:aS F w v x)(hx:x.bA=true):v.oneCell'=true:=by cases h<;>simp_all [D.bA,Value.oneCell']
theorem aS.bA{F:Nat->Prop}{w:World}{v:Value}{x:D}(h:aS F w v x)(hv:v.oneCell'=true):x.bA=true:=by cases h<;>simp_all [D.bA,Value.oneCell']
def eA(R:List (Nat×En))(n aV:Nat)(C:Prop):Prop:= ∃e,lk R n=some e/\aV<=e.aV/\(aV=e.aV->e.obj.live=true->C)
inductive aH(F:Nat->Prop)(w:World)(G:Nat->Value)(R:List (Nat×En)):Value->P->Prop
 |d {v:Value} {x:D} (h:aS F w v x):aH F w G R v (.d x)
 |agg (vs:List Value) (ps:List P) (hl:vs.length=ps.length) (iF: ∀v∈vs,v.oneCell'=true) (hc: ∀(i:Nat) (v:Value) (c:P),vs[i]?=some v->ps[i]?=some c->aH F w G R v c):aH F w G R (.agg ⟨vs⟩) (.agg ps)
 |cH (vs:List Value) (ps:List P) (hl:vs.length=ps.length) (hc: ∀(i:Nat) (v:Value) (c:P),vs[i]?=some v->ps[i]?=some c->aH F w G R v c):aH F w G R (.tuple ⟨vs⟩) (.cH ps)
 |ref (n aV off:Nat) (v:Value) (h:eA R n aV (∃b,G n= .pointer (some ⟨b,0,none⟩)/\v= .pointer (some ⟨b,off,none⟩))) (h1:v.oneCell'=true):aH F w G R v (.ref n aV off)
 |dD (n aV i k off:Nat) (v:Value) (h1:v.oneCell'=true) (h:eA R n aV (∃b N cap,G n= .slice (some ⟨b,0,none⟩) N cap/\v= .pointer (some ⟨b,i*k+off,none⟩))):aH F w G R v (.dD n aV i k off)
 |fe (x:D) (off b o:Nat) (hb:F b) (bR: ∀c∈x.cells,c.bA=true) (f:Nat->Value) (hw: ∀j,j<x.cells.length->w.cell? ⟨b,o+j,none⟩=some (f j)) (hr: ∀(j:Nat) (c:D),x.cells[j]?=some c->aS F w (f j) c):aH F w G R (.pointer (some ⟨b,o+off,none⟩)) (.fe x off)
 |sl (n aV len:Nat) (v:Value) (h1:v.oneCell'=true) (h:eA R n aV (∃a N cap,G n= .slice a N cap/\v= .slice a len cap/\len<=N)):aH F w G R v (.sl n aV len)
 |mb (n aV k off len:Nat) (v:Value) (h1:v.oneCell'=true) (h:eA R n aV (∃a N cap,G n= .slice a N cap/\off+len<=N/\ ∃a' iX,v= .slice a' len iX/\len<=iX/\(len=0\/ ∃b,a=some ⟨b,0,none⟩/\a'=some ⟨b,off*k,none⟩))):aH F w G R v (.mb n aV k off len)
 |mp (n aV:Nat) (v:Value) (h1:v.oneCell'=true) (h:eA R n aV (v=G n)):aH F w G R v (.mp n aV)
 |fn (f:FuncId) (vs:List Value) (cQ:List P) (hl:vs.length=cQ.length) (hc: ∀(i:Nat) (v:Value) (c:P),vs[i]?=some v->cQ[i]?=some c->aH F w G R v c):aH F w G R (.func (.func f) #[] ⟨vs⟩) (.fn f cQ)
 |bad (v:Value):aH F w G R v .bad
theorem eA.mono{R R':List (Nat×En)}{n aV:Nat}{C C':Prop}(hC:C->C')(hR: ∀e,lk R n=some e-> ∃e',lk R' n=some e'/\e.aV<=e'.aV/\(e.aV=e'.aV->e'.obj.live=true->e.obj.live=true))(h:eA R n aV C):eA R' n aV C':=by obtain⟨e,he,hv,hc⟩:=h;obtain⟨e',cS,Ou,hl⟩:=hR e he;refine⟨e',cS,zaE hv Ou,λh1 h2=>hC (hc (by omega) (hl (by omega) h2))⟩
structure Names(G G':Nat->Value)(R R':List (Nat×En)):Prop where
 on: ∀n e,lk R n=some e-> ∃e',lk R' n=some e'/\e.aV<=e'.aV/\(e.aV=e'.aV->e'.obj.live=true->e.obj.live=true)
 same: ∀n e e',lk R n=some e->lk R' n=some e'->e.aV=e'.aV->e'.obj.live=true->G' n=G n
theorem eA.go{G G':Nat->Value}{R R':List (Nat×En)}(hn:Names G G' R R'){n aV:Nat}{C:(Value->Prop)}(h:eA R n aV (C (G n))):eA R' n aV (C (G' n)):=by
 obtain⟨e,he,hv,hc⟩:=h;obtain⟨e',cS,Ou,hl⟩:=hn.on n e he;refine⟨e',cS,zaE hv Ou,λh1 h2=> ?_⟩;have e0:e.aV=e'.aV:=by omega
 rw[hn.same n e e' he cS e0 h2];grind
theorem aH.mono{F F':Nat->Prop}{w w':World}{G G':Nat->Value}{R R':List (Nat×En)}(hF: ∀b,F b->F' b)(hw: ∀b,F b->w'.heap[b]?=w.heap[b]?)(hn:Names G G' R R')
  {v:Value} {p:P} (h:aH F w G R v p):aH F' w' G' R' v p:=by
 induction h with
 |d h=>exact .d (h.mono hF hw)
 |agg vs ps hl bR _ ih=>exact .agg vs ps hl bR ih
 |cH vs ps hl _ ih=>exact .cH vs ps hl ih
 |ref n aV off v h h1=>exact .ref n aV off v (eA.go (C:=λg=> ∃b,g= .pointer (some ⟨b,0,none⟩)/\v= .pointer (some ⟨b,off,none⟩)) hn h) h1
 |dD n aV i k off v h1 h=>exact .dD n aV i k off v h1 (eA.go (C:=λg=> ∃b N cap,g= .slice (some ⟨b,0,none⟩) N cap/\v= .pointer (some ⟨b,i*k+off,none⟩)) hn h)
 |fe x off b o hb bR f hc hr=>exact .fe x off b o (hF _ hb) bR f (λj hj=>(Cl (hw b hb) _).trans (hc j hj)) (λj c hj=>(hr j c hj).mono hF hw)
 |sl n aV len v h1 h=>exact .sl n aV len v h1 (eA.go (C:=λg=> ∃a N cap,g= .slice a N cap/\v= .slice a len cap/\len<=N) hn h)
 |mb n aV k off len v h1 h=>exact .mb n aV k off len v h1 (eA.go (C:=λg=> ∃a N cap,g= .slice a N cap/\off+len<=N/\ ∃a' iX,v= .slice a' len iX/\len<=iX/\(len=0\/ ∃b,a=some ⟨b,0,none⟩/\a'=some ⟨b,off*k,none⟩)) hn h)
 |mp n aV v h1 h=>exact .mp n aV v h1 (eA.go (C:=λg=>v=g) hn h)
 |fn f vs cQ hl _ ih=>exact .fn f vs cQ hl ih
 |bad v=>exact .bad v
theorem aH.oD{F:Nat->Prop}{w:World}{G:Nat->Value}{R:List (Nat×En)}{v:Value}{p:P}(h:aH F w G R v p)(hp:p.bA=true):v.oneCell'=true:=by
 cases h<;>try simp_all [P.bA]
 case d x h=>exact h.oD hp
 all_goals rfl
def aM:Value->Option Nat
 | .pointer (some a)=>some a.block
 | .slice (some a) _ _=>some a.block
 | .map r=>r
 |_=>none
def bF(g:Value):Obj->Option Nat
 | .gone=>none
 | .box _ _=>aM g
 | .arr _ fz _=>if fz then none else aM g
 | .map _ _ _ fz=>if fz then none else aM g
 | .iter ..=>aM g
 | .ey=>none
 | .kD ..=>aM g
def nB(F:Nat->Prop)(w:World)(cs:Array Value)(k:Nat)(es:List D):Prop:=
 ∀(i:Nat) (x:D),es[i]?=some x->x.cells.length=k/\(∀c∈x.cells,c.bA=true)/\ ∀(j:Nat) (c:D),x.cells[j]?=some c->aS F w (cs.getD (i*k+j) undef) c
def pF(Q:Program)(F:Nat->Prop)(w:World)(kt:TypeId)(get:D->Option D)(n:Int)(es:List MapEntry)(clock:Nat):Prop:=
 ∃ks:List (D×D),ks.length=es.length/\n=(es.length:Int)/\(∀(i:Nat) (p:D×D) (e:MapEntry),ks[i]?=some p->es[i]?=some e->fY Q kt p.1=true/\p.1.cF=some e.key/\aS F w e.val p.2)/\
  (ks.map (·.1)).Nodup/\(∀k v,get k=some v↔(k,v)∈ks)/\(∀e∈es,e.born<clock)/\(es.map (·.born)).Nodup
theorem pF.mono{Q:Program}{F F':Nat->Prop}{w w':World}{kt:TypeId}{get:D->Option D}{n:Int}{es:List MapEntry}{clock:Nat}(hF: ∀b,F b->F' b)(hw: ∀b,F b->w'.heap[b]?=w.heap[b]?)(h:pF Q F w kt get n es clock):pF Q F' w' kt get n es clock:=by obtain⟨ks,h1,h2,h3,h4,h5,h6,h7⟩:=h;exact⟨ks,h1,h2,λi p e hp he=>let ⟨a,b,c⟩:=h3 i p e hp he;⟨a,b,c.mono hF hw⟩,h4,h5,h6,h7⟩
def Bv(Q:Program)(F:Nat->Prop)(w:World)(kt:TypeId)(left:D->Option D)(es:List MapEntry)(clock:Nat)(seen:Array Nat):Prop:=
 ∃ks:List (D×D),ks.length=es.length/\(∀(i:Nat) (p:D×D) (e:MapEntry),ks[i]?=some p->es[i]?=some e->fY Q kt p.1=true/\p.1.cF=some e.key/\aS F w e.val p.2)/\
  (ks.map (·.1)).Nodup/\(∀e∈es,e.born<clock)/\(es.map (·.born)).Nodup/\ ∀k v,left k=some v↔ ∃(i:Nat) (e:MapEntry),ks[i]?=some (k,v)/\es[i]?=some e/\seen.contains e.born=false
theorem Bv.mono{Q:Program}{F F':Nat->Prop}{w w':World}{kt:TypeId}{left:D->Option D}{es:List MapEntry}{clock:Nat}{seen:Array Nat}(hF: ∀b,F b->F' b)(hw: ∀b,F b->w'.heap[b]?=w.heap[b]?)(h:Bv Q F w kt left es clock seen):Bv Q F' w' kt left es clock seen:=by obtain⟨ks,h1,h3,h4,h5,h6,h7⟩:=h;exact⟨ks,h1,λi p e hp he=>let ⟨a,b,c⟩:=h3 i p e hp he;⟨a,b,c.mono hF hw⟩,h4,h5,h6,h7⟩
theorem pF.iter{Q:Program}{F:Nat->Prop}{w:World}{kt:TypeId}{get:D->Option D}{n:Int}{es:List MapEntry}{clock:Nat}(h:pF Q F w kt get n es clock):Bv Q F w kt get es clock #[]:=by
 obtain⟨ks,h1,_,h3,h4,h5,h6,h7⟩:=h;refine⟨ks,h1,h3,h4,h6,h7,λk v=>⟨λhk=> ?_,λ⟨i,e,hi,_,_⟩=>(h5 k v).2 (zaC hi)⟩⟩;obtain⟨i,hi⟩:=zaX ((h5 k v).1 hk);have bJ:i<es.length:=by have:=(zaf.1 hi).1;omega
 exact⟨i,es[i],hi,zac bJ,by simp⟩
def pG(Q:Program)(F:Nat->Prop)(w:World)(G:Nat->Value)(R:List (Nat×En))(n:Nat):Obj->Prop
 | .gone=>True
 | .box T ps=> ∃b cs,G n= .pointer (some ⟨b,0,none⟩)/\w.heap[b]?=some (.cells cs T (0,0))/\cs.size=ps.length/\(∀v∈cs.toList,v.oneCell'=true)/\ ∀(i:Nat) (p:P),ps[i]?=some p->aH F w G R (cs.getD i undef) p
 | .arr ty fz es=>(G n= .slice none 0 0/\es=[])\/
  ∃b cap cs k,G n= .slice (some ⟨b,0,none⟩) es.length cap/\w.heap[b]?=some (.cells cs ty (0,0))/\sz Q ty=some k/\0<k/\es.length<=cap/\cap<=maxLen/\cs.size=cap*k/\(fz=true->F b)/\nB F w cs k es
 | .map kt get c fz=> ∃b es clock,G n= .map (some b)/\w.heap[b]?=some (.map es clock)/\pF Q F w kt get c es.toList clock/\(fz=true->F b)
 | .ey=>True
 | .kD kt get c p kd=> ∃b es clock,G n= .map (some b)/\w.heap[b]?=some (.map es clock)/\pF Q F w kt get c es.toList clock/\ ∃(i:Nat) (e:MapEntry),es[i]?=some e/\aH F w G R (.int .i64 (e.born:Int)) p/\kd.cF=some e.key/\(get kd).isSome=true
 | .iter kt _ left cur=> ∃b mo since seen last,G n= .pointer (some ⟨b,0,none⟩)/\w.heap[b]?=some (.mapIter mo since seen last)/\
  ((mo=none/\(∀k,left k=none)/\cur=none)\/ ∃m es,mo=some m/\F m/\w.heap[m]?=some (.map es since)/\last=since/\Bv Q F w kt left es.toList since seen/\ ∀k v,cur=some (k,v)-> ∃e∈es.toList,seen.back?=some e.born/\k.cF=some e.key/\aS F w e.val v)
def cA(F:Nat->Prop)(w:World)(G:Nat->Value)(R:List (Nat×En))(_tmps:Array Value)(v:Value):P->Prop
 | .when ..=>v=undef
 |p=>aH F w G R v p
theorem cA.of{F:Nat->Prop}{w:World}{G:Nat->Value}{R:List (Nat×En)}{tmps:Array Value}{v:Value}{p:P}(h:aH F w G R v p):cA F w G R tmps v p:=by cases p<;>first |exact h |cases h
theorem cA.mono{F F':Nat->Prop}{w w':World}{G G':Nat->Value}{R R':List (Nat×En)}(hF: ∀b,F b->F' b)(hw: ∀b,F b->w'.heap[b]?=w.heap[b]?)(hn:Names G G' R R')
  {tmps:Array Value} {v:Value} {p:P} (h:cA F w G R tmps v p):cA F' w' G' R' tmps v p:=by
 cases p with
 |when t b q=>exact h
 |_=>exact aH.mono hF hw hn h
structure Tg where
 val:Nat->Value
 w0:World
 lo:Nat
 RN:Bool
instance:CoeFun Tg λ_=>Nat->Value:=⟨Tg.val⟩
def Own(G:Nat->Value)(R:List (Nat×En))(b:Nat):Prop:= ∃n e,lk R n=some e/\bF (G n) e.obj=some b
def jt(T:Tg)(F:Nat->Prop)(G:Nat->Value)(R:List (Nat×En))(w:World)(ds:List Deferred):Prop:=
 ds.Nodup/\ ∀d∈ds,∃D,d={target:= .collected D,args:= #[]}/\(T.lo<=D/\T.RN=true)/\w.heap[D]?=some (.deferred (some []))/\ ¬F D/\ ¬Own G R D
theorem jt.nil{T:Tg}{F:Nat->Prop}{G:Nat->Value}{R:List (Nat×En)}{w:World}:jt T F G R w []:=⟨by simp,λd h=>by cases h⟩
structure aG(Q:Program)(T:Tg)(F:Nat->Prop)(G:Nat->Value)(w:World)(a:Act)(s:S):Prop where
 sg:jt T F G s.rg w a.defers
 size:s.n<=a.tmps.size
 tm: ∀t p,lk s.tm t=some p->cA F w G s.rg a.tmps (a.tmps.getD t undef) p
 rg: ∀n e,lk s.rg n=some e->pG Q F w G s.rg n e.obj
 own: ∀n m e e' b,lk s.rg n=some e->lk s.rg m=some e'->bF (G n) e.obj=some b->bF (G m) e'.obj=some b->n=m
 nf: ∀n e b,lk s.rg n=some e->bF (G n) e.obj=some b-> ¬F b
 jE: ∀b,F b->b<w.heap.size
 tag: ∀n e i,lk s.rg n=some e->e.tag=some i->e.obj.live=true->G n=T i
 z: ∀b,b<T.w0.heap.size->F b/\w.heap[b]?=T.w0.heap[b]?
 dr:T.w0.drawn<=w.drawn
 sz:T.lo<=w.heap.size
structure Ext(own qkJ F F':Nat->Prop)(w w':World):Prop where
 lx: ∀b,F b->F' b
 nC: ∀b,F' b->F b\/own b\/w.heap.size<=b
 mc: ∀b,qkJ b->own b\/w.heap.size<=b
 keep: ∀b,b<w.heap.size-> ¬own b->w'.heap[b]?=w.heap[b]?
 size:w.heap.size<=w'.heap.size
 os:w'.os=w.os
 tape:w'.tape=w.tape
 output:w'.output=w.output
theorem jt.go{T:Tg}{F F':Nat->Prop}{G G':Nat->Value}{R R':List (Nat×En)}{w w':World}{ds:List Deferred}(h:jt T F G R w ds)(hx:Ext (Own G R) (Own G' R') F F' w w'):jt T F' G' R' w' ds:=by
 refine⟨h.1,λd hd=> ?_⟩;obtain⟨D,h1,h0,h2,h3,h4⟩:=h.2 d hd;have bJ:D<w.heap.size:=(zaz.1 h2).1;refine⟨D,h1,h0,(hx.keep D bJ h4).trans h2,λhf=> ?_,λho=> ?_⟩
 ·rcases hx.nC D hf with h |h |h
  ·exact h3 h
  ·exact h4 h
  omega
 rcases hx.mc D ho with h |h
 ·exact h4 h
 omega
theorem jt.FK{T:Tg}{F F':Nat->Prop}{G:Nat->Value}{R R':List (Nat×En)}{w:World}{ds:List Deferred}(h:jt T F G R w ds)(hF: ∀b,F' b->F b\/Own G R b)(hO: ∀b,Own G R' b->Own G R b):jt T F' G R' w ds:=
 ⟨h.1,λd hd=>let ⟨D,h1,h0,h2,h3,h4⟩:=h.2 d hd;⟨D,h1,h0,h2,λhf=>(hF D hf).elim h3 h4,λho=>h4 (hO D ho)⟩⟩
theorem Ext.refl(own F:Nat->Prop)(w:World):Ext own own F F w w:=
 ⟨λ_ h=>h,λ_ h=> .inl h,λ_ h=> .inl h,λ_ _ _=>rfl,zak _,rfl,rfl,rfl⟩
theorem Ext.trans{o1 o2 o3 F1 F2 F3:Nat->Prop}{w1 w2 w3:World}(h:Ext o1 o2 F1 F2 w1 w2)(k:Ext o2 o3 F2 F3 w2 w3):Ext o1 o3 F1 F3 w1 w3 where
 lx b hb:=k.lx b (h.lx b hb)
 nC b hb:=by
  rcases k.nC b hb with h1 |h1 |h1
  ·exact h.nC b h1
  ·rcases h.mc b h1 with h2 |h2
   ·grind
   grind
  exact .inr (.inr (zaE h.size h1))
 mc b hb:=by
  rcases k.mc b hb with h1 |h1
  ·exact h.mc b h1
  exact .inr (zaE h.size h1)
 keep b hb hn:=by
  have X8: ¬o2 b:=λh2=>by rcases h.mc b h2 with h3 |h3;exact hn h3;omega
  rw[k.keep b (zbb hb h.size) X8,h.keep b hb hn]
 size:=zaE h.size k.size
 os:=k.os.trans h.os
 tape:=k.tape.trans h.tape
 output:=k.output.trans h.output
theorem Names.refl(G:Nat->Value)(R:List (Nat×En)):Names G G R R:=⟨λ_ e h=>⟨e,h,zak _,λ_ h=>h⟩,λ_ _ _ _ _ _ _=>rfl⟩
theorem pG.lt{Q:Program}{F:Nat->Prop}{w:World}{G:Nat->Value}{R:List (Nat×En)}{n:Nat}{o:Obj}(h:pG Q F w G R n o){b:Nat}(hb:bF (G n) o=some b):b<w.heap.size:=by
 cases o with
 |gone=>simp[bF] at hb
 |box T ps=>obtain⟨b',cs,hg,hh,_⟩:=h;grind [bF,aM]
 |arr ty fz es=>
  rcases h with⟨hg,_⟩| ⟨b',cap,cs,k,hg,hh,_⟩
  ·simp[bF,hg,aM] at hb
  grind [bF,aM]
 |map kt get c fz=>obtain⟨b',es,clock,hg,hh,_⟩:=h;grind [bF,aM]
 |iter kt vt left cur=>obtain⟨b',mo,since,seen,last,hg,hh,_⟩:=h;grind [bF,aM]
 |ey=>simp[bF] at hb
 |kD kt get c p kd=>obtain⟨b',es,clock,hg,hh,_⟩:=h;grind [bF,aM]
theorem aG.nD{Q:Program}{T:Tg}{F:Nat->Prop}{G:Nat->Value}{w:World}{a:Act}{s:S}(h:aG Q T F G w a s){b:Nat}(hb:Own G s.rg b):b<w.heap.size:=by obtain⟨n,e,he,hb⟩:=hb;exact(h.rg n e he).lt hb
end Pi
