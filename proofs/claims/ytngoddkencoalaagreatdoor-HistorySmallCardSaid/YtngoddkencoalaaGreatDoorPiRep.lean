/- The text PiRep. -/
import Derived.Test.YtngoddkencoalaaGreatDoorPiK
import Derived.Calls
import Derived.Tactics2
import Derived.Laws.AppendOwn
import Derived.Laws.CopyRow
import Derived.Laws.Slices
import Derived.LoopN
namespace Pi
open Go
section
variable{α:Type}
theorem Iv(k:Nat)(v:α): ∀(m:List (Nat×α)) (j:Nat),lk (ins k v m) j=if k=j then some v else lk m j
 | [],j=>by by_cases h:k=j<;>simp[ins,lk,h]
 | (i,u)::r,j=>by
  have ih:=Iv k v r j;simp only[ins];split
  ·by_cases h:k=j<;>simp[lk,h]
  split
  next h1 h2=>
   have e:k=i:=by simpa using h2
   subst e;by_cases h:k=j<;>simp[lk,h]
  rename_i h1 h2;have e: ¬i=k:=λe=>h2 (by simp[e]);simp only[lk,ih];by_cases h:k=j
  ·subst h;simp[e]
  simp[h]
theorem bF(k:Nat)(v:α)(m:List (Nat×α)):lk (ins k v m) k=some v:=by rw[Iv,zao rfl]
theorem b9{k j:Nat}(v:α)(m:List (Nat×α))(h:k≠j):lk (ins k v m) j=lk m j:=by rw[Iv,zal h]
end
def Obj.live:Obj->Bool
 | .gone=>false
 |_=>true
inductive bc(F:Nat->Prop)(w:World):Value->D->Prop
 |bool (b:Bool):bc F w (.bool b) (.bool b)
 |int (k:IntKind) (n:Int):bc F w (.int k n) (.int k n)
 |str (s:List UInt8):bc F w (.string ⟨⟨s⟩⟩) (.str s)
 |fX:bc F w (.slice none 0 0) .fX
 |r3:bc F w (.pointer none) .r3
 |tf:bc F w (.map none) .tf
 |Cz:bc F w .nilFunc .Cz
 |CA:bc F w .nilIface .CA
 |agg (vs:List Value) (cs:List D) (hl:vs.length=cs.length) (cj: ∀c∈cs,c.bJ=true) (hc: ∀(i:Nat) (v:Value) (c:D),vs[i]?=some v->cs[i]?=some c->bc F w v c):bc F w (.agg ⟨vs⟩) (.agg cs)
 |OZ (a:Option Addr) (k cap:Nat):bc F w (.slice a 0 cap) (.sl k [])
 |PW (b off k cap:Nat) (es:List D) (f:Nat->Value) (CO:es.length<=cap) (hb:F b) (hk: ∀x∈es,x.cells.length=k) (cj: ∀x∈es,∀c∈x.cells,c.bJ=true)
  (hw: ∀i,i<es.length*k->w.cell? ⟨b,off+i,none⟩=some (f i)) (hr: ∀(i j:Nat) (x c:D),es[i]?=some x->x.cells[j]?=some c->bc F w (f (i*k+j)) c):bc F w (.slice (some ⟨b,off,none⟩) es.length cap) (.sl k es)
theorem Bo{w w':World}{b:Nat}(h:w'.heap[b]?=w.heap[b]?)(o:Nat):w'.cell? ⟨b,o,none⟩=w.cell? ⟨b,o,none⟩:=by simp[World.cell?,h]
theorem bc.mono{F F':Nat->Prop}{w w':World}(hF: ∀b,F b->F' b)(hw: ∀b,F b->w'.heap[b]?=w.heap[b]?){v:Value}{x:D}(h:bc F w v x):bc F' w' v x:=by
 induction h with
 |agg vs cs hl cj _ ih=>exact .agg vs cs hl cj ih
 |PW b off k cap es f CO hb hk cj hc _ ih=>exact .PW b off k cap es f CO (hF _ hb) hk cj (λi hi=>(Bo (hw b hb) _).trans (hc i hi)) ih
 |_=>constructor
theorem bc.gE{F:Nat->Prop}{w:World}{v:Value}{x:D}(h:bc F w v x){u:Value}(hu:x.gE=some u):v=u:=by cases h<;>simp_all [D.gE]
theorem bc.dj{F:Nat->Prop}{w:World}: ∀(cs:List D) (us vs:List Value),D.dj cs=some us->vs.length=cs.length->(∀(i:Nat) (v:Value) (c:D),vs[i]?=some v->cs[i]?=some c->bc F w v c)->vs=us
 | [],us,vs,h,hl,_=>by simp[D.dj] at h;subst h;simpa using hl
 |c::cs,us,vs,h,hl,hc=>by
  cases vs with
  |nil=>simp at hl
  |cons v vs=>
   simp only[D.dj] at h;cases h1:c.gE with
   |none=>simp[h1] at h
   |some u1=>
    cases h2:D.dj cs with
    |none=>simp[h1,h2] at h
    |some us2=>simp[h1,h2] at h;subst h;have e1:=(hc 0 v c (by simp) (by simp)).gE h1;have e2:=bc.dj cs us2 vs h2 (by simpa using hl) (λi v c hv jU=>hc (i+1) v c (by simpa using hv) (by simpa using jU));rw[e1,e2]
theorem bc.cG{F:Nat->Prop}{w:World}{v:Value}{x:D}(h:bc F w v x){u:Value}(hu:x.cG=some u):v=u:=by
 cases x with
 |agg cs=>
  cases h with
  |agg vs _ hl _ hc=>
   simp only[D.cG] at hu;cases h2:D.dj cs with
   |none=>simp[h2] at hu
   |some us=>simp[h2] at hu;rw[<-hu,bc.dj cs us vs h2 hl hc]
 |_=>exact h.gE hu
theorem bc.mC(F:Nat->Prop)(w:World){v:Value}{x:D}(h:D.mC v=some x):bc F w v x:=by
 unfold D.mC at h;split at h<;>simp at h<;>subst h
 case h_3 s=>cases s with |mk a=>cases a with |mk l=>exact .str l
 all_goals constructor
theorem D.My{v:Value}{x:D}(h:D.mC v=some x):x.bJ=true:=by unfold D.mC at h;split at h<;>simp at h<;>subst h<;>rfl
theorem bc.CB(F:Nat->Prop)(w:World): ∀(vs:List Value) (xs:List D),D.CB vs=some xs->vs.length=xs.length/\(∀c∈xs,c.bJ=true)/\ ∀(i:Nat) (v:Value) (c:D),vs[i]?=some v->xs[i]?=some c->bc F w v c
 | [],xs,h=>by simp[D.CB] at h;subst h;simp
 |v::vs,xs,h=>by
  simp only[D.CB] at h;cases h1:D.mC v with
  |none=>simp[h1] at h
  |some x1=>
   cases h2:D.CB vs with
   |none=>simp[h1,h2] at h
   |some xs2=>
    simp[h1,h2] at h;subst h;obtain⟨e1,e2,e3⟩:=bc.CB F w vs xs2 h2;refine⟨by simp[e1],?_,?_⟩
    ·intro c hc;rcases zaw.1 hc with rfl |hc
     ·exact D.My h1
     exact e2 c hc
    intro i u c hu jU;cases i with
    |zero=>simp at hu jU;subst hu;subst jU;exact bc.mC F w h1
    |succ i=>exact e3 i u c (by simpa using hu) (by simpa using jU)
theorem bc.uK(F:Nat->Prop)(w:World){v:Value}{x:D}(h:D.uK v=some x):bc F w v x:=by
 unfold D.uK at h;split at h
 next cs=>
  split at h
  next xs WH=>simp at h;subst h;obtain⟨e1,e2,e3⟩:=bc.CB F w cs.toList xs WH;have:=bc.agg (F:=F) (w:=w) cs.toList xs e1 e2 e3;simpa using this
  cases h
 exact bc.mC F w h
theorem bc.nY{F:Nat->Prop}{w:World}{v:Value}{x:D}(h:bc F w v x)(hx:x.bJ=true):v.oneCell'=true:=by cases h<;>simp_all [D.bJ,Value.oneCell']
theorem bc.bJ{F:Nat->Prop}{w:World}{v:Value}{x:D}(h:bc F w v x)(hv:v.oneCell'=true):x.bJ=true:=by cases h<;>simp_all [D.bJ,Value.oneCell']
def eG(R:List (Nat×En))(n aZ:Nat)(C:Prop):Prop:= ∃e,lk R n=some e/\aZ<=e.aZ/\(aZ=e.aZ->e.obj.live=true->C)
inductive aH(F:Nat->Prop)(w:World)(G:Nat->Value)(R:List (Nat×En)):Value->P->Prop
 |d {v:Value} {x:D} (h:bc F w v x):aH F w G R v (.d x)
 |agg (vs:List Value) (ps:List P) (hl:vs.length=ps.length) (iC: ∀v∈vs,v.oneCell'=true) (hc: ∀(i:Nat) (v:Value) (c:P),vs[i]?=some v->ps[i]?=some c->aH F w G R v c):aH F w G R (.agg ⟨vs⟩) (.agg ps)
 |cT (vs:List Value) (ps:List P) (hl:vs.length=ps.length) (hc: ∀(i:Nat) (v:Value) (c:P),vs[i]?=some v->ps[i]?=some c->aH F w G R v c):aH F w G R (.tuple ⟨vs⟩) (.cT ps)
 |ref (n aZ off:Nat) (v:Value) (h:eG R n aZ (∃b,G n= .pointer (some ⟨b,0,none⟩)/\v= .pointer (some ⟨b,off,none⟩))) (h1:v.oneCell'=true):aH F w G R v (.ref n aZ off)
 |dG (n aZ i k off:Nat) (v:Value) (h1:v.oneCell'=true) (h:eG R n aZ (∃b N cap,G n= .slice (some ⟨b,0,none⟩) N cap/\v= .pointer (some ⟨b,i*k+off,none⟩))):aH F w G R v (.dG n aZ i k off)
 |fe (x:D) (off b o:Nat) (hb:F b) (cj: ∀c∈x.cells,c.bJ=true) (f:Nat->Value) (hw: ∀j,j<x.cells.length->w.cell? ⟨b,o+j,none⟩=some (f j)) (hr: ∀(j:Nat) (c:D),x.cells[j]?=some c->bc F w (f j) c):aH F w G R (.pointer (some ⟨b,o+off,none⟩)) (.fe x off)
 |sl (n aZ len:Nat) (v:Value) (h1:v.oneCell'=true) (h:eG R n aZ (∃a N cap,G n= .slice a N cap/\v= .slice a len cap/\len<=N)):aH F w G R v (.sl n aZ len)
 |l0 (n aZ k off len:Nat) (v:Value) (h1:v.oneCell'=true) (h:eG R n aZ (∃a N cap,G n= .slice a N cap/\off+len<=N/\ ∃a' iV,v= .slice a' len iV/\len<=iV/\(len=0\/ ∃b,a=some ⟨b,0,none⟩/\a'=some ⟨b,off*k,none⟩))):aH F w G R v (.l0 n aZ k off len)
 |mp (n aZ:Nat) (v:Value) (h1:v.oneCell'=true) (h:eG R n aZ (v=G n)):aH F w G R v (.mp n aZ)
 |fn (f:FuncId) (vs:List Value) (cP:List P) (hl:vs.length=cP.length) (hc: ∀(i:Nat) (v:Value) (c:P),vs[i]?=some v->cP[i]?=some c->aH F w G R v c):aH F w G R (.func (.func f) #[] ⟨vs⟩) (.fn f cP)
 |bad (v:Value):aH F w G R v .bad
theorem eG.mono{R R':List (Nat×En)}{n aZ:Nat}{C C':Prop}(hC:C->C')(hR: ∀e,lk R n=some e-> ∃e',lk R' n=some e'/\e.aZ<=e'.aZ/\(e.aZ=e'.aZ->e'.obj.live=true->e.obj.live=true))(h:eG R n aZ C):eG R' n aZ C':=by obtain⟨e,he,hv,hc⟩:=h;obtain⟨e',cR,KK,hl⟩:=hR e he;refine⟨e',cR,zaG hv KK,λh1 h2=>hC (hc (by omega) (hl (by omega) h2))⟩
structure Names(G G':Nat->Value)(R R':List (Nat×En)):Prop where
 on: ∀n e,lk R n=some e-> ∃e',lk R' n=some e'/\e.aZ<=e'.aZ/\(e.aZ=e'.aZ->e'.obj.live=true->e.obj.live=true)
 same: ∀n e e',lk R n=some e->lk R' n=some e'->e.aZ=e'.aZ->e'.obj.live=true->G' n=G n
theorem eG.go{G G':Nat->Value}{R R':List (Nat×En)}(hn:Names G G' R R'){n aZ:Nat}{C:(Value->Prop)}(h:eG R n aZ (C (G n))):eG R' n aZ (C (G' n)):=by
 obtain⟨e,he,hv,hc⟩:=h;obtain⟨e',cR,KK,hl⟩:=hn.on n e he;refine⟨e',cR,zaG hv KK,λh1 h2=> ?_⟩;have e0:e.aZ=e'.aZ:=by omega
 rw[hn.same n e e' he cR e0 h2];exact hc (by omega) (hl e0 h2)
theorem aH.mono{F F':Nat->Prop}{w w':World}{G G':Nat->Value}{R R':List (Nat×En)}(hF: ∀b,F b->F' b)(hw: ∀b,F b->w'.heap[b]?=w.heap[b]?)(hn:Names G G' R R')
  {v:Value} {p:P} (h:aH F w G R v p):aH F' w' G' R' v p:=by
 induction h with
 |d h=>exact .d (h.mono hF hw)
 |agg vs ps hl cj _ ih=>exact .agg vs ps hl cj ih
 |cT vs ps hl _ ih=>exact .cT vs ps hl ih
 |ref n aZ off v h h1=>exact .ref n aZ off v (eG.go (C:=λg=> ∃b,g= .pointer (some ⟨b,0,none⟩)/\v= .pointer (some ⟨b,off,none⟩)) hn h) h1
 |dG n aZ i k off v h1 h=>exact .dG n aZ i k off v h1 (eG.go (C:=λg=> ∃b N cap,g= .slice (some ⟨b,0,none⟩) N cap/\v= .pointer (some ⟨b,i*k+off,none⟩)) hn h)
 |fe x off b o hb cj f hc hr=>exact .fe x off b o (hF _ hb) cj f (λj hj=>(Bo (hw b hb) _).trans (hc j hj)) (λj c hj=>(hr j c hj).mono hF hw)
 |sl n aZ len v h1 h=>exact .sl n aZ len v h1 (eG.go (C:=λg=> ∃a N cap,g= .slice a N cap/\v= .slice a len cap/\len<=N) hn h)
 |l0 n aZ k off len v h1 h=>exact .l0 n aZ k off len v h1 (eG.go (C:=λg=> ∃a N cap,g= .slice a N cap/\off+len<=N/\ ∃a' iV,v= .slice a' len iV/\len<=iV/\(len=0\/ ∃b,a=some ⟨b,0,none⟩/\a'=some ⟨b,off*k,none⟩)) hn h)
 |mp n aZ v h1 h=>exact .mp n aZ v h1 (eG.go (C:=λg=>v=g) hn h)
 |fn f vs cP hl _ ih=>exact .fn f vs cP hl ih
 |bad v=>exact .bad v
theorem aH.nY{F:Nat->Prop}{w:World}{G:Nat->Value}{R:List (Nat×En)}{v:Value}{p:P}(h:aH F w G R v p)(hp:p.bJ=true):v.oneCell'=true:=by
 cases h<;>try simp_all [P.bJ]
 case d x h=>exact h.nY hp
 all_goals simp[Value.oneCell']
def aR:Value->Option Nat
 | .pointer (some a)=>some a.block
 | .slice (some a) _ _=>some a.block
 | .map r=>r
 |_=>none
def bL(g:Value):Obj->Option Nat
 | .gone=>none
 | .box _ _=>aR g
 | .arr _ fz _=>if fz then none else aR g
 | .map _ _ _ fz=>if fz then none else aR g
 | .iter ..=>aR g
 | .eE=>none
 | .kB ..=>aR g
def ni(F:Nat->Prop)(w:World)(cs:Array Value)(k:Nat)(es:List D):Prop:=
 ∀(i:Nat) (x:D),es[i]?=some x->x.cells.length=k/\(∀c∈x.cells,c.bJ=true)/\ ∀(j:Nat) (c:D),x.cells[j]?=some c->bc F w (cs.getD (i*k+j) undef) c
def o5(Q:Program)(F:Nat->Prop)(w:World)(kt:TypeId)(get:D->Option D)(n:Int)(es:List MapEntry)(clock:Nat):Prop:=
 ∃ks:List (D×D),ks.length=es.length/\n=(es.length:Int)/\(∀(i:Nat) (p:D×D) (e:MapEntry),ks[i]?=some p->es[i]?=some e->fY Q kt p.1=true/\p.1.cG=some e.key/\bc F w e.val p.2)/\
  (ks.map (·.1)).Nodup/\(∀k v,get k=some v↔(k,v)∈ks)/\(∀e∈es,e.born<clock)/\(es.map (·.born)).Nodup
theorem o5.mono{Q:Program}{F F':Nat->Prop}{w w':World}{kt:TypeId}{get:D->Option D}{n:Int}{es:List MapEntry}{clock:Nat}(hF: ∀b,F b->F' b)(hw: ∀b,F b->w'.heap[b]?=w.heap[b]?)(h:o5 Q F w kt get n es clock):o5 Q F' w' kt get n es clock:=by obtain⟨ks,h1,h2,h3,h4,h5,h6,h7⟩:=h;exact⟨ks,h1,h2,λi p e hp he=>let ⟨a,b,c⟩:=h3 i p e hp he;⟨a,b,c.mono hF hw⟩,h4,h5,h6,h7⟩
def Av(Q:Program)(F:Nat->Prop)(w:World)(kt:TypeId)(left:D->Option D)(es:List MapEntry)(clock:Nat)(seen:Array Nat):Prop:=
 ∃ks:List (D×D),ks.length=es.length/\(∀(i:Nat) (p:D×D) (e:MapEntry),ks[i]?=some p->es[i]?=some e->fY Q kt p.1=true/\p.1.cG=some e.key/\bc F w e.val p.2)/\
  (ks.map (·.1)).Nodup/\(∀e∈es,e.born<clock)/\(es.map (·.born)).Nodup/\ ∀k v,left k=some v↔ ∃(i:Nat) (e:MapEntry),ks[i]?=some (k,v)/\es[i]?=some e/\seen.contains e.born=false
theorem Av.mono{Q:Program}{F F':Nat->Prop}{w w':World}{kt:TypeId}{left:D->Option D}{es:List MapEntry}{clock:Nat}{seen:Array Nat}(hF: ∀b,F b->F' b)(hw: ∀b,F b->w'.heap[b]?=w.heap[b]?)(h:Av Q F w kt left es clock seen):Av Q F' w' kt left es clock seen:=by obtain⟨ks,h1,h3,h4,h5,h6,h7⟩:=h;exact⟨ks,h1,λi p e hp he=>let ⟨a,b,c⟩:=h3 i p e hp he;⟨a,b,c.mono hF hw⟩,h4,h5,h6,h7⟩
theorem o5.iter{Q:Program}{F:Nat->Prop}{w:World}{kt:TypeId}{get:D->Option D}{n:Int}{es:List MapEntry}{clock:Nat}(h:o5 Q F w kt get n es clock):Av Q F w kt get es clock #[]:=by
 obtain⟨ks,h1,_,h3,h4,h5,h6,h7⟩:=h;refine⟨ks,h1,h3,h4,h6,h7,λk v=>⟨λhk=> ?_,λ⟨i,e,hi,_,_⟩=>(h5 k v).2 (zaC hi)⟩⟩;obtain⟨i,hi⟩:=zaQ ((h5 k v).1 hk);have bG:i<es.length:=by have:=(zad.1 hi).1;omega
 exact⟨i,es[i],hi,zae bG,by simp⟩
def o6(Q:Program)(F:Nat->Prop)(w:World)(G:Nat->Value)(R:List (Nat×En))(n:Nat):Obj->Prop
 | .gone=>True
 | .box T ps=> ∃b cs,G n= .pointer (some ⟨b,0,none⟩)/\w.heap[b]?=some (.cells cs T (0,0))/\cs.size=ps.length/\(∀v∈cs.toList,v.oneCell'=true)/\ ∀(i:Nat) (p:P),ps[i]?=some p->aH F w G R (cs.getD i undef) p
 | .arr ty fz es=>(G n= .slice none 0 0/\es=[])\/
  ∃b cap cs k,G n= .slice (some ⟨b,0,none⟩) es.length cap/\w.heap[b]?=some (.cells cs ty (0,0))/\sz Q ty=some k/\0<k/\es.length<=cap/\cap<=maxLen/\cs.size=cap*k/\(fz=true->F b)/\ni F w cs k es
 | .map kt get c fz=> ∃b es clock,G n= .map (some b)/\w.heap[b]?=some (.map es clock)/\o5 Q F w kt get c es.toList clock/\(fz=true->F b)
 | .eE=>True
 | .kB kt get c p kd=> ∃b es clock,G n= .map (some b)/\w.heap[b]?=some (.map es clock)/\o5 Q F w kt get c es.toList clock/\ ∃(i:Nat) (e:MapEntry),es[i]?=some e/\aH F w G R (.int .i64 (e.born:Int)) p/\kd.cG=some e.key/\(get kd).isSome=true
 | .iter kt _ left cur=> ∃b mo since seen last,G n= .pointer (some ⟨b,0,none⟩)/\w.heap[b]?=some (.mapIter mo since seen last)/\
  ((mo=none/\(∀k,left k=none)/\cur=none)\/ ∃m es,mo=some m/\F m/\w.heap[m]?=some (.map es since)/\last=since/\Av Q F w kt left es.toList since seen/\ ∀k v,cur=some (k,v)-> ∃e∈es.toList,seen.back?=some e.born/\k.cG=some e.key/\bc F w e.val v)
def cB(F:Nat->Prop)(w:World)(G:Nat->Value)(R:List (Nat×En))(_tmps:Array Value)(v:Value):P->Prop
 | .when ..=>v=undef
 |p=>aH F w G R v p
theorem cB.of{F:Nat->Prop}{w:World}{G:Nat->Value}{R:List (Nat×En)}{tmps:Array Value}{v:Value}{p:P}(h:aH F w G R v p):cB F w G R tmps v p:=by cases p<;>first |exact h |cases h
theorem cB.mono{F F':Nat->Prop}{w w':World}{G G':Nat->Value}{R R':List (Nat×En)}(hF: ∀b,F b->F' b)(hw: ∀b,F b->w'.heap[b]?=w.heap[b]?)(hn:Names G G' R R')
  {tmps:Array Value} {v:Value} {p:P} (h:cB F w G R tmps v p):cB F' w' G' R' tmps v p:=by
 cases p with
 |when t b q=>exact h
 |_=>exact aH.mono hF hw hn h
structure Tg where
 val:Nat->Value
 w0:World
 lo:Nat
 PY:Bool
instance:CoeFun Tg λ_=>Nat->Value:=⟨Tg.val⟩
def Own(G:Nat->Value)(R:List (Nat×En))(b:Nat):Prop:= ∃n e,lk R n=some e/\bL (G n) e.obj=some b
def jr(T:Tg)(F:Nat->Prop)(G:Nat->Value)(R:List (Nat×En))(w:World)(ds:List Deferred):Prop:=
 ds.Nodup/\ ∀d∈ds,∃D,d={target:= .collected D,args:= #[]}/\(T.lo<=D/\T.PY=true)/\w.heap[D]?=some (.deferred (some []))/\ ¬F D/\ ¬Own G R D
theorem jr.nil{T:Tg}{F:Nat->Prop}{G:Nat->Value}{R:List (Nat×En)}{w:World}:jr T F G R w []:=⟨by simp,λd h=>by cases h⟩
structure aG(Q:Program)(T:Tg)(F:Nat->Prop)(G:Nat->Value)(w:World)(a:Act)(s:S):Prop where
 r9:jr T F G s.rg w a.defers
 size:s.n<=a.tmps.size
 tm: ∀t p,lk s.tm t=some p->cB F w G s.rg a.tmps (a.tmps.getD t undef) p
 rg: ∀n e,lk s.rg n=some e->o6 Q F w G s.rg n e.obj
 own: ∀n m e e' b,lk s.rg n=some e->lk s.rg m=some e'->bL (G n) e.obj=some b->bL (G m) e'.obj=some b->n=m
 mU: ∀n e b,lk s.rg n=some e->bL (G n) e.obj=some b-> ¬F b
 jz: ∀b,F b->b<w.heap.size
 tag: ∀n e i,lk s.rg n=some e->e.tag=some i->e.obj.live=true->G n=T i
 z: ∀b,b<T.w0.heap.size->F b/\w.heap[b]?=T.w0.heap[b]?
 dr:T.w0.drawn<=w.drawn
 sz:T.lo<=w.heap.size
structure Ext(own qiG F F':Nat->Prop)(w w':World):Prop where
 ll: ∀b,F b->F' b
 nj: ∀b,F' b->F b\/own b\/w.heap.size<=b
 l4: ∀b,qiG b->own b\/w.heap.size<=b
 keep: ∀b,b<w.heap.size-> ¬own b->w'.heap[b]?=w.heap[b]?
 size:w.heap.size<=w'.heap.size
 os:w'.os=w.os
 tape:w'.tape=w.tape
 output:w'.output=w.output
theorem jr.go{T:Tg}{F F':Nat->Prop}{G G':Nat->Value}{R R':List (Nat×En)}{w w':World}{ds:List Deferred}(h:jr T F G R w ds)(hx:Ext (Own G R) (Own G' R') F F' w w'):jr T F' G' R' w' ds:=by
 refine⟨h.1,λd hd=> ?_⟩;obtain⟨D,h1,h0,h2,h3,h4⟩:=h.2 d hd;have bG:D<w.heap.size:=(zar.1 h2).1;refine⟨D,h1,h0,(hx.keep D bG h4).trans h2,λhf=> ?_,λho=> ?_⟩
 ·rcases hx.nj D hf with h |h |h
  ·exact h3 h
  ·exact h4 h
  omega
 rcases hx.l4 D ho with h |h
 ·exact h4 h
 omega
theorem jr.EB{T:Tg}{F F':Nat->Prop}{G:Nat->Value}{R R':List (Nat×En)}{w:World}{ds:List Deferred}(h:jr T F G R w ds)(hF: ∀b,F' b->F b\/Own G R b)(hO: ∀b,Own G R' b->Own G R b):jr T F' G R' w ds:=
 ⟨h.1,λd hd=>let ⟨D,h1,h0,h2,h3,h4⟩:=h.2 d hd;⟨D,h1,h0,h2,λhf=>(hF D hf).elim h3 h4,λho=>h4 (hO D ho)⟩⟩
theorem Ext.refl(own F:Nat->Prop)(w:World):Ext own own F F w w:=
 ⟨λ_ h=>h,λ_ h=> .inl h,λ_ h=> .inl h,λ_ _ _=>rfl,zak _,rfl,rfl,rfl⟩
theorem Ext.trans{o1 o2 o3 F1 F2 F3:Nat->Prop}{w1 w2 w3:World}(h:Ext o1 o2 F1 F2 w1 w2)(k:Ext o2 o3 F2 F3 w2 w3):Ext o1 o3 F1 F3 w1 w3 where
 ll b hb:=k.ll b (h.ll b hb)
 nj b hb:=by
  rcases k.nj b hb with h1 |h1 |h1
  ·exact h.nj b h1
  ·rcases h.l4 b h1 with h2 |h2
   ·exact .inr (.inl h2)
   exact .inr (.inr h2)
  exact .inr (.inr (zaG h.size h1))
 l4 b hb:=by
  rcases k.l4 b hb with h1 |h1
  ·exact h.l4 b h1
  exact .inr (zaG h.size h1)
 keep b hb hn:=by
  have Mz: ¬o2 b:=λh2=>by rcases h.l4 b h2 with h3 |h3;exact hn h3;omega
  rw[k.keep b (za4 hb h.size) Mz,h.keep b hb hn]
 size:=zaG h.size k.size
 os:=k.os.trans h.os
 tape:=k.tape.trans h.tape
 output:=k.output.trans h.output
theorem Names.refl(G:Nat->Value)(R:List (Nat×En)):Names G G R R:=⟨λ_ e h=>⟨e,h,zak _,λ_ h=>h⟩,λ_ _ _ _ _ _ _=>rfl⟩
theorem o6.lt{Q:Program}{F:Nat->Prop}{w:World}{G:Nat->Value}{R:List (Nat×En)}{n:Nat}{o:Obj}(h:o6 Q F w G R n o){b:Nat}(hb:bL (G n) o=some b):b<w.heap.size:=by
 cases o with
 |gone=>simp[bL] at hb
 |box T ps=>obtain⟨b',cs,hg,hh,_⟩:=h;simp[bL,hg,aR] at hb;subst hb;exact(zar.1 hh).1
 |arr ty fz es=>
  rcases h with⟨hg,_⟩| ⟨b',cap,cs,k,hg,hh,_⟩
  ·simp[bL,hg,aR] at hb
  simp[bL,hg,aR] at hb;obtain⟨_,rfl⟩:=hb;exact(zar.1 hh).1
 |map kt get c fz=>obtain⟨b',es,clock,hg,hh,_⟩:=h;simp[bL,hg,aR] at hb;obtain⟨_,rfl⟩:=hb;exact(zar.1 hh).1
 |iter kt vt left cur=>obtain⟨b',mo,since,seen,last,hg,hh,_⟩:=h;simp[bL,hg,aR] at hb;subst hb;exact(zar.1 hh).1
 |eE=>simp[bL] at hb
 |kB kt get c p kd=>obtain⟨b',es,clock,hg,hh,_⟩:=h;simp[bL,hg,aR] at hb;subst hb;exact(zar.1 hh).1
theorem aG.nk{Q:Program}{T:Tg}{F:Nat->Prop}{G:Nat->Value}{w:World}{a:Act}{s:S}(h:aG Q T F G w a s){b:Nat}(hb:Own G s.rg b):b<w.heap.size:=by obtain⟨n,e,he,hb⟩:=hb;exact(h.rg n e he).lt hb
end Pi
