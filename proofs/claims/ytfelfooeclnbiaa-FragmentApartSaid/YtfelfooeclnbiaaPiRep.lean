/- The text PiRep. -/
import Derived.Test.YtfelfooeclnbiaaPiK
import Derived.Calls
import Derived.Tactics2
import Derived.Laws.AppendOwn
import Derived.Laws.CopyRow
import Derived.Laws.Slices
import Derived.LoopN
namespace Pi
open Go
section
variable{α:Type}
theorem sg(k:Nat)(v:α): ∀(m:List (Nat×α)) (j:Nat),lk (ins k v m) j=if k=j then some v else lk m j
 | [],j=>by by_cases h:k=j<;>simp[ins,lk,h]
 | (i,u)::r,j=>by
  have ih:=sg k v r j;simp only[ins];split
  ·by_cases h:k=j<;>simp[lk,h]
  split
  next h1 h2=>
   have e:k=i:=by simpa using h2
   subst e;by_cases h:k=j<;>simp[lk,h]
  rename_i h1 h2;have e: ¬i=k:=λe=>h2 (by simp[e]);simp only[lk,ih];by_cases h:k=j
  ·subst h;simp[e]
  simp[h]
theorem aJ(k:Nat)(v:α)(m:List (Nat×α)):lk (ins k v m) k=some v:=by rw[sg,zat rfl]
theorem aR{k j:Nat}(v:α)(m:List (Nat×α))(h:k≠j):lk (ins k v m) j=lk m j:=by rw[sg,zav h]
end
def Obj.live:Obj->Bool
 | .gone=>false
 |_=>true
inductive ax(F:Nat->Prop)(w:World):Value->D->Prop
 |bool (b:Bool):ax F w (.bool b) (.bool b)
 |int (k:IntKind) (n:Int):ax F w (.int k n) (.int k n)
 |str (s:List UInt8):ax F w (.string ⟨⟨s⟩⟩) (.str s)
 |dm:ax F w (.slice none 0 0) .dm
 |gE:ax F w (.pointer none) .gE
 |jS:ax F w (.map none) .jS
 |o6:ax F w .nilFunc .o6
 |o7:ax F w .nilIface .o7
 |agg (vs:List Value) (cs:List D) (hl:vs.length=cs.length) (aQ: ∀c∈cs,c.aF=true) (hc: ∀(i:Nat) (v:Value) (c:D),vs[i]?=some v->cs[i]?=some c->ax F w v c):ax F w (.agg ⟨vs⟩) (.agg cs)
 |uu (a:Option Addr) (k cap:Nat):ax F w (.slice a 0 cap) (.sl k [])
 |vG (b off k cap:Nat) (es:List D) (f:Nat->Value) (j9:es.length<=cap) (hb:F b) (hk: ∀x∈es,x.cells.length=k) (aQ: ∀x∈es,∀c∈x.cells,c.aF=true)
  (hw: ∀i,i<es.length*k->w.cell? ⟨b,off+i,none⟩=some (f i)) (hr: ∀(i j:Nat) (x c:D),es[i]?=some x->x.cells[j]?=some c->ax F w (f (i*k+j)) c):ax F w (.slice (some ⟨b,off,none⟩) es.length cap) (.sl k es)
theorem oi{w w':World}{b:Nat}(h:w'.heap[b]?=w.heap[b]?)(o:Nat):w'.cell? ⟨b,o,none⟩=w.cell? ⟨b,o,none⟩:=by simp[World.cell?,h]
theorem ax.mono{F F':Nat->Prop}{w w':World}(hF: ∀b,F b->F' b)(hw: ∀b,F b->w'.heap[b]?=w.heap[b]?){v:Value}{x:D}(h:ax F w v x):ax F' w' v x:=by
 induction h with
 |agg vs cs hl aQ _ ih=>exact .agg vs cs hl aQ ih
 |vG b off k cap es f j9 hb hk aQ hc _ ih=>exact .vG b off k cap es f j9 (hF _ hb) hk aQ (λi hi=>(oi (hw b hb) _).trans (hc i hi)) ih
 |_=>constructor
theorem ax.cm{F:Nat->Prop}{w:World}{v:Value}{x:D}(h:ax F w v x){u:Value}(hu:x.cm=some u):v=u:=by cases h<;>simp_all [D.cm]
theorem ax.bm{F:Nat->Prop}{w:World}: ∀(cs:List D) (us vs:List Value),D.bm cs=some us->vs.length=cs.length->(∀(i:Nat) (v:Value) (c:D),vs[i]?=some v->cs[i]?=some c->ax F w v c)->vs=us
 | [],us,vs,h,hl,_=>by grind [D.bm]
 |c::cs,us,vs,h,hl,hc=>by
  cases vs with
  |nil=>simp at hl
  |cons v vs=>
   simp only[D.bm] at h;cases h1:c.cm with
   |none=>grind
   |some u1=>
    cases h2:D.bm cs with
    |none=>grind
    |some Hi=>simp[h1,h2] at h;subst h;have e1:=(hc 0 v c (by simp) (by simp)).cm h1;have e2:=ax.bm cs Hi vs h2 (by grind) (λi v c hv fT=>hc (i+1) v c (by grind) (by grind));rw[e1,e2]
theorem ax.aW{F:Nat->Prop}{w:World}{v:Value}{x:D}(h:ax F w v x){u:Value}(hu:x.aW=some u):v=u:=by
 cases x with
 |agg cs=>
  cases h with
  |agg vs _ hl _ hc=>
   simp only[D.aW] at hu;cases h2:D.bm cs with
   |none=>grind
   |some us=>simp[h2] at hu;rw[<-hu,ax.bm cs us vs h2 hl hc]
 |_=>exact h.cm hu
theorem ax.fi(F:Nat->Prop)(w:World){v:Value}{x:D}(h:D.fi v=some x):ax F w v x:=by
 unfold D.fi at h;split at h<;>simp at h<;>subst h
 case h_3 s=>cases s with |mk a=>cases a with |mk l=>exact .str l
 all_goals constructor
theorem D.uv{v:Value}{x:D}(h:D.fi v=some x):x.aF=true:=by unfold D.fi at h;split at h<;>simp at h<;>subst h<;>rfl
theorem ax.o8(F:Nat->Prop)(w:World): ∀(vs:List Value) (xs:List D),D.o8 vs=some xs->vs.length=xs.length/\(∀c∈xs,c.aF=true)/\ ∀(i:Nat) (v:Value) (c:D),vs[i]?=some v->xs[i]?=some c->ax F w v c
 | [],xs,h=>by grind [D.o8]
 |v::vs,xs,h=>by
  simp only[D.o8] at h;cases h1:D.fi v with
  |none=>grind
  |some x1=>
   cases h2:D.o8 vs with
   |none=>grind
   |some AU=>obtain⟨e1,e2,e3⟩:=ax.o8 F w vs AU h2;grind [D.uv,ax.fi]
theorem ax.kD(F:Nat->Prop)(w:World){v:Value}{x:D}(h:D.kD v=some x):ax F w v x:=by
 unfold D.kD at h;split at h
 next cs=>
  split at h
  next xs Ec=>simp at h;subst h;obtain⟨e1,e2,e3⟩:=ax.o8 F w cs.toList xs Ec;have:=ax.agg (F:=F) (w:=w) cs.toList xs e1 e2 e3;omega
  cases h
 exact ax.fi F w h
theorem ax.iM{F:Nat->Prop}{w:World}{v:Value}{x:D}(h:ax F w v x)(hx:x.aF=true):v.oneCell'=true:=by cases h<;>simp_all [D.aF,Value.oneCell']
theorem ax.aF{F:Nat->Prop}{w:World}{v:Value}{x:D}(h:ax F w v x)(hv:v.oneCell'=true):x.aF=true:=by cases h<;>simp_all [D.aF,Value.oneCell']
def bT(R:List (Nat×En))(n aw:Nat)(C:Prop):Prop:= ∃e,lk R n=some e/\aw<=e.aw/\(aw=e.aw->e.obj.live=true->C)
inductive ak(F:Nat->Prop)(w:World)(G:Nat->Value)(R:List (Nat×En)):Value->P->Prop
 |d {v:Value} {x:D} (h:ax F w v x):ak F w G R v (.d x)
 |agg (vs:List Value) (ps:List P) (hl:vs.length=ps.length) (cS: ∀v∈vs,v.oneCell'=true) (hc: ∀(i:Nat) (v:Value) (c:P),vs[i]?=some v->ps[i]?=some c->ak F w G R v c):ak F w G R (.agg ⟨vs⟩) (.agg ps)
 |dX (vs:List Value) (ps:List P) (hl:vs.length=ps.length) (hc: ∀(i:Nat) (v:Value) (c:P),vs[i]?=some v->ps[i]?=some c->ak F w G R v c):ak F w G R (.tuple ⟨vs⟩) (.dX ps)
 |ref (n aw off:Nat) (v:Value) (h:bT R n aw (∃b,G n= .pointer (some ⟨b,0,none⟩)/\v= .pointer (some ⟨b,off,none⟩))) (h1:v.oneCell'=true):ak F w G R v (.ref n aw off)
 |bE (n aw i k off:Nat) (v:Value) (h1:v.oneCell'=true) (h:bT R n aw (∃b N cap,G n= .slice (some ⟨b,0,none⟩) N cap/\v= .pointer (some ⟨b,i*k+off,none⟩))):ak F w G R v (.bE n aw i k off)
 |cd (x:D) (off b o:Nat) (hb:F b) (aQ: ∀c∈x.cells,c.aF=true) (f:Nat->Value) (hw: ∀j,j<x.cells.length->w.cell? ⟨b,o+j,none⟩=some (f j)) (hr: ∀(j:Nat) (c:D),x.cells[j]?=some c->ax F w (f j) c):ak F w G R (.pointer (some ⟨b,o+off,none⟩)) (.cd x off)
 |sl (n aw len:Nat) (v:Value) (h1:v.oneCell'=true) (h:bT R n aw (∃a N cap,G n= .slice a N cap/\v= .slice a len cap/\len<=N)):ak F w G R v (.sl n aw len)
 |e9 (n aw k off len:Nat) (v:Value) (h1:v.oneCell'=true) (h:bT R n aw (∃a N cap,G n= .slice a N cap/\off+len<=N/\ ∃a' dR,v= .slice a' len dR/\len<=dR/\(len=0\/ ∃b,a=some ⟨b,0,none⟩/\a'=some ⟨b,off*k,none⟩))):ak F w G R v (.e9 n aw k off len)
 |mp (n aw:Nat) (v:Value) (h1:v.oneCell'=true) (h:bT R n aw (v=G n)):ak F w G R v (.mp n aw)
 |fn (f:FuncId) (vs:List Value) (cl:List P) (hl:vs.length=cl.length) (hc: ∀(i:Nat) (v:Value) (c:P),vs[i]?=some v->cl[i]?=some c->ak F w G R v c):ak F w G R (.func (.func f) #[] ⟨vs⟩) (.fn f cl)
 |bad (v:Value):ak F w G R v .bad
theorem bT.mono{R R':List (Nat×En)}{n aw:Nat}{C C':Prop}(hC:C->C')(hR: ∀e,lk R n=some e-> ∃e',lk R' n=some e'/\e.aw<=e'.aw/\(e.aw=e'.aw->e'.obj.live=true->e.obj.live=true))(h:bT R n aw C):bT R' n aw C':=by obtain⟨e,he,hv,hc⟩:=h;obtain⟨e',a7,tD,hl⟩:=hR e he;refine⟨e',a7,zaB hv tD,λh1 h2=>hC (hc (by omega) (hl (by omega) h2))⟩
structure Names(G G':Nat->Value)(R R':List (Nat×En)):Prop where
 on: ∀n e,lk R n=some e-> ∃e',lk R' n=some e'/\e.aw<=e'.aw/\(e.aw=e'.aw->e'.obj.live=true->e.obj.live=true)
 same: ∀n e e',lk R n=some e->lk R' n=some e'->e.aw=e'.aw->e'.obj.live=true->G' n=G n
theorem bT.go{G G':Nat->Value}{R R':List (Nat×En)}(hn:Names G G' R R'){n aw:Nat}{C:(Value->Prop)}(h:bT R n aw (C (G n))):bT R' n aw (C (G' n)):=by
 obtain⟨e,he,hv,hc⟩:=h;obtain⟨e',a7,tD,hl⟩:=hn.on n e he;refine⟨e',a7,zaB hv tD,λh1 h2=> ?_⟩;have e0:e.aw=e'.aw:=by omega
 rw[hn.same n e e' he a7 e0 h2];grind
theorem ak.mono{F F':Nat->Prop}{w w':World}{G G':Nat->Value}{R R':List (Nat×En)}(hF: ∀b,F b->F' b)(hw: ∀b,F b->w'.heap[b]?=w.heap[b]?)(hn:Names G G' R R')
  {v:Value} {p:P} (h:ak F w G R v p):ak F' w' G' R' v p:=by
 induction h with
 |d h=>exact .d (h.mono hF hw)
 |agg vs ps hl aQ _ ih=>exact .agg vs ps hl aQ ih
 |dX vs ps hl _ ih=>exact .dX vs ps hl ih
 |ref n aw off v h h1=>exact .ref n aw off v (bT.go (C:=λg=> ∃b,g= .pointer (some ⟨b,0,none⟩)/\v= .pointer (some ⟨b,off,none⟩)) hn h) h1
 |bE n aw i k off v h1 h=>exact .bE n aw i k off v h1 (bT.go (C:=λg=> ∃b N cap,g= .slice (some ⟨b,0,none⟩) N cap/\v= .pointer (some ⟨b,i*k+off,none⟩)) hn h)
 |cd x off b o hb aQ f hc hr=>exact .cd x off b o (hF _ hb) aQ f (λj hj=>(oi (hw b hb) _).trans (hc j hj)) (λj c hj=>(hr j c hj).mono hF hw)
 |sl n aw len v h1 h=>exact .sl n aw len v h1 (bT.go (C:=λg=> ∃a N cap,g= .slice a N cap/\v= .slice a len cap/\len<=N) hn h)
 |e9 n aw k off len v h1 h=>exact .e9 n aw k off len v h1 (bT.go (C:=λg=> ∃a N cap,g= .slice a N cap/\off+len<=N/\ ∃a' dR,v= .slice a' len dR/\len<=dR/\(len=0\/ ∃b,a=some ⟨b,0,none⟩/\a'=some ⟨b,off*k,none⟩)) hn h)
 |mp n aw v h1 h=>exact .mp n aw v h1 (bT.go (C:=λg=>v=g) hn h)
 |fn f vs cl hl _ ih=>exact .fn f vs cl hl ih
 |bad v=>exact .bad v
theorem ak.iM{F:Nat->Prop}{w:World}{G:Nat->Value}{R:List (Nat×En)}{v:Value}{p:P}(h:ak F w G R v p)(hp:p.aF=true):v.oneCell'=true:=by
 cases h<;>try simp_all [P.aF]
 case d x h=>exact h.iM hp
 all_goals rfl
def ar:Value->Option Nat
 | .pointer (some a)=>some a.block
 | .slice (some a) _ _=>some a.block
 | .map r=>r
 |_=>none
def aG(g:Value):Obj->Option Nat
 | .gone=>none
 | .box _ _=>ar g
 | .arr _ fz _=>if fz then none else ar g
 | .map _ _ _ fz=>if fz then none else ar g
 | .iter ..=>ar g
 | .jh=>none
 | .ei ..=>ar g
 | .aN ..=>ar g
def iX(F:Nat->Prop)(w:World)(cs:Array Value)(k:Nat)(es:List D):Prop:=
 ∀(i:Nat) (x:D),es[i]?=some x->x.cells.length=k/\(∀c∈x.cells,c.aF=true)/\ ∀(j:Nat) (c:D),x.cells[j]?=some c->ax F w (cs.getD (i*k+j) undef) c
def gG(Q:Program)(F:Nat->Prop)(w:World)(kt:TypeId)(get:D->Option D)(n:Int)(es:List MapEntry)(clock:Nat):Prop:=
 ∃ks:List (D×D),ks.length=es.length/\n=(es.length:Int)/\(∀(i:Nat) (p:D×D) (e:MapEntry),ks[i]?=some p->es[i]?=some e->bG Q kt p.1=true/\p.1.aW=some e.key/\ax F w e.val p.2)/\
  (ks.map (·.1)).Nodup/\(∀k v,get k=some v↔(k,v)∈ks)/\(∀e∈es,e.born<clock)/\(es.map (·.born)).Nodup
theorem gG.mono{Q:Program}{F F':Nat->Prop}{w w':World}{kt:TypeId}{get:D->Option D}{n:Int}{es:List MapEntry}{clock:Nat}(hF: ∀b,F b->F' b)(hw: ∀b,F b->w'.heap[b]?=w.heap[b]?)(h:gG Q F w kt get n es clock):gG Q F' w' kt get n es clock:=by obtain⟨ks,h1,h2,h3,h4,h5,h6,h7⟩:=h;exact⟨ks,h1,h2,λi p e hp he=>let ⟨a,b,c⟩:=h3 i p e hp he;⟨a,b,c.mono hF hw⟩,h4,h5,h6,h7⟩
def nN(Q:Program)(F:Nat->Prop)(w:World)(kt:TypeId)(left:D->Option D)(es:List MapEntry)(clock:Nat)(seen:Array Nat):Prop:=
 ∃ks:List (D×D),ks.length=es.length/\(∀(i:Nat) (p:D×D) (e:MapEntry),ks[i]?=some p->es[i]?=some e->bG Q kt p.1=true/\p.1.aW=some e.key/\ax F w e.val p.2)/\
  (ks.map (·.1)).Nodup/\(∀e∈es,e.born<clock)/\(es.map (·.born)).Nodup/\ ∀k v,left k=some v↔ ∃(i:Nat) (e:MapEntry),ks[i]?=some (k,v)/\es[i]?=some e/\seen.contains e.born=false
theorem nN.mono{Q:Program}{F F':Nat->Prop}{w w':World}{kt:TypeId}{left:D->Option D}{es:List MapEntry}{clock:Nat}{seen:Array Nat}(hF: ∀b,F b->F' b)(hw: ∀b,F b->w'.heap[b]?=w.heap[b]?)(h:nN Q F w kt left es clock seen):nN Q F' w' kt left es clock seen:=by obtain⟨ks,h1,h3,h4,h5,h6,h7⟩:=h;exact⟨ks,h1,λi p e hp he=>let ⟨a,b,c⟩:=h3 i p e hp he;⟨a,b,c.mono hF hw⟩,h4,h5,h6,h7⟩
theorem gG.iter{Q:Program}{F:Nat->Prop}{w:World}{kt:TypeId}{get:D->Option D}{n:Int}{es:List MapEntry}{clock:Nat}(h:gG Q F w kt get n es clock):nN Q F w kt get es clock #[]:=by
 obtain⟨ks,h1,_,h3,h4,h5,h6,h7⟩:=h;refine⟨ks,h1,h3,h4,h6,h7,λk v=>⟨λhk=> ?_,λ⟨i,e,hi,_,_⟩=>(h5 k v).2 (zan hi)⟩⟩;obtain⟨i,hi⟩:=zaq ((h5 k v).1 hk);have bu:i<es.length:=by have:=(zaa.1 hi).1;omega
 exact⟨i,es[i],hi,zad bu,by simp⟩
def qD(Q:Program)(F:Nat->Prop)(w:World)(G:Nat->Value)(R:List (Nat×En))(kt:TypeId)(ks:List (D×P))(es:List MapEntry)(clock:Nat):Prop:=
 ks.length=es.length/\(∀(i:Nat) (p:D×P) (e:MapEntry),ks[i]?=some p->es[i]?=some e->bG Q kt p.1=true/\p.1.aW=some e.key/\ak F w G R e.val p.2)/\
  (ks.map (·.1)).Nodup/\(∀e∈es,e.born<clock)/\(es.map (·.born)).Nodup
theorem qD.mono{Q:Program}{F F':Nat->Prop}{w w':World}{G G':Nat->Value}{R R':List (Nat×En)}{kt:TypeId}{ks:List (D×P)}{es:List MapEntry}{clock:Nat}(hF: ∀b,F b->F' b)(hw: ∀b,F b->w'.heap[b]?=w.heap[b]?)(hn:Names G G' R R')(h:qD Q F w G R kt ks es clock):qD Q F' w' G' R' kt ks es clock:=
 ⟨h.1,λi p e hp he=>let ⟨a,b,c⟩:=h.2.1 i p e hp he;⟨a,b,c.mono hF hw hn⟩,h.2.2⟩
def hZ(Q:Program)(F:Nat->Prop)(w:World)(G:Nat->Value)(R:List (Nat×En))(n:Nat):Obj->Prop
 | .gone=>True
 | .box T ps=> ∃b cs,G n= .pointer (some ⟨b,0,none⟩)/\w.heap[b]?=some (.cells cs T (0,0))/\cs.size=ps.length/\(∀v∈cs.toList,v.oneCell'=true)/\ ∀(i:Nat) (p:P),ps[i]?=some p->ak F w G R (cs.getD i undef) p
 | .arr ty fz es=>(G n= .slice none 0 0/\es=[])\/
  ∃b cap cs k,G n= .slice (some ⟨b,0,none⟩) es.length cap/\w.heap[b]?=some (.cells cs ty (0,0))/\sz Q ty=some k/\0<k/\es.length<=cap/\cap<=maxLen/\cs.size=cap*k/\(fz=true->F b)/\iX F w cs k es
 | .map kt get c fz=> ∃b es clock,G n= .map (some b)/\w.heap[b]?=some (.map es clock)/\gG Q F w kt get c es.toList clock/\(fz=true->F b)
 | .jh=>True
 | .aN kt ks=> ∃b es clock,G n= .map (some b)/\w.heap[b]?=some (.map es clock)/\qD Q F w G R kt ks es.toList clock
 | .ei kt get c p kd=> ∃b es clock,G n= .map (some b)/\w.heap[b]?=some (.map es clock)/\gG Q F w kt get c es.toList clock/\ ∃(i:Nat) (e:MapEntry),es[i]?=some e/\ak F w G R (.int .i64 (e.born:Int)) p/\kd.aW=some e.key/\(get kd).isSome=true
 | .iter kt _ left cur=> ∃b mo since seen last,G n= .pointer (some ⟨b,0,none⟩)/\w.heap[b]?=some (.mapIter mo since seen last)/\
  ((mo=none/\(∀k,left k=none)/\cur=none)\/ ∃m es,mo=some m/\F m/\w.heap[m]?=some (.map es since)/\last=since/\nN Q F w kt left es.toList since seen/\ ∀k v,cur=some (k,v)-> ∃e∈es.toList,seen.back?=some e.born/\k.aW=some e.key/\ax F w e.val v)
def bt(F:Nat->Prop)(w:World)(G:Nat->Value)(R:List (Nat×En))(_tmps:Array Value)(v:Value):P->Prop
 | .when ..=>v=undef
 |p=>ak F w G R v p
theorem bt.of{F:Nat->Prop}{w:World}{G:Nat->Value}{R:List (Nat×En)}{tmps:Array Value}{v:Value}{p:P}(h:ak F w G R v p):bt F w G R tmps v p:=by cases p<;>first |exact h |cases h
theorem bt.mono{F F':Nat->Prop}{w w':World}{G G':Nat->Value}{R R':List (Nat×En)}(hF: ∀b,F b->F' b)(hw: ∀b,F b->w'.heap[b]?=w.heap[b]?)(hn:Names G G' R R')
  {tmps:Array Value} {v:Value} {p:P} (h:bt F w G R tmps v p):bt F' w' G' R' tmps v p:=by
 cases p with
 |when t b q=>exact h
 |_=>exact ak.mono hF hw hn h
structure Tg where
 val:Nat->Value
 w0:World
 lo:Nat
 Hj:Bool
instance:CoeFun Tg λ_=>Nat->Value:=⟨Tg.val⟩
def Own(G:Nat->Value)(R:List (Nat×En))(b:Nat):Prop:= ∃n e,lk R n=some e/\aG (G n) e.obj=some b
def dF(T:Tg)(F:Nat->Prop)(G:Nat->Value)(R:List (Nat×En))(w:World)(ds:List Deferred):Prop:=
 ds.Nodup/\ ∀d∈ds,∃D,d={target:= .collected D,args:= #[]}/\(T.lo<=D/\T.Hj=true)/\w.heap[D]?=some (.deferred (some []))/\ ¬F D/\ ¬Own G R D
theorem dF.nil{T:Tg}{F:Nat->Prop}{G:Nat->Value}{R:List (Nat×En)}{w:World}:dF T F G R w []:=⟨by simp,λd h=>by cases h⟩
structure aq(Q:Program)(T:Tg)(F:Nat->Prop)(G:Nat->Value)(w:World)(a:Act)(s:S):Prop where
 si:dF T F G s.rg w a.defers
 size:s.n<=a.tmps.size
 tm: ∀t p,lk s.tm t=some p->bt F w G s.rg a.tmps (a.tmps.getD t undef) p
 rg: ∀n e,lk s.rg n=some e->hZ Q F w G s.rg n e.obj
 own: ∀n m e e' b,lk s.rg n=some e->lk s.rg m=some e'->aG (G n) e.obj=some b->aG (G m) e'.obj=some b->n=m
 iY: ∀n e b,lk s.rg n=some e->aG (G n) e.obj=some b-> ¬F b
 gQ: ∀b,F b->b<w.heap.size
 tag: ∀n e i,lk s.rg n=some e->e.tag=some i->e.obj.live=true->G n=T i
 z: ∀b,b<T.w0.heap.size->F b/\w.heap[b]?=T.w0.heap[b]?
 dr:T.w0.drawn<=w.drawn
 sz:T.lo<=w.heap.size
structure Ext(own E2 F F':Nat->Prop)(w w':World):Prop where
 h9: ∀b,F b->F' b
 mr: ∀b,F' b->F b\/own b\/w.heap.size<=b
 kb: ∀b,E2 b->own b\/w.heap.size<=b
 keep: ∀b,b<w.heap.size-> ¬own b->w'.heap[b]?=w.heap[b]?
 size:w.heap.size<=w'.heap.size
 os:w'.os=w.os
 tape:w'.tape=w.tape
 output:w'.output=w.output
theorem dF.go{T:Tg}{F F':Nat->Prop}{G G':Nat->Value}{R R':List (Nat×En)}{w w':World}{ds:List Deferred}(h:dF T F G R w ds)(hx:Ext (Own G R) (Own G' R') F F' w w'):dF T F' G' R' w' ds:=by
 refine⟨h.1,λd hd=> ?_⟩;obtain⟨D,h1,h0,h2,h3,h4⟩:=h.2 d hd;have bu:D<w.heap.size:=(zal.1 h2).1;refine⟨D,h1,h0,(hx.keep D bu h4).trans h2,λhf=> ?_,λho=> ?_⟩
 ·rcases hx.mr D hf with h |h |h
  ·exact h3 h
  ·exact h4 h
  omega
 rcases hx.kb D ho with h |h
 ·exact h4 h
 omega
theorem dF.qj{T:Tg}{F F':Nat->Prop}{G:Nat->Value}{R R':List (Nat×En)}{w:World}{ds:List Deferred}(h:dF T F G R w ds)(hF: ∀b,F' b->F b\/Own G R b)(hO: ∀b,Own G R' b->Own G R b):dF T F' G R' w ds:=
 ⟨h.1,λd hd=>let ⟨D,h1,h0,h2,h3,h4⟩:=h.2 d hd;⟨D,h1,h0,h2,λhf=>(hF D hf).elim h3 h4,λho=>h4 (hO D ho)⟩⟩
theorem Ext.refl(own F:Nat->Prop)(w:World):Ext own own F F w w:=
 ⟨λ_ h=>h,λ_ h=> .inl h,λ_ h=> .inl h,λ_ _ _=>rfl,zaf _,rfl,rfl,rfl⟩
theorem Ext.trans{o1 o2 o3 F1 F2 F3:Nat->Prop}{w1 w2 w3:World}(h:Ext o1 o2 F1 F2 w1 w2)(k:Ext o2 o3 F2 F3 w2 w3):Ext o1 o3 F1 F3 w1 w3 where
 h9 b hb:=k.h9 b (h.h9 b hb)
 mr b hb:=by
  rcases k.mr b hb with h1 |h1 |h1
  ·exact h.mr b h1
  ·rcases h.kb b h1 with h2 |h2
   ·grind
   grind
  exact .inr (.inr (zaB h.size h1))
 kb b hb:=by
  rcases k.kb b hb with h1 |h1
  ·exact h.kb b h1
  exact .inr (zaB h.size h1)
 keep b hb hn:=by
  have Ed: ¬o2 b:=λh2=>by rcases h.kb b h2 with h3 |h3;exact hn h3;omega
  rw[k.keep b (zbe hb h.size) Ed,h.keep b hb hn]
 size:=zaB h.size k.size
 os:=k.os.trans h.os
 tape:=k.tape.trans h.tape
 output:=k.output.trans h.output
theorem Names.refl(G:Nat->Value)(R:List (Nat×En)):Names G G R R:=⟨λ_ e h=>⟨e,h,zaf _,λ_ h=>h⟩,λ_ _ _ _ _ _ _=>rfl⟩
theorem hZ.lt{Q:Program}{F:Nat->Prop}{w:World}{G:Nat->Value}{R:List (Nat×En)}{n:Nat}{o:Obj}(h:hZ Q F w G R n o){b:Nat}(hb:aG (G n) o=some b):b<w.heap.size:=by
 cases o with
 |gone=>simp[aG] at hb
 |box T ps=>obtain⟨b',cs,hg,hh,_⟩:=h;grind [aG,ar]
 |arr ty fz es=>
  rcases h with⟨hg,_⟩| ⟨b',cap,cs,k,hg,hh,_⟩
  ·simp[aG,hg,ar] at hb
  grind [aG,ar]
 |map kt get c fz=>obtain⟨b',es,clock,hg,hh,_⟩:=h;grind [aG,ar]
 |iter kt vt left cur=>obtain⟨b',mo,since,seen,last,hg,hh,_⟩:=h;grind [aG,ar]
 |jh=>simp[aG] at hb
 |ei kt get c p kd=>obtain⟨b',es,clock,hg,hh,_⟩:=h;grind [aG,ar]
 |aN kt ks=>obtain⟨b',es,clock,hg,hh,_⟩:=h;grind [aG,ar]
end Pi
