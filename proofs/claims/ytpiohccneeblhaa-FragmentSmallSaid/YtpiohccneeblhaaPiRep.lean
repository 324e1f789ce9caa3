/- The text PiRep. -/
import Derived.Test.YtpiohccneeblhaaPiK
import Derived.Calls
import Derived.Tactics2
import Derived.Laws.AppendOwn
import Derived.Laws.CopyRow
import Derived.Laws.Slices
import Derived.LoopN
namespace Pi
open Go
section
variable{α:Type}
theorem xE(k:Nat)(v:α): ∀(m:List (Nat×α)) (j:Nat),lk (ins k v m) j=if k=j then some v else lk m j
 | [],j=>by by_cases h:k=j<;>simp[ins,lk,h]
 | (i,u)::r,j=>by
  have ih:=xE k v r j;simp only[ins];split
  ·by_cases h:k=j<;>simp[lk,h]
  split
  next h1 h2=>
   have e:k=i:=by simpa using h2
   subst e;by_cases h:k=j<;>simp[lk,h]
  rename_i h1 h2;have e: ¬i=k:=λe=>h2 (by simp[e]);simp only[lk,ih];by_cases h:k=j
  ·subst h;simp[e]
  simp[h]
theorem aH(k:Nat)(v:α)(m:List (Nat×α)):lk (ins k v m) k=some v:=by rw[xE,zat rfl]
theorem aV{k j:Nat}(v:α)(m:List (Nat×α))(h:k≠j):lk (ins k v m) j=lk m j:=by rw[xE,zaB h]
end
def Obj.live:Obj->Bool
 | .gone=>false
 |_=>true
inductive aA(F:Nat->Prop)(w:World):Value->D->Prop
 |bool (b:Bool):aA F w (.bool b) (.bool b)
 |int (k:IntKind) (n:Int):aA F w (.int k n) (.int k n)
 |str (s:List UInt8):aA F w (.string ⟨⟨s⟩⟩) (.str s)
 |bu:aA F w (.slice none 0 0) .bu
 |jf:aA F w (.pointer none) .jf
 |mh:aA F w (.map none) .mh
 |tc:aA F w .nilFunc .tc
 |tf:aA F w .nilIface .tf
 |unk (v:Value) (h1:v.oneCell'=true):aA F w v .unk
 |Bn (b len cap:Nat):aA F w (.slice (some ⟨b,0,none⟩) len cap) (.Bn b len cap)
 |agg (vs:List Value) (cs:List D) (hl:vs.length=cs.length) (aW: ∀c∈cs,c.aI=true) (hc: ∀(i:Nat) (v:Value) (c:D),vs[i]?=some v->cs[i]?=some c->aA F w v c):aA F w (.agg ⟨vs⟩) (.agg cs)
 |Bp (a:Option Addr) (k cap:Nat):aA F w (.slice a 0 cap) (.sl k [])
 |Bq (b off k cap:Nat) (es:List D) (f:Nat->Value) (lP:es.length<=cap) (hb:F b) (hk: ∀x∈es,x.cells.length=k) (aW: ∀x∈es,∀c∈x.cells,c.aI=true)
  (hw: ∀i,i<es.length*k->w.cell? ⟨b,off+i,none⟩=some (f i)) (hr: ∀(i j:Nat) (x c:D),es[i]?=some x->x.cells[j]?=some c->aA F w (f (i*k+j)) c):aA F w (.slice (some ⟨b,off,none⟩) es.length cap) (.sl k es)
theorem r8{w w':World}{b:Nat}(h:w'.heap[b]?=w.heap[b]?)(o:Nat):w'.cell? ⟨b,o,none⟩=w.cell? ⟨b,o,none⟩:=by simp[World.cell?,h]
theorem aA.mono{F F':Nat->Prop}{w w':World}(hF: ∀b,F b->F' b)(hw: ∀b,F b->w'.heap[b]?=w.heap[b]?){v:Value}{x:D}(h:aA F w v x):aA F' w' v x:=by
 induction h with
 |agg vs cs hl aW _ ih=>exact .agg vs cs hl aW ih
 |Bq b off k cap es f lP hb hk aW hc _ ih=>exact .Bq b off k cap es f lP (hF _ hb) hk aW (λi hi=>(r8 (hw b hb) _).trans (hc i hi)) ih
 |unk v h1=>exact .unk v h1
 |_=>constructor
theorem aA.dK{F:Nat->Prop}{w:World}{v:Value}{x:D}(h:aA F w v x){u:Value}(hu:x.dK=some u):v=u:=by cases h<;>simp_all [D.dK]
theorem aA.bU{F:Nat->Prop}{w:World}: ∀(cs:List D) (us vs:List Value),D.bU cs=some us->vs.length=cs.length->(∀(i:Nat) (v:Value) (c:D),vs[i]?=some v->cs[i]?=some c->aA F w v c)->vs=us
 | [],us,vs,h,hl,_=>by grind [D.bU]
 |c::cs,us,vs,h,hl,hc=>by
  cases vs with
  |nil=>simp at hl
  |cons v vs=>
   simp only[D.bU] at h;cases h1:c.dK with
   |none=>grind
   |some u1=>
    cases h2:D.bU cs with
    |none=>grind
    |some O0=>simp[h1,h2] at h;subst h;have e1:=(hc 0 v c (by simp) (by simp)).dK h1;have e2:=aA.bU cs O0 vs h2 (by grind) (λi v c hv fO=>hc (i+1) v c (by grind) (by grind));rw[e1,e2]
theorem aA.br{F:Nat->Prop}{w:World}{v:Value}{x:D}(h:aA F w v x){u:Value}(hu:x.br=some u):v=u:=by
 cases x with
 |agg cs=>
  cases h with
  |agg vs _ hl _ hc=>
   simp only[D.br] at hu;cases h2:D.bU cs with
   |none=>grind
   |some us=>simp[h2] at hu;rw[<-hu,aA.bU cs us vs h2 hl hc]
 |_=>exact h.dK hu
theorem aA.iw(F:Nat->Prop)(w:World){v:Value}{x:D}(h:D.iw v=some x):aA F w v x:=by
 unfold D.iw at h;split at h<;>simp at h<;>subst h
 case h_3 s=>cases s with |mk a=>cases a with |mk l=>exact .str l
 all_goals constructor
theorem D.zZ{v:Value}{x:D}(h:D.iw v=some x):x.aI=true:=by unfold D.iw at h;split at h<;>simp at h<;>subst h<;>rfl
theorem aA.tg(F:Nat->Prop)(w:World): ∀(vs:List Value) (xs:List D),D.tg vs=some xs->vs.length=xs.length/\(∀c∈xs,c.aI=true)/\ ∀(i:Nat) (v:Value) (c:D),vs[i]?=some v->xs[i]?=some c->aA F w v c
 | [],xs,h=>by grind [D.tg]
 |v::vs,xs,h=>by
  simp only[D.tg] at h;cases h1:D.iw v with
  |none=>grind
  |some x1=>
   cases h2:D.tg vs with
   |none=>grind
   |some GV=>obtain⟨e1,e2,e3⟩:=aA.tg F w vs GV h2;grind [D.zZ,aA.iw]
theorem aA.nh(F:Nat->Prop)(w:World){v:Value}{x:D}(h:D.nh v=some x):aA F w v x:=by
 unfold D.nh at h;split at h
 next cs=>
  split at h
  next xs Le=>simp at h;subst h;obtain⟨e1,e2,e3⟩:=aA.tg F w cs.toList xs Le;have:=aA.agg (F:=F) (w:=w) cs.toList xs e1 e2 e3;omega
  cases h
 exact aA.iw F w h
theorem aA.ie{F:Nat->Prop}{w:World}{v:Value}{x:D}(h:aA F w v x)(hx:x.aI=true):v.oneCell'=true:=by cases h<;>simp_all [D.aI,Value.oneCell']
theorem aA.aI{F:Nat->Prop}{w:World}{v:Value}{x:D}(h:aA F w v x)(hv:v.oneCell'=true):x.aI=true:=by cases h<;>simp_all [D.aI,Value.oneCell']
def ew(g g':Value):Prop:=g=g'\/ ∃v l l',g= .tuple ⟨v::l⟩/\g'= .tuple ⟨v::l'⟩
theorem ew.symm{g g':Value}(h:ew g g'):ew g' g:=by
 rcases h with rfl | ⟨v,l,l',h1,h2⟩
 ·exact .inl rfl
 exact .inr ⟨v,l',l,h2,h1⟩
theorem ew.trans{g g' Oe:Value}(h:ew g g')(k:ew g' Oe):ew g Oe:=by
 rcases h with rfl | ⟨v,l,l',h1,h2⟩
 ·exact k
 rcases k with rfl | ⟨v',m,m',k1,k2⟩
 ·exact .inr ⟨v,l,l',h1,h2⟩
 rw[h2] at k1;cases k1;exact .inr ⟨v,l,m',h1,k2⟩
def bP(R:List (Nat×En))(n az:Nat)(C:Prop):Prop:= ∃e,lk R n=some e/\az<=e.az/\(az=e.az->e.obj.live=true->C)
inductive ao(F:Nat->Prop)(w:World)(G:Nat->Value)(R:List (Nat×En)):Value->P->Prop
 |d {v:Value} {x:D} (h:aA F w v x):ao F w G R v (.d x)
 |agg (vs:List Value) (ps:List P) (hl:vs.length=ps.length) (fc: ∀v∈vs,v.oneCell'=true) (hc: ∀(i:Nat) (v:Value) (c:P),vs[i]?=some v->ps[i]?=some c->ao F w G R v c):ao F w G R (.agg ⟨vs⟩) (.agg ps)
 |fL (vs:List Value) (ps:List P) (hl:vs.length=ps.length) (hc: ∀(i:Nat) (v:Value) (c:P),vs[i]?=some v->ps[i]?=some c->ao F w G R v c):ao F w G R (.tuple ⟨vs⟩) (.fL ps)
 |ref (n az off:Nat) (v:Value) (h:bP R n az (∃b,G n= .pointer (some ⟨b,0,none⟩)/\v= .pointer (some ⟨b,off,none⟩))) (h1:v.oneCell'=true):ao F w G R v (.ref n az off)
 |bR (n az i k off:Nat) (v:Value) (h1:v.oneCell'=true) (h:bP R n az (∃b N cap,G n= .slice (some ⟨b,0,none⟩) N cap/\v= .pointer (some ⟨b,i*k+off,none⟩))):ao F w G R v (.bR n az i k off)
 |dg (x:D) (off b o:Nat) (hb:F b) (aW: ∀c∈x.cells,c.aI=true) (f:Nat->Value) (hw: ∀j,j<x.cells.length->w.cell? ⟨b,o+j,none⟩=some (f j)) (hr: ∀(j:Nat) (c:D),x.cells[j]?=some c->aA F w (f j) c):ao F w G R (.pointer (some ⟨b,o+off,none⟩)) (.dg x off)
 |sl (n az len:Nat) (v:Value) (h1:v.oneCell'=true) (h:bP R n az (∃a N cap,G n= .slice a N cap/\v= .slice a len cap/\len<=N)):ao F w G R v (.sl n az len)
 |hZ (n az k off len:Nat) (v:Value) (h1:v.oneCell'=true) (h:bP R n az (∃a N cap,G n= .slice a N cap/\off+len<=N/\ ∃a' dV,v= .slice a' len dV/\len<=dV/\(len=0\/ ∃b,a=some ⟨b,0,none⟩/\a'=some ⟨b,off*k,none⟩))):ao F w G R v (.hZ n az k off len)
 |mp (n az:Nat) (v:Value) (h1:v.oneCell'=true) (h:bP R n az (v=G n)):ao F w G R v (.mp n az)
 |hd (n az:Nat) (v:Value) (h1:v.oneCell'=true) (h:bP R n az (∃b l,G n= .tuple ⟨v::l⟩/\v= .pointer (some ⟨b,0,none⟩))):ao F w G R v (.hd n az)
 |rf (n az len:Nat) (v:Value) (h1:v.oneCell'=true) (h:bP R n az (∃a N cap l,G n= .tuple ⟨.slice a N cap::l⟩/\v= .slice a len cap/\len<=N)):ao F w G R v (.rf n az len)
 |fn (f:FuncId) (vs:List Value) (bH:List P) (hl:vs.length=bH.length) (hc: ∀(i:Nat) (v:Value) (c:P),vs[i]?=some v->bH[i]?=some c->ao F w G R v c):ao F w G R (.func (.func f) #[] ⟨vs⟩) (.fn f bH)
 |bad (v:Value):ao F w G R v .bad
 |raw (v:Value):ao F w G R v (.raw v)
theorem bP.mono{R R':List (Nat×En)}{n az:Nat}{C C':Prop}(hC:C->C')(hR: ∀e,lk R n=some e-> ∃e',lk R' n=some e'/\e.az<=e'.az/\(e.az=e'.az->e'.obj.live=true->e.obj.live=true))(h:bP R n az C):bP R' n az C':=by obtain⟨e,he,hv,hc⟩:=h;obtain⟨e',bb,B7,hl⟩:=hR e he;refine⟨e',bb,zaN hv B7,λh1 h2=>hC (hc (by omega) (hl (by omega) h2))⟩
structure Names(G G':Nat->Value)(R R':List (Nat×En)):Prop where
 on: ∀n e,lk R n=some e-> ∃e',lk R' n=some e'/\e.az<=e'.az/\(e.az=e'.az->e'.obj.live=true->e.obj.live=true)
 same: ∀n e e',lk R n=some e->lk R' n=some e'->e.az=e'.az->e'.obj.live=true->ew (G' n) (G n)
theorem bP.go{G G':Nat->Value}{R R':List (Nat×En)}(hn:Names G G' R R'){n az:Nat}{C:(Value->Prop)}(hH: ∀v l l',C (.tuple ⟨v::l⟩)->C (.tuple ⟨v::l'⟩))(h:bP R n az (C (G n))):bP R' n az (C (G' n)):=by
 obtain⟨e,he,hv,hc⟩:=h;obtain⟨e',bb,B7,hl⟩:=hn.on n e he;refine⟨e',bb,zaN hv B7,λh1 h2=> ?_⟩;have e0:e.az=e'.az:=by omega
 have hc:=hc (by omega) (hl (by omega) h2);rcases hn.same n e e' he bb e0 h2 with h3 | ⟨v,l,l',h3,h4⟩
 ·rw[h3];exact hc
 rw[h4] at hc;rw[h3];exact hH v l' l hc
theorem ao.mono{F F':Nat->Prop}{w w':World}{G G':Nat->Value}{R R':List (Nat×En)}(hF: ∀b,F b->F' b)(hw: ∀b,F b->w'.heap[b]?=w.heap[b]?)(hn:Names G G' R R')
  {v:Value} {p:P} (h:ao F w G R v p):ao F' w' G' R' v p:=by
 induction h with
 |d h=>exact .d (h.mono hF hw)
 |agg vs ps hl aW _ ih=>exact .agg vs ps hl aW ih
 |fL vs ps hl _ ih=>exact .fL vs ps hl ih
 |ref n az off v h h1=>exact .ref n az off v (bP.go (C:=λg=> ∃b,g= .pointer (some ⟨b,0,none⟩)/\v= .pointer (some ⟨b,off,none⟩)) hn (λ_ _ _ h=>by obtain⟨_,h,_⟩:=h;cases h) h) h1
 |bR n az i k off v h1 h=>exact .bR n az i k off v h1 (bP.go (C:=λg=> ∃b N cap,g= .slice (some ⟨b,0,none⟩) N cap/\v= .pointer (some ⟨b,i*k+off,none⟩)) hn (λ_ _ _ h=>by obtain⟨_,_,_,h,_⟩:=h;cases h) h)
 |dg x off b o hb aW f hc hr=>exact .dg x off b o (hF _ hb) aW f (λj hj=>(r8 (hw b hb) _).trans (hc j hj)) (λj c hj=>(hr j c hj).mono hF hw)
 |sl n az len v h1 h=>exact .sl n az len v h1 (bP.go (C:=λg=> ∃a N cap,g= .slice a N cap/\v= .slice a len cap/\len<=N) hn (λ_ _ _ h=>by obtain⟨_,_,_,h,_⟩:=h;cases h) h)
 |hZ n az k off len v h1 h=>exact .hZ n az k off len v h1 (bP.go (C:=λg=> ∃a N cap,g= .slice a N cap/\off+len<=N/\ ∃a' dV,v= .slice a' len dV/\len<=dV/\(len=0\/ ∃b,a=some ⟨b,0,none⟩/\a'=some ⟨b,off*k,none⟩)) hn (λ_ _ _ h=>by obtain⟨_,_,_,h,_⟩:=h;cases h) h)
 |mp n az v h1 h=>exact .mp n az v h1 (bP.go (C:=λg=>v=g) hn (λ_ _ _ h=>by rw[h] at h1;cases h1) h)
 |hd n az v h1 h=>exact .hd n az v h1 (bP.go (C:=λg=> ∃b l,g= .tuple ⟨v::l⟩/\v= .pointer (some ⟨b,0,none⟩)) hn (λ_ _ _ h=>by obtain⟨b,_,h,e⟩:=h;cases h;exact⟨b,_,rfl,e⟩) h)
 |rf n az len v h1 h=>exact .rf n az len v h1 (bP.go (C:=λg=> ∃a N cap l,g= .tuple ⟨.slice a N cap::l⟩/\v= .slice a len cap/\len<=N) hn (λ_ _ _ h=>by obtain⟨a,N,cap,_,h,e⟩:=h;cases h;exact⟨a,N,cap,_,rfl,e⟩) h)
 |fn f vs bH hl _ ih=>exact .fn f vs bH hl ih
 |bad v=>exact .bad v
 |raw v=>exact .raw v
theorem ao.ie{F:Nat->Prop}{w:World}{G:Nat->Value}{R:List (Nat×En)}{v:Value}{p:P}(h:ao F w G R v p)(hp:p.aI=true):v.oneCell'=true:=by
 cases h<;>try simp_all [P.aI]
 case d x h=>exact h.ie hp
 all_goals rfl
def aj:Value->Option Nat
 | .pointer (some a)=>some a.block
 | .slice (some a) _ _=>some a.block
 | .map r=>r
 |_=>none
def rj:Value->List Nat
 | .tuple ⟨_::l⟩=>l.filterMap aj
 |_=>[]
def av(b:Nat):Value:= .pointer (some ⟨b,0,none⟩)
def ay(g:Value):Obj->Nat->Prop
 | .gone,_=>False
 | .box _ _,b=>aj g=some b
 | .arr _ fz _,b=>fz=false/\aj g=some b
 | .map _ _ _ fz,b=>fz=false/\aj g=some b
 | .iter ..,b=>aj g=some b
 | .fy,_=>False
 | .fZ ..,b=>aj g=some b
 | .bS ..,b=>aj g=some b
 | .bC ..,b=>aj g=some b
 | .deep _ _,b=>b∈rj g
def fC(F:Nat->Prop)(w:World)(cs:Array Value)(k:Nat)(es:List D):Prop:=
 ∀(i:Nat) (x:D),es[i]?=some x->x.cells.length=k/\(∀c∈x.cells,c.aI=true)/\ ∀(j:Nat) (c:D),x.cells[j]?=some c->aA F w (cs.getD (i*k+j) undef) c
def fP(Q:Program)(F:Nat->Prop)(w:World)(kt:TypeId)(get:D->Option D)(n:Int)(es:List MapEntry)(clock:Nat):Prop:=
 ∃ks:List (D×D),ks.length=es.length/\n=(es.length:Int)/\(∀(i:Nat) (p:D×D) (e:MapEntry),ks[i]?=some p->es[i]?=some e->cq Q kt p.1=true/\p.1.br=some e.key/\aA F w e.val p.2)/\
  (ks.map (·.1)).Nodup/\(∀k v,get k=some v↔(k,v)∈ks)/\(∀e∈es,e.born<clock)/\(es.map (·.born)).Nodup
theorem fP.mono{Q:Program}{F F':Nat->Prop}{w w':World}{kt:TypeId}{get:D->Option D}{n:Int}{es:List MapEntry}{clock:Nat}(hF: ∀b,F b->F' b)(hw: ∀b,F b->w'.heap[b]?=w.heap[b]?)(h:fP Q F w kt get n es clock):fP Q F' w' kt get n es clock:=by obtain⟨ks,h1,h2,h3,h4,h5,h6,h7⟩:=h;exact⟨ks,h1,h2,λi p e hp he=>let ⟨a,b,c⟩:=h3 i p e hp he;⟨a,b,c.mono hF hw⟩,h4,h5,h6,h7⟩
def rk(Q:Program)(F:Nat->Prop)(w:World)(kt:TypeId)(left:D->Option D)(es:List MapEntry)(clock:Nat)(seen:Array Nat):Prop:=
 ∃ks:List (D×D),ks.length=es.length/\(∀(i:Nat) (p:D×D) (e:MapEntry),ks[i]?=some p->es[i]?=some e->cq Q kt p.1=true/\p.1.br=some e.key/\aA F w e.val p.2)/\
  (ks.map (·.1)).Nodup/\(∀e∈es,e.born<clock)/\(es.map (·.born)).Nodup/\ ∀k v,left k=some v↔ ∃(i:Nat) (e:MapEntry),ks[i]?=some (k,v)/\es[i]?=some e/\seen.contains e.born=false
theorem rk.mono{Q:Program}{F F':Nat->Prop}{w w':World}{kt:TypeId}{left:D->Option D}{es:List MapEntry}{clock:Nat}{seen:Array Nat}(hF: ∀b,F b->F' b)(hw: ∀b,F b->w'.heap[b]?=w.heap[b]?)(h:rk Q F w kt left es clock seen):rk Q F' w' kt left es clock seen:=by obtain⟨ks,h1,h3,h4,h5,h6,h7⟩:=h;exact⟨ks,h1,λi p e hp he=>let ⟨a,b,c⟩:=h3 i p e hp he;⟨a,b,c.mono hF hw⟩,h4,h5,h6,h7⟩
theorem fP.iter{Q:Program}{F:Nat->Prop}{w:World}{kt:TypeId}{get:D->Option D}{n:Int}{es:List MapEntry}{clock:Nat}(h:fP Q F w kt get n es clock):rk Q F w kt get es clock #[]:=by
 obtain⟨ks,h1,_,h3,h4,h5,h6,h7⟩:=h;refine⟨ks,h1,h3,h4,h6,h7,λk v=>⟨λhk=> ?_,λ⟨i,e,hi,_,_⟩=>(h5 k v).2 (zak hi)⟩⟩;obtain⟨i,hi⟩:=zao ((h5 k v).1 hk);have bj:i<es.length:=by have:=(zaa.1 hi).1;omega
 exact⟨i,es[i],hi,zac bj,by simp⟩
def tF(Q:Program)(F:Nat->Prop)(w:World)(G:Nat->Value)(R:List (Nat×En))(kt:TypeId)(ks:List (D×P))(es:List MapEntry)(clock:Nat):Prop:=
 ks.length=es.length/\(∀(i:Nat) (p:D×P) (e:MapEntry),ks[i]?=some p->es[i]?=some e->cq Q kt p.1=true/\p.1.br=some e.key/\ao F w G R e.val p.2)/\
  (ks.map (·.1)).Nodup/\(∀e∈es,e.born<clock)/\(es.map (·.born)).Nodup
theorem tF.mono{Q:Program}{F F':Nat->Prop}{w w':World}{G G':Nat->Value}{R R':List (Nat×En)}{kt:TypeId}{ks:List (D×P)}{es:List MapEntry}{clock:Nat}(hF: ∀b,F b->F' b)(hw: ∀b,F b->w'.heap[b]?=w.heap[b]?)(hn:Names G G' R R')(h:tF Q F w G R kt ks es clock):tF Q F' w' G' R' kt ks es clock:=
 ⟨h.1,λi p e hp he=>let ⟨a,b,c⟩:=h.2.1 i p e hp he;⟨a,b,c.mono hF hw hn⟩,h.2.2⟩
def MQ(Q:Program)(F:Nat->Prop)(w:World)(G:Nat->Value)(R:List (Nat×En))(kt:TypeId)(vals:D->Option Value)(n:Int)(hand:Option (D×P))(es:List MapEntry)(clock:Nat):Prop:=
 ∃ks:List (D×P),tF Q F w G R kt ks es clock/\n=(ks.length:Int)/\ ∀k,eG k ks=zT vals hand k
theorem MQ.mono{Q:Program}{F F':Nat->Prop}{w w':World}{G G':Nat->Value}{R R':List (Nat×En)}{kt:TypeId}{vals:D->Option Value}{n:Int}{hand:Option (D×P)}{es:List MapEntry}{clock:Nat}(hF: ∀b,F b->F' b)(hw: ∀b,F b->w'.heap[b]?=w.heap[b]?)(hn:Names G G' R R')(h:MQ Q F w G R kt vals n hand es clock):MQ Q F' w' G' R' kt vals n hand es clock:=
 let ⟨ks,h1,h2,h3⟩:=h;⟨ks,h1.mono hF hw hn,h2,h3⟩
theorem dM(v:Value)(bs:List Nat):rj (.tuple ⟨v::bs.map av⟩)=bs:=by
 show(bs.map av).filterMap aj=bs
 induction bs with
 |nil=>rfl
 |cons b bs ih=>simp only[zaO,List.filterMap_cons,av,aj];exact congrArg _ ih
def oH(F:Nat->Prop)(w:World)(G:Nat->Value)(R:List (Nat×En))(cs:Array Value)(k:Nat)(es:List D)(h:Option (Nat×Nat×P)):Prop:=
 (∀(i:Nat) (x:D),es[i]?=some x->x.cells.length=k/\(∀c∈x.cells,c.aI=true)/\ ∀(j:Nat) (c:D),x.cells[j]?=some c->(∀p,h≠some (i,j,p))->aA F w (cs.getD (i*k+j) undef) c)/\
  ∀i j p,h=some (i,j,p)->i<es.length/\j<k/\(cs.getD (i*k+j) undef).oneCell'=true/\ao F w G R (cs.getD (i*k+j) undef) p
theorem oH.mono{F F':Nat->Prop}{w w':World}{G G':Nat->Value}{R R':List (Nat×En)}{cs:Array Value}{k:Nat}{es:List D}{h:Option (Nat×Nat×P)}(hF: ∀b,F b->F' b)(hw: ∀b,F b->w'.heap[b]?=w.heap[b]?)(hn:Names G G' R R')(hr:oH F w G R cs k es h):oH F' w' G' R' cs k es h:=
 ⟨λi x hx=>let ⟨h1,h2,h3⟩:=hr.1 i x hx;⟨h1,h2,λj c hc ca=>(h3 j c hc ca).mono hF hw⟩,λi j p hp=>let ⟨h1,h2,h3,h4⟩:=hr.2 i j p hp;⟨h1,h2,h3,h4.mono hF hw hn⟩⟩
def eO(Q:Program)(F:Nat->Prop)(w:World)(G:Nat->Value)(R:List (Nat×En))(n:Nat):Obj->Prop
 | .gone=>True
 | .box T ps=> ∃b cs,G n= .pointer (some ⟨b,0,none⟩)/\w.heap[b]?=some (.cells cs T (0,0))/\cs.size=ps.length/\(∀v∈cs.toList,v.oneCell'=true)/\ ∀(i:Nat) (p:P),ps[i]?=some p->ao F w G R (cs.getD i undef) p
 | .arr ty fz es=>(G n= .slice none 0 0/\es=[])\/
  ∃b cap cs k,G n= .slice (some ⟨b,0,none⟩) es.length cap/\w.heap[b]?=some (.cells cs ty (0,0))/\sz Q ty=some k/\0<k/\es.length<=cap/\cap<=maxLen/\cs.size=cap*k/\(fz=true->F b)/\fC F w cs k es
 | .map kt get c fz=> ∃b es clock,G n= .map (some b)/\w.heap[b]?=some (.map es clock)/\fP Q F w kt get c es.toList clock/\(fz=true->F b)
 | .fy=>True
 | .bC ty es h=>(G n= .slice none 0 0/\es=[]/\h=none)\/
  ∃b cap cs k,G n= .slice (some ⟨b,0,none⟩) es.length cap/\w.heap[b]?=some (.cells cs ty (0,0))/\sz Q ty=some k/\0<k/\es.length<=cap/\cap<=maxLen/\cs.size=cap*k/\oH F w G R cs k es h
 | .deep _ p=> ∃v bs,G n= .tuple ⟨v::List.map av bs⟩/\(∀b∈bs,b<w.heap.size)/\ ∀w':World,(∀b,b∈bs\/F b->w'.heap[b]?=w.heap[b]?)->p w' (.tuple ⟨v::List.map av bs⟩)
 | .bS kt vals c hand=> ∃b es clock,G n= .map (some b)/\w.heap[b]?=some (.map es clock)/\MQ Q F w G R kt vals c hand es.toList clock
 | .fZ kt get c p kd=> ∃b es clock,G n= .map (some b)/\w.heap[b]?=some (.map es clock)/\fP Q F w kt get c es.toList clock/\ ∃(i:Nat) (e:MapEntry),es[i]?=some e/\ao F w G R (.int .i64 (e.born:Int)) p/\kd.br=some e.key/\(get kd).isSome=true
 | .iter kt _ left cur=> ∃b mo since seen last,G n= .pointer (some ⟨b,0,none⟩)/\w.heap[b]?=some (.mapIter mo since seen last)/\
  ((mo=none/\(∀k,left k=none)/\cur=none)\/ ∃m es,mo=some m/\F m/\w.heap[m]?=some (.map es since)/\last=since/\rk Q F w kt left es.toList since seen/\ ∀k v,cur=some (k,v)-> ∃e∈es.toList,seen.back?=some e.born/\k.br=some e.key/\aA F w e.val v)
def bt(F:Nat->Prop)(w:World)(G:Nat->Value)(R:List (Nat×En))(_tmps:Array Value)(v:Value):P->Prop
 | .when ..=>v=undef
 |p=>ao F w G R v p
theorem bt.of{F:Nat->Prop}{w:World}{G:Nat->Value}{R:List (Nat×En)}{tmps:Array Value}{v:Value}{p:P}(h:ao F w G R v p):bt F w G R tmps v p:=by cases p<;>first |exact h |cases h
theorem bt.mono{F F':Nat->Prop}{w w':World}{G G':Nat->Value}{R R':List (Nat×En)}(hF: ∀b,F b->F' b)(hw: ∀b,F b->w'.heap[b]?=w.heap[b]?)(hn:Names G G' R R')
  {tmps:Array Value} {v:Value} {p:P} (h:bt F w G R tmps v p):bt F' w' G' R' tmps v p:=by
 cases p with
 |when t b q=>exact h
 |_=>exact ao.mono hF hw hn h
structure Tg where
 val:Nat->Value
 w0:World
 lo:Nat
 Ea:Bool
instance:CoeFun Tg λ_=>Nat->Value:=⟨Tg.val⟩
def Own(G:Nat->Value)(R:List (Nat×En))(b:Nat):Prop:= ∃n e,lk R n=some e/\ay (G n) e.obj b
def dP(T:Tg)(F:Nat->Prop)(G:Nat->Value)(R:List (Nat×En))(w:World)(ds:List Deferred):Prop:=
 ds.Nodup/\ ∀d∈ds,∃D,d={target:= .collected D,args:= #[]}/\(T.lo<=D/\T.Ea=true)/\w.heap[D]?=some (.deferred (some []))/\ ¬F D/\ ¬Own G R D
theorem dP.nil{T:Tg}{F:Nat->Prop}{G:Nat->Value}{R:List (Nat×En)}{w:World}:dP T F G R w []:=⟨by simp,λd h=>by cases h⟩
structure aq(Q:Program)(T:Tg)(F:Nat->Prop)(G:Nat->Value)(w:World)(a:Act)(s:S):Prop where
 mf:dP T F G s.rg w a.defers
 size:s.n<=a.tmps.size
 tm: ∀t p,lk s.tm t=some p->bt F w G s.rg a.tmps (a.tmps.getD t undef) p
 rg: ∀n e,lk s.rg n=some e->eO Q F w G s.rg n e.obj
 own: ∀n m e e' b,lk s.rg n=some e->lk s.rg m=some e'->ay (G n) e.obj b->ay (G m) e'.obj b->n=m
 gG: ∀n e b,lk s.rg n=some e->ay (G n) e.obj b-> ¬F b
 fw: ∀b,F b->b<w.heap.size
 tag: ∀n e i,lk s.rg n=some e->e.tag=some i->e.obj.live=true->ew (G n) (T i)
 z: ∀b,b<T.w0.heap.size->F b/\w.heap[b]?=T.w0.heap[b]?
 dr:T.w0.drawn<=w.drawn
 sz:T.lo<=w.heap.size
structure Ext(own L9 F F':Nat->Prop)(w w':World):Prop where
 fV: ∀b,F b->F' b
 iN: ∀b,F' b->F b\/own b\/w.heap.size<=b
 fe: ∀b,L9 b->own b\/w.heap.size<=b
 keep: ∀b,b<w.heap.size-> ¬own b->w'.heap[b]?=w.heap[b]?
 size:w.heap.size<=w'.heap.size
 os:w'.os=w.os
 tape:w'.tape=w.tape
 output:w'.output=w.output
theorem dP.go{T:Tg}{F F':Nat->Prop}{G G':Nat->Value}{R R':List (Nat×En)}{w w':World}{ds:List Deferred}(h:dP T F G R w ds)(hx:Ext (Own G R) (Own G' R') F F' w w'):dP T F' G' R' w' ds:=by
 refine⟨h.1,λd hd=> ?_⟩;obtain⟨D,h1,h0,h2,h3,h4⟩:=h.2 d hd;have bj:D<w.heap.size:=(zap.1 h2).1;refine⟨D,h1,h0,(hx.keep D bj h4).trans h2,λhf=> ?_,λho=> ?_⟩
 ·rcases hx.iN D hf with h |h |h
  ·exact h3 h
  ·exact h4 h
  omega
 rcases hx.fe D ho with h |h
 ·exact h4 h
 omega
theorem dP.uR{T:Tg}{F F':Nat->Prop}{G:Nat->Value}{R R':List (Nat×En)}{w:World}{ds:List Deferred}(h:dP T F G R w ds)(hF: ∀b,F' b->F b\/Own G R b)(hO: ∀b,Own G R' b->Own G R b):dP T F' G R' w ds:=
 ⟨h.1,λd hd=>let ⟨D,h1,h0,h2,h3,h4⟩:=h.2 d hd;⟨D,h1,h0,h2,λhf=>(hF D hf).elim h3 h4,λho=>h4 (hO D ho)⟩⟩
theorem Ext.refl(own F:Nat->Prop)(w:World):Ext own own F F w w:=
 ⟨λ_ h=>h,λ_ h=> .inl h,λ_ h=> .inl h,λ_ _ _=>rfl,zae _,rfl,rfl,rfl⟩
theorem Ext.trans{o1 o2 o3 F1 F2 F3:Nat->Prop}{w1 w2 w3:World}(h:Ext o1 o2 F1 F2 w1 w2)(k:Ext o2 o3 F2 F3 w2 w3):Ext o1 o3 F1 F3 w1 w3 where
 fV b hb:=k.fV b (h.fV b hb)
 iN b hb:=by
  rcases k.iN b hb with h1 |h1 |h1
  ·exact h.iN b h1
  ·rcases h.fe b h1 with h2 |h2
   ·grind
   grind
  exact .inr (.inr (zaN h.size h1))
 fe b hb:=by
  rcases k.fe b hb with h1 |h1
  ·exact h.fe b h1
  exact .inr (zaN h.size h1)
 keep b hb hn:=by
  have Ir: ¬o2 b:=λh2=>by rcases h.fe b h2 with h3 |h3;exact hn h3;omega
  rw[k.keep b (zaK hb h.size) Ir,h.keep b hb hn]
 size:=zaN h.size k.size
 os:=k.os.trans h.os
 tape:=k.tape.trans h.tape
 output:=k.output.trans h.output
theorem Names.refl(G:Nat->Value)(R:List (Nat×En)):Names G G R R:=⟨λ_ e h=>⟨e,h,zae _,λ_ h=>h⟩,λ_ _ _ _ _ _ _=> .inl rfl⟩
theorem eO.lt{Q:Program}{F:Nat->Prop}{w:World}{G:Nat->Value}{R:List (Nat×En)}{n:Nat}{o:Obj}(h:eO Q F w G R n o){b:Nat}(hb:ay (G n) o b):b<w.heap.size:=by
 cases o with
 |gone=>simp[ay] at hb
 |box T ps=>obtain⟨b',cs,hg,hh,_⟩:=h;grind [ay,aj]
 |arr ty fz es=>
  rcases h with⟨hg,_⟩| ⟨b',cap,cs,k,hg,hh,_⟩
  ·simp[ay,hg,aj] at hb
  grind [ay,aj]
 |map kt get c fz=>obtain⟨b',es,clock,hg,hh,_⟩:=h;grind [ay,aj]
 |iter kt vt left cur=>obtain⟨b',mo,since,seen,last,hg,hh,_⟩:=h;grind [ay,aj]
 |fy=>simp[ay] at hb
 |fZ kt get c p kd=>obtain⟨b',es,clock,hg,hh,_⟩:=h;grind [ay,aj]
 |bS kt vals c hand=>obtain⟨b',es,clock,hg,hh,_⟩:=h;grind [ay,aj]
 |bC ty es hd=>
  rcases h with⟨hg,_⟩| ⟨b',cap,cs,k,hg,hh,_⟩
  ·simp[ay,hg,aj] at hb
  grind [ay,aj]
 |deep x p=>obtain⟨v,bs,hg,h1,_⟩:=h;refine h1 b ?_;have hb:b∈rj (G n):=hb;rw[hg,dM] at hb;exact hb
theorem aq.cz{Q:Program}{T:Tg}{F:Nat->Prop}{G:Nat->Value}{w:World}{a:Act}{s:S}(h:aq Q T F G w a s){b:Nat}(hb:Own G s.rg b):b<w.heap.size:=by obtain⟨n,e,he,hb⟩:=hb;exact(h.rg n e he).lt hb
end Pi
