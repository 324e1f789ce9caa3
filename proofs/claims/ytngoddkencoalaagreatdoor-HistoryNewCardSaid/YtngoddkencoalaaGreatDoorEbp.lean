/- The texts PiSort PiSeat PiBulk. -/
import Derived.Test.YtngoddkencoalaaGreatDoorEbo
import Derived.Shelf.SlSortCmp.NoneTotal
namespace Pi
open Go Go.RowKit
section
variable{Q:Program}
def ya(Q:Program)(kp:pZ)(g:FuncId)(x y:D)(i:Int):Prop:=Ev λlf k=>ff Q kp lf k g [.d x,.d y] []=some (.d (.int .i64 i),[])
noncomputable def lI(Q:Program)(kp:pZ)(g:FuncId)(x y:D):Int:=by classical exact if h: ∃i,ya Q kp g x y i then h.choose else 0
structure sS(Q:Program)(kp:pZ)(g:FuncId)(es:List D)(cf:D->D->Int):Prop where
 fn: ∃fn,Q.funcs[g]?=some fn/\fn.body.isSome=true/\(fn.name== "runtime.NumGoroutine")=false
 ag: ∀x∈es,∃cs,x= .agg cs
 len:es.length<4611686018427387904
 run: ∀x∈es,∀y∈es,ya Q kp g x y (cf x y)
 Ky: ∀x∈es,¬cf x x<0
 tr: ∀x∈es,∀y∈es,∀z∈es,cf x y<0->cf y z<0->cf x z<0
 ntr: ∀x∈es,∀y∈es,∀z∈es,¬cf x y<0-> ¬cf y z<0-> ¬cf x z<0
def el(es:List D)(i:Nat):D:=es.getD (if i<es.length then i else 0) .fP
theorem mg{es:List D}(h:0<es.length)(i:Nat):el es i∈es:=by
 unfold el;split
 next hi=>rw[zac,zae hi];exact zas hi
 rw[zac,zae h];exact zas h
def jZ(cf:D->D->Int)(es:List D):List D:=
 if 0<es.length then(Go.Sort.pdq (Go.Proofs.ltOf λi j:Nat=>cf (el es i) (el es j)) (Array.range es.length) 0 es.length (Lib.bitLen es.length) true true).toList.map (el es) else []
theorem Is{kp:pZ}{g:FuncId}{es:List D}{cf:D->D->Int}(h:sS Q kp g es cf)(h0:0<es.length):Go.Sort.SWO (Go.Proofs.ltOf λi j:Nat=>cf (el es i) (el es j)):=by
 constructor
 ·intro x;exact zaL (h.Ky _ (mg h0 x))
 ·intro x y z h1 h2;exact zaT (h.tr _ (mg h0 x) _ (mg h0 y) _ (mg h0 z) (zbE h1) (zbE h2))
 intro x y z h1 h2;exact zaL (h.ntr _ (mg h0 x) _ (mg h0 y) _ (mg h0 z) (zcj h1) (zcj h2))
theorem nL{kp:pZ}{g:FuncId}{es:List D}{cf:D->D->Int}(h:sS Q kp g es cf):(jZ cf es).Perm es/\(jZ cf es).Pairwise λa b=> ¬cf b a<0:=by
 by_cases h0:0<es.length
 ·obtain⟨h1,h2⟩:=Go.Sort.pdq_sorts (Go.Proofs.ltOf λi j:Nat=>cf (el es i) (el es j)) (Is h h0) (Array.range es.length) 0 es.length (Lib.bitLen es.length) true true (za6 _) (by simp) (Or.inl rfl);unfold jZ;rw[zao h0];generalize Go.Sort.pdq (Go.Proofs.ltOf λi j:Nat=>cf (el es i) (el es j)) (Array.range es.length) 0 es.length (Lib.bitLen es.length) true true=d at h1 h2;obtain⟨p1,_,p3⟩:=h1;simp only[zcx] at p1;have e1:d.extract 0 es.length=d:=by rw[<-p1];simp
  have e2:(Array.range es.length).extract 0 es.length=Array.range es.length:=by simp
  rw[e1,e2] at p3;constructor
  ·have:=p3.map (el es);refine this.trans (List.Perm.of_eq ?_);apply zbY
   ·simp
   intro i h1 h2;simp[el,h2]
  rw[zcs,zbh];intro i j hi hj qw;have:=h2 i j (za6 _) qw (by simpa [p1] using hj);rw[zck d i (by simpa using hi),zck d j (by simpa using hj)] at this;simpa [Go.Proofs.ltOf] using this
 have:es=[]:=zax (by omega);subst this;exact⟨List.Perm.refl _,List.Pairwise.nil⟩
open Classical in
noncomputable def yb(Q:Program)(kp:pZ)(ty:TypeId):TF
 | [.sl n v len,.fn g []],R=>match lk R n with
  |some e=>(match e.obj with
   | .arr ty' false es=>if v=e.aY/\ty'=ty/\len<=es.length/\sS Q kp g (es.take len) (lI Q kp g) then some (.cX [],ins n ⟨e.aY,e.tag,.arr ty false (jZ (lI Q kp g) (es.take len)++es.drop len)⟩ R) else none
   |_=>none)
  |none=>none
 |_,_=>none
theorem ya.one{kp:pZ}{g:FuncId}{x y:D}{i j:Int}(h:ya Q kp g x y i)(h':ya Q kp g x y j):i=j:=by obtain⟨a,b,h1,h2⟩:=(Ev.and h h').some;rw[h1] at h2;simpa using h2
theorem Kz{kp:pZ}{g:FuncId}{x y:D}{i:Int}(h:ya Q kp g x y i):lI Q kp g x y=i:=by
 unfold lI;have h': ∃i,ya Q kp g x y i:=⟨i,h⟩
 rw[dif_pos h'];exact h'.choose_spec.one h
theorem sS.cf{kp:pZ}{g:FuncId}{es:List D}{cf:D->D->Int}(h:sS Q kp g es cf):sS Q kp g es (lI Q kp g):=by have e: ∀x∈es,∀y∈es,lI Q kp g x y=cf x y:=λx hx y hy=>Kz (h.run x hx y hy);refine⟨h.fn,h.ag,h.len,λx hx y hy=>by rw[e x hx y hy];exact h.run x hx y hy,λx hx=>by rw[e x hx x hx];exact h.Ky x hx,λx hx y hy z hz=>by rw[e x hx y hy,e y hy z hz,e x hx z hz];exact h.tr x hx y hy z hz,λx hx y hy z hz=>by rw[e x hx y hy,e y hy z hz,e x hx z hz];exact h.ntr x hx y hy z hz⟩
def Qt(Q:Program)(kp:pZ)(ty:TypeId):br:=λps R ae=> ∃n g e es tl cf,ps=[.sl n e.aY es.length,.fn g []]/\lk R n=some e/\e.obj= .arr ty false (es++tl)/\sS Q kp g es cf/\
 ∀fA:List D,fA.Perm es->fA.Pairwise (λa b=> ¬cf b a<0)->ae (.cX [],ins n ⟨e.aY,e.tag,.arr ty false (fA++tl)⟩ R)
def qaK(Q:Program)(kp:pZ)(ty:TypeId):br:=λps R ae=> ∃n g e es cf,ps=[.sl n e.aY es.length,.fn g []]/\lk R n=some e/\e.obj= .arr ty false es/\sS Q kp g es cf/\
 ∀fA:List D,fA.Perm es->fA.Pairwise (λa b=> ¬cf b a<0)->ae (.cX [],ins n ⟨e.aY,e.tag,.arr ty false fA⟩ R)
theorem ve{kp:pZ}{ty:TypeId}{ps:List P}{R:List (Nat×En)}{ae:P×List (Nat×En)->Prop}(h:Qt Q kp ty ps R ae): ∃x,yb Q kp ty ps R=some x/\ae x:=by
 obtain⟨n,g,e,es,tl,cf,rfl,he,bV,hc,eW⟩:=h;have qV:=hc.cf;refine⟨_,?_,eW (jZ (lI Q kp g) es) (nL qV).1 ?_⟩
 ·unfold yb;simp only[he,bV];rw[zb3 rfl,List.drop_left' rfl,zao ⟨rfl,rfl,by rw[zan];exact zc1 _ _,qV⟩]
 refine List.Pairwise.imp_of_mem ?_ (nL qV).2;intro a b ha hb Ot;have ha':=(nL qV).1.mem_iff.1 ha;have dj:=(nL qV).1.mem_iff.1 hb;rwa [Kz (hc.run b dj a ha')] at Ot
theorem Iu{kp:pZ}{ty:TypeId}{ps:List P}{R:List (Nat×En)}{ae:P×List (Nat×En)->Prop}(h:qaK Q kp ty ps R ae): ∃x,yb Q kp ty ps R=some x/\ae x:=by obtain⟨n,g,e,es,cf,rfl,he,bV,hc,eW⟩:=h;refine ve ⟨n,g,e,es,[],cf,rfl,he,by rw[bV,zbi],hc,λfA h1 h2=> ?_⟩;rw[zbi];exact eW fA h1 h2
theorem Ac{w w':World}(h:Go.RowKit.Below w.heap.size w w')(hd:w.drawn<=w'.drawn): ∃q os,w'=Go.Sort.grow (w.drewN q) os:=by
 refine⟨w'.drawn-w.drawn,w'.heap.extract w.heap.size w'.heap.size,?_⟩;have e:w'.heap=w.heap++w'.heap.extract w.heap.size w'.heap.size:=by
  apply zcR;intro i;by_cases hi:i<w.heap.size
  ·rw[zch hi];exact h.block i hi
  rw[Array.getElem?_append_right (by omega),Array.getElem?_extract];simp only[Nat.min_self];split
  ·congr 1;omega
  exact Array.getElem?_eq_none (by omega)
 cases w' with
 |mk heap tape drawn os output=>have h1:=h.os;have h2:=h.tape;have h3:=h.output;simp only at h1 h2 h3 e hd;subst h1 h2 h3;unfold Go.Sort.grow World.drewN;simp only;rw[<-e,Nat.add_sub_cancel' hd]
theorem MN{kp:pZ}(hm:Q.follows .mixedOrders=true){g:FuncId}{fn:Func}(fW:Q.funcs[g]?=some fn)(cG:fn.body.isSome=true)(jm:(fn.name== "runtime.NumGoroutine")=false)
  {x y:D} {i:Int} (bX:ya Q kp g x y i) {w:World} (hX:du Q w kp.X) {vx vy:Value} (h1:a8 (· <w.heap.size) w vx x) (h2:a8 (· <w.heap.size) w vy y):
  Calls Q g #[vx,vy] w (λe w'=>e= .returned (.int .i64 i)/\ ∃q os,w'=Go.Sort.grow (w.drewN q) os):=by
 obtain⟨lf,k,bX⟩:=bX.some;have hH:fE Q ⟨λ_=>undef,w,0,false⟩ (· <w.heap.size) (λ_=>undef) w []:=
  ⟨.nil,za6 _,λt p hp=>by simp[lk] at hp,λn e he=>by simp[lk] at he,λn m e e' b he=>by simp[lk] at he,λn e b he=>by simp[lk] at he,λb hb=>hb,λn e i he=>by simp[lk] at he,λb hb=>⟨hb,rfl⟩,zaj _,za6 _⟩
 have bw:=sQ hX hm k g [.d x,.d y] [] _ _ bX (· <w.heap.size) (λ_=>undef) w [vx,vy] hH rfl (λj v c hv hc=>by
  match j with
  |0=>cases hv;cases hc;exact .d h1
  |1=>cases hv;cases hc;exact .d h2
  |j+2=>cases hv)
 have lS:(callFunc g ⟨[vx,vy]⟩).run Q w= .ok (.enter g ⟨[vx,vy]⟩) w:=by
  simp[callFunc,fW];rw[zam (by simpa using jm)];cases hb:fn.body with
  |none=>rw[hb] at cG;cases cG
  |some c=>simp
 rcases bw with⟨_,h⟩| ⟨v,w',h,_⟩
 ·refine h.mono λe w' ⟨v,he,F',G',h1,h2,h3⟩=> ?_;have hv:v= .int .i64 i:=aF.cA (p:= .d (.int .i64 i)) h2 rfl;subst hv;exact⟨he,Ac ⟨h3.os,h3.tape,h3.output,h3.size,λb hb=>h3.keep b hb (λ⟨n,e,he,_⟩=>by simp[lk] at he)⟩ h1.dr⟩
 rw[lS] at h;cases h
open Go.Sort Go.Proofs in
theorem jQ{enc:Nat->List Value}{k:Nat}{w:World}{b m:Nat}{dk:Array Nat}{os:Array Go.Obj}{c:Nat}(hc:c<w.heap.size)(dI:c≠b):(sortWorldK enc k w b 0 m dk os).heap[c]?=w.heap[c]?:=by unfold sortWorldK grow;simp only;rw[zch (by rw[size_putRowK];exact hc)];unfold putRowK putRow mapBlock;simp only[zcD];rw[zam (zbD dI)];rfl
open Go.Sort Go.Proofs in
theorem yc{enc:Nat->List Value}{k:Nat}{w:World}{b m:Nat}{dk:Array Nat}{os:Array Go.Obj}{cs:Array Value}{ty:TypeId}(h:w.heap[b]?=some (.cells cs ty (0,0))):
  ∃lC,(sortWorldK enc k w b 0 m dk os).heap[b]?=some (.cells lC ty (0,0))/\lC.size=cs.size/\ ∀p,dk.size*k<=p->lC[p]?=cs[p]?:=by
 have hb:b<w.heap.size:=(zar.1 h).1;unfold sortWorldK grow;simp only;rw[zch (by rw[size_putRowK];exact hb)];unfold putRowK putRow mapBlock;simp only[zcD];have h':(Go.Sort.ahead w m).heap[b]?=some (.cells cs ty (0,0)):=h;rw[zao trivial,h'];refine⟨_,rfl,by simp[putCells],λp hp=> ?_⟩;unfold putCells;rw[Array.getElem?_mapIdx,size_flatK];have: ¬(0<=p/\p<0+dk.size*k):=by omega
 cases cs[p]? with
 |none=>rfl
 |some x=>exact congrArg some (zam this)
def qx(n k:Nat)(cs:Array Value)(i:Nat):List Value:=(List.range k).map λj=>cs.getD ((if i<n then i else 0)*k+j) undef
theorem KA{F F':Nat->Prop}{w w':World}{cs:Array Value}{k:Nat}{es:List D}(hE:mG F w cs k es)(h0:0<es.length)(hF: ∀c,F c->F' c)(hw: ∀c,F c->w'.heap[c]?=w.heap[c]?)(ha: ∀x∈es,∃cs,x= .agg cs)(i:Nat):
  a8 F' w' (.agg (qx es.length k cs i).toArray) (el es i):=by
 have hi:(if i<es.length then i else 0)<es.length:=by split<;>assumption
 have hx:es[if i<es.length then i else 0]?=some (el es i):=by unfold el;rw[zac,zae hi];rfl
 obtain⟨xs,VY⟩:=ha _ (mg h0 i);obtain⟨q1,q2,q3⟩:=hE _ _ hx;rw[VY] at q1 q2 q3⊢;refine .agg _ xs (by simp only[D.cells] at q1;simp[qx,q1]) q2 λj v c hv hc=> ?_;simp only[D.cells] at q1 q3;have hj:j<k:=by rw[<-q1];exact(zad.1 hc).1
 unfold qx at hv;rw[zaJ,zcd hj] at hv;simp only[zaK,zal] at hv;subst hv;exact(q3 j c hc).mono hF hw
theorem WE{F:Nat->Prop}{w:World}{cs:Array Value}{k:Nat}{es:List D}(hE:mG F w cs k es)(h0:0<es.length)(i:Nat): ∀v∈qx es.length k cs i,v.oneCell'=true:=by
 intro v hv;have hi:(if i<es.length then i else 0)<es.length:=by split<;>assumption
 obtain⟨q1,q2,q3⟩:=hE _ _ (zae hi);unfold qx at hv;obtain⟨j,hj,rfl⟩:=zaA.1 hv;have hj:=List.mem_range.1 hj;have hc:=zae (l:=es[if i<es.length then i else 0].cells) (by rw[q1];exact hj);exact(q3 j _ hc).nA (q2 _ (zaC hc))
open Go.Sort Go.Proofs Go.Shelf in
set_option maxHeartbeats 1000000 in
theorem Fo{kp:pZ}(hX: ∀w,du Q w kp.X){ρ:Ren}(L:SlLaysF0.n6 Q ρ){f:FuncId}(hf:f=ρ.f 6)(fW: ∀(vs:Array Value) (w:World),(callFunc f vs).run Q w= .ok (.enter f vs) w){ty:TypeId}{k:Nat}(hk:sz Q ty=some k)
  (aE: ∀w,(isAgg (ρ.t 24)).run Q w= .ok true w) (zE: ∀w,(Go.sizeOf (ρ.t 24)).run Q w= .ok k w) (w0:World):MK Q w0 f (yb Q kp ty):=by
 intro h0 ps R p R1 h F G w vs hH hl hv;unfold yb at h;split at h
 next n v len g=>
  split at h
  next e he=>
   split at h
   ·rename_i ty' es0 bV;split at h
    ·rename_i hc;obtain⟨rfl,rfl,hlen,hc⟩:=hc;obtain⟨es,tl,rfl,rfl⟩: ∃es tl,es0=es++tl/\len=es.length:=⟨es0.take len,es0.drop len,(zbR _ _).symm,by rw[zay];omega⟩
     rw[zb3 rfl] at hc;rw[zb3 rfl,List.drop_left' rfl] at h;simp only[zal,zbC] at h;obtain⟨rfl,rfl⟩:=h
     match vs,hl,hv with
     | [u0,u1],_,hv=>
      have hp0:=hv 0 u0 _ rfl rfl;have wE:=hv 1 u1 _ rfl rfl;have hO:=hH.rg n e he;rw[bV] at hO;cases hp0 with
      |sl _ _ _ _ h1 hr=>
       cases wE with
       |fn _ ws _ hws _=>
        have:ws=[]:=zax (by simpa using hws);subst this;obtain⟨a,N,cap,hG,rfl,_⟩:=hr.at he rfl (by rw[bV];rfl);have fY:qT G R n ⟨e.aY,e.tag,.arr ty' false (jZ (lI Q kp g) es++tl)⟩ (G n):=λe1 DY=>by rw[he] at DY;cases DY;exact .inr ⟨rfl,λ_=>⟨by rw[bV];rfl,rfl⟩⟩
        have fin: ∀(w':World),w.drawn<=w'.drawn->(∀c,c<w.heap.size-> ¬(∃e',lk R n=some e'/\bH (G n) e'.obj=some c)->w'.heap[c]?=w.heap[c]?)->w.heap.size<=w'.heap.size->w'.os=w.os->w'.tape=w.tape->w'.output=w.output->
          oB Q F w' G (ins n ⟨e.aY,e.tag,.arr ty' false (jZ (lI Q kp g) es++tl)⟩ R) n (.arr ty' false (jZ (lI Q kp g) es++tl))->
          ∃F' G',fE Q ⟨G,w0,0,false⟩ F' G' w' (ins n ⟨e.aY,e.tag,.arr ty' false (jZ (lI Q kp g) es++tl)⟩ R)/\aF F' w' G' (ins n ⟨e.aY,e.tag,.arr ty' false (jZ (lI Q kp g) es++tl)⟩ R) (.tuple #[]) (.cX [])/\Ext (Own G R) (Own G' (ins n ⟨e.aY,e.tag,.arr ty' false (jZ (lI Q kp g) es++tl)⟩ R)) F F' w w':=by
         intro w' hd eK dt Pq htp bw EM;obtain⟨d1,d2⟩:=aD.ni hH (e1:=⟨e.aY,e.tag,.arr ty' false (jZ (lI Q kp g) es++tl)⟩) (g1:=G n) (w':=w') (hdr:=hd) fY eK dt Pq htp bw
          (λc hc=> .inr ⟨e,he,by rw[bV];exact hc⟩) (by rw[bW];exact EM) (λi hi _=>hH.tag n e i he hi (by rw[bV];rfl))
         rw[bW] at d1 d2;exact⟨F,G,d1,.cX [] [] rfl (λi v c hv _=>by simp at hv),d2⟩
        by_cases hn:0<es.length
        ·obtain⟨b,iK,cs,k',oC,hh,mz,gn,hle,zn,dt,_,hE⟩: ∃b cap cs k,G n= .slice (some ⟨b,0,none⟩) (es++tl).length cap/\w.heap[b]?=some (.cells cs ty' (0,0))/\sz Q ty'=some k/\0<k/\(es++tl).length<=cap/\cap<=maxLen/\cs.size=cap*k/\(false=true->F b)/\mG F w cs k (es++tl):=by
          rcases hO with⟨_,Kk⟩|hO
          ·rw[(List.append_eq_nil_iff.1 Kk).1] at hn;simp at hn
          exact hO
         rw[hk] at mz;cases mz;rw[hG] at oC;cases oC;have hE0:=hE;have hE:mG F w cs k es:=λi x hx=>hE0 i x (by rw[zaM (zad.1 hx).1];exact hx);have qbG:=hle;have hle:es.length<=cap:=by rw[zan] at qbG;omega
         have vM:b<w.heap.size:=(zar.1 hh).1;have Wb: ¬F b:=hH.my n e b he (by rw[bV];simp[bH,hG,aR]);have qfj: ∀c,F c->c≠b:=λc hc e'=>Wb (e'▸hc);obtain⟨fn,g1,g2,g3⟩:=hc.fn;have eg: ∀args w,(callFunc g args).run Q w= .ok (.enter g args) w:=λargs w=>enters g1 g2 g3 args w;have Pm:CmpLays Q g #[] (qx es.length k cs) k (λi j:Nat=>lI Q kp g (el es i) (el es j)) b 0 (Array.range es.length).size w:=by intro m os dk hs x y;have hFw: ∀c,F c->(sortWorldK (qx es.length k cs) k w b 0 m dk os).heap[c]?=w.heap[c]?:=λc hc=>jQ (hH.ji c hc) (qfj c hc);have hFs: ∀c,F c->c<(sortWorldK (qx es.length k cs) k w b 0 m dk os).heap.size:=λc hc=>za4 (hH.ji c hc) (size_sortWorldK_c _ _ _ _ _ _ _ _);exact MN L.mixed g1 g2 g3 (hc.run _ (mg hn x) _ (mg hn y)) (hX _) (KA hE hn hFs hFw hc.ag x) (KA hE hn hFs hFw hc.ag y)
         have hHo:HoldsK (qx es.length k cs) k w b 0 (Array.range es.length):=by
          intro j hj;have hj:j<es.length*k:=by simpa using hj
          have hjk:j/k<es.length:=Nat.div_lt_of_lt_mul (by rw[zb8];exact hj);have KB:j%k<k:=zcU _ gn;have hjs:j<cs.size:=by rw[dt];exact za4 hj (zaq k hle)
          refine⟨?_,by simp[World.frozen?,hh]⟩;rw[q4 hh,get_flatK _ _ _ _ (by simpa using hj)];rw[zck (Array.range es.length) (j/k) (by simpa using hjk),Array.getElem_range];unfold qx;rw[zck _ (j%k) (by simpa using KB)];simp only[List.getElem_map,List.getElem_range,zao hjk,id];rw[zaG,zb8,zc5];exact Qs hjs
         have lS:=AnyQ.slices_SortFunc_eq L k aE zE (qx es.length k cs) (λx=>by simp[qx]) (WE hE hn) (λi j:Nat=>lI Q kp g (el es i) (el es j)) (Is hc hn) g #[] b 0 cap (Array.range es.length) w eg Pm hHo vM (by simp only[zcx];exact hc.len);obtain⟨s1,_⟩:=pdq_sorts (Go.Proofs.ltOf λi j:Nat=>lI Q kp g (el es i) (el es j)) (Is hc hn) (Array.range es.length) 0 es.length (Lib.bitLen es.length) true true (za6 _) (by simp) (Or.inl rfl);simp only[zcx] at lS;have hsD:jZ (lI Q kp g) es=(pdq (Go.Proofs.ltOf λi j:Nat=>lI Q kp g (el es i) (el es j)) (Array.range es.length) 0 es.length (Lib.bitLen es.length) true true).toList.map (el es):=by unfold jZ;rw[zao hn]
         generalize pdq (Go.Proofs.ltOf λi j:Nat=>lI Q kp g (el es i) (el es j)) (Array.range es.length) 0 es.length (Lib.bitLen es.length) true true=dk at lS s1 hsD;obtain⟨p1,_,_⟩:=s1;simp only[zcx] at p1;refine .inl ⟨fW _ w,?_⟩;rw[hf];refine lS.mono λe' w' ⟨cK,n',os,Fp⟩=>⟨_,cK,?_⟩
         subst Fp;have Fq:(jZ (lI Q kp g) es).length=es.length:=by rw[hsD];simp[p1]
         have hFw: ∀c,F c->(sortWorldK (qx es.length k cs) k w b 0 n' dk os).heap[c]?=w.heap[c]?:=λc hc=>jQ (hH.ji c hc) (qfj c hc);refine fin _ (by unfold sortWorldK grow putRowK putRow mapBlock Go.Sort.ahead;exact zc1 _ _) (λc hc b7=>jQ hc (λe'=>b7 ⟨e,he,by rw[e',bV];simp[bH,hG,aR]⟩)) (size_sortWorldK_c _ _ _ _ _ _ _ _) rfl rfl rfl ?_;obtain⟨lC,hh',hs',hs2⟩:=yc (enc:=qx es.length k cs) (k:=k) (m:=n') (dk:=dk) (os:=os) hh;refine .inr ⟨b,cap,lC,k,by rw[zan,Fq,<-zan];exact hG,hh',hk,gn,by rw[zan,Fq,<-zan];exact qbG,zn,by rw[hs'];exact dt,(λh=>by cases h),?_⟩;have qhX:=holdsK_sortWorldK_c (qx es.length k cs) k w b 0 (Array.range es.length) dk n' os hHo vM (by simp[p1]);intro i x hx;by_cases oN:es.length<=i
         ·rw[za1 (by rw[Fq];exact oN),Fq] at hx;obtain⟨q1,q2,q3⟩:=hE0 i x (by rw[za1 oN];exact hx);refine⟨q1,q2,λj c hjc=> ?_⟩;have hp:dk.size*k<=i*k+j:=by rw[p1];exact zaI (zaq k oN) (zc1 _ _)
          rw[zaD,hs2 _ hp,<-zaD];exact(q3 j c hjc).mono (λ_ h=>h) hFw
         rw[zaM (by rw[Fq];omega),hsD,zaJ] at hx;have hid:i<dk.size:=by
          by_cases hid:i<dk.size
          ·exact hid
          rw[zbn (by simpa using hid)] at hx;cases hx
         have hdi:dk.toList[i]?=some dk[i]!:=by rw[zcA,zbK hid,zck dk i hid]
         rw[hdi] at hx;simp only[zaK,zal] at hx;subst hx;have hii:(if dk[i]!<es.length then dk[i]! else 0)<es.length:=by split<;>assumption
         obtain⟨q1,q2,q3⟩:=hE _ _ (show es[if dk[i]!<es.length then dk[i]! else 0]?=some (el es dk[i]!) by unfold el;rw[zac,zae hii];rfl);refine⟨q1,q2,λj c hjc=> ?_⟩;have hj:j<k:=by rw[<-q1];exact(zad.1 hjc).1
         have:=(HoldsK.cell qhX hid hj).1;rw[q4 hh'] at this;unfold qx at this;rw[zck _ j (by simpa using hj)] at this;simp only[List.getElem_map,List.getElem_range] at this;rw[zaG] at this;rw[zaD,this];exact(q3 j c hjc).mono (λ_ h=>h) hFw
        have Kk:es=[]:=zax (by omega);subst Kk;refine .inl ⟨fW _ w,?_⟩;rw[hf];refine(AnyF.slices_SortFunc_none L a cap (.func (.func g) #[] ⟨[]⟩) w).mono λe' w' ⟨cK,Fp⟩=>⟨_,cK,?_⟩
        subst Fp;refine fin w' (zaj _) (λc hc _=>rfl) (zaj _) rfl rfl rfl ?_;have hsD:jZ (lI Q kp g) []=[]:=rfl;rw[hsD];rw[zbg] at hO⊢;rcases hO with⟨hg,_⟩| ⟨b,iK,cs,k',oC,hh,mz,gn,hle,zn,dt,h7,hE⟩
        ·exact .inl ⟨hg,by assumption⟩
        exact .inr ⟨b,iK,cs,k',oC,hh,mz,gn,hle,zn,dt,h7,hE⟩
    cases h
   cases h
  cases h
 cases h
end
end Pi
namespace Pi
open Go
theorem WG(Q:Program)(kf:KF)(kp:FuncId->Nat->Option (List Nat×List Nat))(xs:List Nat)(X Y:CF)(hk:List (Nat×(S->K (PX×S))))(dc:FuncId->Nat->Nat)(lf:Nat):
 mF Q kf ⟨kp,xs,X⟩ hk dc lf=mF Q kf ⟨kp,xs,Y⟩ hk dc lf:=rfl
theorem CU(Q:Program)(kp:FuncId->Nat->Option (List Nat×List Nat))(xs:List Nat)(X Y:CF)(dc:FuncId->Nat->Nat)(H:List (FuncId×br))(lf:Nat): ∀k,
  runK Q ⟨kp,xs,X⟩ dc H lf k=runK Q ⟨kp,xs,Y⟩ dc H lf k
 |0=>rfl
 |k+1=>by funext f ps R;unfold runK;rw[CU Q kp xs X Y dc H lf k,WG Q _ kp xs X Y]
end Pi
namespace Pi
open Go Go.ChangeShapes Go.WideShapes Go.RowKit
mutual
def qaL:D->Nat
 | .str l=>l.length
 | .sl _ es=>qaM es
 | .agg cs=>Qu cs
 |_=>0
def qaM:List D->Nat
 | []=>0
 |x::r=>1+qaL x+qaM r
def Qu:List D->Nat
 | []=>0
 |x::r=>qaL x+Qu r
end
mutual
def qfk{H:Type}:DataW H->Nat
 | .lit (.string bytes)=>bytes.length+1
 | .slice elems spare=>CV elems+CV spare+1
 | .agg parts=>CV parts+1
 |_=>1
def CV{H:Type}:List (DataW H)->Nat
 | []=>0
 |d::r=>qfk d+CV r
end
section
variable{H:Type}{enc:TypeId×Value->H}{Q:Program}{w:World}
end
end Pi
