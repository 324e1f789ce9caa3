/- The texts PiSort PiSeat PiBulk. -/
import Derived.Test.YtngoddkencoalaaGreatDoorEbo
import Derived.Shelf.SlSortCmp.NoneTotal
namespace Pi
open Go Go.RowKit
section
variable{Q:Program}
def yQ(Q:Program)(kp:qD)(g:FuncId)(x y:D)(i:Int):Prop:=Ev λlf k=>fo Q kp lf k g [.d x,.d y] []=some (.d (.int .i64 i),[])
noncomputable def l5(Q:Program)(kp:qD)(g:FuncId)(x y:D):Int:=by classical exact if h: ∃i,yQ Q kp g x y i then h.choose else 0
structure tU(Q:Program)(kp:qD)(g:FuncId)(es:List D)(cf:D->D->Int):Prop where
 fn: ∃fn,Q.funcs[g]?=some fn/\fn.body.isSome=true/\(fn.name== "runtime.NumGoroutine")=false
 ag: ∀x∈es,∃cs,x= .agg cs
 len:es.length<4611686018427387904
 run: ∀x∈es,∀y∈es,yQ Q kp g x y (cf x y)
 K8: ∀x∈es,¬cf x x<0
 tr: ∀x∈es,∀y∈es,∀z∈es,cf x y<0->cf y z<0->cf x z<0
 ntr: ∀x∈es,∀y∈es,∀z∈es,¬cf x y<0-> ¬cf y z<0-> ¬cf x z<0
def el(es:List D)(i:Nat):D:=es.getD (if i<es.length then i else 0) .fX
theorem mM{es:List D}(h:0<es.length)(i:Nat):el es i∈es:=by
 unfold el;split
 next hi=>rw[zac,zae hi];exact zas hi
 rw[zac,zae h];exact zas h
def kx(cf:D->D->Int)(es:List D):List D:=
 if 0<es.length then(Go.Sort.pdq (Go.Proofs.ltOf λi j:Nat=>cf (el es i) (el es j)) (Array.range es.length) 0 es.length (Lib.bitLen es.length) true true).toList.map (el es) else []
theorem Jb{kp:qD}{g:FuncId}{es:List D}{cf:D->D->Int}(h:tU Q kp g es cf)(h0:0<es.length):Go.Sort.SWO (Go.Proofs.ltOf λi j:Nat=>cf (el es i) (el es j)):=by
 constructor
 ·intro x;exact zaN (h.K8 _ (mM h0 x))
 ·intro x y z h1 h2;exact zaP (h.tr _ (mM h0 x) _ (mM h0 y) _ (mM h0 z) (zbE h1) (zbE h2))
 intro x y z h1 h2;exact zaN (h.ntr _ (mM h0 x) _ (mM h0 y) _ (mM h0 z) (zcn h1) (zcn h2))
theorem oh{kp:qD}{g:FuncId}{es:List D}{cf:D->D->Int}(h:tU Q kp g es cf):(kx cf es).Perm es/\(kx cf es).Pairwise λa b=> ¬cf b a<0:=by
 by_cases h0:0<es.length
 ·obtain⟨h1,h2⟩:=Go.Sort.pdq_sorts (Go.Proofs.ltOf λi j:Nat=>cf (el es i) (el es j)) (Jb h h0) (Array.range es.length) 0 es.length (Lib.bitLen es.length) true true (za5 _) (by simp) (Or.inl rfl);unfold kx;rw[zao h0];generalize Go.Sort.pdq (Go.Proofs.ltOf λi j:Nat=>cf (el es i) (el es j)) (Array.range es.length) 0 es.length (Lib.bitLen es.length) true true=d at h1 h2;obtain⟨p1,_,p3⟩:=h1;simp only[zcA] at p1;have e1:d.extract 0 es.length=d:=by rw[<-p1];simp
  have e2:(Array.range es.length).extract 0 es.length=Array.range es.length:=by simp
  rw[e1,e2] at p3;constructor
  ·have:=p3.map (el es);refine this.trans (List.Perm.of_eq ?_);apply zbX
   ·simp
   intro i h1 h2;simp[el,h2]
  rw[zcu,zbj];intro i j hi hj q6;have:=h2 i j (za5 _) q6 (by simpa [p1] using hj);rw[zco d i (by simpa using hi),zco d j (by simpa using hj)] at this;simpa [Go.Proofs.ltOf] using this
 have:es=[]:=zau (by omega);subst this;exact⟨List.Perm.refl _,List.Pairwise.nil⟩
open Classical in
noncomputable def yR(Q:Program)(kp:qD)(ty:TypeId):TF
 | [.sl n v len,.fn g []],R=>match lk R n with
  |some e=>(match e.obj with
   | .arr ty' false es=>if v=e.aZ/\ty'=ty/\len<=es.length/\tU Q kp g (es.take len) (l5 Q kp g) then some (.cT [],ins n ⟨e.aZ,e.tag,.arr ty false (kx (l5 Q kp g) (es.take len)++es.drop len)⟩ R) else none
   |_=>none)
  |none=>none
 |_,_=>none
theorem yQ.one{kp:qD}{g:FuncId}{x y:D}{i j:Int}(h:yQ Q kp g x y i)(h':yQ Q kp g x y j):i=j:=by obtain⟨a,b,h1,h2⟩:=(Ev.and h h').some;rw[h1] at h2;simpa using h2
theorem K9{kp:qD}{g:FuncId}{x y:D}{i:Int}(h:yQ Q kp g x y i):l5 Q kp g x y=i:=by
 unfold l5;have h': ∃i,yQ Q kp g x y i:=⟨i,h⟩
 rw[dif_pos h'];exact h'.choose_spec.one h
theorem tU.cf{kp:qD}{g:FuncId}{es:List D}{cf:D->D->Int}(h:tU Q kp g es cf):tU Q kp g es (l5 Q kp g):=by have e: ∀x∈es,∀y∈es,l5 Q kp g x y=cf x y:=λx hx y hy=>K9 (h.run x hx y hy);refine⟨h.fn,h.ag,h.len,λx hx y hy=>by rw[e x hx y hy];exact h.run x hx y hy,λx hx=>by rw[e x hx x hx];exact h.K8 x hx,λx hx y hy z hz=>by rw[e x hx y hy,e y hy z hz,e x hx z hz];exact h.tr x hx y hy z hz,λx hx y hy z hz=>by rw[e x hx y hy,e y hy z hz,e x hx z hz];exact h.ntr x hx y hy z hz⟩
def Rh(Q:Program)(kp:qD)(ty:TypeId):bm:=λps R ae=> ∃n g e es tl cf,ps=[.sl n e.aZ es.length,.fn g []]/\lk R n=some e/\e.obj= .arr ty false (es++tl)/\tU Q kp g es cf/\
 ∀fH:List D,fH.Perm es->fH.Pairwise (λa b=> ¬cf b a<0)->ae (.cT [],ins n ⟨e.aZ,e.tag,.arr ty false (fH++tl)⟩ R)
def qbp(Q:Program)(kp:qD)(ty:TypeId):bm:=λps R ae=> ∃n g e es cf,ps=[.sl n e.aZ es.length,.fn g []]/\lk R n=some e/\e.obj= .arr ty false es/\tU Q kp g es cf/\
 ∀fH:List D,fH.Perm es->fH.Pairwise (λa b=> ¬cf b a<0)->ae (.cT [],ins n ⟨e.aZ,e.tag,.arr ty false fH⟩ R)
theorem wm{kp:qD}{ty:TypeId}{ps:List P}{R:List (Nat×En)}{ae:P×List (Nat×En)->Prop}(h:Rh Q kp ty ps R ae): ∃x,yR Q kp ty ps R=some x/\ae x:=by
 obtain⟨n,g,e,es,tl,cf,rfl,he,ca,hc,e7⟩:=h;have rJ:=hc.cf;refine⟨_,?_,e7 (kx (l5 Q kp g) es) (oh rJ).1 ?_⟩
 ·unfold yR;simp only[he,ca];rw[zb3 rfl,List.drop_left' rfl,zao ⟨rfl,rfl,by rw[zan];exact zc3 _ _,rJ⟩]
 refine List.Pairwise.imp_of_mem ?_ (oh rJ).2;intro a b ha hb O8;have ha':=(oh rJ).1.mem_iff.1 ha;have du:=(oh rJ).1.mem_iff.1 hb;rwa [K9 (hc.run b du a ha')] at O8
theorem Jc{kp:qD}{ty:TypeId}{ps:List P}{R:List (Nat×En)}{ae:P×List (Nat×En)->Prop}(h:qbp Q kp ty ps R ae): ∃x,yR Q kp ty ps R=some x/\ae x:=by obtain⟨n,g,e,es,cf,rfl,he,ca,hc,e7⟩:=h;refine wm ⟨n,g,e,es,[],cf,rfl,he,by rw[ca,zbe],hc,λfH h1 h2=> ?_⟩;rw[zbe];exact e7 fH h1 h2
theorem AR{w w':World}(h:Go.RowKit.Below w.heap.size w w')(hd:w.drawn<=w'.drawn): ∃q os,w'=Go.Sort.grow (w.drewN q) os:=by
 refine⟨w'.drawn-w.drawn,w'.heap.extract w.heap.size w'.heap.size,?_⟩;have e:w'.heap=w.heap++w'.heap.extract w.heap.size w'.heap.size:=by
  apply zcR;intro i;by_cases hi:i<w.heap.size
  ·rw[zcl hi];exact h.block i hi
  rw[Array.getElem?_append_right (by omega),Array.getElem?_extract];simp only[Nat.min_self];split
  ·congr 1;omega
  exact Array.getElem?_eq_none (by omega)
 cases w' with
 |mk heap tape drawn os output=>have h1:=h.os;have h2:=h.tape;have h3:=h.output;simp only at h1 h2 h3 e hd;subst h1 h2 h3;unfold Go.Sort.grow World.drewN;simp only;rw[<-e,Nat.add_sub_cancel' hd]
theorem Np{kp:qD}(hm:Q.follows .mixedOrders=true){g:FuncId}{fn:Func}(gj:Q.funcs[g]?=some fn)(cO:fn.body.isSome=true)(jD:(fn.name== "runtime.NumGoroutine")=false)
  {x y:D} {i:Int} (cc:yQ Q kp g x y i) {w:World} (hX:dC Q w kp.X) {vx vy:Value} (h1:bc (· <w.heap.size) w vx x) (h2:bc (· <w.heap.size) w vy y):
  Calls Q g #[vx,vy] w (λe w'=>e= .returned (.int .i64 i)/\ ∃q os,w'=Go.Sort.grow (w.drewN q) os):=by
 obtain⟨lf,k,cc⟩:=cc.some;have hH:fN Q ⟨λ_=>undef,w,0,false⟩ (· <w.heap.size) (λ_=>undef) w []:=
  ⟨.nil,za5 _,λt p hp=>by simp[lk] at hp,λn e he=>by simp[lk] at he,λn m e e' b he=>by simp[lk] at he,λn e b he=>by simp[lk] at he,λb hb=>hb,λn e i he=>by simp[lk] at he,λb hb=>⟨hb,rfl⟩,zak _,za5 _⟩
 have bt:=tS hX hm k g [.d x,.d y] [] _ _ cc (· <w.heap.size) (λ_=>undef) w [vx,vy] hH rfl (λj v c hv hc=>by
  match j with
  |0=>cases hv;cases hc;exact .d h1
  |1=>cases hv;cases hc;exact .d h2
  |j+2=>cases hv)
 have mj:(callFunc g ⟨[vx,vy]⟩).run Q w= .ok (.enter g ⟨[vx,vy]⟩) w:=by
  simp[callFunc,gj];rw[zal (by simpa using jD)];cases hb:fn.body with
  |none=>rw[hb] at cO;cases cO
  |some c=>simp
 rcases bt with⟨_,h⟩| ⟨v,w',h,_⟩
 ·refine h.mono λe w' ⟨v,he,F',G',h1,h2,h3⟩=> ?_;have hv:v= .int .i64 i:=aH.cG (p:= .d (.int .i64 i)) h2 rfl;subst hv;exact⟨he,AR ⟨h3.os,h3.tape,h3.output,h3.size,λb hb=>h3.keep b hb (λ⟨n,e,he,_⟩=>by simp[lk] at he)⟩ h1.dr⟩
 rw[mj] at h;cases h
open Go.Sort Go.Proofs in
theorem j9{enc:Nat->List Value}{k:Nat}{w:World}{b m:Nat}{dk:Array Nat}{os:Array Go.Obj}{c:Nat}(hc:c<w.heap.size)(dP:c≠b):(sortWorldK enc k w b 0 m dk os).heap[c]?=w.heap[c]?:=by unfold sortWorldK grow;simp only;rw[zcl (by rw[size_putRowK];exact hc)];unfold putRowK putRow mapBlock;simp only[zcG];rw[zal (zbD dP)];rfl
open Go.Sort Go.Proofs in
theorem yS{enc:Nat->List Value}{k:Nat}{w:World}{b m:Nat}{dk:Array Nat}{os:Array Go.Obj}{cs:Array Value}{ty:TypeId}(h:w.heap[b]?=some (.cells cs ty (0,0))):
  ∃lU,(sortWorldK enc k w b 0 m dk os).heap[b]?=some (.cells lU ty (0,0))/\lU.size=cs.size/\ ∀p,dk.size*k<=p->lU[p]?=cs[p]?:=by
 have hb:b<w.heap.size:=(zar.1 h).1;unfold sortWorldK grow;simp only;rw[zcl (by rw[size_putRowK];exact hb)];unfold putRowK putRow mapBlock;simp only[zcG];have h':(Go.Sort.ahead w m).heap[b]?=some (.cells cs ty (0,0)):=h;rw[zao trivial,h'];refine⟨_,rfl,by simp[putCells],λp hp=> ?_⟩;unfold putCells;rw[Array.getElem?_mapIdx,size_flatK];have: ¬(0<=p/\p<0+dk.size*k):=by omega
 cases cs[p]? with
 |none=>rfl
 |some x=>exact congrArg some (zal this)
def q7(n k:Nat)(cs:Array Value)(i:Nat):List Value:=(List.range k).map λj=>cs.getD ((if i<n then i else 0)*k+j) undef
theorem La{F F':Nat->Prop}{w w':World}{cs:Array Value}{k:Nat}{es:List D}(hE:ni F w cs k es)(h0:0<es.length)(hF: ∀c,F c->F' c)(hw: ∀c,F c->w'.heap[c]?=w.heap[c]?)(ha: ∀x∈es,∃cs,x= .agg cs)(i:Nat):
  bc F' w' (.agg (q7 es.length k cs i).toArray) (el es i):=by
 have hi:(if i<es.length then i else 0)<es.length:=by split<;>assumption
 have hx:es[if i<es.length then i else 0]?=some (el es i):=by unfold el;rw[zac,zae hi];rfl
 obtain⟨xs,WH⟩:=ha _ (mM h0 i);obtain⟨q1,q2,q3⟩:=hE _ _ hx;rw[WH] at q1 q2 q3⊢;refine .agg _ xs (by simp only[D.cells] at q1;simp[q7,q1]) q2 λj v c hv hc=> ?_;simp only[D.cells] at q1 q3;have hj:j<k:=by rw[<-q1];exact(zad.1 hc).1
 unfold q7 at hv;rw[zaK,zch hj] at hv;simp only[zaL,zam] at hv;subst hv;exact(q3 j c hc).mono hF hw
theorem Xo{F:Nat->Prop}{w:World}{cs:Array Value}{k:Nat}{es:List D}(hE:ni F w cs k es)(h0:0<es.length)(i:Nat): ∀v∈q7 es.length k cs i,v.oneCell'=true:=by
 intro v hv;have hi:(if i<es.length then i else 0)<es.length:=by split<;>assumption
 obtain⟨q1,q2,q3⟩:=hE _ _ (zae hi);unfold q7 at hv;obtain⟨j,hj,rfl⟩:=zaA.1 hv;have hj:=List.mem_range.1 hj;have hc:=zae (l:=es[if i<es.length then i else 0].cells) (by rw[q1];exact hj);exact(q3 j _ hc).nY (q2 _ (zaC hc))
open Go.Sort Go.Proofs Go.Shelf in
set_option maxHeartbeats 1000000 in
theorem F8{kp:qD}(hX: ∀w,dC Q w kp.X){ρ:Ren}(L:SlLaysF0.n6 Q ρ){f:FuncId}(hf:f=ρ.f 6)(gj: ∀(vs:Array Value) (w:World),(callFunc f vs).run Q w= .ok (.enter f vs) w){ty:TypeId}{k:Nat}(hk:sz Q ty=some k)
  (aE: ∀w,(isAgg (ρ.t 24)).run Q w= .ok true w) (zE: ∀w,(Go.sizeOf (ρ.t 24)).run Q w= .ok k w) (w0:World):Nl Q w0 f (yR Q kp ty):=by
 intro h0 ps R p R1 h F G w vs hH hl hv;unfold yR at h;split at h
 next n v len g=>
  split at h
  next e he=>
   split at h
   ·rename_i ty' es0 ca;split at h
    ·rename_i hc;obtain⟨rfl,rfl,hlen,hc⟩:=hc;obtain⟨es,tl,rfl,rfl⟩: ∃es tl,es0=es++tl/\len=es.length:=⟨es0.take len,es0.drop len,(zbS _ _).symm,by rw[zay];omega⟩
     rw[zb3 rfl] at hc;rw[zb3 rfl,List.drop_left' rfl] at h;simp only[zam,zbC] at h;obtain⟨rfl,rfl⟩:=h
     match vs,hl,hv with
     | [u0,u1],_,hv=>
      have hp0:=hv 0 u0 _ rfl rfl;have uC:=hv 1 u1 _ rfl rfl;have hO:=hH.rg n e he;rw[ca] at hO;cases hp0 with
      |sl _ _ _ _ h1 hr=>
       cases uC with
       |fn _ ws _ hws _=>
        have:ws=[]:=zau (by simpa using hws);subst this;obtain⟨a,N,cap,hG,rfl,_⟩:=hr.at he rfl (by rw[ca];rfl);have gl:rG G R n ⟨e.aZ,e.tag,.arr ty' false (kx (l5 Q kp g) es++tl)⟩ (G n):=λe1 Bx=>by rw[he] at Bx;cases Bx;exact .inr ⟨rfl,λ_=>⟨by rw[ca];rfl,rfl⟩⟩
        have fin: ∀(w':World),w.drawn<=w'.drawn->(∀c,c<w.heap.size-> ¬(∃e',lk R n=some e'/\bL (G n) e'.obj=some c)->w'.heap[c]?=w.heap[c]?)->w.heap.size<=w'.heap.size->w'.os=w.os->w'.tape=w.tape->w'.output=w.output->
          o6 Q F w' G (ins n ⟨e.aZ,e.tag,.arr ty' false (kx (l5 Q kp g) es++tl)⟩ R) n (.arr ty' false (kx (l5 Q kp g) es++tl))->
          ∃F' G',fN Q ⟨G,w0,0,false⟩ F' G' w' (ins n ⟨e.aZ,e.tag,.arr ty' false (kx (l5 Q kp g) es++tl)⟩ R)/\aH F' w' G' (ins n ⟨e.aZ,e.tag,.arr ty' false (kx (l5 Q kp g) es++tl)⟩ R) (.tuple #[]) (.cT [])/\Ext (Own G R) (Own G' (ins n ⟨e.aZ,e.tag,.arr ty' false (kx (l5 Q kp g) es++tl)⟩ R)) F F' w w':=by
         intro w' hd eP dB Ql htp bt Fs;obtain⟨d1,d2⟩:=aG.nL hH (e1:=⟨e.aZ,e.tag,.arr ty' false (kx (l5 Q kp g) es++tl)⟩) (g1:=G n) (w':=w') (hdr:=hd) gl eP dB Ql htp bt
          (λc hc=> .inr ⟨e,he,by rw[ca];exact hc⟩) (by rw[cb];exact Fs) (λi hi _=>hH.tag n e i he hi (by rw[ca];rfl))
         rw[cb] at d1 d2;exact⟨F,G,d1,.cT [] [] rfl (λi v c hv _=>by simp at hv),d2⟩
        by_cases hn:0<es.length
        ·obtain⟨b,iV,cs,k',o7,hh,mV,gB,hle,zY,dB,_,hE⟩: ∃b cap cs k,G n= .slice (some ⟨b,0,none⟩) (es++tl).length cap/\w.heap[b]?=some (.cells cs ty' (0,0))/\sz Q ty'=some k/\0<k/\(es++tl).length<=cap/\cap<=maxLen/\cs.size=cap*k/\(false=true->F b)/\ni F w cs k (es++tl):=by
          rcases hO with⟨_,KT⟩|hO
          ·rw[(List.append_eq_nil_iff.1 KT).1] at hn;simp at hn
          exact hO
         rw[hk] at mV;cases mV;rw[hG] at o7;cases o7;have hE0:=hE;have hE:ni F w cs k es:=λi x hx=>hE0 i x (by rw[zaO (zad.1 hx).1];exact hx);have qcr:=hle;have hle:es.length<=cap:=by rw[zan] at qcr;omega
         have wO:b<w.heap.size:=(zar.1 hh).1;have WV: ¬F b:=hH.mU n e b he (by rw[ca];simp[bL,hG,aR]);have qgd: ∀c,F c->c≠b:=λc hc e'=>WV (e'▸hc);obtain⟨fn,g1,g2,g3⟩:=hc.fn;have eg: ∀args w,(callFunc g args).run Q w= .ok (.enter g args) w:=λargs w=>enters g1 g2 g3 args w;have Qi:CmpLays Q g #[] (q7 es.length k cs) k (λi j:Nat=>l5 Q kp g (el es i) (el es j)) b 0 (Array.range es.length).size w:=by intro m os dk hs x y;have hFw: ∀c,F c->(sortWorldK (q7 es.length k cs) k w b 0 m dk os).heap[c]?=w.heap[c]?:=λc hc=>j9 (hH.jz c hc) (qgd c hc);have hFs: ∀c,F c->c<(sortWorldK (q7 es.length k cs) k w b 0 m dk os).heap.size:=λc hc=>za4 (hH.jz c hc) (size_sortWorldK_c _ _ _ _ _ _ _ _);exact Np L.mixed g1 g2 g3 (hc.run _ (mM hn x) _ (mM hn y)) (hX _) (La hE hn hFs hFw hc.ag x) (La hE hn hFs hFw hc.ag y)
         have hHo:HoldsK (q7 es.length k cs) k w b 0 (Array.range es.length):=by
          intro j hj;have hj:j<es.length*k:=by simpa using hj
          have hjk:j/k<es.length:=Nat.div_lt_of_lt_mul (by rw[zcb];exact hj);have Lb:j%k<k:=zcV _ gB;have hjs:j<cs.size:=by rw[dB];exact za4 hj (zaq k hle)
          refine⟨?_,by simp[World.frozen?,hh]⟩;rw[rO hh,get_flatK _ _ _ _ (by simpa using hj)];rw[zco (Array.range es.length) (j/k) (by simpa using hjk),Array.getElem_range];unfold q7;rw[zco _ (j%k) (by simpa using Lb)];simp only[List.getElem_map,List.getElem_range,zao hjk,id];rw[zaF,zcb,zc4];exact Rg hjs
         have mj:=AnyQ.slices_SortFunc_eq L k aE zE (q7 es.length k cs) (λx=>by simp[q7]) (Xo hE hn) (λi j:Nat=>l5 Q kp g (el es i) (el es j)) (Jb hc hn) g #[] b 0 cap (Array.range es.length) w eg Qi hHo wO (by simp only[zcA];exact hc.len);obtain⟨s1,_⟩:=pdq_sorts (Go.Proofs.ltOf λi j:Nat=>l5 Q kp g (el es i) (el es j)) (Jb hc hn) (Array.range es.length) 0 es.length (Lib.bitLen es.length) true true (za5 _) (by simp) (Or.inl rfl);simp only[zcA] at mj;have hsD:kx (l5 Q kp g) es=(pdq (Go.Proofs.ltOf λi j:Nat=>l5 Q kp g (el es i) (el es j)) (Array.range es.length) 0 es.length (Lib.bitLen es.length) true true).toList.map (el es):=by unfold kx;rw[zao hn]
         generalize pdq (Go.Proofs.ltOf λi j:Nat=>l5 Q kp g (el es i) (el es j)) (Array.range es.length) 0 es.length (Lib.bitLen es.length) true true=dk at mj s1 hsD;obtain⟨p1,_,_⟩:=s1;simp only[zcA] at p1;refine .inl ⟨gj _ w,?_⟩;rw[hf];refine mj.mono λe' w' ⟨cR,n',os,F9⟩=>⟨_,cR,?_⟩
         subst F9;have Ga:(kx (l5 Q kp g) es).length=es.length:=by rw[hsD];simp[p1]
         have hFw: ∀c,F c->(sortWorldK (q7 es.length k cs) k w b 0 n' dk os).heap[c]?=w.heap[c]?:=λc hc=>j9 (hH.jz c hc) (qgd c hc);refine fin _ (by unfold sortWorldK grow putRowK putRow mapBlock Go.Sort.ahead;exact zc3 _ _) (λc hc bX=>j9 hc (λe'=>bX ⟨e,he,by rw[e',ca];simp[bL,hG,aR]⟩)) (size_sortWorldK_c _ _ _ _ _ _ _ _) rfl rfl rfl ?_;obtain⟨lU,hh',hs',hs2⟩:=yS (enc:=q7 es.length k cs) (k:=k) (m:=n') (dk:=dk) (os:=os) hh;refine .inr ⟨b,cap,lU,k,by rw[zan,Ga,<-zan];exact hG,hh',hk,gB,by rw[zan,Ga,<-zan];exact qcr,zY,by rw[hs'];exact dB,(λh=>by cases h),?_⟩;have qi1:=holdsK_sortWorldK_c (q7 es.length k cs) k w b 0 (Array.range es.length) dk n' os hHo wO (by simp[p1]);intro i x hx;by_cases oU:es.length<=i
         ·rw[za1 (by rw[Ga];exact oU),Ga] at hx;obtain⟨q1,q2,q3⟩:=hE0 i x (by rw[za1 oU];exact hx);refine⟨q1,q2,λj c hjc=> ?_⟩;have hp:dk.size*k<=i*k+j:=by rw[p1];exact zaG (zaq k oU) (zc3 _ _)
          rw[zaD,hs2 _ hp,<-zaD];exact(q3 j c hjc).mono (λ_ h=>h) hFw
         rw[zaO (by rw[Ga];omega),hsD,zaK] at hx;have hid:i<dk.size:=by
          by_cases hid:i<dk.size
          ·exact hid
          rw[zbc (by simpa using hid)] at hx;cases hx
         have hdi:dk.toList[i]?=some dk[i]!:=by rw[zcD,zbK hid,zco dk i hid]
         rw[hdi] at hx;simp only[zaL,zam] at hx;subst hx;have hii:(if dk[i]!<es.length then dk[i]! else 0)<es.length:=by split<;>assumption
         obtain⟨q1,q2,q3⟩:=hE _ _ (show es[if dk[i]!<es.length then dk[i]! else 0]?=some (el es dk[i]!) by unfold el;rw[zac,zae hii];rfl);refine⟨q1,q2,λj c hjc=> ?_⟩;have hj:j<k:=by rw[<-q1];exact(zad.1 hjc).1
         have:=(HoldsK.cell qi1 hid hj).1;rw[rO hh'] at this;unfold q7 at this;rw[zco _ j (by simpa using hj)] at this;simp only[List.getElem_map,List.getElem_range] at this;rw[zaF] at this;rw[zaD,this];exact(q3 j c hjc).mono (λ_ h=>h) hFw
        have KT:es=[]:=zau (by omega);subst KT;refine .inl ⟨gj _ w,?_⟩;rw[hf];refine(AnyF.slices_SortFunc_none L a cap (.func (.func g) #[] ⟨[]⟩) w).mono λe' w' ⟨cR,F9⟩=>⟨_,cR,?_⟩
        subst F9;refine fin w' (zak _) (λc hc _=>rfl) (zak _) rfl rfl rfl ?_;have hsD:kx (l5 Q kp g) []=[]:=rfl;rw[hsD];rw[zbi] at hO⊢;rcases hO with⟨hg,_⟩| ⟨b,iV,cs,k',o7,hh,mV,gB,hle,zY,dB,h7,hE⟩
        ·exact .inl ⟨hg,by assumption⟩
        exact .inr ⟨b,iV,cs,k',o7,hh,mV,gB,hle,zY,dB,h7,hE⟩
    cases h
   cases h
  cases h
 cases h
end
end Pi
namespace Pi
open Go
theorem Xp(Q:Program)(kf:KF)(kp:FuncId->Nat->Option (List Nat×List Nat))(xs:List Nat)(X Y:CF)(hk:List (Nat×(S->K (PX×S))))(dc:FuncId->Nat->Nat)(lf:Nat):
 nf Q kf ⟨kp,xs,X⟩ hk dc lf=nf Q kf ⟨kp,xs,Y⟩ hk dc lf:=rfl
theorem Dt(Q:Program)(kp:FuncId->Nat->Option (List Nat×List Nat))(xs:List Nat)(X Y:CF)(dc:FuncId->Nat->Nat)(H:List (FuncId×bm))(lf:Nat): ∀k,
  runK Q ⟨kp,xs,X⟩ dc H lf k=runK Q ⟨kp,xs,Y⟩ dc H lf k
 |0=>rfl
 |k+1=>by funext f ps R;unfold runK;rw[Dt Q kp xs X Y dc H lf k,Xp Q _ kp xs X Y]
end Pi
namespace Pi
open Go Go.ChangeShapes Go.WideShapes Go.RowKit
mutual
def qbq:D->Nat
 | .str l=>l.length
 | .sl _ es=>qbr es
 | .agg cs=>Ri cs
 |_=>0
def qbr:List D->Nat
 | []=>0
 |x::r=>1+qbq x+qbr r
def Ri:List D->Nat
 | []=>0
 |x::r=>qbq x+Ri r
end
mutual
def qge{H:Type}:DataW H->Nat
 | .lit (.string bytes)=>bytes.length+1
 | .slice elems spare=>Du elems+Du spare+1
 | .agg parts=>Du parts+1
 |_=>1
def Du{H:Type}:List (DataW H)->Nat
 | []=>0
 |d::r=>qge d+Du r
end
section
variable{H:Type}{enc:TypeId×Value->H}{Q:Program}{w:World}
end
end Pi
