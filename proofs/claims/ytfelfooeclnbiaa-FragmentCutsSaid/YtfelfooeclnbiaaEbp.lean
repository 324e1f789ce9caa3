/- The texts PiSort PiSeat. -/
import Derived.Test.YtfelfooeclnbiaaEbo
import Derived.Shelf.SlSortCmp.NoneTotal
namespace Pi
open Go Go.RowKit
section
variable{Q:Program}
def qv(Q:Program)(kp:kX)(g:FuncId)(x y:D)(i:Int):Prop:=Ev λlf k=>dh Q kp lf k g [.d x,.d y] []=some (.d (.int .i64 i),[])
noncomputable def fe(Q:Program)(kp:kX)(g:FuncId)(x y:D):Int:=by classical exact if h: ∃i,qv Q kp g x y i then h.choose else 0
structure qw(Q:Program)(kp:kX)(g:FuncId)(es:List D)(cf:D->D->Int):Prop where
 fn: ∃fn,Q.funcs[g]?=some fn/\fn.body.isSome=true/\(fn.name== "runtime.NumGoroutine")=false
 ag: ∀x∈es,∃cs,x= .agg cs
 len:es.length<4611686018427387904
 run: ∀x∈es,∀y∈es,qv Q kp g x y (cf x y)
 De: ∀x∈es,¬cf x x<0
 tr: ∀x∈es,∀y∈es,∀z∈es,cf x y<0->cf y z<0->cf x z<0
 Df: ∀x∈es,∀y∈es,∀z∈es,¬cf x y<0-> ¬cf y z<0-> ¬cf x z<0
def el(es:List D)(i:Nat):D:=es.getD (if i<es.length then i else 0) .cV
theorem ff{es:List D}(h:0<es.length)(i:Nat):el es i∈es:=by
 unfold el;split
 next hi=>rw[zah,zab hi];exact za2 hi
 rw[zah,zab h];exact za2 h
def gb(cf:D->D->Int)(es:List D):List D:=
 if 0<es.length then(Go.Sort.pdq (Go.Proofs.ltOf λi j:Nat=>cf (el es i) (el es j)) (Array.range es.length) 0 es.length (Lib.bitLen es.length) true true).toList.map (el es) else []
theorem wx{kp:kX}{g:FuncId}{es:List D}{cf:D->D->Int}(h:qw Q kp g es cf)(h0:0<es.length):Go.Sort.SWO (Go.Proofs.ltOf λi j:Nat=>cf (el es i) (el es j)):=by
 constructor
 ·intro x;exact zb4 (h.De _ (ff h0 x))
 ·intro x y z h1 h2;exact zbH (h.tr _ (ff h0 x) _ (ff h0 y) _ (ff h0 z) (of_decide_eq_true h1) (of_decide_eq_true h2))
 intro x y z h1 h2;exact zb4 (h.Df _ (ff h0 x) _ (ff h0 y) _ (ff h0 z) (of_decide_eq_false h1) (of_decide_eq_false h2))
open Classical in
noncomputable def yp(Q:Program)(kp:kX)(ty:TypeId):TF
 | [.sl n v len,.fn g []],R=>match lk R n with
  |some e=>(match e.obj with
   | .arr ty' false es=>if v=e.aw/\ty'=ty/\len<=es.length/\qw Q kp g (es.take len) (fe Q kp g) then some (.dR [],ins n ⟨e.aw,e.tag,.arr ty false (gb (fe Q kp g) (es.take len)++es.drop len)⟩ R) else none
   |_=>none)
  |none=>none
 |_,_=>none
theorem qv.one{kp:kX}{g:FuncId}{x y:D}{i j:Int}(h:qv Q kp g x y i)(h':qv Q kp g x y j):i=j:=by obtain⟨a,b,h1,h2⟩:=(Ev.and h h').some;rw[h1] at h2;simpa using h2
theorem xR{kp:kX}{g:FuncId}{x y:D}{i:Int}(h:qv Q kp g x y i):fe Q kp g x y=i:=by
 unfold fe;have h': ∃i,qv Q kp g x y i:=⟨i,h⟩
 rw[dif_pos h'];exact h'.choose_spec.one h
theorem qw.cf{kp:kX}{g:FuncId}{es:List D}{cf:D->D->Int}(h:qw Q kp g es cf):qw Q kp g es (fe Q kp g):=by have e: ∀x∈es,∀y∈es,fe Q kp g x y=cf x y:=λx hx y hy=>xR (h.run x hx y hy);refine⟨h.fn,h.ag,h.len,λx hx y hy=>by rw[e x hx y hy];exact h.run x hx y hy,λx hx=>by rw[e x hx x hx];exact h.De x hx,λx hx y hy z hz=>by rw[e x hx y hy,e y hy z hz,e x hx z hz];exact h.tr x hx y hy z hz,λx hx y hy z hz=>by rw[e x hx y hy,e y hy z hz,e x hx z hz];exact h.Df x hx y hy z hz⟩
theorem ng{w w':World}(h:Go.RowKit.Below w.heap.size w w')(hd:w.drawn<=w'.drawn): ∃q os,w'=Go.Sort.grow (w.drewN q) os:=by
 refine⟨w'.drawn-w.drawn,w'.heap.extract w.heap.size w'.heap.size,?_⟩;have e:w'.heap=w.heap++w'.heap.extract w.heap.size w'.heap.size:=by
  apply Array.ext_getElem?;intro i;by_cases hi:i<w.heap.size
  ·rw[zbn hi];exact h.block i hi
  rw[Array.getElem?_append_right (by omega),Array.getElem?_extract];simp only[Nat.min_self];split
  ·congr 1;omega
  exact Array.getElem?_eq_none (by omega)
 cases w' with
 |mk heap tape drawn os output=>have h1:=h.os;have h2:=h.tape;have h3:=h.output;simp only at h1 h2 h3 e hd;subst h1 h2 h3;unfold Go.Sort.grow World.drewN;simp only;rw[<-e,Nat.add_sub_cancel' hd]
theorem ua{kp:kX}(hm:Q.follows .mixedOrders=true){g:FuncId}{fn:Func}(gq:Q.funcs[g]?=some fn)(eH:fn.body.isSome=true)(iF:(fn.name== "runtime.NumGoroutine")=false)
  {x y:D} {i:Int} (aU:qv Q kp g x y i) {w:World} (hX:gl Q w kp.X) {vx vy:Value} (h1:ay (· <w.heap.size) w vx x) (h2:ay (· <w.heap.size) w vy y):
  Calls Q g #[vx,vy] w (λe w'=>e= .returned (.int .i64 i)/\ ∃q os,w'=Go.Sort.grow (w.drewN q) os):=by
 obtain⟨lf,k,aU⟩:=aU.some;have hH:cZ Q ⟨λ_=>undef,w,0,false⟩ (· <w.heap.size) (λ_=>undef) w []:=
  ⟨.nil,zaF _,λt p hp=>by simp[lk] at hp,λn e he=>by simp[lk] at he,λn m e e' b he=>by simp[lk] at he,λn e b he=>by simp[lk] at he,λb hb=>hb,λn e i he=>by simp[lk] at he,λb hb=>⟨hb,rfl⟩,zag _,zaF _⟩
 have iR:=o5 hX hm k g [.d x,.d y] [] _ _ aU (· <w.heap.size) (λ_=>undef) w [vx,vy] hH rfl (λj v c hv hc=>by
  match j with
  |0=>cases hv;cases hc;exact .d h1
  |1=>cases hv;cases hc;exact .d h2
  |j+2=>cases hv)
 have ft:(callFunc g ⟨[vx,vy]⟩).run Q w= .ok (.enter g ⟨[vx,vy]⟩) w:=by
  simp[callFunc,gq];rw[zaB (by simpa using iF)];cases hb:fn.body with
  |none=>rw[hb] at eH;cases eH
  |some c=>simp
 rcases iR with⟨_,h⟩| ⟨v,w',h,_⟩
 ·refine h.mono λe w' ⟨v,he,F',G',h1,h2,h3⟩=> ?_;have hv:v= .int .i64 i:=ao.aV (p:= .d (.int .i64 i)) h2 rfl;subst hv;exact⟨he,ng ⟨h3.os,h3.tape,h3.output,h3.size,λb hb=>h3.keep b hb (λ⟨n,e,he,_⟩=>by simp[lk] at he)⟩ h1.dr⟩
 rw[ft] at h;cases h
open Go.Sort Go.Proofs in
theorem dN{enc:Nat->List Value}{k:Nat}{w:World}{b m:Nat}{dk:Array Nat}{os:Array Go.Obj}{c:Nat}(hc:c<w.heap.size)(bz:c≠b):(sortWorldK enc k w b 0 m dk os).heap[c]?=w.heap[c]?:=by unfold sortWorldK grow;simp only;rw[zbn (by rw[size_putRowK];exact hc)];unfold putRowK putRow mapBlock;simp only[zaV];rw[zaB (zaP bz)];rfl
open Go.Sort Go.Proofs in
theorem mD{enc:Nat->List Value}{k:Nat}{w:World}{b m:Nat}{dk:Array Nat}{os:Array Go.Obj}{cs:Array Value}{ty:TypeId}(h:w.heap[b]?=some (.cells cs ty (0,0))):
  ∃eJ,(sortWorldK enc k w b 0 m dk os).heap[b]?=some (.cells eJ ty (0,0))/\eJ.size=cs.size/\ ∀p,dk.size*k<=p->eJ[p]?=cs[p]?:=by
 have hb:b<w.heap.size:=(zal.1 h).1;unfold sortWorldK grow;simp only;rw[zbn (by rw[size_putRowK];exact hb)];unfold putRowK putRow mapBlock;simp only[zaV];have h':(Go.Sort.ahead w m).heap[b]?=some (.cells cs ty (0,0)):=h;rw[zax trivial,h'];refine⟨_,rfl,by simp[putCells],λp hp=> ?_⟩;unfold putCells;rw[Array.getElem?_mapIdx,size_flatK];have: ¬(0<=p/\p<0+dk.size*k):=by omega
 cases cs[p]? with
 |none=>rfl
 |some x=>exact congrArg some (zaB this)
def il(n k:Nat)(cs:Array Value)(i:Nat):List Value:=(List.range k).map λj=>cs.getD ((if i<n then i else 0)*k+j) undef
theorem sH{F F':Nat->Prop}{w w':World}{cs:Array Value}{k:Nat}{es:List D}(hE:fj F w cs k es)(h0:0<es.length)(hF: ∀c,F c->F' c)(hw: ∀c,F c->w'.heap[c]?=w.heap[c]?)(ha: ∀x∈es,∃cs,x= .agg cs)(i:Nat):
  ay F' w' (.agg (il es.length k cs i).toArray) (el es i):=by
 have hi:(if i<es.length then i else 0)<es.length:=by split<;>assumption
 have hx:es[if i<es.length then i else 0]?=some (el es i):=by unfold el;rw[zah,zab hi];rfl
 obtain⟨xs,zN⟩:=ha _ (ff h0 i);obtain⟨q1,q2,q3⟩:=hE _ _ hx;rw[zN] at q1 q2 q3⊢;refine .agg _ xs (by simp only[D.cells] at q1;simp[il,q1]) q2 λj v c hv hc=> ?_;simp only[D.cells] at q1 q3;have hj:j<k:=by rw[<-q1];exact(zaa.1 hc).1
 unfold il at hv;rw[zap,List.getElem?_range hj] at hv;simp only[zan,zae] at hv;subst hv;exact(q3 j c hc).mono hF hw
theorem xS{F:Nat->Prop}{w:World}{cs:Array Value}{k:Nat}{es:List D}(hE:fj F w cs k es)(h0:0<es.length)(i:Nat): ∀v∈il es.length k cs i,v.oneCell'=true:=by
 intro v hv;have hi:(if i<es.length then i else 0)<es.length:=by split<;>assumption
 obtain⟨q1,q2,q3⟩:=hE _ _ (zab hi);unfold il at hv;obtain⟨j,hj,rfl⟩:=zbo.1 hv;have hj:=List.mem_range.1 hj;have hc:=zab (l:=es[if i<es.length then i else 0].cells) (by rw[q1];exact hj);exact(q3 j _ hc).fK (q2 _ (zao hc))
open Go.Sort Go.Proofs Go.Shelf in
set_option maxHeartbeats 1000000 in
theorem AX{kp:kX}(hX: ∀w,gl Q w kp.X){ρ:Ren}(L:SlLaysF0.n6 Q ρ){f:FuncId}(hf:f=ρ.f 6)(gq: ∀(vs:Array Value) (w:World),(callFunc f vs).run Q w= .ok (.enter f vs) w){ty:TypeId}{k:Nat}(hk:sz Q ty=some k)
  (aE: ∀w,(isAgg (ρ.t 24)).run Q w= .ok true w) (zE: ∀w,(Go.sizeOf (ρ.t 24)).run Q w= .ok k w) (w0:World):AW Q w0 f (yp Q kp ty):=by
 intro h0 ps R p R1 h F G w vs hH hl hv;unfold yp at h;split at h
 next n v len g=>
  split at h
  next e he=>
   split at h
   ·rename_i ty' Br aN;split at h
    ·rename_i hc;obtain⟨rfl,rfl,hlen,hc⟩:=hc;obtain⟨es,tl,rfl,rfl⟩: ∃es tl,Br=es++tl/\len=es.length:=⟨Br.take len,Br.drop len,(List.take_append_drop _ _).symm,by rw[za9];omega⟩
     rw[zb2 rfl] at hc;rw[zb2 rfl,List.drop_left' rfl] at h;simp only[zae,zaQ] at h;obtain⟨rfl,rfl⟩:=h
     match vs,hl,hv with
     | [u0,u1],_,hv=>
      have Eu:=hv 0 u0 _ rfl rfl;have ze:=hv 1 u1 _ rfl rfl;have hO:=hH.rg n e he;rw[aN] at hO;cases Eu with
      |sl _ _ _ _ h1 hr=>
       cases ze with
       |fn _ ws _ Ew _=>
        have:ws=[]:=zam (by simpa using Ew);subst this;obtain⟨a,N,cap,hG,rfl,_⟩:=hr.at he rfl (by rw[aN];rfl);have cD:fm G R n ⟨e.aw,e.tag,.arr ty' false (gb (fe Q kp g) es++tl)⟩ (G n):=λe1 jJ=>by rw[he] at jJ;cases jJ;exact .inr ⟨rfl,λ_=>⟨by rw[aN];rfl,rfl⟩⟩
        have fin: ∀(w':World),w.drawn<=w'.drawn->(∀c,c<w.heap.size-> ¬(∃e',lk R n=some e'/\aD (G n) e'.obj=some c)->w'.heap[c]?=w.heap[c]?)->w.heap.size<=w'.heap.size->w'.os=w.os->w'.tape=w.tape->w'.output=w.output->
          gi Q F w' G (ins n ⟨e.aw,e.tag,.arr ty' false (gb (fe Q kp g) es++tl)⟩ R) n (.arr ty' false (gb (fe Q kp g) es++tl))->
          ∃F' G',cZ Q ⟨G,w0,0,false⟩ F' G' w' (ins n ⟨e.aw,e.tag,.arr ty' false (gb (fe Q kp g) es++tl)⟩ R)/\ao F' w' G' (ins n ⟨e.aw,e.tag,.arr ty' false (gb (fe Q kp g) es++tl)⟩ R) (.tuple #[]) (.dR [])/\Ext (Own G R) (Own G' (ins n ⟨e.aw,e.tag,.arr ty' false (gb (fe Q kp g) es++tl)⟩ R)) F F' w w':=by
         intro w' hd bH bn vf Aq iR pM;obtain⟨d1,d2⟩:=ar.gk hH (e1:=⟨e.aw,e.tag,.arr ty' false (gb (fe Q kp g) es++tl)⟩) (g1:=G n) (w':=w') (hdr:=hd) cD bH bn vf Aq iR
          (λc hc=> .inr ⟨e,he,by rw[aN];exact hc⟩) (by rw[aH];exact pM) (λi hi _=>hH.tag n e i he hi (by rw[aN];rfl))
         rw[aH] at d1 d2;exact⟨F,G,d1,.dR [] [] rfl (λi v c hv _=>by simp at hv),d2⟩
        by_cases hn:0<es.length
        ·obtain⟨b,cX,cs,k',dO,hh,eO,jt,hle,kl,bn,_,hE⟩: ∃b cap cs k,G n= .slice (some ⟨b,0,none⟩) (es++tl).length cap/\w.heap[b]?=some (.cells cs ty' (0,0))/\sz Q ty'=some k/\0<k/\(es++tl).length<=cap/\cap<=maxLen/\cs.size=cap*k/\(false=true->F b)/\fj F w cs k (es++tl):=by
          rcases hO with⟨_,s8⟩|hO
          ·rw[(List.append_eq_nil_iff.1 s8).1] at hn;simp at hn
          exact hO
         rw[hk] at eO;cases eO;rw[hG] at dO;cases dO;have Dg:=hE;have hE:fj F w cs k es:=λi x hx=>Dg i x (by rw[zau (zaa.1 hx).1];exact hx);have yQ:=hle;have hle:es.length<=cap:=by rw[zaq] at yQ;omega
         have lO:b<w.heap.size:=(zal.1 hh).1;have vp: ¬F b:=hH.hS n e b he (by rw[aN];simp[aD,hG,au]);have AY: ∀c,F c->c≠b:=λc hc e'=>vp (e'▸hc);obtain⟨fn,g1,g2,g3⟩:=hc.fn;have eg: ∀args w,(callFunc g args).run Q w= .ok (.enter g args) w:=λargs w=>enters g1 g2 g3 args w;have vb:CmpLays Q g #[] (il es.length k cs) k (λi j:Nat=>fe Q kp g (el es i) (el es j)) b 0 (Array.range es.length).size w:=by intro m os dk hs x y;have AZ: ∀c,F c->(sortWorldK (il es.length k cs) k w b 0 m dk os).heap[c]?=w.heap[c]?:=λc hc=>dN (hH.fL c hc) (AY c hc);have Dh: ∀c,F c->c<(sortWorldK (il es.length k cs) k w b 0 m dk os).heap.size:=λc hc=>zaS (hH.fL c hc) (size_sortWorldK_c _ _ _ _ _ _ _ _);exact ua L.mixed g1 g2 g3 (hc.run _ (ff hn x) _ (ff hn y)) (hX _) (sH hE hn Dh AZ hc.ag x) (sH hE hn Dh AZ hc.ag y)
         have Di:HoldsK (il es.length k cs) k w b 0 (Array.range es.length):=by
          intro j hj;have hj:j<es.length*k:=by simpa using hj
          have Dj:j/k<es.length:=Nat.div_lt_of_lt_mul (by rw[zbi];exact hj);have Ex:j%k<k:=zb8 _ jt;have Cr:j<cs.size:=by rw[bn];exact zaS hj (zaf k hle)
          refine⟨?_,by simp[World.frozen?,hh]⟩;rw[cx hh,get_flatK _ _ _ _ (by simpa using hj)];rw[zbR (Array.range es.length) (j/k) (by simpa using Dj),Array.getElem_range];unfold il;rw[zbR _ (j%k) (by simpa using Ex)];simp only[List.getElem_map,List.getElem_range,zax Dj,id];rw[za4,zbi,zb0];exact jH Cr
         have ft:=AnyQ.slices_SortFunc_eq L k aE zE (il es.length k cs) (λx=>by simp[il]) (xS hE hn) (λi j:Nat=>fe Q kp g (el es i) (el es j)) (wx hc hn) g #[] b 0 cap (Array.range es.length) w eg vb Di lO (by simp only[zbW];exact hc.len);obtain⟨s1,_⟩:=pdq_sorts (Go.Proofs.ltOf λi j:Nat=>fe Q kp g (el es i) (el es j)) (wx hc hn) (Array.range es.length) 0 es.length (Lib.bitLen es.length) true true (zaF _) (by simp) (Or.inl rfl);simp only[zbW] at ft;have A0:gb (fe Q kp g) es=(pdq (Go.Proofs.ltOf λi j:Nat=>fe Q kp g (el es i) (el es j)) (Array.range es.length) 0 es.length (Lib.bitLen es.length) true true).toList.map (el es):=by unfold gb;rw[zax hn]
         generalize pdq (Go.Proofs.ltOf λi j:Nat=>fe Q kp g (el es i) (el es j)) (Array.range es.length) 0 es.length (Lib.bitLen es.length) true true=dk at ft s1 A0;obtain⟨p1,_,_⟩:=s1;simp only[zbW] at p1;refine .inl ⟨gq _ w,?_⟩;rw[hf];refine ft.mono λe' w' ⟨aW,n',os,uv⟩=>⟨_,aW,?_⟩
         subst uv;have qx:(gb (fe Q kp g) es).length=es.length:=by rw[A0];simp[p1]
         have AZ: ∀c,F c->(sortWorldK (il es.length k cs) k w b 0 n' dk os).heap[c]?=w.heap[c]?:=λc hc=>dN (hH.fL c hc) (AY c hc);refine fin _ (by unfold sortWorldK grow putRowK putRow mapBlock Go.Sort.ahead;exact Nat.le_add_right _ _) (λc hc dH=>dN hc (λe'=>dH ⟨e,he,by rw[e',aN];simp[aD,hG,au]⟩)) (size_sortWorldK_c _ _ _ _ _ _ _ _) rfl rfl rfl ?_;obtain⟨eJ,Dk,Ey,Bm⟩:=mD (enc:=il es.length k cs) (k:=k) (m:=n') (dk:=dk) (os:=os) hh;refine .inr ⟨b,cap,eJ,k,by rw[zaq,qx,<-zaq];exact hG,Dk,hk,jt,by rw[zaq,qx,<-zaq];exact yQ,kl,by rw[Ey];exact bn,(λh=>by cases h),?_⟩;have Ct:=holdsK_sortWorldK_c (il es.length k cs) k w b 0 (Array.range es.length) dk n' os Di lO (by simp[p1]);intro i x hx;by_cases yS:es.length<=i
         ·rw[zay (by rw[qx];exact yS),qx] at hx;obtain⟨q1,q2,q3⟩:=Dg i x (by rw[zay yS];exact hx);refine⟨q1,q2,λj c BB=> ?_⟩;have hp:dk.size*k<=i*k+j:=by rw[p1];exact zaA (zaf k yS) (Nat.le_add_right _ _)
          rw[zak,Bm _ hp,<-zak];exact(q3 j c BB).mono (λ_ h=>h) AZ
         rw[zau (by rw[qx];omega),A0,zap] at hx;have hid:i<dk.size:=by
          by_cases hid:i<dk.size
          ·exact hid
          rw[zbC (by simpa using hid)] at hx;cases hx
         have Ez:dk.toList[i]?=some dk[i]!:=by rw[zaU,zaW hid,zbR dk i hid]
         rw[Ez] at hx;simp only[zan,zae] at hx;subst hx;have EA:(if dk[i]!<es.length then dk[i]! else 0)<es.length:=by split<;>assumption
         obtain⟨q1,q2,q3⟩:=hE _ _ (show es[if dk[i]!<es.length then dk[i]! else 0]?=some (el es dk[i]!) by unfold el;rw[zah,zab EA];rfl);refine⟨q1,q2,λj c BB=> ?_⟩;have hj:j<k:=by rw[<-q1];exact(zaa.1 BB).1
         have:=(HoldsK.cell Ct hid hj).1;rw[cx Dk] at this;unfold il at this;rw[zbR _ j (by simpa using hj)] at this;simp only[List.getElem_map,List.getElem_range] at this;rw[za4] at this;rw[zak,this];exact(q3 j c BB).mono (λ_ h=>h) AZ
        have s8:es=[]:=zam (by omega);subst s8;refine .inl ⟨gq _ w,?_⟩;rw[hf];refine(AnyF.slices_SortFunc_none L a cap (.func (.func g) #[] ⟨[]⟩) w).mono λe' w' ⟨aW,uv⟩=>⟨_,aW,?_⟩
        subst uv;refine fin w' (zag _) (λc hc _=>rfl) (zag _) rfl rfl rfl ?_;have A0:gb (fe Q kp g) []=[]:=rfl;rw[A0];rw[zbB] at hO⊢;rcases hO with⟨hg,_⟩| ⟨b,cX,cs,k',dO,hh,eO,jt,hle,kl,bn,h7,hE⟩
        ·exact .inl ⟨hg,by assumption⟩
        exact .inr ⟨b,cX,cs,k',dO,hh,eO,jt,hle,kl,bn,h7,hE⟩
    cases h
   cases h
  cases h
 cases h
end
end Pi
namespace Pi
open Go
theorem xT(Q:Program)(kf:KF)(kp:FuncId->Nat->Option (List Nat×List Nat))(xs:List Nat)(X Y:CF)(hk:List (Nat×(S->K (PX×S))))(dc:FuncId->Nat->Nat)(lf:Nat):
 fi Q kf ⟨kp,xs,X⟩ hk dc lf=fi Q kf ⟨kp,xs,Y⟩ hk dc lf:=rfl
theorem rQ(Q:Program)(kp:FuncId->Nat->Option (List Nat×List Nat))(xs:List Nat)(X Y:CF)(dc:FuncId->Nat->Nat)(H:List (FuncId×hQ))(lf:Nat): ∀k,
  runK Q ⟨kp,xs,X⟩ dc H lf k=runK Q ⟨kp,xs,Y⟩ dc H lf k
 |0=>rfl
 |k+1=>by funext f ps R;unfold runK;rw[rQ Q kp xs X Y dc H lf k,xT Q _ kp xs X Y]
end Pi
