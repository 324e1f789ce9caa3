/- The texts PiSort PiSeat PiBulk. -/
import Derived.Test.YtdgkdigdflkjhaaGreatDoorEbo
import Derived.Shelf.SlSortCmp.NoneTotal
namespace Pi
open Go Go.RowKit
section
variable{Q:Program}
def CH Q kp g x y i:=Ev λlf k=>fj Q kp lf k g [.d x,.d y] []=some (.d (.int .i64 i),[])
noncomputable def mI Q kp g x y:=by classical exact if h: ∃i,CH Q kp g x y i then h.choose else 0
structure mW(Q:Program)(kp:rq)(g:FuncId)(es:List D)(cf:D->D->Int):Prop where
 fn: ∃fn,Q.funcs[g]?=some fn/\fn.body.isSome=true/\(fn.name== "runtime.NumGoroutine")=false
 ag: ∀x∈es,∃cs,x= .agg cs
 len:es.length<4611686018427387904
 run: ∀x∈es,∀y∈es,CH Q kp g x y (cf x y)
 IV: ∀x∈es,¬cf x x<0
 tr: ∀x∈es,∀y∈es,∀z∈es,cf x y<0->cf y z<0->cf x z<0
 ntr: ∀x∈es,∀y∈es,∀z∈es,¬cf x y<0-> ¬cf y z<0-> ¬cf x z<0
def el(es:List D) i:=es.getD (if i<es.length then i else 0) .e9
theorem nH{es}(h:0<es.length) i:el es i∈es:=by
 unfold el;split
 next hi=>rw[zab,zad hi];exact zas hi
 rw[zab,zad h];exact zas h
def kK(cf:D->D->Int) es:=
 if 0<es.length then(Go.Sort.pdq (Go.Proofs.ltOf λi j:Nat=>cf (el es i) (el es j)) (Array.range es.length) 0 es.length (Lib.bitLen es.length) true true).toList.map (el es) else []
theorem Mc{kp g es cf}(h:mW Q kp g es cf)(h0:0<es.length):Go.Sort.SWO (Go.Proofs.ltOf λi j:Nat=>cf (el es i) (el es j)):=by
 constructor
 ·intro x;exact zaS (h.IV _ (nH h0 x))
 ·intro x y z h1 h2;exact za0 (h.tr _ (nH h0 x) _ (nH h0 y) _ (nH h0 z) (zbC h1) (zbC h2))
 intro x y z h1 h2;exact zaS (h.ntr _ (nH h0 x) _ (nH h0 y) _ (nH h0 z) (zcj h1) (zcj h2))
theorem pj{kp g es cf}(h:mW Q kp g es cf):(kK cf es).Perm es/\(kK cf es).Pairwise λa b=> ¬cf b a<0:=by
 by_cases h0:0<es.length
 ·obtain⟨h1,h2⟩:=Go.Sort.pdq_sorts (Go.Proofs.ltOf λi j:Nat=>cf (el es i) (el es j)) (Mc h h0) (Array.range es.length) 0 es.length (Lib.bitLen es.length) true true (zbd _) (by simp) (Or.inl rfl);unfold kK;rw[zap h0];generalize Go.Sort.pdq (Go.Proofs.ltOf λi j:Nat=>cf (el es i) (el es j)) (Array.range es.length) 0 es.length (Lib.bitLen es.length) true true=d at h1 h2;obtain⟨p1,_,p3⟩:=h1;simp only[zcQ] at p1;have e1:d.extract 0 es.length=d:=by rw[<-p1];simp
  have e2:(Array.range es.length).extract 0 es.length=Array.range es.length:=by simp
  rw[e1,e2] at p3;constructor
  ·have:=p3.map (el es);refine this.trans (List.Perm.of_eq ?_);apply zbX
   ·simp
   intro i h1 h2;simp[el,h2]
  rw[zbe,zbb];intro i j hi hj rY;have:=h2 i j (zbd _) rY (by simpa [p1] using hj);rw[zcx d i (by simpa using hi),zcx d j (by simpa using hj)] at this;simpa [Go.Proofs.ltOf] using this
 have:es=[]:=zaB (by omega);subst this;exact⟨List.Perm.refl _,List.Pairwise.nil⟩
open Classical in
noncomputable def sF(Q:Program)(kp:rq)(ty:TypeId):TF
 | [.sl n v len,.fn g []],R=>match lk R n with
  |some e=>(match e.obj with
   | .arr ty' false es=>if v=e.aV/\ty'=ty/\len<=es.length/\mW Q kp g (es.take len) (mI Q kp g) then some (.dz [],ins n ⟨e.aV,e.tag,.arr ty false (kK (mI Q kp g) (es.take len)++es.drop len)⟩ R) else none
   |_=>none)
  |none=>none
 |_,_=>none
theorem CH.one{kp g x y i j}(h:CH Q kp g x y i)(h':CH Q kp g x y j):i=j:=by obtain⟨a,b,h1,h2⟩:=(Ev.and h h').some;rw[h1] at h2;simpa using h2
theorem N3{kp g x y i}(h:CH Q kp g x y i):mI Q kp g x y=i:=by
 unfold mI;have h': ∃i,CH Q kp g x y i:=⟨i,h⟩
 rw[dif_pos h'];exact h'.choose_spec.one h
theorem mW.cf{kp g es cf}(h:mW Q kp g es cf):mW Q kp g es (mI Q kp g):=by have e: ∀x∈es,∀y∈es,mI Q kp g x y=cf x y:=λx hx y hy=>N3 (h.run x hx y hy);refine⟨h.fn,h.ag,h.len,λx hx y hy=>by rw[e x hx y hy];exact h.run x hx y hy,λx hx=>by rw[e x hx x hx];exact h.IV x hx,λx hx y hy z hz=>by rw[e x hx y hy,e y hy z hz,e x hx z hz];exact h.tr x hx y hy z hz,λx hx y hy z hz=>by rw[e x hx y hy,e y hy z hz,e x hx z hz];exact h.ntr x hx y hy z hz⟩
def qfQ(Q:Program)(kp:rq)(ty:TypeId):a8:=λps R ae=> ∃n g e es tl cf,ps=[.sl n e.aV es.length,.fn g []]/\lk R n=some e/\e.obj= .arr ty false (es++tl)/\mW Q kp g es cf/\
 ∀dh:List D,dh.Perm es->dh.Pairwise (λa b=> ¬cf b a<0)->ae (.dz [],ins n ⟨e.aV,e.tag,.arr ty false (dh++tl)⟩ R)
def qdR(Q:Program)(kp:rq)(ty:TypeId):a8:=λps R ae=> ∃n g e es cf,ps=[.sl n e.aV es.length,.fn g []]/\lk R n=some e/\e.obj= .arr ty false es/\mW Q kp g es cf/\
 ∀dh:List D,dh.Perm es->dh.Pairwise (λa b=> ¬cf b a<0)->ae (.dz [],ins n ⟨e.aV,e.tag,.arr ty false dh⟩ R)
theorem IW{kp ty ps R}{ae}(h:qfQ Q kp ty ps R ae): ∃x,sF Q kp ty ps R=some x/\ae x:=by
 obtain⟨n,g,e,es,tl,cf,rfl,he,b8,hc,fe⟩:=h;have oN:=hc.cf;refine⟨_,?_,fe (kK (mI Q kp g) es) (pj oN).1 ?_⟩
 ·unfold sF;simp only[he,b8];rw[zci rfl,List.drop_left' rfl,zap ⟨rfl,rfl,by rw[zaj];exact zdt _ _,oN⟩]
 refine List.Pairwise.imp_of_mem ?_ (pj oN).2;intro a b ha hb QX;have ha':=(pj oN).1.mem_iff.1 ha;have dq:=(pj oN).1.mem_iff.1 hb;rwa [N3 (hc.run b dq a ha')] at QX
theorem lW{kp ty ps R}{ae}(h:qdR Q kp ty ps R ae): ∃x,sF Q kp ty ps R=some x/\ae x:=by obtain⟨n,g,e,es,cf,rfl,he,b8,hc,fe⟩:=h;refine IW ⟨n,g,e,es,[],cf,rfl,he,by rw[b8,zbi],hc,λdh h1 h2=> ?_⟩;rw[zbi];exact fe dh h1 h2
theorem CI{w w'}(h:Go.RowKit.Below w.heap.size w w')(hd:w.drawn<=w'.drawn): ∃q os,w'=Go.Sort.grow (w.drewN q) os:=by
 refine⟨w'.drawn-w.drawn,w'.heap.extract w.heap.size w'.heap.size,?_⟩;have e:w'.heap=w.heap++w'.heap.extract w.heap.size w'.heap.size:=by
  apply zc9;intro i;by_cases hi:i<w.heap.size
  ·rw[zb7 hi];exact h.block i hi
  rw[Array.getElem?_append_right (by omega),Array.getElem?_extract];simp only[Nat.min_self];split
  ·congr 1;omega
  exact zcU (by omega)
 cases w' with
 |mk heap tape drawn os output=>have h1:=h.os;have h2:=h.tape;have h3:=h.output;simp only at h1 h2 h3 e hd;subst h1 h2 h3;unfold Go.Sort.grow World.drewN;simp only;rw[<-e,Nat.add_sub_cancel' hd]
theorem QY{kp}(hm:Q.follows .mixedOrders=true){g fn}(gC:Q.funcs[g]?=some fn)(cS:fn.body.isSome=true)(lT:(fn.name== "runtime.NumGoroutine")=false)
  {x y i} (ca:CH Q kp g x y i) {w} (hX:cz Q w kp.X) {vx vy} (h1:aY (· <w.heap.size) w vx x) (h2:aY (· <w.heap.size) w vy y):
  Calls Q g #[vx,vy] w (λe w'=>e= .returned (.int .i64 i)/\ ∃q os,w'=Go.Sort.grow (w.drewN q) os):=by
 obtain⟨lf,k,ca⟩:=ca.some;have hH:fX Q ⟨λ_=>undef,w,0,false⟩ (· <w.heap.size) (λ_=>undef) w []:=
  ⟨.nil,zbd _,λt p hp=>by simp[lk] at hp,λn e he=>by simp[lk] at he,λn m e e' b he=>by simp[lk] at he,λn e b he=>by simp[lk] at he,λb hb=>hb,λn e i he=>by simp[lk] at he,λb hb=>⟨hb,rfl⟩,zal _,zbd _⟩
 have bw:=uN hX hm k g [.d x,.d y] [] _ _ ca (· <w.heap.size) (λ_=>undef) w [vx,vy] hH rfl (λj v c hv hc=>by
  match j with
  |0=>cases hv;cases hc;exact .d h1
  |1=>cases hv;cases hc;exact .d h2
  |j+2=>cases hv)
 have mU:(callFunc g ⟨[vx,vy]⟩).run Q w= .ok (.enter g ⟨[vx,vy]⟩) w:=by
  simp[callFunc,gC];rw[zan (by simpa using lT)];cases hb:fn.body with
  |none=>rw[hb] at cS;cases cS
  |some c=>simp
 rcases bw with⟨_,h⟩| ⟨v,w',h,_⟩
 ·refine h.mono λe w' ⟨v,he,F',G',h1,h2,h3⟩=> ?_;have hv:v= .int .i64 i:=aH.cD (p:= .d (.int .i64 i)) h2 rfl;subst hv;exact⟨he,CI ⟨h3.os,h3.tape,h3.output,h3.size,λb hb=>h3.keep b hb (λ⟨n,e,he,_⟩=>by simp[lk] at he)⟩ h1.dr⟩
 rw[mU] at h;cases h
open Go.Sort Go.Proofs in
theorem ku{enc:Nat->List Value}{k:Nat}{w:World}{b m:Nat}{dk:Array Nat}{os:Array Go.Obj}{c:Nat}(hc:c<w.heap.size)(cO:c≠b):(sortWorldK enc k w b 0 m dk os).heap[c]?=w.heap[c]?:=by unfold sortWorldK grow;simp only;rw[zb7 (by rw[size_putRowK];exact hc)];unfold putRowK putRow mapBlock;simp only[zcW];rw[zan (zbx cO)];rfl
open Go.Sort Go.Proofs in
theorem AA{enc:Nat->List Value}{k:Nat}{w:World}{b m:Nat}{dk:Array Nat}{os:Array Go.Obj}{cs:Array Value}{ty:TypeId}(h:w.heap[b]?=some (.cells cs ty (0,0))):
  ∃mA,(sortWorldK enc k w b 0 m dk os).heap[b]?=some (.cells mA ty (0,0))/\mA.size=cs.size/\ ∀p,dk.size*k<=p->mA[p]?=cs[p]?:=by
 have hb:b<w.heap.size:=(zax.1 h).1;unfold sortWorldK grow;simp only;rw[zb7 (by rw[size_putRowK];exact hb)];unfold putRowK putRow mapBlock;simp only[zcW];have h':(Go.Sort.ahead w m).heap[b]?=some (.cells cs ty (0,0)):=h;rw[zap trivial,h'];refine⟨_,rfl,by simp[putCells],λp hp=> ?_⟩;unfold putCells;rw[Array.getElem?_mapIdx,size_flatK];have: ¬(0<=p/\p<0+dk.size*k):=by omega
 cases cs[p]? with
 |none=>rfl
 |some x=>exact congrArg some (zan this)
def r0 n k (cs:Array Value) i:=(List.range k).map λj=>cs.getD ((if i<n then i else 0)*k+j) undef
theorem N4{F F' w w' cs k}{es}(hE:n5 F w cs k es)(h0:0<es.length)(hF: ∀c,F c->F' c)(hw: ∀c,F c->w'.heap[c]?=w.heap[c]?)(ha: ∀x∈es,∃cs,x= .agg cs) i:
  aY F' w' (.agg (r0 es.length k cs i).toArray) (el es i):=by
 have hi:(if i<es.length then i else 0)<es.length:=by split<;>assumption
 have hx:es[if i<es.length then i else 0]?=some (el es i):=by unfold el;rw[zab,zad hi];rfl
 obtain⟨xs,hxs⟩:=ha _ (nH h0 i);obtain⟨q1,q2,q3⟩:=hE _ _ hx;rw[hxs] at q1 q2 q3⊢;refine .agg _ xs (by simp only[D.cells] at q1;simp[r0,q1]) q2 λj v c hv hc=> ?_;simp only[D.cells] at q1 q3;have hj:j<k:=by rw[<-q1];exact(zae.1 hc).1
 unfold r0 at hv;rw[zaN,List.getElem?_range hj] at hv;simp only[zaH,zam] at hv;subst hv;exact(q3 j c hc).mono hF hw
theorem qaK{F w cs k}{es}(hE:n5 F w cs k es)(h0:0<es.length) i: ∀v∈r0 es.length k cs i,v.oneCell'=true:=by
 intro v hv;have hi:(if i<es.length then i else 0)<es.length:=by split<;>assumption
 obtain⟨q1,q2,q3⟩:=hE _ _ (zad hi);unfold r0 at hv;obtain⟨j,hj,rfl⟩:=zaq.1 hv;have hj:=List.mem_range.1 hj;have hc:=zad (l:=es[if i<es.length then i else 0].cells) (by rw[q1];exact hj);exact(q3 j _ hc).o5 (q2 _ (zaA hc))
open Go.Sort Go.Proofs Go.Shelf in
set_option maxHeartbeats 1000000 in
theorem qT{kp:rq}(hX: ∀w,cz Q w kp.X){ρ:Ren}(L:SlLaysF0.n6 Q ρ){f:FuncId}(hf:f=ρ.f 6)(gC: ∀(vs:Array Value) (w:World),(callFunc f vs).run Q w= .ok (.enter f vs) w){ty:TypeId}{k:Nat}(hk:sz Q ty=some k)
  (aE: ∀w,(isAgg (ρ.t 24)).run Q w= .ok true w) (zE: ∀w,(Go.sizeOf (ρ.t 24)).run Q w= .ok k w) (w0:World):CG Q w0 f (sF Q kp ty):=by
 intro h0 ps R p R1 h F G w vs hH hl hv;unfold sF at h;split at h
 next n v len g=>
  split at h
  next e he=>
   split at h
   ·rename_i ty' es0 b8;split at h
    ·rename_i hc;obtain⟨rfl,rfl,hlen,hc⟩:=hc;obtain⟨es,tl,rfl,rfl⟩: ∃es tl,es0=es++tl/\len=es.length:=⟨es0.take len,es0.drop len,(zbJ _ _).symm,by rw[zau];omega⟩
     rw[zci rfl] at hc;rw[zci rfl,List.drop_left' rfl] at h;simp only[zam,zbt] at h;obtain⟨rfl,rfl⟩:=h
     match vs,hl,hv with
     | [u0,u1],_,hv=>
      have hp0:=hv 0 u0 _ rfl rfl;have yN:=hv 1 u1 _ rfl rfl;have hO:=hH.rg n e he;rw[b8] at hO;cases hp0 with
      |sl _ _ _ _ h1 hr=>
       cases yN with
       |fn _ ws _ hws _=>
        have:ws=[]:=zaB (by simpa using hws);subst this;obtain⟨a,N,cap,hG,rfl,_⟩:=hr.at he rfl (by rw[b8];rfl);have fV:qF G R n ⟨e.aV,e.tag,.arr ty' false (kK (mI Q kp g) es++tl)⟩ (G n):=λe1 Hi=>by rw[he] at Hi;cases Hi;exact .inr ⟨rfl,λ_=>⟨by rw[b8];rfl,rfl⟩⟩
        have fin: ∀(w':World),w.drawn<=w'.drawn->(∀c,c<w.heap.size-> ¬(∃e',lk R n=some e'/\bB (G n) e'.obj=some c)->w'.heap[c]?=w.heap[c]?)->w.heap.size<=w'.heap.size->w'.os=w.os->w'.tape=w.tape->w'.output=w.output->
          pZ Q F w' G (ins n ⟨e.aV,e.tag,.arr ty' false (kK (mI Q kp g) es++tl)⟩ R) n (.arr ty' false (kK (mI Q kp g) es++tl))->
          ∃F' G',fX Q ⟨G,w0,0,false⟩ F' G' w' (ins n ⟨e.aV,e.tag,.arr ty' false (kK (mI Q kp g) es++tl)⟩ R)/\aH F' w' G' (ins n ⟨e.aV,e.tag,.arr ty' false (kK (mI Q kp g) es++tl)⟩ R) (.tuple #[]) (.dz [])/\Ext (Own G R) (Own G' (ins n ⟨e.aV,e.tag,.arr ty' false (kK (mI Q kp g) es++tl)⟩ R)) F F' w w':=by
         intro w' hd eU dS T0 htp bw Ib;obtain⟨d1,d2⟩:=aC.od hH (e1:=⟨e.aV,e.tag,.arr ty' false (kK (mI Q kp g) es++tl)⟩) (g1:=G n) (w':=w') (hdr:=hd) fV eU dS T0 htp bw
          (λc hc=> .inr ⟨e,he,by rw[b8];exact hc⟩) (by rw[bV];exact Ib) (λi hi _=>hH.tag n e i he hi (by rw[b8];rfl))
         rw[bV] at d1 d2;exact⟨F,G,d1,.dz [] [] rfl (λi v c hv _=>by simp at hv),d2⟩
        by_cases hn:0<es.length
        ·obtain⟨b,jl,cs,k',rr,hh,iB,fO,hle,BR,dS,_,hE⟩: ∃b cap cs k,G n= .slice (some ⟨b,0,none⟩) (es++tl).length cap/\w.heap[b]?=some (.cells cs ty' (0,0))/\sz Q ty'=some k/\0<k/\(es++tl).length<=cap/\cap<=maxLen/\cs.size=cap*k/\(false=true->F b)/\n5 F w cs k (es++tl):=by
          rcases hO with⟨_,NQ⟩|hO
          ·rw[(List.append_eq_nil_iff.1 NQ).1] at hn;simp at hn
          exact hO
         rw[hk] at iB;cases iB;rw[hG] at rr;cases rr;have hE0:=hE;have hE:n5 F w cs k es:=λi x hx=>hE0 i x (by rw[zaT (zae.1 hx).1];exact hx);have qfx:=hle;have hle:es.length<=cap:=by rw[zaj] at qfx;omega
         have ya:b<w.heap.size:=(zax.1 hh).1;have hnF: ¬F b:=hH.nA n e b he (by rw[b8];simp[bB,hG,aO]);have qiK: ∀c,F c->c≠b:=λc hc e'=>hnF (e'▸hc);obtain⟨fn,g1,g2,g3⟩:=hc.fn;have eg: ∀args w,(callFunc g args).run Q w= .ok (.enter g args) w:=λargs w=>enters g1 g2 g3 args w;have TV:CmpLays Q g #[] (r0 es.length k cs) k (λi j:Nat=>mI Q kp g (el es i) (el es j)) b 0 (Array.range es.length).size w:=by intro m os dk hs x y;have hFw: ∀c,F c->(sortWorldK (r0 es.length k cs) k w b 0 m dk os).heap[c]?=w.heap[c]?:=λc hc=>ku (hH.jE c hc) (qiK c hc);have hFs: ∀c,F c->c<(sortWorldK (r0 es.length k cs) k w b 0 m dk os).heap.size:=λc hc=>zbf (hH.jE c hc) (size_sortWorldK_c _ _ _ _ _ _ _ _);exact QY L.mixed g1 g2 g3 (hc.run _ (nH hn x) _ (nH hn y)) (hX _) (N4 hE hn hFs hFw hc.ag x) (N4 hE hn hFs hFw hc.ag y)
         have hHo:HoldsK (r0 es.length k cs) k w b 0 (Array.range es.length):=by
          intro j hj;have hj:j<es.length*k:=by simpa using hj
          have hjk:j/k<es.length:=Nat.div_lt_of_lt_mul (by rw[zco];exact hj);have N5:j%k<k:=zdh _ fO;have hjs:j<cs.size:=by rw[dS];exact zbf hj (zar k hle)
          refine⟨?_,by simp[World.frozen?,hh]⟩;rw[sE hh,get_flatK _ _ _ _ (by simpa using hj)];rw[zcx (Array.range es.length) (j/k) (by simpa using hjk),Array.getElem_range];unfold r0;rw[zcx _ (j%k) (by simpa using N5)];simp only[List.getElem_map,List.getElem_range,zap hjk,id];rw[zaD,zco,zdu];exact UQ hjs
         have mU:=AnyQ.slices_SortFunc_eq L k aE zE (r0 es.length k cs) (λx=>by simp[r0]) (qaK hE hn) (λi j:Nat=>mI Q kp g (el es i) (el es j)) (Mc hc hn) g #[] b 0 cap (Array.range es.length) w eg TV hHo ya (by simp only[zcQ];exact hc.len);obtain⟨s1,_⟩:=pdq_sorts (Go.Proofs.ltOf λi j:Nat=>mI Q kp g (el es i) (el es j)) (Mc hc hn) (Array.range es.length) 0 es.length (Lib.bitLen es.length) true true (zbd _) (by simp) (Or.inl rfl);simp only[zcQ] at mU;have hsD:kK (mI Q kp g) es=(pdq (Go.Proofs.ltOf λi j:Nat=>mI Q kp g (el es i) (el es j)) (Array.range es.length) 0 es.length (Lib.bitLen es.length) true true).toList.map (el es):=by unfold kK;rw[zap hn]
         generalize pdq (Go.Proofs.ltOf λi j:Nat=>mI Q kp g (el es i) (el es j)) (Array.range es.length) 0 es.length (Lib.bitLen es.length) true true=dk at mU s1 hsD;obtain⟨p1,_,_⟩:=s1;simp only[zcQ] at p1;refine .inl ⟨gC _ w,?_⟩;rw[hf];refine mU.mono λe' w' ⟨cR,n',os,FL⟩=>⟨_,cR,?_⟩
         subst FL;have IX:(kK (mI Q kp g) es).length=es.length:=by rw[hsD];simp[p1]
         have hFw: ∀c,F c->(sortWorldK (r0 es.length k cs) k w b 0 n' dk os).heap[c]?=w.heap[c]?:=λc hc=>ku (hH.jE c hc) (qiK c hc);refine fin _ (by unfold sortWorldK grow putRowK putRow mapBlock Go.Sort.ahead;exact zdt _ _) (λc hc bI=>ku hc (λe'=>bI ⟨e,he,by rw[e',b8];simp[bB,hG,aO]⟩)) (size_sortWorldK_c _ _ _ _ _ _ _ _) rfl rfl rfl ?_;obtain⟨mA,hh',hs',hs2⟩:=AA (enc:=r0 es.length k cs) (k:=k) (m:=n') (dk:=dk) (os:=os) hh;refine .inr ⟨b,cap,mA,k,by rw[zaj,IX,<-zaj];exact hG,hh',hk,fO,by rw[zaj,IX,<-zaj];exact qfx,BR,by rw[hs'];exact dS,(λh=>by cases h),?_⟩;have qns:=holdsK_sortWorldK_c (r0 es.length k cs) k w b 0 (Array.range es.length) dk n' os hHo ya (by simp[p1]);intro i x hx;by_cases ql:es.length<=i
         ·rw[za7 (by rw[IX];exact ql),IX] at hx;obtain⟨q1,q2,q3⟩:=hE0 i x (by rw[za7 ql];exact hx);refine⟨q1,q2,λj c hjc=> ?_⟩;have hp:dk.size*k<=i*k+j:=by rw[p1];exact zaL (zar k ql) (zdt _ _)
          rw[zaF,hs2 _ hp,<-zaF];exact(q3 j c hjc).mono (λ_ h=>h) hFw
         rw[zaT (by rw[IX];omega),hsD,zaN] at hx;have hid:i<dk.size:=by
          by_cases hid:i<dk.size
          ·exact hid
          rw[zbw (by simpa using hid)] at hx;cases hx
         have hdi:dk.toList[i]?=some dk[i]!:=by rw[zcn,zbN hid,zcx dk i hid]
         rw[hdi] at hx;simp only[zaH,zam] at hx;subst hx;have hii:(if dk[i]!<es.length then dk[i]! else 0)<es.length:=by split<;>assumption
         obtain⟨q1,q2,q3⟩:=hE _ _ (show es[if dk[i]!<es.length then dk[i]! else 0]?=some (el es dk[i]!) by unfold el;rw[zab,zad hii];rfl);refine⟨q1,q2,λj c hjc=> ?_⟩;have hj:j<k:=by rw[<-q1];exact(zae.1 hjc).1
         have:=(HoldsK.cell qns hid hj).1;rw[sE hh'] at this;unfold r0 at this;rw[zcx _ j (by simpa using hj)] at this;simp only[List.getElem_map,List.getElem_range] at this;rw[zaD] at this;rw[zaF,this];exact(q3 j c hjc).mono (λ_ h=>h) hFw
        have NQ:es=[]:=zaB (by omega);subst NQ;refine .inl ⟨gC _ w,?_⟩;rw[hf];refine(AnyF.slices_SortFunc_none L a cap (.func (.func g) #[] ⟨[]⟩) w).mono λe' w' ⟨cR,FL⟩=>⟨_,cR,?_⟩
        subst FL;refine fin w' (zal _) (λc hc _=>rfl) (zal _) rfl rfl rfl ?_;have hsD:kK (mI Q kp g) []=[]:=rfl;rw[hsD];rw[zbq] at hO⊢;rcases hO with⟨hg,_⟩| ⟨b,jl,cs,k',rr,hh,iB,fO,hle,BR,dS,h7,hE⟩
        ·exact .inl ⟨hg,by assumption⟩
        exact .inr ⟨b,jl,cs,k',rr,hh,iB,fO,hle,BR,dS,h7,hE⟩
    cases h
   cases h
  cases h
 cases h
end
end Pi
namespace Pi
open Go
theorem qaL Q kf kp xs X Y hk dc lf:
 n0 Q kf ⟨kp,xs,X⟩ hk dc lf=n0 Q kf ⟨kp,xs,Y⟩ hk dc lf:=rfl
theorem FM Q kp xs X Y dc H lf: ∀k,
  runK Q ⟨kp,xs,X⟩ dc H lf k=runK Q ⟨kp,xs,Y⟩ dc H lf k
 |0=>rfl
 |k+1=>by funext f ps R;unfold runK;rw[FM Q kp xs X Y dc H lf k,qaL Q _ kp xs X Y]
end Pi
namespace Pi
open Go Go.ChangeShapes Go.WideShapes Go.RowKit
mutual
def qdS:D->Nat
 | .str l=>l.length
 | .sl _ es=>qdT es
 | .agg cs=>UR cs
 |_=>0
def qdT:List D->Nat
 | []=>0
 |x::r=>1+qdS x+qdT r
def UR:List D->Nat
 | []=>0
 |x::r=>qdS x+UR r
end
mutual
def qiL{H:Type}:DataW H->Nat
 | .lit (.string bytes)=>bytes.length+1
 | .slice elems spare=>FO elems+FO spare+1
 | .agg parts=>FO parts+1
 |_=>1
def FO{H:Type}:List (DataW H)->Nat
 | []=>0
 |d::r=>qiL d+FO r
end
section
variable{H:Type}{enc:TypeId×Value->H}{Q:Program}{w:World}
end
end Pi
