/- The texts PiSort PiSeat PiBulk. -/
import Derived.Test.YtfelfooeclnbiaaGreatDoorEbo
import Derived.Shelf.SlSortCmp.NoneTotal
namespace Pi
open Go Go.RowKit
section
variable{Q:Program}
def Fg(Q:Program)(kp:sr)(g:FuncId)(x y:D)(i:Int):Prop:=Ev λlf k=>fG Q kp lf k g [.d x,.d y] []=some (.d (.int .i64 i),[])
noncomputable def l8(Q:Program)(kp:sr)(g:FuncId)(x y:D):Int:=by classical exact if h: ∃i,Fg Q kp g x y i then h.choose else 0
structure Fh(Q:Program)(kp:sr)(g:FuncId)(es:List D)(cf:D->D->Int):Prop where
 fn: ∃fn,Q.funcs[g]?=some fn/\fn.body.isSome=true/\(fn.name== "runtime.NumGoroutine")=false
 ag: ∀x∈es,∃cs,x= .agg cs
 len:es.length<4611686018427387904
 run: ∀x∈es,∀y∈es,Fg Q kp g x y (cf x y)
 irr: ∀x∈es,¬cf x x<0
 tr: ∀x∈es,∀y∈es,∀z∈es,cf x y<0->cf y z<0->cf x z<0
 ntr: ∀x∈es,∀y∈es,∀z∈es,¬cf x y<0-> ¬cf y z<0-> ¬cf x z<0
def el(es:List D)(i:Nat):D:=es.getD (if i<es.length then i else 0) .dS
theorem l9{es:List D}(h:0<es.length)(i:Nat):el es i∈es:=by
 unfold el;split
 next hi=>rw[zab,zac hi];exact zar hi
 rw[zab,zac h];exact zar h
def ow(cf:D->D->Int)(es:List D):List D:=
 if 0<es.length then(Go.Sort.pdq (Go.Proofs.ltOf λi j:Nat=>cf (el es i) (el es j)) (Array.range es.length) 0 es.length (Lib.bitLen es.length) true true).toList.map (el es) else []
theorem Qs{kp:sr}{g:FuncId}{es:List D}{cf:D->D->Int}(h:Fh Q kp g es cf)(h0:0<es.length):Go.Sort.SWO (Go.Proofs.ltOf λi j:Nat=>cf (el es i) (el es j)):=by
 constructor
 ·intro x;exact za5 (h.irr _ (l9 h0 x))
 ·intro x y z h1 h2;exact zbw (h.tr _ (l9 h0 x) _ (l9 h0 y) _ (l9 h0 z) (zb1 h1) (zb1 h2))
 intro x y z h1 h2;exact za5 (h.ntr _ (l9 h0 x) _ (l9 h0 y) _ (l9 h0 z) (zcr h1) (zcr h2))
open Classical in
noncomputable def qaZ(Q:Program)(kp:sr)(ty:TypeId):TF
 | [.sl n v len,.fn g []],R=>match lk R n with
  |some e=>(match e.obj with
   | .arr ty' false es=>if v=e.aR/\ty'=ty/\len<=es.length/\Fh Q kp g (es.take len) (l8 Q kp g) then some (.bI [],ins n ⟨e.aR,e.tag,.arr ty false (ow (l8 Q kp g) (es.take len)++es.drop len)⟩ R) else none
   |_=>none)
  |none=>none
 |_,_=>none
theorem Fg.one{kp:sr}{g:FuncId}{x y:D}{i j:Int}(h:Fg Q kp g x y i)(h':Fg Q kp g x y j):i=j:=by obtain⟨a,b,h1,h2⟩:=(Ev.and h h').some;rw[h1] at h2;simpa using h2
theorem WK{kp:sr}{g:FuncId}{x y:D}{i:Int}(h:Fg Q kp g x y i):l8 Q kp g x y=i:=by
 unfold l8;have h': ∃i,Fg Q kp g x y i:=⟨i,h⟩
 rw[dif_pos h'];exact h'.choose_spec.one h
theorem Fh.cf{kp:sr}{g:FuncId}{es:List D}{cf:D->D->Int}(h:Fh Q kp g es cf):Fh Q kp g es (l8 Q kp g):=by have e: ∀x∈es,∀y∈es,l8 Q kp g x y=cf x y:=λx hx y hy=>WK (h.run x hx y hy);refine⟨h.fn,h.ag,h.len,λx hx y hy=>by rw[e x hx y hy];exact h.run x hx y hy,λx hx=>by rw[e x hx x hx];exact h.irr x hx,λx hx y hy z hz=>by rw[e x hx y hy,e y hy z hz,e x hx z hz];exact h.tr x hx y hy z hz,λx hx y hy z hz=>by rw[e x hx y hy,e y hy z hz,e x hx z hz];exact h.ntr x hx y hy z hz⟩
theorem zX{w w':World}(h:Go.RowKit.Below w.heap.size w w')(hd:w.drawn<=w'.drawn): ∃q os,w'=Go.Sort.grow (w.drewN q) os:=by
 refine⟨w'.drawn-w.drawn,w'.heap.extract w.heap.size w'.heap.size,?_⟩;have e:w'.heap=w.heap++w'.heap.extract w.heap.size w'.heap.size:=by
  apply zcV;intro i;by_cases hi:i<w.heap.size
  ·rw[zb2 hi];exact h.block i hi
  rw[Array.getElem?_append_right (by omega),Array.getElem?_extract];simp only[Nat.min_self];split
  ·congr 1;omega
  exact zci (by omega)
 cases w' with
 |mk heap tape drawn os output=>have h1:=h.os;have h2:=h.tape;have h3:=h.output;simp only at h1 h2 h3 e hd;subst h1 h2 h3;unfold Go.Sort.grow World.drewN;simp only;rw[<-e,Nat.add_sub_cancel' hd]
theorem MR{kp:sr}(hm:Q.follows .mixedOrders=true){g:FuncId}{fn:Func}(gK:Q.funcs[g]?=some fn)(cD:fn.body.isSome=true)(kU:(fn.name== "runtime.NumGoroutine")=false)
  {x y:D} {i:Int} (bX:Fg Q kp g x y i) {w:World} (hX:eG Q w kp.X) {vx vy:Value} (h1:aU (· <w.heap.size) w vx x) (h2:aU (· <w.heap.size) w vy y):
  Calls Q g #[vx,vy] w (λe w'=>e= .returned (.int .i64 i)/\ ∃q os,w'=Go.Sort.grow (w.drewN q) os):=by
 obtain⟨lf,k,bX⟩:=bX.some;have hH:eZ Q ⟨λ_=>undef,w,0,false⟩ (· <w.heap.size) (λ_=>undef) w []:=
  ⟨.nil,za7 _,λt p hp=>by simp[lk] at hp,λn e he=>by simp[lk] at he,λn m e e' b he=>by simp[lk] at he,λn e b he=>by simp[lk] at he,λb hb=>hb,λn e i he=>by simp[lk] at he,λb hb=>⟨hb,rfl⟩,zai _,za7 _⟩
 have aW:=sP hX hm k g [.d x,.d y] [] _ _ bX (· <w.heap.size) (λ_=>undef) w [vx,vy] hH rfl (λj v c hv hc=>by
  match j with
  |0=>cases hv;cases hc;exact .d h1
  |1=>cases hv;cases hc;exact .d h2
  |j+2=>cases hv)
 have iq:(callFunc g ⟨[vx,vy]⟩).run Q w= .ok (.enter g ⟨[vx,vy]⟩) w:=by
  simp[callFunc,gK];rw[zap (by simpa using kU)];cases hb:fn.body with
  |none=>rw[hb] at cD;cases cD
  |some c=>simp
 rcases aW with⟨_,h⟩| ⟨v,w',h,_⟩
 ·refine h.mono λe w' ⟨v,he,F',G',h1,h2,h3⟩=> ?_;have hv:v= .int .i64 i:=aF.cp (p:= .d (.int .i64 i)) h2 rfl;subst hv;exact⟨he,zX ⟨h3.os,h3.tape,h3.output,h3.size,λb hb=>h3.keep b hb (λ⟨n,e,he,_⟩=>by simp[lk] at he)⟩ h1.dr⟩
 rw[iq] at h;cases h
open Go.Sort Go.Proofs in
theorem jM{enc:Nat->List Value}{k:Nat}{w:World}{b m:Nat}{dk:Array Nat}{os:Array Go.Obj}{c:Nat}(hc:c<w.heap.size)(cU:c≠b):(sortWorldK enc k w b 0 m dk os).heap[c]?=w.heap[c]?:=by unfold sortWorldK grow;simp only;rw[zb2 (by rw[size_putRowK];exact hc)];unfold putRowK putRow mapBlock;simp only[zbE];rw[zap (zbs cU)];rfl
open Go.Sort Go.Proofs in
theorem ya{enc:Nat->List Value}{k:Nat}{w:World}{b m:Nat}{dk:Array Nat}{os:Array Go.Obj}{cs:Array Value}{ty:TypeId}(h:w.heap[b]?=some (.cells cs ty (0,0))):
  ∃ll,(sortWorldK enc k w b 0 m dk os).heap[b]?=some (.cells ll ty (0,0))/\ll.size=cs.size/\ ∀p,dk.size*k<=p->ll[p]?=cs[p]?:=by
 have hb:b<w.heap.size:=(zau.1 h).1;unfold sortWorldK grow;simp only;rw[zb2 (by rw[size_putRowK];exact hb)];unfold putRowK putRow mapBlock;simp only[zbE];have h':(Go.Sort.ahead w m).heap[b]?=some (.cells cs ty (0,0)):=h;rw[zaq trivial,h'];refine⟨_,rfl,by simp[putCells],λp hp=> ?_⟩;unfold putCells;rw[Array.getElem?_mapIdx,size_flatK];have: ¬(0<=p/\p<0+dk.size*k):=by omega
 cases cs[p]? with
 |none=>rfl
 |some x=>exact congrArg some (zap this)
def qt(n k:Nat)(cs:Array Value)(i:Nat):List Value:=(List.range k).map λj=>cs.getD ((if i<n then i else 0)*k+j) undef
theorem Kz{F F':Nat->Prop}{w w':World}{cs:Array Value}{k:Nat}{es:List D}(hE:lZ F w cs k es)(h0:0<es.length)(hF: ∀c,F c->F' c)(hw: ∀c,F c->w'.heap[c]?=w.heap[c]?)(ha: ∀x∈es,∃cs,x= .agg cs)(i:Nat):
  aU F' w' (.agg (qt es.length k cs i).toArray) (el es i):=by
 have hi:(if i<es.length then i else 0)<es.length:=by split<;>assumption
 have hx:es[if i<es.length then i else 0]?=some (el es i):=by unfold el;rw[zab,zac hi];rfl
 obtain⟨xs,V0⟩:=ha _ (l9 h0 i);obtain⟨q1,q2,q3⟩:=hE _ _ hx;rw[V0] at q1 q2 q3⊢;refine .agg _ xs (by simp only[D.cells] at q1;simp[qt,q1]) q2 λj v c hv hc=> ?_;simp only[D.cells] at q1 q3;have hj:j<k:=by rw[<-q1];exact(zae.1 hc).1
 unfold qt at hv;rw[zaD,List.getElem?_range hj] at hv;simp only[zaJ,zak] at hv;subst hv;exact(q3 j c hc).mono hF hw
theorem WL{F:Nat->Prop}{w:World}{cs:Array Value}{k:Nat}{es:List D}(hE:lZ F w cs k es)(h0:0<es.length)(i:Nat): ∀v∈qt es.length k cs i,v.oneCell'=true:=by
 intro v hv;have hi:(if i<es.length then i else 0)<es.length:=by split<;>assumption
 obtain⟨q1,q2,q3⟩:=hE _ _ (zac hi);unfold qt at hv;obtain⟨j,hj,rfl⟩:=zaX.1 hv;have hj:=List.mem_range.1 hj;have hc:=zac (l:=es[if i<es.length then i else 0].cells) (by rw[q1];exact hj);exact(q3 j _ hc).nw (q2 _ (zaz hc))
open Go.Sort Go.Proofs Go.Shelf in
set_option maxHeartbeats 1000000 in
theorem qfx{kp:sr}(hX: ∀w,eG Q w kp.X){ρ:Ren}(L:SlLaysF0.n6 Q ρ){f:FuncId}(hf:f=ρ.f 6)(gK: ∀(vs:Array Value) (w:World),(callFunc f vs).run Q w= .ok (.enter f vs) w){ty:TypeId}{k:Nat}(hk:sz Q ty=some k)
  (aE: ∀w,(isAgg (ρ.t 24)).run Q w= .ok true w) (zE: ∀w,(Go.sizeOf (ρ.t 24)).run Q w= .ok k w) (w0:World):MP Q w0 f (qaZ Q kp ty):=by
 intro h0 ps R p R1 h F G w vs hH hl hv;unfold qaZ at h;split at h
 next n v len g=>
  split at h
  next e he=>
   split at h
   ·rename_i ty' es0 bH;split at h
    ·rename_i hc;obtain⟨rfl,rfl,hlen,hc⟩:=hc;obtain⟨es,tl,rfl,rfl⟩: ∃es tl,es0=es++tl/\len=es.length:=⟨es0.take len,es0.drop len,(zbv _ _).symm,by rw[zat];omega⟩
     rw[zcH rfl] at hc;rw[zcH rfl,List.drop_left' rfl] at h;simp only[zak,zaL] at h;obtain⟨rfl,rfl⟩:=h
     match vs,hl,hv with
     | [u0,u1],_,hv=>
      have hp0:=hv 0 u0 _ rfl rfl;have uu:=hv 1 u1 _ rfl rfl;have hO:=hH.rg n e he;rw[bH] at hO;cases hp0 with
      |sl _ _ _ _ h1 hr=>
       cases uu with
       |fn _ ws _ hws _=>
        have:ws=[]:=zax (by simpa using hws);subst this;obtain⟨a,N,cap,hG,rfl,_⟩:=hr.at he rfl (by rw[bH];rfl);have eS:oo G R n ⟨e.aR,e.tag,.arr ty' false (ow (l8 Q kp g) es++tl)⟩ (G n):=λe1 qK=>by rw[he] at qK;cases qK;exact .inr ⟨rfl,λ_=>⟨by rw[bH];rfl,rfl⟩⟩
        have fin: ∀(w':World),w.drawn<=w'.drawn->(∀c,c<w.heap.size-> ¬(∃e',lk R n=some e'/\bm (G n) e'.obj=some c)->w'.heap[c]?=w.heap[c]?)->w.heap.size<=w'.heap.size->w'.os=w.os->w'.tape=w.tape->w'.output=w.output->
          oJ Q F w' G (ins n ⟨e.aR,e.tag,.arr ty' false (ow (l8 Q kp g) es++tl)⟩ R) n (.arr ty' false (ow (l8 Q kp g) es++tl))->
          ∃F' G',eZ Q ⟨G,w0,0,false⟩ F' G' w' (ins n ⟨e.aR,e.tag,.arr ty' false (ow (l8 Q kp g) es++tl)⟩ R)/\aF F' w' G' (ins n ⟨e.aR,e.tag,.arr ty' false (ow (l8 Q kp g) es++tl)⟩ R) (.tuple #[]) (.bI [])/\Ext (Own G R) (Own G' (ins n ⟨e.aR,e.tag,.arr ty' false (ow (l8 Q kp g) es++tl)⟩ R)) F F' w w':=by
         intro w' hd eF cM Pw htp aW EG;obtain⟨d1,d2⟩:=aB.mh hH (e1:=⟨e.aR,e.tag,.arr ty' false (ow (l8 Q kp g) es++tl)⟩) (g1:=G n) (w':=w') (hdr:=hd) eS eF cM Pw htp aW
          (λc hc=> .inr ⟨e,he,by rw[bH];exact hc⟩) (by rw[bx];exact EG) (λi hi _=>hH.tag n e i he hi (by rw[bH];rfl))
         rw[bx] at d1 d2;exact⟨F,G,d1,.bI [] [] rfl (λi v c hv _=>by simp at hv),d2⟩
        by_cases hn:0<es.length
        ·obtain⟨b,ig,cs,k',jR,hh,mY,kq,hle,tL,cM,_,hE⟩: ∃b cap cs k,G n= .slice (some ⟨b,0,none⟩) (es++tl).length cap/\w.heap[b]?=some (.cells cs ty' (0,0))/\sz Q ty'=some k/\0<k/\(es++tl).length<=cap/\cap<=maxLen/\cs.size=cap*k/\(false=true->F b)/\lZ F w cs k (es++tl):=by
          rcases hO with⟨_,Kn⟩|hO
          ·rw[(List.append_eq_nil_iff.1 Kn).1] at hn;simp at hn
          exact hO
         rw[hk] at mY;cases mY;rw[hG] at jR;cases jR;have hE0:=hE;have hE:lZ F w cs k es:=λi x hx=>hE0 i x (by rw[zaQ (zae.1 hx).1];exact hx);have qbS:=hle;have hle:es.length<=cap:=by rw[zaj] at qbS;omega
         have sB:b<w.heap.size:=(zau.1 hh).1;have PC: ¬F b:=hH.mg n e b he (by rw[bH];simp[bm,hG,aI]);have qfy: ∀c,F c->c≠b:=λc hc e'=>PC (e'▸hc);obtain⟨fn,g1,g2,g3⟩:=hc.fn;have eg: ∀args w,(callFunc g args).run Q w= .ok (.enter g args) w:=λargs w=>enters g1 g2 g3 args w;have Pt:CmpLays Q g #[] (qt es.length k cs) k (λi j:Nat=>l8 Q kp g (el es i) (el es j)) b 0 (Array.range es.length).size w:=by intro m os dk hs x y;have hFw: ∀c,F c->(sortWorldK (qt es.length k cs) k w b 0 m dk os).heap[c]?=w.heap[c]?:=λc hc=>jM (hH.ja c hc) (qfy c hc);have hFs: ∀c,F c->c<(sortWorldK (qt es.length k cs) k w b 0 m dk os).heap.size:=λc hc=>zaW (hH.ja c hc) (size_sortWorldK_c _ _ _ _ _ _ _ _);exact MR L.mixed g1 g2 g3 (hc.run _ (l9 hn x) _ (l9 hn y)) (hX _) (Kz hE hn hFs hFw hc.ag x) (Kz hE hn hFs hFw hc.ag y)
         have hHo:HoldsK (qt es.length k cs) k w b 0 (Array.range es.length):=by
          intro j hj;have hj:j<es.length*k:=by simpa using hj
          have hjk:j/k<es.length:=Nat.div_lt_of_lt_mul (by rw[zbK];exact hj);have Qt:j%k<k:=zcL _ kq;have hjs:j<cs.size:=by rw[cM];exact zaW hj (zao k hle)
          refine⟨?_,by simp[World.frozen?,hh]⟩;rw[gi hh,get_flatK _ _ _ _ (by simpa using hj)];rw[zc5 (Array.range es.length) (j/k) (by simpa using hjk),Array.getElem_range];unfold qt;rw[zc5 _ (j%k) (by simpa using Qt)];simp only[List.getElem_map,List.getElem_range,zaq hjk,id];rw[zaI,zbK,zde];exact sR hjs
         have iq:=AnyQ.slices_SortFunc_eq L k aE zE (qt es.length k cs) (λx=>by simp[qt]) (WL hE hn) (λi j:Nat=>l8 Q kp g (el es i) (el es j)) (Qs hc hn) g #[] b 0 cap (Array.range es.length) w eg Pt hHo sB (by simp only[zdb];exact hc.len);obtain⟨s1,_⟩:=pdq_sorts (Go.Proofs.ltOf λi j:Nat=>l8 Q kp g (el es i) (el es j)) (Qs hc hn) (Array.range es.length) 0 es.length (Lib.bitLen es.length) true true (za7 _) (by simp) (Or.inl rfl);simp only[zdb] at iq;have hsD:ow (l8 Q kp g) es=(pdq (Go.Proofs.ltOf λi j:Nat=>l8 Q kp g (el es i) (el es j)) (Array.range es.length) 0 es.length (Lib.bitLen es.length) true true).toList.map (el es):=by unfold ow;rw[zaq hn]
         generalize pdq (Go.Proofs.ltOf λi j:Nat=>l8 Q kp g (el es i) (el es j)) (Array.range es.length) 0 es.length (Lib.bitLen es.length) true true=dk at iq s1 hsD;obtain⟨p1,_,_⟩:=s1;simp only[zdb] at p1;refine .inl ⟨gK _ w,?_⟩;rw[hf];refine iq.mono λe' w' ⟨cx,n',os,pJ⟩=>⟨_,cx,?_⟩
         subst pJ;have Fj:(ow (l8 Q kp g) es).length=es.length:=by rw[hsD];simp[p1]
         have hFw: ∀c,F c->(sortWorldK (qt es.length k cs) k w b 0 n' dk os).heap[c]?=w.heap[c]?:=λc hc=>jM (hH.ja c hc) (qfy c hc);refine fin _ (by unfold sortWorldK grow putRowK putRow mapBlock Go.Sort.ahead;exact Nat.le_add_right _ _) (λc hc bk=>jM hc (λe'=>bk ⟨e,he,by rw[e',bH];simp[bm,hG,aI]⟩)) (size_sortWorldK_c _ _ _ _ _ _ _ _) rfl rfl rfl ?_;obtain⟨ll,hh',hs',Wc⟩:=ya (enc:=qt es.length k cs) (k:=k) (m:=n') (dk:=dk) (os:=os) hh;refine .inr ⟨b,cap,ll,k,by rw[zaj,Fj,<-zaj];exact hG,hh',hk,kq,by rw[zaj,Fj,<-zaj];exact qbS,tL,by rw[hs'];exact cM,(λh=>by cases h),?_⟩;have qhT:=holdsK_sortWorldK_c (qt es.length k cs) k w b 0 (Array.range es.length) dk n' os hHo sB (by simp[p1]);intro i x hx;by_cases lx:es.length<=i
         ·rw[zaS (by rw[Fj];exact lx),Fj] at hx;obtain⟨q1,q2,q3⟩:=hE0 i x (by rw[zaS lx];exact hx);refine⟨q1,q2,λj c hjc=> ?_⟩;have hp:dk.size*k<=i*k+j:=by rw[p1];exact zaE (zao k lx) (Nat.le_add_right _ _)
          rw[zaA,Wc _ hp,<-zaA];exact(q3 j c hjc).mono (λ_ h=>h) hFw
         rw[zaQ (by rw[Fj];omega),hsD,zaD] at hx;have hid:i<dk.size:=by
          by_cases hid:i<dk.size
          ·exact hid
          rw[zbj (by simpa using hid)] at hx;cases hx
         have hdi:dk.toList[i]?=some dk[i]!:=by rw[zbU,zbN hid,zc5 dk i hid]
         rw[hdi] at hx;simp only[zaJ,zak] at hx;subst hx;have hii:(if dk[i]!<es.length then dk[i]! else 0)<es.length:=by split<;>assumption
         obtain⟨q1,q2,q3⟩:=hE _ _ (show es[if dk[i]!<es.length then dk[i]! else 0]?=some (el es dk[i]!) by unfold el;rw[zab,zac hii];rfl);refine⟨q1,q2,λj c hjc=> ?_⟩;have hj:j<k:=by rw[<-q1];exact(zae.1 hjc).1
         have:=(HoldsK.cell qhT hid hj).1;rw[gi hh'] at this;unfold qt at this;rw[zc5 _ j (by simpa using hj)] at this;simp only[List.getElem_map,List.getElem_range] at this;rw[zaI] at this;rw[zaA,this];exact(q3 j c hjc).mono (λ_ h=>h) hFw
        have Kn:es=[]:=zax (by omega);subst Kn;refine .inl ⟨gK _ w,?_⟩;rw[hf];refine(AnyF.slices_SortFunc_none L a cap (.func (.func g) #[] ⟨[]⟩) w).mono λe' w' ⟨cx,pJ⟩=>⟨_,cx,?_⟩
        subst pJ;refine fin w' (zai _) (λc hc _=>rfl) (zai _) rfl rfl rfl ?_;have hsD:ow (l8 Q kp g) []=[]:=rfl;rw[hsD];rw[zaT] at hO⊢;rcases hO with⟨hg,_⟩| ⟨b,ig,cs,k',jR,hh,mY,kq,hle,tL,cM,h7,hE⟩
        ·exact .inl ⟨hg,by assumption⟩
        exact .inr ⟨b,ig,cs,k',jR,hh,mY,kq,hle,tL,cM,h7,hE⟩
    cases h
   cases h
  cases h
 cases h
end
end Pi
namespace Pi
open Go
theorem WM(Q:Program)(kf:KF)(kp:FuncId->Nat->Option (List Nat×List Nat))(xs:List Nat)(X Y:CF)(hk:List (Nat×(S->K (PX×S))))(dc:FuncId->Nat->Nat)(lf:Nat):
 my Q kf ⟨kp,xs,X⟩ hk dc lf=my Q kf ⟨kp,xs,Y⟩ hk dc lf:=rfl
theorem CQ(Q:Program)(kp:FuncId->Nat->Option (List Nat×List Nat))(xs:List Nat)(X Y:CF)(dc:FuncId->Nat->Nat)(H:List (FuncId×bh))(lf:Nat): ∀k,
  runK Q ⟨kp,xs,X⟩ dc H lf k=runK Q ⟨kp,xs,Y⟩ dc H lf k
 |0=>rfl
 |k+1=>by funext f ps R;unfold runK;rw[CQ Q kp xs X Y dc H lf k,WM Q _ kp xs X Y]
end Pi
namespace Pi
open Go Go.ChangeShapes Go.WideShapes Go.RowKit
mutual
def qa0:D->Nat
 | .str l=>l.length
 | .sl _ es=>qa1 es
 | .agg cs=>Qu cs
 |_=>0
def qa1:List D->Nat
 | []=>0
 |x::r=>1+qa0 x+qa1 r
def Qu:List D->Nat
 | []=>0
 |x::r=>qa0 x+Qu r
end
mutual
def qfz{H:Type}:DataW H->Nat
 | .lit (.string bytes)=>bytes.length+1
 | .slice elems spare=>CR elems+CR spare+1
 | .agg parts=>CR parts+1
 |_=>1
def CR{H:Type}:List (DataW H)->Nat
 | []=>0
 |d::r=>qfz d+CR r
end
section
variable{H:Type}{enc:TypeId×Value->H}{Q:Program}{w:World}
end
end Pi
