/- The texts PiSort PiSeat PiBulk. -/
import Derived.Test.YtngoddkencoalaaGreatDoorEbo
import Derived.Shelf.SlSortCmp.NoneTotal
namespace Pi
open Go Go.RowKit
section
variable {Q:Program}
def xW (Q:Program) (kp:pZ) (g:FuncId) (x y:D) (i:Int):Prop:=Ev fun lf k=>fc Q kp lf k g [.d x,.d y] []=some (.d (.int .i64 i),[])
noncomputable def lE (Q:Program) (kp:pZ) (g:FuncId) (x y:D):Int:=by
 classical exact if h: ∃i,xW Q kp g x y i then h.choose else 0
structure sM (Q:Program) (kp:pZ) (g:FuncId) (es:List D) (cf:D->D->Int):Prop where
 fn: ∃fn,Q.funcs[g]?=some fn/\fn.body.isSome=true/\(fn.name== "runtime.NumGoroutine")=false
 ag: ∀x∈es,∃cs,x= .agg cs
 len:es.length<4611686018427387904
 run: ∀x∈es,∀y∈es,xW Q kp g x y (cf x y)
 Kt: ∀x∈es,¬cf x x<0
 tr: ∀x∈es,∀y∈es,∀z∈es,cf x y<0->cf y z<0->cf x z<0
 ntr: ∀x∈es,∀y∈es,∀z∈es,¬cf x y<0-> ¬cf y z<0-> ¬cf x z<0
def el (es:List D) (i:Nat):D:=es.getD (if i<es.length then i else 0) .fQ
theorem mf {es:List D} (h:0<es.length) (i:Nat):el es i∈es:=by
 unfold el
 split
 ·rename_i hi;rw[zac,zae hi];exact zas hi
 ·rw[zac,zae h];exact zas h
def jW (cf:D->D->Int) (es:List D):List D:=
 if 0<es.length then(Go.Sort.pdq (Go.Proofs.ltOf fun i j:Nat=>cf (el es i) (el es j)) (Array.range es.length) 0 es.length (Lib.bitLen es.length) true true).toList.map (el es) else []
theorem Ii {kp:pZ} {g:FuncId} {es:List D} {cf:D->D->Int} (h:sM Q kp g es cf) (h0:0<es.length):Go.Sort.SWO (Go.Proofs.ltOf fun i j:Nat=>cf (el es i) (el es j)):=by
 constructor
 ·intro x;exact zaL (h.Kt _ (mf h0 x))
 ·intro x y z h1 h2;exact zaR (h.tr _ (mf h0 x) _ (mf h0 y) _ (mf h0 z) (zbD h1) (zbD h2))
 ·intro x y z h1 h2;exact zaL (h.ntr _ (mf h0 x) _ (mf h0 y) _ (mf h0 z) (zci h1) (zci h2))
theorem nH {kp:pZ} {g:FuncId} {es:List D} {cf:D->D->Int} (h:sM Q kp g es cf):(jW cf es).Perm es/\(jW cf es).Pairwise fun a b=> ¬cf b a<0:=by
 by_cases h0:0<es.length
 ·obtain⟨h1,h2⟩:=Go.Sort.pdq_sorts (Go.Proofs.ltOf fun i j:Nat=>cf (el es i) (el es j)) (Ii h h0) (Array.range es.length) 0 es.length (Lib.bitLen es.length) true true (za5 _) (by simp) (Or.inl rfl)
  unfold jW
  rw[zao h0]
  generalize Go.Sort.pdq (Go.Proofs.ltOf fun i j:Nat=>cf (el es i) (el es j)) (Array.range es.length) 0 es.length (Lib.bitLen es.length) true true=d at h1 h2
  obtain⟨p1,_,p3⟩:=h1
  simp only[zcw] at p1
  have e1:d.extract 0 es.length=d:=by rw[<-p1];simp
  have e2:(Array.range es.length).extract 0 es.length=Array.range es.length:=by simp
  rw[e1,e2] at p3
  constructor
  ·have:=p3.map (el es)
   refine this.trans (List.Perm.of_eq ?_)
   apply zbX
   ·simp
   ·intro i h1 h2
    simp[el,h2]
  ·rw[zcr,zbi]
   intro i j hi hj qq
   have:=h2 i j (za5 _) qq (by simpa [p1] using hj)
   rw[zcj d i (by simpa using hi),zcj d j (by simpa using hj)] at this
   simpa [Go.Proofs.ltOf] using this
 ·have:es=[]:=zax (by omega)
  subst this
  exact⟨List.Perm.refl _,List.Pairwise.nil⟩
open Classical in
noncomputable def xX (Q:Program) (kp:pZ) (ty:TypeId):TF
 | [.sl n v len,.fn g []],R=>match lk R n with
  |some e=>(match e.obj with
   | .arr ty' false es=>if v=e.aX/\ty'=ty/\len<=es.length/\sM Q kp g (es.take len) (lE Q kp g) then some (.cV [],ins n ⟨e.aX,e.tag,.arr ty false (jW (lE Q kp g) (es.take len)++es.drop len)⟩ R) else none
   |_=>none)
  |none=>none
 |_,_=>none
theorem xW.one {kp:pZ} {g:FuncId} {x y:D} {i j:Int} (h:xW Q kp g x y i) (h':xW Q kp g x y j):i=j:=by
 obtain⟨a,b,h1,h2⟩:=(Ev.and h h').some
 rw[h1] at h2
 simpa using h2
theorem Ku {kp:pZ} {g:FuncId} {x y:D} {i:Int} (h:xW Q kp g x y i):lE Q kp g x y=i:=by
 unfold lE
 have h': ∃i,xW Q kp g x y i:=⟨i,h⟩
 rw[dif_pos h']
 exact h'.choose_spec.one h
theorem sM.cf {kp:pZ} {g:FuncId} {es:List D} {cf:D->D->Int} (h:sM Q kp g es cf):sM Q kp g es (lE Q kp g):=by
 have e: ∀x∈es,∀y∈es,lE Q kp g x y=cf x y:=fun x hx y hy=>Ku (h.run x hx y hy)
 refine⟨h.fn,h.ag,h.len,fun x hx y hy=>by rw[e x hx y hy];exact h.run x hx y hy,fun x hx=>by rw[e x hx x hx];exact h.Kt x hx,fun x hx y hy z hz=>by rw[e x hx y hy,e y hy z hz,e x hx z hz];exact h.tr x hx y hy z hz,fun x hx y hy z hz=>by rw[e x hx y hy,e y hy z hz,e x hx z hz];exact h.ntr x hx y hy z hz⟩
def Qk (Q:Program) (kp:pZ) (ty:TypeId):bq:=fun ps R post=> ∃n g e es tl cf,ps=[.sl n e.aX es.length,.fn g []]/\lk R n=some e/\e.obj= .arr ty false (es++tl)/\sM Q kp g es cf/\
 ∀fA:List D,fA.Perm es->fA.Pairwise (fun a b=> ¬cf b a<0)->post (.cV [],ins n ⟨e.aX,e.tag,.arr ty false (fA++tl)⟩ R)
def qaE (Q:Program) (kp:pZ) (ty:TypeId):bq:=fun ps R post=> ∃n g e es cf,ps=[.sl n e.aX es.length,.fn g []]/\lk R n=some e/\e.obj= .arr ty false es/\sM Q kp g es cf/\
 ∀fA:List D,fA.Perm es->fA.Pairwise (fun a b=> ¬cf b a<0)->post (.cV [],ins n ⟨e.aX,e.tag,.arr ty false fA⟩ R)
theorem u5 {kp:pZ} {ty:TypeId} {ps:List P} {R:List (Nat×En)} {post:P×List (Nat×En)->Prop} (h:Qk Q kp ty ps R post): ∃x,xX Q kp ty ps R=some x/\post x:=by
 obtain⟨n,g,e,es,tl,cf,rfl,he,bV,hc,eV⟩:=h
 have qP:=hc.cf
 refine⟨_,?_,eV (jW (lE Q kp g) es) (nH qP).1 ?_⟩
 ·unfold xX
  simp only[he,bV]
  rw[zb2 rfl,List.drop_left' rfl,zao ⟨rfl,rfl,by rw[zan];exact zcZ _ _,qP⟩]
 ·refine List.Pairwise.imp_of_mem ?_ (nH qP).2
  intro a b ha hb Oe
  have ha':=(nH qP).1.mem_iff.1 ha
  have dj:=(nH qP).1.mem_iff.1 hb
  rwa [Ku (hc.run b dj a ha')] at Oe
theorem Ij {kp:pZ} {ty:TypeId} {ps:List P} {R:List (Nat×En)} {post:P×List (Nat×En)->Prop} (h:qaE Q kp ty ps R post): ∃x,xX Q kp ty ps R=some x/\post x:=by
 obtain⟨n,g,e,es,cf,rfl,he,bV,hc,eV⟩:=h
 refine u5 ⟨n,g,e,es,[],cf,rfl,he,by rw[bV,zbj],hc,fun fA h1 h2=> ?_⟩
 rw[zbj]
 exact eV fA h1 h2
theorem zW {w w':World} (h:Go.RowKit.Below w.heap.size w w') (hd:w.drawn<=w'.drawn): ∃q os,w'=Go.Sort.grow (w.drewN q) os:=by
 refine⟨w'.drawn-w.drawn,w'.heap.extract w.heap.size w'.heap.size,?_⟩
 have e:w'.heap=w.heap++w'.heap.extract w.heap.size w'.heap.size:=by
  apply zcO
  intro i
  by_cases hi:i<w.heap.size
  ·rw[zcg hi];exact h.block i hi
  ·rw[Array.getElem?_append_right (by omega),Array.getElem?_extract]
   simp only[Nat.min_self]
   split
   ·congr 1;omega
   ·exact Array.getElem?_eq_none (by omega)
 cases w' with
 |mk heap tape drawn os output=>
  have h1:=h.os;have h2:=h.tape;have h3:=h.output
  simp only at h1 h2 h3 e hd
  subst h1 h2 h3
  unfold Go.Sort.grow World.drewN
  simp only
  rw[<-e,Nat.add_sub_cancel' hd]
theorem MC {kp:pZ} (hm:Q.follows .mixedOrders=true) {g:FuncId} {fn:Func} (fX:Q.funcs[g]?=some fn) (cE:fn.body.isSome=true) (jr:(fn.name== "runtime.NumGoroutine")=false)
  {x y:D} {i:Int} (bX:xW Q kp g x y i) {w:World} (hX:dt Q w kp.X) {vx vy:Value} (h1:a7 (· <w.heap.size) w vx x) (h2:a7 (· <w.heap.size) w vy y):
  Calls Q g #[vx,vy] w (fun e w'=>e= .returned (.int .i64 i)/\ ∃q os,w'=Go.Sort.grow (w.drewN q) os):=by
 obtain⟨lf,k,bX⟩:=bX.some
 have hH:fG Q ⟨fun _=>undef,w,0,false⟩ (· <w.heap.size) (fun _=>undef) w []:=
  ⟨.nil,za5 _,fun t p hp=>by simp[lk] at hp,fun n e he=>by simp[lk] at he,fun n m e e' b he=>by simp[lk] at he,fun n e b he=>by simp[lk] at he,fun b hb=>hb,fun n e i he=>by simp[lk] at he,fun b hb=>⟨hb,rfl⟩,zaj _,za5 _⟩
 have br:=sK hX hm k g [.d x,.d y] [] _ _ bX (· <w.heap.size) (fun _=>undef) w [vx,vy] hH rfl (fun j v c hv hc=>by
  match j with
  |0=>cases hv;cases hc;exact .d h1
  |1=>cases hv;cases hc;exact .d h2
  |j+2=>cases hv)
 have lR:(callFunc g ⟨[vx,vy]⟩).run Q w= .ok (.enter g ⟨[vx,vy]⟩) w:=by
  simp[callFunc,fX]
  rw[zam (by simpa using jr)]
  cases hb:fn.body with
  |none=>rw[hb] at cE;cases cE
  |some c=>simp
 rcases br with⟨_,h⟩| ⟨v,w',h,_⟩
 ·refine h.mono fun e w' ⟨v,he,F',G',h1,h2,h3⟩=> ?_
  have hv:v= .int .i64 i:=aF.cy (p:= .d (.int .i64 i)) h2 rfl
  subst hv
  exact⟨he,zW ⟨h3.os,h3.tape,h3.output,h3.size,fun b hb=>h3.keep b hb (fun⟨n,e,he,_⟩=>by simp[lk] at he)⟩ h1.dr⟩
 ·rw[lR] at h
  cases h
open Go.Sort Go.Proofs in
theorem jO {enc:Nat->List Value} {k:Nat} {w:World} {b m:Nat} {dk:Array Nat} {os:Array Go.Obj} {c:Nat} (hc:c<w.heap.size) (dG:c≠b):(sortWorldK enc k w b 0 m dk os).heap[c]?=w.heap[c]?:=by
 unfold sortWorldK grow
 simp only
 rw[zcg (by rw[size_putRowK];exact hc)]
 unfold putRowK putRow mapBlock
 simp only[zcC]
 rw[zam (zbC dG)]
 rfl
open Go.Sort Go.Proofs in
theorem xY {enc:Nat->List Value} {k:Nat} {w:World} {b m:Nat} {dk:Array Nat} {os:Array Go.Obj} {cs:Array Value} {ty:TypeId} (h:w.heap[b]?=some (.cells cs ty (0,0))):
  ∃ly,(sortWorldK enc k w b 0 m dk os).heap[b]?=some (.cells ly ty (0,0))/\ly.size=cs.size/\ ∀p,dk.size*k<=p->ly[p]?=cs[p]?:=by
 have hb:b<w.heap.size:=(zar.1 h).1
 unfold sortWorldK grow
 simp only
 rw[zcg (by rw[size_putRowK];exact hb)]
 unfold putRowK putRow mapBlock
 simp only[zcC]
 have h':(Go.Sort.ahead w m).heap[b]?=some (.cells cs ty (0,0)):=h
 rw[zao trivial,h']
 refine⟨_,rfl,by simp[putCells],fun p hp=> ?_⟩
 unfold putCells
 rw[Array.getElem?_mapIdx,size_flatK]
 have: ¬(0<=p/\p<0+dk.size*k):=by omega
 cases cs[p]? with
 |none=>rfl
 |some x=>exact congrArg some (zam this)
def qt (n k:Nat) (cs:Array Value) (i:Nat):List Value:=(List.range k).map fun j=>cs.getD ((if i<n then i else 0)*k+j) undef
theorem Kv {F F':Nat->Prop} {w w':World} {cs:Array Value} {k:Nat} {es:List D} (hE:mC F w cs k es) (h0:0<es.length) (hF: ∀c,F c->F' c) (hw: ∀c,F c->w'.heap[c]?=w.heap[c]?) (ha: ∀x∈es,∃cs,x= .agg cs) (i:Nat):
  a7 F' w' (.agg (qt es.length k cs i).toArray) (el es i):=by
 have hi:(if i<es.length then i else 0)<es.length:=by split<;>assumption
 have hx:es[if i<es.length then i else 0]?=some (el es i):=by
  unfold el
  rw[zac,zae hi]
  rfl
 obtain⟨xs,VK⟩:=ha _ (mf h0 i)
 obtain⟨q1,q2,q3⟩:=hE _ _ hx
 rw[VK] at q1 q2 q3⊢
 refine .agg _ xs (by simp only[D.cells] at q1;simp[qt,q1]) q2 fun j v c hv hc=> ?_
 simp only[D.cells] at q1 q3
 have hj:j<k:=by rw[<-q1];exact(zad.1 hc).1
 unfold qt at hv
 rw[zaJ,zcc hj] at hv
 simp only[zaK,zal] at hv
 subst hv
 exact(q3 j c hc).mono hF hw
theorem Wr {F:Nat->Prop} {w:World} {cs:Array Value} {k:Nat} {es:List D} (hE:mC F w cs k es) (h0:0<es.length) (i:Nat): ∀v∈qt es.length k cs i,v.oneCell'=true:=by
 intro v hv
 have hi:(if i<es.length then i else 0)<es.length:=by split<;>assumption
 obtain⟨q1,q2,q3⟩:=hE _ _ (zae hi)
 unfold qt at hv
 obtain⟨j,hj,rfl⟩:=zaA.1 hv
 have hj:=List.mem_range.1 hj
 have hc:=zae (l:=es[if i<es.length then i else 0].cells) (by rw[q1];exact hj)
 exact(q3 j _ hc).nw (q2 _ (zaC hc))
open Go.Sort Go.Proofs Go.Shelf in
set_option maxHeartbeats 1000000 in
theorem Fh {kp:pZ} (hX: ∀w,dt Q w kp.X) {ρ:Ren} (L:SlLaysF0.n6 Q ρ) {f:FuncId} (hf:f=ρ.f 6) (fX: ∀(vs:Array Value) (w:World),(callFunc f vs).run Q w= .ok (.enter f vs) w) {ty:TypeId} {k:Nat} (hk:sz Q ty=some k)
  (aE: ∀w,(isAgg (ρ.t 24)).run Q w= .ok true w) (zE: ∀w,(Go.sizeOf (ρ.t 24)).run Q w= .ok k w) (w0:World):MA Q w0 f (xX Q kp ty):=by
 intro h0 ps R p R1 h F G w vs hH hl hv
 unfold xX at h
 split at h
 ·rename_i n v len g
  split at h
  ·rename_i e he
   split at h
   ·rename_i ty' es0 bV
    split at h
    ·rename_i hc
     obtain⟨rfl,rfl,hlen,hc⟩:=hc
     obtain⟨es,tl,rfl,rfl⟩: ∃es tl,es0=es++tl/\len=es.length:=⟨es0.take len,es0.drop len,(zbR _ _).symm,by rw[zay];omega⟩
     rw[zb2 rfl] at hc
     rw[zb2 rfl,List.drop_left' rfl] at h
     simp only[zal,zbB] at h
     obtain⟨rfl,rfl⟩:=h
     match vs,hl,hv with
     | [u0,u1],_,hv=>
      have hp0:=hv 0 u0 _ rfl rfl
      have wo:=hv 1 u1 _ rfl rfl
      have hO:=hH.rg n e he
      rw[bV] at hO
      cases hp0 with
      |sl _ _ _ _ h1 hr=>
       cases wo with
       |fn _ ws _ hws _=>
        have:ws=[]:=zax (by simpa using hws)
        subst this
        obtain⟨a,N,cap,hG,rfl,_⟩:=hr.at he rfl (by rw[bV];rfl)
        have fZ:qN G R n ⟨e.aX,e.tag,.arr ty' false (jW (lE Q kp g) es++tl)⟩ (G n):=fun e1 DS=>by rw[he] at DS;cases DS;exact .inr ⟨rfl,fun _=>⟨by rw[bV];rfl,rfl⟩⟩
        have fin: ∀(w':World),w.drawn<=w'.drawn->(∀c,c<w.heap.size-> ¬(∃e',lk R n=some e'/\bF (G n) e'.obj=some c)->w'.heap[c]?=w.heap[c]?)->w.heap.size<=w'.heap.size->w'.os=w.os->w'.tape=w.tape->w'.output=w.output->
          ot Q F w' G (ins n ⟨e.aX,e.tag,.arr ty' false (jW (lE Q kp g) es++tl)⟩ R) n (.arr ty' false (jW (lE Q kp g) es++tl))->
          ∃F' G',fG Q ⟨G,w0,0,false⟩ F' G' w' (ins n ⟨e.aX,e.tag,.arr ty' false (jW (lE Q kp g) es++tl)⟩ R)/\aF F' w' G' (ins n ⟨e.aX,e.tag,.arr ty' false (jW (lE Q kp g) es++tl)⟩ R) (.tuple #[]) (.cV [])/\Ext (Own G R) (Own G' (ins n ⟨e.aX,e.tag,.arr ty' false (jW (lE Q kp g) es++tl)⟩ R)) F F' w w':=by
         intro w' hd eJ dq Pg htp br EH
         obtain⟨d1,d2⟩:=aC.mY hH (e1:=⟨e.aX,e.tag,.arr ty' false (jW (lE Q kp g) es++tl)⟩) (g1:=G n) (w':=w') (hdr:=hd) fZ eJ dq Pg htp br
          (fun c hc=> .inr ⟨e,he,by rw[bV];exact hc⟩) (by rw[bW];exact EH) (fun i hi _=>hH.tag n e i he hi (by rw[bV];rfl))
         rw[bW] at d1 d2
         exact⟨F,G,d1,.cV [] [] rfl (fun i v c hv _=>by simp at hv),d2⟩
        by_cases hn:0<es.length
        ·obtain⟨b,iJ,cs,k',ou,hh,mr,gm,hle,zb,dq,_,hE⟩: ∃b cap cs k,G n= .slice (some ⟨b,0,none⟩) (es++tl).length cap/\w.heap[b]?=some (.cells cs ty' (0,0))/\sz Q ty'=some k/\0<k/\(es++tl).length<=cap/\cap<=maxLen/\cs.size=cap*k/\(false=true->F b)/\mC F w cs k (es++tl):=by
          rcases hO with⟨_,Kf⟩|hO
          ·rw[(List.append_eq_nil_iff.1 Kf).1] at hn;simp at hn
          ·exact hO
         rw[hk] at mr
         cases mr
         rw[hG] at ou
         cases ou
         have hE0:=hE
         have hE:mC F w cs k es:=fun i x hx=>hE0 i x (by rw[zaM (zad.1 hx).1];exact hx)
         have qbB:=hle
         have hle:es.length<=cap:=by rw[zan] at qbB;omega
         have vB:b<w.heap.size:=(zar.1 hh).1
         have VY: ¬F b:=hH.mq n e b he (by rw[bV];simp[bF,hG,aQ])
         have qfe: ∀c,F c->c≠b:=fun c hc e'=>VY (e'▸hc)
         obtain⟨fn,g1,g2,g3⟩:=hc.fn
         have eg: ∀args w,(callFunc g args).run Q w= .ok (.enter g args) w:=fun args w=>enters g1 g2 g3 args w
         have Pc:CmpLays Q g #[] (qt es.length k cs) k (fun i j:Nat=>lE Q kp g (el es i) (el es j)) b 0 (Array.range es.length).size w:=by
          intro m os dk hs x y
          have hFw: ∀c,F c->(sortWorldK (qt es.length k cs) k w b 0 m dk os).heap[c]?=w.heap[c]?:=fun c hc=>jO (hH.jm c hc) (qfe c hc)
          have hFs: ∀c,F c->c<(sortWorldK (qt es.length k cs) k w b 0 m dk os).heap.size:=fun c hc=>za3 (hH.jm c hc) (size_sortWorldK_c _ _ _ _ _ _ _ _)
          exact MC L.mixed g1 g2 g3 (hc.run _ (mf hn x) _ (mf hn y)) (hX _) (Kv hE hn hFs hFw hc.ag x) (Kv hE hn hFs hFw hc.ag y)
         have hHo:HoldsK (qt es.length k cs) k w b 0 (Array.range es.length):=by
          intro j hj
          have hj:j<es.length*k:=by simpa using hj
          have hjk:j/k<es.length:=Nat.div_lt_of_lt_mul (by rw[zb7];exact hj)
          have Kw:j%k<k:=zcS _ gm
          have hjs:j<cs.size:=by rw[dq];exact za3 hj (zaq k hle)
          refine⟨?_,by simp[World.frozen?,hh]⟩
          rw[qU hh,get_flatK _ _ _ _ (by simpa using hj)]
          rw[zcj (Array.range es.length) (j/k) (by simpa using hjk),Array.getElem_range]
          unfold qt
          rw[zcj _ (j%k) (by simpa using Kw)]
          simp only[List.getElem_map,List.getElem_range,zao hjk,id]
          rw[zaF,zb7,zc1]
          exact Qj hjs
         have lR:=AnyQ.slices_SortFunc_eq L k aE zE (qt es.length k cs) (fun x=>by simp[qt]) (Wr hE hn) (fun i j:Nat=>lE Q kp g (el es i) (el es j)) (Ii hc hn) g #[] b 0 cap (Array.range es.length) w eg Pc hHo vB (by simp only[zcw];exact hc.len)
         obtain⟨s1,_⟩:=pdq_sorts (Go.Proofs.ltOf fun i j:Nat=>lE Q kp g (el es i) (el es j)) (Ii hc hn) (Array.range es.length) 0 es.length (Lib.bitLen es.length) true true (za5 _) (by simp) (Or.inl rfl)
         simp only[zcw] at lR
         have hsD:jW (lE Q kp g) es=(pdq (Go.Proofs.ltOf fun i j:Nat=>lE Q kp g (el es i) (el es j)) (Array.range es.length) 0 es.length (Lib.bitLen es.length) true true).toList.map (el es):=by unfold jW;rw[zao hn]
         generalize pdq (Go.Proofs.ltOf fun i j:Nat=>lE Q kp g (el es i) (el es j)) (Array.range es.length) 0 es.length (Lib.bitLen es.length) true true=dk at lR s1 hsD
         obtain⟨p1,_,_⟩:=s1
         simp only[zcw] at p1
         refine .inl ⟨fX _ w,?_⟩
         rw[hf]
         refine lR.mono fun e' w' ⟨cI,n',os,Fj⟩=>⟨_,cI,?_⟩
         subst Fj
         have Fk:(jW (lE Q kp g) es).length=es.length:=by rw[hsD];simp[p1]
         have hFw: ∀c,F c->(sortWorldK (qt es.length k cs) k w b 0 n' dk os).heap[c]?=w.heap[c]?:=fun c hc=>jO (hH.jm c hc) (qfe c hc)
         refine fin _ (by unfold sortWorldK grow putRowK putRow mapBlock Go.Sort.ahead;exact zcZ _ _) (fun c hc bZ=>jO hc (fun e'=>bZ ⟨e,he,by rw[e',bV];simp[bF,hG,aQ]⟩)) (size_sortWorldK_c _ _ _ _ _ _ _ _) rfl rfl rfl ?_
         obtain⟨ly,hh',hs',hs2⟩:=xY (enc:=qt es.length k cs) (k:=k) (m:=n') (dk:=dk) (os:=os) hh
         refine .inr ⟨b,cap,ly,k,by rw[zan,Fk,<-zan];exact hG,hh',hk,gm,by rw[zan,Fk,<-zan];exact qbB,zb,by rw[hs'];exact dq,(fun h=>by cases h),?_⟩
         have qhS:=holdsK_sortWorldK_c (qt es.length k cs) k w b 0 (Array.range es.length) dk n' os hHo vB (by simp[p1])
         intro i x hx
         by_cases oM:es.length<=i
         ·rw[zaZ (by rw[Fk];exact oM),Fk] at hx
          obtain⟨q1,q2,q3⟩:=hE0 i x (by rw[zaZ oM];exact hx)
          refine⟨q1,q2,fun j c hjc=> ?_⟩
          have hp:dk.size*k<=i*k+j:=by rw[p1];exact zaI (zaq k oM) (zcZ _ _)
          rw[zaD,hs2 _ hp,<-zaD]
          exact(q3 j c hjc).mono (fun _ h=>h) hFw
         rw[zaM (by rw[Fk];omega),hsD,zaJ] at hx
         have hid:i<dk.size:=by
          by_cases hid:i<dk.size
          ·exact hid
          ·rw[zbm (by simpa using hid)] at hx;cases hx
         have hdi:dk.toList[i]?=some dk[i]!:=by rw[zcz,zbK hid,zcj dk i hid]
         rw[hdi] at hx
         simp only[zaK,zal] at hx
         subst hx
         have hii:(if dk[i]!<es.length then dk[i]! else 0)<es.length:=by split<;>assumption
         obtain⟨q1,q2,q3⟩:=hE _ _ (show es[if dk[i]!<es.length then dk[i]! else 0]?=some (el es dk[i]!) by unfold el;rw[zac,zae hii];rfl)
         refine⟨q1,q2,fun j c hjc=> ?_⟩
         have hj:j<k:=by rw[<-q1];exact(zad.1 hjc).1
         have:=(HoldsK.cell qhS hid hj).1
         rw[qU hh'] at this
         unfold qt at this
         rw[zcj _ j (by simpa using hj)] at this
         simp only[List.getElem_map,List.getElem_range] at this
         rw[zaF] at this
         rw[zaD,this]
         exact(q3 j c hjc).mono (fun _ h=>h) hFw
        ·have Kf:es=[]:=zax (by omega)
         subst Kf
         refine .inl ⟨fX _ w,?_⟩
         rw[hf]
         refine(AnyF.slices_SortFunc_none L a cap (.func (.func g) #[] ⟨[]⟩) w).mono fun e' w' ⟨cI,Fj⟩=>⟨_,cI,?_⟩
         subst Fj
         refine fin w' (zaj _) (fun c hc _=>rfl) (zaj _) rfl rfl rfl ?_
         have hsD:jW (lE Q kp g) []=[]:=rfl
         rw[hsD]
         rw[zbh] at hO⊢
         rcases hO with⟨hg,_⟩| ⟨b,iJ,cs,k',ou,hh,mr,gm,hle,zb,dq,h7,hE⟩
         ·exact .inl ⟨hg,by assumption⟩
         ·exact .inr ⟨b,iJ,cs,k',ou,hh,mr,gm,hle,zb,dq,h7,hE⟩
    ·cases h
   ·cases h
  ·cases h
 ·cases h
end
end Pi
namespace Pi
open Go
theorem Ws (Q:Program) (kf:KF) (kp:FuncId->Nat->Option (List Nat×List Nat)) (xs:List Nat) (X Y:CF) (hk:List (Nat×(S->K (PX×S)))) (dc:FuncId->Nat->Nat) (lf:Nat):
 mB Q kf ⟨kp,xs,X⟩ hk dc lf=mB Q kf ⟨kp,xs,Y⟩ hk dc lf:=rfl
theorem CR (Q:Program) (kp:FuncId->Nat->Option (List Nat×List Nat)) (xs:List Nat) (X Y:CF) (dc:FuncId->Nat->Nat) (H:List (FuncId×bq)) (lf:Nat): ∀k,
  runK Q ⟨kp,xs,X⟩ dc H lf k=runK Q ⟨kp,xs,Y⟩ dc H lf k
 |0=>rfl
 |k+1=>by
  funext f ps R
  unfold runK
  rw[CR Q kp xs X Y dc H lf k,Ws Q _ kp xs X Y]
end Pi
namespace Pi
open Go Go.ChangeShapes Go.WideShapes Go.RowKit
mutual
def qaF:D->Nat
 | .str l=>l.length
 | .sl _ es=>qaG es
 | .agg cs=>Ql cs
 |_=>0
def qaG:List D->Nat
 | []=>0
 |x::r=>1+qaF x+qaG r
def Ql:List D->Nat
 | []=>0
 |x::r=>qaF x+Ql r
end
mutual
def qff {H:Type}:DataW H->Nat
 | .lit (.string bytes)=>bytes.length+1
 | .slice elems spare=>CS elems+CS spare+1
 | .agg parts=>CS parts+1
 |_=>1
def CS {H:Type}:List (DataW H)->Nat
 | []=>0
 |d::r=>qff d+CS r
end
section
variable {H:Type} {enc:TypeId×Value->H} {Q:Program} {w:World}
end
end Pi
