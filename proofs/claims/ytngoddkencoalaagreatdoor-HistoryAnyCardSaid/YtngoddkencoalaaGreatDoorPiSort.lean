/- The text PiSort. -/
import Derived.Test.YtngoddkencoalaaGreatDoorPiTold
import Derived.Shelf.SlSortCmp.NoneTotal
namespace Pi
open Go Go.RowKit
section
variable {Q:Program}
def xd (Q:Program) (kp:py) (g:FuncId) (x y:D) (i:Int):Prop:=Ev fun lf k=>eZ Q kp lf k g [.d x,.d y] []=some (.d (.int .i64 i),[])
noncomputable def kV (Q:Program) (kp:py) (g:FuncId) (x y:D):Int:=by
 classical exact if h: ∃i,xd Q kp g x y i then h.choose else 0
structure sk (Q:Program) (kp:py) (g:FuncId) (es:List D) (cf:D->D->Int):Prop where
 fn: ∃fn,Q.funcs[g]?=some fn/\fn.body.isSome=true/\(fn.name== "runtime.NumGoroutine")=false
 ag: ∀x∈es,∃cs,x= .agg cs
 len:es.length<4611686018427387904
 run: ∀x∈es,∀y∈es,xd Q kp g x y (cf x y)
 Mx: ∀x∈es,¬cf x x<0
 tr: ∀x∈es,∀y∈es,∀z∈es,cf x y<0->cf y z<0->cf x z<0
 W9: ∀x∈es,∀y∈es,∀z∈es,¬cf x y<0-> ¬cf y z<0-> ¬cf x z<0
def el (es:List D) (i:Nat):D:=es.getD (if i<es.length then i else 0) .gu
theorem lA {es:List D} (h:0<es.length) (i:Nat):el es i∈es:=by
 unfold el
 split
 ·rename_i hi;rw[List.getD_eq_getElem?_getD,List.getElem?_eq_getElem hi];exact List.getElem_mem hi
 ·rw[List.getD_eq_getElem?_getD,List.getElem?_eq_getElem h];exact List.getElem_mem h
def jy (cf:D->D->Int) (es:List D):List D:=
 if 0<es.length then(Go.Sort.pdq (Go.Proofs.ltOf fun i j:Nat=>cf (el es i) (el es j)) (Array.range es.length) 0 es.length (Lib.bitLen es.length) true true).toList.map (el es) else []
theorem GN {kp:py} {g:FuncId} {es:List D} {cf:D->D->Int} (h:sk Q kp g es cf) (h0:0<es.length):Go.Sort.SWO (Go.Proofs.ltOf fun i j:Nat=>cf (el es i) (el es j)):=by
 constructor
 ·intro x;exact decide_eq_false (h.Mx _ (lA h0 x))
 ·intro x y z h1 h2;exact decide_eq_true (h.tr _ (lA h0 x) _ (lA h0 y) _ (lA h0 z) (of_decide_eq_true h1) (of_decide_eq_true h2))
 ·intro x y z h1 h2;exact decide_eq_false (h.W9 _ (lA h0 x) _ (lA h0 y) _ (lA h0 z) (of_decide_eq_false h1) (of_decide_eq_false h2))
theorem mX {kp:py} {g:FuncId} {es:List D} {cf:D->D->Int} (h:sk Q kp g es cf):(jy cf es).Perm es/\(jy cf es).Pairwise fun a b=> ¬cf b a<0:=by
 by_cases h0:0<es.length
 ·obtain⟨h1,h2⟩:=Go.Sort.pdq_sorts (Go.Proofs.ltOf fun i j:Nat=>cf (el es i) (el es j)) (GN h h0) (Array.range es.length) 0 es.length (Lib.bitLen es.length) true true (Nat.zero_le _) (by simp) (Or.inl rfl)
  unfold jy
  rw[if_pos h0]
  generalize Go.Sort.pdq (Go.Proofs.ltOf fun i j:Nat=>cf (el es i) (el es j)) (Array.range es.length) 0 es.length (Lib.bitLen es.length) true true=d at h1 h2
  obtain⟨p1,_,p3⟩:=h1
  simp only[Array.size_range] at p1
  have e1:d.extract 0 es.length=d:=by rw[<-p1];simp
  have e2:(Array.range es.length).extract 0 es.length=Array.range es.length:=by simp
  rw[e1,e2] at p3
  constructor
  ·have:=p3.map (el es)
   refine this.trans (List.Perm.of_eq ?_)
   apply List.ext_getElem
   ·simp
   ·intro i h1 h2
    simp[el,h2]
  ·rw[List.pairwise_map,List.pairwise_iff_getElem]
   intro i j hi hj gn
   have:=h2 i j (Nat.zero_le _) gn (by simpa [p1] using hj)
   rw[getElem!_pos d i (by simpa using hi),getElem!_pos d j (by simpa using hj)] at this
   simpa [Go.Proofs.ltOf] using this
 ·have:es=[]:=List.eq_nil_of_length_eq_zero (by omega)
  subst this
  exact⟨List.Perm.refl _,List.Pairwise.nil⟩
open Classical in
noncomputable def xe (Q:Program) (kp:py) (ty:TypeId):TF
 | [.sl n v len,.fn g []],R=>match lk R n with
  |some e=>(match e.obj with
   | .arr ty' false es=>if v=e.aU/\ty'=ty/\len<=es.length/\sk Q kp g (es.take len) (kV Q kp g) then some (.da [],ins n ⟨e.aU,e.tag,.arr ty false (jy (kV Q kp g) (es.take len)++es.drop len)⟩ R) else none
   |_=>none)
  |none=>none
 |_,_=>none
theorem xd.one {kp:py} {g:FuncId} {x y:D} {i j:Int} (h:xd Q kp g x y i) (h':xd Q kp g x y j):i=j:=by
 obtain⟨a,b,h1,h2⟩:=(Ev.and h h').some
 rw[h1] at h2
 simpa using h2
theorem IC {kp:py} {g:FuncId} {x y:D} {i:Int} (h:xd Q kp g x y i):kV Q kp g x y=i:=by
 unfold kV
 have h': ∃i,xd Q kp g x y i:=⟨i,h⟩
 rw[dif_pos h']
 exact h'.choose_spec.one h
theorem sk.cf {kp:py} {g:FuncId} {es:List D} {cf:D->D->Int} (h:sk Q kp g es cf):sk Q kp g es (kV Q kp g):=by
 have e: ∀x∈es,∀y∈es,kV Q kp g x y=cf x y:=fun x hx y hy=>IC (h.run x hx y hy)
 refine⟨h.fn,h.ag,h.len,fun x hx y hy=>by rw[e x hx y hy];exact h.run x hx y hy,fun x hx=>by rw[e x hx x hx];exact h.Mx x hx,fun x hx y hy z hz=>by rw[e x hx y hy,e y hy z hz,e x hx z hz];exact h.tr x hx y hy z hz,fun x hx y hy z hz=>by rw[e x hx y hy,e y hy z hz,e x hx z hz];exact h.W9 x hx y hy z hz⟩
def Oq (Q:Program) (kp:py) (ty:TypeId):bm:=fun ps R post=> ∃n g e es tl cf,ps=[.sl n e.aU es.length,.fn g []]/\lk R n=some e/\e.obj= .arr ty false (es++tl)/\sk Q kp g es cf/\
 ∀fh:List D,fh.Perm es->fh.Pairwise (fun a b=> ¬cf b a<0)->post (.da [],ins n ⟨e.aU,e.tag,.arr ty false (fh++tl)⟩ R)
def Xa (Q:Program) (kp:py) (ty:TypeId):bm:=fun ps R post=> ∃n g e es cf,ps=[.sl n e.aU es.length,.fn g []]/\lk R n=some e/\e.obj= .arr ty false es/\sk Q kp g es cf/\
 ∀fh:List D,fh.Perm es->fh.Pairwise (fun a b=> ¬cf b a<0)->post (.da [],ins n ⟨e.aU,e.tag,.arr ty false fh⟩ R)
theorem uu {kp:py} {ty:TypeId} {ps:List P} {R:List (Nat×En)} {post:P×List (Nat×En)->Prop} (h:Oq Q kp ty ps R post): ∃x,xe Q kp ty ps R=some x/\post x:=by
 obtain⟨n,g,e,es,tl,cf,rfl,he,bR,hc,eB⟩:=h
 have qt:=hc.cf
 refine⟨_,?_,eB (jy (kV Q kp g) es) (mX qt).1 ?_⟩
 ·unfold xe
  simp only[he,bR]
  rw[List.take_left' rfl,List.drop_left' rfl,if_pos ⟨rfl,rfl,by rw[List.length_append];exact Nat.le_add_right _ _,qt⟩]
 ·refine List.Pairwise.imp_of_mem ?_ (mX qt).2
  intro a b ha hb hab
  have ha':=(mX qt).1.mem_iff.1 ha
  have cU:=(mX qt).1.mem_iff.1 hb
  rwa [IC (hc.run b cU a ha')] at hab
theorem GO {kp:py} {ty:TypeId} {ps:List P} {R:List (Nat×En)} {post:P×List (Nat×En)->Prop} (h:Xa Q kp ty ps R post): ∃x,xe Q kp ty ps R=some x/\post x:=by
 obtain⟨n,g,e,es,cf,rfl,he,bR,hc,eB⟩:=h
 refine uu ⟨n,g,e,es,[],cf,rfl,he,by rw[bR,List.append_nil],hc,fun fh h1 h2=> ?_⟩
 rw[List.append_nil]
 exact eB fh h1 h2
theorem y7 {w w':World} (h:Go.RowKit.Below w.heap.size w w') (hd:w.drawn<=w'.drawn): ∃q os,w'=Go.Sort.grow (w.drewN q) os:=by
 refine⟨w'.drawn-w.drawn,w'.heap.extract w.heap.size w'.heap.size,?_⟩
 have e:w'.heap=w.heap++w'.heap.extract w.heap.size w'.heap.size:=by
  apply Array.ext_getElem?
  intro i
  by_cases hi:i<w.heap.size
  ·rw[Array.getElem?_append_left hi];exact h.block i hi
  ·rw[Array.getElem?_append_right (by omega),Array.getElem?_extract]
   simp only[Nat.min_self]
   split
   ·congr 1;omega
   ·exact Array.getElem?_eq_none (by omega)
 cases w' with
 |mk heap tape drawn os output=>
  have h1:=h.os;have h2:=h.tape;have h3:=h.output
  simp only at h1 h2 h3 e hd
  subst h1 h2 h3
  unfold Go.Sort.grow World.drewN
  simp only
  rw[<-e,Nat.add_sub_cancel' hd]
theorem KS {kp:py} (hm:Q.follows .mixedOrders=true) {g:FuncId} {fn:Func} (eJ:Q.funcs[g]?=some fn) (cB:fn.body.isSome=true) (gJ:(fn.name== "runtime.NumGoroutine")=false)
  {x y:D} {i:Int} (bE:xd Q kp g x y i) {w:World} (hX:db Q w kp.X) {vx vy:Value} (h1:aW (· <w.heap.size) w vx x) (h2:aW (· <w.heap.size) w vy y):
  Calls Q g #[vx,vy] w (fun e w'=>e= .returned (.int .i64 i)/\ ∃q os,w'=Go.Sort.grow (w.drewN q) os):=by
 obtain⟨lf,k,bE⟩:=bE.some
 have hH:fo Q ⟨fun _=>undef,w,0,false⟩ (· <w.heap.size) (fun _=>undef) w []:=
  ⟨.nil,Nat.zero_le _,fun t p hp=>by simp[lk] at hp,fun n e he=>by simp[lk] at he,fun n m e e' b he=>by simp[lk] at he,fun n e b he=>by simp[lk] at he,fun b hb=>hb,fun n e i he=>by simp[lk] at he,fun b hb=>⟨hb,rfl⟩,Nat.le_refl _,Nat.zero_le _⟩
 have cp:=sj hX hm k g [.d x,.d y] [] _ _ bE (· <w.heap.size) (fun _=>undef) w [vx,vy] hH rfl (fun j v c hv hc=>by
  match j with
  |0=>cases hv;cases hc;exact .d h1
  |1=>cases hv;cases hc;exact .d h2
  |j+2=>cases hv)
 have iW:(callFunc g ⟨[vx,vy]⟩).run Q w= .ok (.enter g ⟨[vx,vy]⟩) w:=by
  simp[callFunc,eJ]
  rw[if_neg (by simpa using gJ)]
  cases hb:fn.body with
  |none=>rw[hb] at cB;cases cB
  |some c=>simp
 rcases cp with⟨_,h⟩| ⟨v,w',h,_⟩
 ·refine h.mono fun e w' ⟨v,he,F',G',h1,h2,h3⟩=> ?_
  have hv:v= .int .i64 i:=aD.cw (p:= .d (.int .i64 i)) h2 rfl
  subst hv
  exact⟨he,y7 ⟨h3.os,h3.tape,h3.output,h3.size,fun b hb=>h3.keep b hb (fun⟨n,e,he,_⟩=>by simp[lk] at he)⟩ h1.dr⟩
 ·rw[iW] at h
  cases h
open Go.Sort Go.Proofs in
theorem jn {enc:Nat->List Value} {k:Nat} {w:World} {b m:Nat} {dk:Array Nat} {os:Array Go.Obj} {c:Nat} (hc:c<w.heap.size) (dz:c≠b):(sortWorldK enc k w b 0 m dk os).heap[c]?=w.heap[c]?:=by
 unfold sortWorldK grow
 simp only
 rw[Array.getElem?_append_left (by rw[size_putRowK];exact hc)]
 unfold putRowK putRow mapBlock
 simp only[Array.getElem?_modify]
 rw[if_neg (Ne.symm dz)]
 rfl
open Go.Sort Go.Proofs in
theorem xf {enc:Nat->List Value} {k:Nat} {w:World} {b m:Nat} {dk:Array Nat} {os:Array Go.Obj} {cs:Array Value} {ty:TypeId} (h:w.heap[b]?=some (.cells cs ty (0,0))):
  ∃kO,(sortWorldK enc k w b 0 m dk os).heap[b]?=some (.cells kO ty (0,0))/\kO.size=cs.size/\ ∀p,dk.size*k<=p->kO[p]?=cs[p]?:=by
 have hb:b<w.heap.size:=(Array.getElem?_eq_some_iff.1 h).1
 unfold sortWorldK grow
 simp only
 rw[Array.getElem?_append_left (by rw[size_putRowK];exact hb)]
 unfold putRowK putRow mapBlock
 simp only[Array.getElem?_modify]
 have h':(Go.Sort.ahead w m).heap[b]?=some (.cells cs ty (0,0)):=h
 rw[if_pos trivial,h']
 refine⟨_,rfl,by simp[putCells],fun p hp=> ?_⟩
 unfold putCells
 rw[Array.getElem?_mapIdx,size_flatK]
 have: ¬(0<=p/\p<0+dk.size*k):=by omega
 cases cs[p]? with
 |none=>rfl
 |some x=>exact congrArg some (if_neg this)
def pY (n k:Nat) (cs:Array Value) (i:Nat):List Value:=(List.range k).map fun j=>cs.getD ((if i<n then i else 0)*k+j) undef
theorem IE {F F':Nat->Prop} {w w':World} {cs:Array Value} {k:Nat} {es:List D} (hE:lR F w cs k es) (h0:0<es.length) (hF: ∀c,F c->F' c) (hw: ∀c,F c->w'.heap[c]?=w.heap[c]?) (ha: ∀x∈es,∃cs,x= .agg cs) (i:Nat):
  aW F' w' (.agg (pY es.length k cs i).toArray) (el es i):=by
 have hi:(if i<es.length then i else 0)<es.length:=by split<;>assumption
 have hx:es[if i<es.length then i else 0]?=some (el es i):=by
  unfold el
  rw[List.getD_eq_getElem?_getD,List.getElem?_eq_getElem hi]
  rfl
 obtain⟨xs,YM⟩:=ha _ (lA h0 i)
 obtain⟨q1,q2,q3⟩:=hE _ _ hx
 rw[YM] at q1 q2 q3⊢
 refine .agg _ xs (by simp only[D.cells] at q1;simp[pY,q1]) q2 fun j v c hv hc=> ?_
 simp only[D.cells] at q1 q3
 have hj:j<k:=by rw[<-q1];exact(List.getElem?_eq_some_iff.1 hc).1
 unfold pY at hv
 rw[List.getElem?_map,List.getElem?_range hj] at hv
 simp only[Option.map_some,Option.some.injEq] at hv
 subst hv
 exact(q3 j c hc).mono hF hw
theorem TR {F:Nat->Prop} {w:World} {cs:Array Value} {k:Nat} {es:List D} (hE:lR F w cs k es) (h0:0<es.length) (i:Nat): ∀v∈pY es.length k cs i,v.oneCell'=true:=by
 intro v hv
 have hi:(if i<es.length then i else 0)<es.length:=by split<;>assumption
 obtain⟨q1,q2,q3⟩:=hE _ _ (List.getElem?_eq_getElem hi)
 unfold pY at hv
 obtain⟨j,hj,rfl⟩:=List.mem_map.1 hv
 have hj:=List.mem_range.1 hj
 have hc:=List.getElem?_eq_getElem (l:=es[if i<es.length then i else 0].cells) (by rw[q1];exact hj)
 exact(q3 j _ hc).mK (q2 _ (List.mem_of_getElem? hc))
open Go.Sort Go.Proofs Go.Shelf in
set_option maxHeartbeats 1000000 in
theorem Eb {kp:py} (hX: ∀w,db Q w kp.X) {ρ:Ren} (L:SlLaysF0.n6 Q ρ) {f:FuncId} (hf:f=ρ.f 6) (eJ: ∀(vs:Array Value) (w:World),(callFunc f vs).run Q w= .ok (.enter f vs) w) {ty:TypeId} {k:Nat} (hk:sz Q ty=some k)
  (aE: ∀w,(isAgg (ρ.t 24)).run Q w= .ok true w) (zE: ∀w,(Go.sizeOf (ρ.t 24)).run Q w= .ok k w) (w0:World):KQ Q w0 f (xe Q kp ty):=by
 intro h0 ps R p R1 h F G w vs hH hl hv
 unfold xe at h
 split at h
 ·rename_i n v len g
  split at h
  ·rename_i e he
   split at h
   ·rename_i ty' es0 bR
    split at h
    ·rename_i hc
     obtain⟨rfl,rfl,hlen,hc⟩:=hc
     obtain⟨es,tl,rfl,rfl⟩: ∃es tl,es0=es++tl/\len=es.length:=⟨es0.take len,es0.drop len,(List.take_append_drop _ _).symm,by rw[List.length_take];omega⟩
     rw[List.take_left' rfl] at hc
     rw[List.take_left' rfl,List.drop_left' rfl] at h
     simp only[Option.some.injEq,Prod.mk.injEq] at h
     obtain⟨rfl,rfl⟩:=h
     match vs,hl,hv with
     | [u0,u1],_,hv=>
      have hp0:=hv 0 u0 _ rfl rfl
      have sO:=hv 1 u1 _ rfl rfl
      have hO:=hH.rg n e he
      rw[bR] at hO
      cases hp0 with
      |sl _ _ _ _ h1 hr=>
       cases sO with
       |fn _ ws _ hws _=>
        have:ws=[]:=List.eq_nil_of_length_eq_zero (by simpa using hws)
        subst this
        obtain⟨a,N,cap,hG,rfl,_⟩:=hr.at he rfl (by rw[bR];rfl)
        have gF:qo G R n ⟨e.aU,e.tag,.arr ty' false (jy (kV Q kp g) es++tl)⟩ (G n):=fun e1 yL=>by rw[he] at yL;cases yL;exact .inr ⟨rfl,fun _=>⟨by rw[bR];rfl,rfl⟩⟩
        have fin: ∀(w':World),w.drawn<=w'.drawn->(∀c,c<w.heap.size-> ¬(∃e',lk R n=some e'/\bu (G n) e'.obj=some c)->w'.heap[c]?=w.heap[c]?)->w.heap.size<=w'.heap.size->w'.os=w.os->w'.tape=w.tape->w'.output=w.output->
          nR Q F w' G (ins n ⟨e.aU,e.tag,.arr ty' false (jy (kV Q kp g) es++tl)⟩ R) n (.arr ty' false (jy (kV Q kp g) es++tl))->
          ∃F' G',fo Q ⟨G,w0,0,false⟩ F' G' w' (ins n ⟨e.aU,e.tag,.arr ty' false (jy (kV Q kp g) es++tl)⟩ R)/\aD F' w' G' (ins n ⟨e.aU,e.tag,.arr ty' false (jy (kV Q kp g) es++tl)⟩ R) (.tuple #[]) (.da [])/\Ext (Own G R) (Own G' (ins n ⟨e.aU,e.tag,.arr ty' false (jy (kV Q kp g) es++tl)⟩ R)) F F' w w':=by
         intro w' hd eA cJ Nu htp cp DF
         obtain⟨d1,d2⟩:=aB.mn hH (e1:=⟨e.aU,e.tag,.arr ty' false (jy (kV Q kp g) es++tl)⟩) (g1:=G n) (w':=w') (hdr:=hd) gF eA cJ Nu htp cp
          (fun c hc=> .inr ⟨e,he,by rw[bR];exact hc⟩) (by rw[bU];exact DF) (fun i hi _=>hH.tag n e i he hi (by rw[bR];rfl))
         rw[bU] at d1 d2
         exact⟨F,G,d1,.da [] [] rfl (fun i v c hv _=>by simp at hv),d2⟩
        by_cases hn:0<es.length
        ·obtain⟨b,im,cs,k',j8,hh,lK,fJ,hle,yq,cJ,_,hE⟩: ∃b cap cs k,G n= .slice (some ⟨b,0,none⟩) (es++tl).length cap/\w.heap[b]?=some (.cells cs ty' (0,0))/\sz Q ty'=some k/\0<k/\(es++tl).length<=cap/\cap<=maxLen/\cs.size=cap*k/\(false=true->F b)/\lR F w cs k (es++tl):=by
          rcases hO with⟨_,Bo⟩|hO
          ·rw[(List.append_eq_nil_iff.1 Bo).1] at hn;simp at hn
          ·exact hO
         rw[hk] at lK
         cases lK
         rw[hG] at j8
         cases j8
         have hE0:=hE
         have hE:lR F w cs k es:=fun i x hx=>hE0 i x (by rw[List.getElem?_append_left (List.getElem?_eq_some_iff.1 hx).1];exact hx)
         have Tp:=hle
         have hle:es.length<=cap:=by rw[List.length_append] at Tp;omega
         have uT:b<w.heap.size:=(Array.getElem?_eq_some_iff.1 hh).1
         have Tm: ¬F b:=hH.lr n e b he (by rw[bR];simp[bu,hG,aL])
         have qds: ∀c,F c->c≠b:=fun c hc e'=>Tm (e'▸hc)
         obtain⟨fn,g1,g2,g3⟩:=hc.fn
         have eg: ∀args w,(callFunc g args).run Q w= .ok (.enter g args) w:=fun args w=>enters g1 g2 g3 args w
         have Nr:CmpLays Q g #[] (pY es.length k cs) k (fun i j:Nat=>kV Q kp g (el es i) (el es j)) b 0 (Array.range es.length).size w:=by
          intro m os dk hs x y
          have hFw: ∀c,F c->(sortWorldK (pY es.length k cs) k w b 0 m dk os).heap[c]?=w.heap[c]?:=fun c hc=>jn (hH.iR c hc) (qds c hc)
          have hFs: ∀c,F c->c<(sortWorldK (pY es.length k cs) k w b 0 m dk os).heap.size:=fun c hc=>Nat.lt_of_lt_of_le (hH.iR c hc) (size_sortWorldK_c _ _ _ _ _ _ _ _)
          exact KS L.mixed g1 g2 g3 (hc.run _ (lA hn x) _ (lA hn y)) (hX _) (IE hE hn hFs hFw hc.ag x) (IE hE hn hFs hFw hc.ag y)
         have hHo:HoldsK (pY es.length k cs) k w b 0 (Array.range es.length):=by
          intro j hj
          have hj:j<es.length*k:=by simpa using hj
          have hjk:j/k<es.length:=Nat.div_lt_of_lt_mul (by rw[Nat.mul_comm];exact hj)
          have IF:j%k<k:=Nat.mod_lt _ fJ
          have hjs:j<cs.size:=by rw[cJ];exact Nat.lt_of_lt_of_le hj (Nat.mul_le_mul_right k hle)
          refine⟨?_,by simp[World.frozen?,hh]⟩
          rw[qy hh,get_flatK _ _ _ _ (by simpa using hj)]
          rw[getElem!_pos (Array.range es.length) (j/k) (by simpa using hjk),Array.getElem_range]
          unfold pY
          rw[getElem!_pos _ (j%k) (by simpa using IF)]
          simp only[List.getElem_map,List.getElem_range,if_pos hjk,id]
          rw[Nat.zero_add,Nat.mul_comm,Nat.div_add_mod]
          exact Oo hjs
         have iW:=AnyQ.slices_SortFunc_eq L k aE zE (pY es.length k cs) (fun x=>by simp[pY]) (TR hE hn) (fun i j:Nat=>kV Q kp g (el es i) (el es j)) (GN hc hn) g #[] b 0 cap (Array.range es.length) w eg Nr hHo uT (by simp only[Array.size_range];exact hc.len)
         obtain⟨s1,_⟩:=pdq_sorts (Go.Proofs.ltOf fun i j:Nat=>kV Q kp g (el es i) (el es j)) (GN hc hn) (Array.range es.length) 0 es.length (Lib.bitLen es.length) true true (Nat.zero_le _) (by simp) (Or.inl rfl)
         simp only[Array.size_range] at iW
         have hsD:jy (kV Q kp g) es=(pdq (Go.Proofs.ltOf fun i j:Nat=>kV Q kp g (el es i) (el es j)) (Array.range es.length) 0 es.length (Lib.bitLen es.length) true true).toList.map (el es):=by unfold jy;rw[if_pos hn]
         generalize pdq (Go.Proofs.ltOf fun i j:Nat=>kV Q kp g (el es i) (el es j)) (Array.range es.length) 0 es.length (Lib.bitLen es.length) true true=dk at iW s1 hsD
         obtain⟨p1,_,_⟩:=s1
         simp only[Array.size_range] at p1
         refine .inl ⟨eJ _ w,?_⟩
         rw[hf]
         refine iW.mono fun e' w' ⟨cF,n',os,Ec⟩=>⟨_,cF,?_⟩
         subst Ec
         have Ed:(jy (kV Q kp g) es).length=es.length:=by rw[hsD];simp[p1]
         have hFw: ∀c,F c->(sortWorldK (pY es.length k cs) k w b 0 n' dk os).heap[c]?=w.heap[c]?:=fun c hc=>jn (hH.iR c hc) (qds c hc)
         refine fin _ (by unfold sortWorldK grow putRowK putRow mapBlock Go.Sort.ahead;exact Nat.le_add_right _ _) (fun c hc b9=>jn hc (fun e'=>b9 ⟨e,he,by rw[e',bR];simp[bu,hG,aL]⟩)) (size_sortWorldK_c _ _ _ _ _ _ _ _) rfl rfl rfl ?_
         obtain⟨kO,hh',hs',hs2⟩:=xf (enc:=pY es.length k cs) (k:=k) (m:=n') (dk:=dk) (os:=os) hh
         refine .inr ⟨b,cap,kO,k,by rw[List.length_append,Ed,<-List.length_append];exact hG,hh',hk,fJ,by rw[List.length_append,Ed,<-List.length_append];exact Tp,yq,by rw[hs'];exact cJ,(fun h=>by cases h),?_⟩
         have qf6:=holdsK_sortWorldK_c (pY es.length k cs) k w b 0 (Array.range es.length) dk n' os hHo uT (by simp[p1])
         intro i x hx
         by_cases sX:es.length<=i
         ·rw[List.getElem?_append_right (by rw[Ed];exact sX),Ed] at hx
          obtain⟨q1,q2,q3⟩:=hE0 i x (by rw[List.getElem?_append_right sX];exact hx)
          refine⟨q1,q2,fun j c hjc=> ?_⟩
          have hp:dk.size*k<=i*k+j:=by rw[p1];exact Nat.le_trans (Nat.mul_le_mul_right k sX) (Nat.le_add_right _ _)
          rw[Array.getD_eq_getD_getElem?,hs2 _ hp,<-Array.getD_eq_getD_getElem?]
          exact(q3 j c hjc).mono (fun _ h=>h) hFw
         rw[List.getElem?_append_left (by rw[Ed];omega),hsD,List.getElem?_map] at hx
         have hid:i<dk.size:=by
          by_cases hid:i<dk.size
          ·exact hid
          ·rw[List.getElem?_eq_none (by simpa using hid)] at hx;cases hx
         have hdi:dk.toList[i]?=some dk[i]!:=by rw[Array.getElem?_toList,Array.getElem?_eq_getElem hid,getElem!_pos dk i hid]
         rw[hdi] at hx
         simp only[Option.map_some,Option.some.injEq] at hx
         subst hx
         have hii:(if dk[i]!<es.length then dk[i]! else 0)<es.length:=by split<;>assumption
         obtain⟨q1,q2,q3⟩:=hE _ _ (show es[if dk[i]!<es.length then dk[i]! else 0]?=some (el es dk[i]!) by unfold el;rw[List.getD_eq_getElem?_getD,List.getElem?_eq_getElem hii];rfl)
         refine⟨q1,q2,fun j c hjc=> ?_⟩
         have hj:j<k:=by rw[<-q1];exact(List.getElem?_eq_some_iff.1 hjc).1
         have:=(HoldsK.cell qf6 hid hj).1
         rw[qy hh'] at this
         unfold pY at this
         rw[getElem!_pos _ j (by simpa using hj)] at this
         simp only[List.getElem_map,List.getElem_range] at this
         rw[Nat.zero_add] at this
         rw[Array.getD_eq_getD_getElem?,this]
         exact(q3 j c hjc).mono (fun _ h=>h) hFw
        ·have Bo:es=[]:=List.eq_nil_of_length_eq_zero (by omega)
         subst Bo
         refine .inl ⟨eJ _ w,?_⟩
         rw[hf]
         refine(AnyF.slices_SortFunc_none L a cap (.func (.func g) #[] ⟨[]⟩) w).mono fun e' w' ⟨cF,Ec⟩=>⟨_,cF,?_⟩
         subst Ec
         refine fin w' (Nat.le_refl _) (fun c hc _=>rfl) (Nat.le_refl _) rfl rfl rfl ?_
         have hsD:jy (kV Q kp g) []=[]:=rfl
         rw[hsD]
         rw[List.nil_append] at hO⊢
         rcases hO with⟨hg,_⟩| ⟨b,im,cs,k',j8,hh,lK,fJ,hle,yq,cJ,h7,hE⟩
         ·exact .inl ⟨hg,by assumption⟩
         ·exact .inr ⟨b,im,cs,k',j8,hh,lK,fJ,hle,yq,cJ,h7,hE⟩
    ·cases h
   ·cases h
  ·cases h
 ·cases h
end
end Pi
