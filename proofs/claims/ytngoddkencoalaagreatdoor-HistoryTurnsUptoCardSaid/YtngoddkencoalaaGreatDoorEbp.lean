/- The texts PiSort PiSeat PiBulk. -/
import Derived.Test.YtngoddkencoalaaGreatDoorEbo
import Derived.Shelf.SlSortCmp.NoneTotal
namespace Pi
open Go Go.RowKit
section
variable{Q:Program}
def zC(Q:Program)(kp:qV)(g:FuncId)(x y:D)(i:Int):Prop:=Ev λlf k=>fJ Q kp lf k g [.d x,.d y] []=some (.d (.int .i64 i),[])
noncomputable def me(Q:Program)(kp:qV)(g:FuncId)(x y:D):Int:=by classical exact if h: ∃i,zC Q kp g x y i then h.choose else 0
structure ua(Q:Program)(kp:qV)(g:FuncId)(es:List D)(cf:D->D->Int):Prop where
 fn: ∃fn,Q.funcs[g]?=some fn/\fn.body.isSome=true/\(fn.name== "runtime.NumGoroutine")=false
 ag: ∀x∈es,∃cs,x= .agg cs
 len:es.length<4611686018427387904
 run: ∀x∈es,∀y∈es,zC Q kp g x y (cf x y)
 Jt: ∀x∈es,¬cf x x<0
 tr: ∀x∈es,∀y∈es,∀z∈es,cf x y<0->cf y z<0->cf x z<0
 ntr: ∀x∈es,∀y∈es,∀z∈es,¬cf x y<0-> ¬cf y z<0-> ¬cf x z<0
def el(es:List D)(i:Nat):D:=es.getD (if i<es.length then i else 0) .fk
theorem mY{es:List D}(h:0<es.length)(i:Nat):el es i∈es:=by
 unfold el;split
 next hi=>rw[zad,zac hi];exact zaq hi
 rw[zad,zac h];exact zaq h
def kq(cf:D->D->Int)(es:List D):List D:=
 if 0<es.length then(Go.Sort.pdq (Go.Proofs.ltOf λi j:Nat=>cf (el es i) (el es j)) (Array.range es.length) 0 es.length (Lib.bitLen es.length) true true).toList.map (el es) else []
theorem KC{kp:qV}{g:FuncId}{es:List D}{cf:D->D->Int}(h:ua Q kp g es cf)(h0:0<es.length):Go.Sort.SWO (Go.Proofs.ltOf λi j:Nat=>cf (el es i) (el es j)):=by
 constructor
 ·intro x;exact zaO (h.Jt _ (mY h0 x))
 ·intro x y z h1 h2;exact zaY (h.tr _ (mY h0 x) _ (mY h0 y) _ (mY h0 z) (zbJ h1) (zbJ h2))
 intro x y z h1 h2;exact zaO (h.ntr _ (mY h0 x) _ (mY h0 y) _ (mY h0 z) (zcx h1) (zcx h2))
theorem oP{kp:qV}{g:FuncId}{es:List D}{cf:D->D->Int}(h:ua Q kp g es cf):(kq cf es).Perm es/\(kq cf es).Pairwise λa b=> ¬cf b a<0:=by
 by_cases h0:0<es.length
 ·obtain⟨h1,h2⟩:=Go.Sort.pdq_sorts (Go.Proofs.ltOf λi j:Nat=>cf (el es i) (el es j)) (KC h h0) (Array.range es.length) 0 es.length (Lib.bitLen es.length) true true (za1 _) (by simp) (Or.inl rfl);unfold kq;rw[zap h0];generalize Go.Sort.pdq (Go.Proofs.ltOf λi j:Nat=>cf (el es i) (el es j)) (Array.range es.length) 0 es.length (Lib.bitLen es.length) true true=d at h1 h2;obtain⟨p1,_,p3⟩:=h1;simp only[zcK] at p1;have e1:d.extract 0 es.length=d:=by rw[<-p1];simp
  have e2:(Array.range es.length).extract 0 es.length=Array.range es.length:=by simp
  rw[e1,e2] at p3;constructor
  ·have:=p3.map (el es);refine this.trans (List.Perm.of_eq ?_);apply zb8
   ·simp
   intro i h1 h2;simp[el,h2]
  rw[zck,zbf];intro i j hi hj pH;have:=h2 i j (za1 _) pH (by simpa [p1] using hj);rw[zcy d i (by simpa using hi),zcy d j (by simpa using hj)] at this;simpa [Go.Proofs.ltOf] using this
 have:es=[]:=zaA (by omega);subst this;exact⟨List.Perm.refl _,List.Pairwise.nil⟩
open Classical in
noncomputable def zD(Q:Program)(kp:qV)(ty:TypeId):TF
 | [.sl n v len,.fn g []],R=>match lk R n with
  |some e=>(match e.obj with
   | .arr ty' false es=>if v=e.aV/\ty'=ty/\len<=es.length/\ua Q kp g (es.take len) (me Q kp g) then some (.cH [],ins n ⟨e.aV,e.tag,.arr ty false (kq (me Q kp g) (es.take len)++es.drop len)⟩ R) else none
   |_=>none)
  |none=>none
 |_,_=>none
theorem zC.one{kp:qV}{g:FuncId}{x y:D}{i j:Int}(h:zC Q kp g x y i)(h':zC Q kp g x y j):i=j:=by obtain⟨a,b,h1,h2⟩:=(Ev.and h h').some;rw[h1] at h2;simpa using h2
theorem MJ{kp:qV}{g:FuncId}{x y:D}{i:Int}(h:zC Q kp g x y i):me Q kp g x y=i:=by
 unfold me;have h': ∃i,zC Q kp g x y i:=⟨i,h⟩
 rw[zds h'];exact h'.choose_spec.one h
theorem ua.cf{kp:qV}{g:FuncId}{es:List D}{cf:D->D->Int}(h:ua Q kp g es cf):ua Q kp g es (me Q kp g):=by have e: ∀x∈es,∀y∈es,me Q kp g x y=cf x y:=λx hx y hy=>MJ (h.run x hx y hy);refine⟨h.fn,h.ag,h.len,λx hx y hy=>by rw[e x hx y hy];exact h.run x hx y hy,λx hx=>by rw[e x hx x hx];exact h.Jt x hx,λx hx y hy z hz=>by rw[e x hx y hy,e y hy z hz,e x hx z hz];exact h.tr x hx y hy z hz,λx hx y hy z hz=>by rw[e x hx y hy,e y hy z hz,e x hx z hz];exact h.ntr x hx y hy z hz⟩
def S2(Q:Program)(kp:qV)(ty:TypeId):bg:=λps R ae=> ∃n g e es tl cf,ps=[.sl n e.aV es.length,.fn g []]/\lk R n=some e/\e.obj= .arr ty false (es++tl)/\ua Q kp g es cf/\
 ∀fG:List D,fG.Perm es->fG.Pairwise (λa b=> ¬cf b a<0)->ae (.cH [],ins n ⟨e.aV,e.tag,.arr ty false (fG++tl)⟩ R)
def qdg(Q:Program)(kp:qV)(ty:TypeId):bg:=λps R ae=> ∃n g e es cf,ps=[.sl n e.aV es.length,.fn g []]/\lk R n=some e/\e.obj= .arr ty false es/\ua Q kp g es cf/\
 ∀fG:List D,fG.Perm es->fG.Pairwise (λa b=> ¬cf b a<0)->ae (.cH [],ins n ⟨e.aV,e.tag,.arr ty false fG⟩ R)
theorem wQ{kp:qV}{ty:TypeId}{ps:List P}{R:List (Nat×En)}{ae:P×List (Nat×En)->Prop}(h:S2 Q kp ty ps R ae): ∃x,zD Q kp ty ps R=some x/\ae x:=by
 obtain⟨n,g,e,es,tl,cf,rfl,he,b9,hc,fa⟩:=h;have rU:=hc.cf;refine⟨_,?_,fa (kq (me Q kp g) es) (oP rU).1 ?_⟩
 ·unfold zD;simp only[he,b9];rw[zcg rfl,List.drop_left' rfl,zap ⟨rfl,rfl,by rw[zah];exact zdg _ _,rU⟩]
 refine List.Pairwise.imp_of_mem ?_ (oP rU).2;intro a b ha hb QS;have ha':=(oP rU).1.mem_iff.1 ha;have dm:=(oP rU).1.mem_iff.1 hb;rwa [MJ (hc.run b dm a ha')] at QS
theorem KD{kp:qV}{ty:TypeId}{ps:List P}{R:List (Nat×En)}{ae:P×List (Nat×En)->Prop}(h:qdg Q kp ty ps R ae): ∃x,zD Q kp ty ps R=some x/\ae x:=by obtain⟨n,g,e,es,cf,rfl,he,b9,hc,fa⟩:=h;refine wQ ⟨n,g,e,es,[],cf,rfl,he,by rw[b9,zaV],hc,λfG h1 h2=> ?_⟩;rw[zaV];exact fa fG h1 h2
theorem BQ{w w':World}(h:Go.RowKit.Below w.heap.size w w')(hd:w.drawn<=w'.drawn): ∃q os,w'=Go.Sort.grow (w.drewN q) os:=by
 refine⟨w'.drawn-w.drawn,w'.heap.extract w.heap.size w'.heap.size,?_⟩;have e:w'.heap=w.heap++w'.heap.extract w.heap.size w'.heap.size:=by
  apply zc4;intro i;by_cases hi:i<w.heap.size
  ·rw[zcv hi];exact h.block i hi
  rw[Array.getElem?_append_right (by omega),Array.getElem?_extract];simp only[Nat.min_self];split
  ·congr 1;omega
  exact Array.getElem?_eq_none (by omega)
 cases w' with
 |mk heap tape drawn os output=>have h1:=h.os;have h2:=h.tape;have h3:=h.output;simp only at h1 h2 h3 e hd;subst h1 h2 h3;unfold Go.Sort.grow World.drewN;simp only;rw[<-e,Nat.add_sub_cancel' hd]
theorem Pf{kp:qV}(hm:Q.follows .mixedOrders=true){g:FuncId}{fn:Func}(gg:Q.funcs[g]?=some fn)(cN:fn.body.isSome=true)(lG:(fn.name== "runtime.NumGoroutine")=false)
  {x y:D} {i:Int} (cb:zC Q kp g x y i) {w:World} (hX:dw Q w kp.X) {vx vy:Value} (h1:aS (· <w.heap.size) w vx x) (h2:aS (· <w.heap.size) w vy y):
  Calls Q g #[vx,vy] w (λe w'=>e= .returned (.int .i64 i)/\ ∃q os,w'=Go.Sort.grow (w.drewN q) os):=by
 obtain⟨lf,k,cb⟩:=cb.some;have hH:fM Q ⟨λ_=>undef,w,0,false⟩ (· <w.heap.size) (λ_=>undef) w []:=
  ⟨.nil,za1 _,λt p hp=>by simp[lk] at hp,λn e he=>by simp[lk] at he,λn m e e' b he=>by simp[lk] at he,λn e b he=>by simp[lk] at he,λb hb=>hb,λn e i he=>by simp[lk] at he,λb hb=>⟨hb,rfl⟩,zak _,za1 _⟩
 have aT:=tY hX hm k g [.d x,.d y] [] _ _ cb (· <w.heap.size) (λ_=>undef) w [vx,vy] hH rfl (λj v c hv hc=>by
  match j with
  |0=>cases hv;cases hc;exact .d h1
  |1=>cases hv;cases hc;exact .d h2
  |j+2=>cases hv)
 have mB:(callFunc g ⟨[vx,vy]⟩).run Q w= .ok (.enter g ⟨[vx,vy]⟩) w:=by
  simp[callFunc,gg];rw[zan (by simpa using lG)];cases hb:fn.body with
  |none=>rw[hb] at cN;cases cN
  |some c=>simp
 rcases aT with⟨_,h⟩| ⟨v,w',h,_⟩
 ·refine h.mono λe w' ⟨v,he,F',G',h1,h2,h3⟩=> ?_;have hv:v= .int .i64 i:=aH.cF (p:= .d (.int .i64 i)) h2 rfl;subst hv;exact⟨he,BQ ⟨h3.os,h3.tape,h3.output,h3.size,λb hb=>h3.keep b hb (λ⟨n,e,he,_⟩=>by simp[lk] at he)⟩ h1.dr⟩
 rw[mB] at h;cases h
open Go.Sort Go.Proofs in
theorem ke{enc:Nat->List Value}{k:Nat}{w:World}{b m:Nat}{dk:Array Nat}{os:Array Go.Obj}{c:Nat}(hc:c<w.heap.size)(dQ:c≠b):(sortWorldK enc k w b 0 m dk os).heap[c]?=w.heap[c]?:=by unfold sortWorldK grow;simp only;rw[zcv (by rw[size_putRowK];exact hc)];unfold putRowK putRow mapBlock;simp only[zcR];rw[zan (zbI dQ)];rfl
open Go.Sort Go.Proofs in
theorem zF{enc:Nat->List Value}{k:Nat}{w:World}{b m:Nat}{dk:Array Nat}{os:Array Go.Obj}{cs:Array Value}{ty:TypeId}(h:w.heap[b]?=some (.cells cs ty (0,0))):
  ∃kV,(sortWorldK enc k w b 0 m dk os).heap[b]?=some (.cells kV ty (0,0))/\kV.size=cs.size/\ ∀p,dk.size*k<=p->kV[p]?=cs[p]?:=by
 have hb:b<w.heap.size:=(zaz.1 h).1;unfold sortWorldK grow;simp only;rw[zcv (by rw[size_putRowK];exact hb)];unfold putRowK putRow mapBlock;simp only[zcR];have h':(Go.Sort.ahead w m).heap[b]?=some (.cells cs ty (0,0)):=h;rw[zap trivial,h'];refine⟨_,rfl,by simp[putCells],λp hp=> ?_⟩;unfold putCells;rw[Array.getElem?_mapIdx,size_flatK];have: ¬(0<=p/\p<0+dk.size*k):=by omega
 cases cs[p]? with
 |none=>rfl
 |some x=>exact congrArg some (zan this)
def rz(n k:Nat)(cs:Array Value)(i:Nat):List Value:=(List.range k).map λj=>cs.getD ((if i<n then i else 0)*k+j) undef
theorem MK{F F':Nat->Prop}{w w':World}{cs:Array Value}{k:Nat}{es:List D}(hE:nB F w cs k es)(h0:0<es.length)(hF: ∀c,F c->F' c)(hw: ∀c,F c->w'.heap[c]?=w.heap[c]?)(ha: ∀x∈es,∃cs,x= .agg cs)(i:Nat):
  aS F' w' (.agg (rz es.length k cs i).toArray) (el es i):=by
 have hi:(if i<es.length then i else 0)<es.length:=by split<;>assumption
 have hx:es[if i<es.length then i else 0]?=some (el es i):=by unfold el;rw[zad,zac hi];rfl
 obtain⟨xs,YU⟩:=ha _ (mY h0 i);obtain⟨q1,q2,q3⟩:=hE _ _ hx;rw[YU] at q1 q2 q3⊢;refine .agg _ xs (by simp only[D.cells] at q1;simp[rz,q1]) q2 λj v c hv hc=> ?_;simp only[D.cells] at q1 q3;have hj:j<k:=by rw[<-q1];exact(zaf.1 hc).1
 unfold rz at hv;rw[zaD,zcZ hj] at hv;simp only[zaJ,zam] at hv;subst hv;exact(q3 j c hc).mono hF hw
theorem qas{F:Nat->Prop}{w:World}{cs:Array Value}{k:Nat}{es:List D}(hE:nB F w cs k es)(h0:0<es.length)(i:Nat): ∀v∈rz es.length k cs i,v.oneCell'=true:=by
 intro v hv;have hi:(if i<es.length then i else 0)<es.length:=by split<;>assumption
 obtain⟨q1,q2,q3⟩:=hE _ _ (zac hi);unfold rz at hv;obtain⟨j,hj,rfl⟩:=zaB.1 hv;have hj:=List.mem_range.1 hj;have hc:=zac (l:=es[if i<es.length then i else 0].cells) (by rw[q1];exact hj);exact(q3 j _ hc).oD (q2 _ (zaC hc))
open Go.Sort Go.Proofs Go.Shelf in
set_option maxHeartbeats 1000000 in
theorem Hw{kp:qV}(hX: ∀w,dw Q w kp.X){ρ:Ren}(L:SlLaysF0.n6 Q ρ){f:FuncId}(hf:f=ρ.f 6)(gg: ∀(vs:Array Value) (w:World),(callFunc f vs).run Q w= .ok (.enter f vs) w){ty:TypeId}{k:Nat}(hk:sz Q ty=some k)
  (aE: ∀w,(isAgg (ρ.t 24)).run Q w= .ok true w) (zE: ∀w,(Go.sizeOf (ρ.t 24)).run Q w= .ok k w) (w0:World):Pd Q w0 f (zD Q kp ty):=by
 intro h0 ps R p R1 h F G w vs hH hl hv;unfold zD at h;split at h
 next n v len g=>
  split at h
  next e he=>
   split at h
   ·rename_i ty' es0 b9;split at h
    ·rename_i hc;obtain⟨rfl,rfl,hlen,hc⟩:=hc;obtain⟨es,tl,rfl,rfl⟩: ∃es tl,es0=es++tl/\len=es.length:=⟨es0.take len,es0.drop len,(zbi _ _).symm,by rw[zas];omega⟩
     rw[zcg rfl] at hc;rw[zcg rfl,List.drop_left' rfl] at h;simp only[zam,zbN] at h;obtain⟨rfl,rfl⟩:=h
     match vs,hl,hv with
     | [u0,u1],_,hv=>
      have hp0:=hv 0 u0 _ rfl rfl;have xU:=hv 1 u1 _ rfl rfl;have hO:=hH.rg n e he;rw[b9] at hO;cases hp0 with
      |sl _ _ _ _ h1 hr=>
       cases xU with
       |fn _ ws _ hws _=>
        have:ws=[]:=zaA (by simpa using hws);subst this;obtain⟨a,N,cap,hG,rfl,_⟩:=hr.at he rfl (by rw[b9];rfl);have gl:rS G R n ⟨e.aV,e.tag,.arr ty' false (kq (me Q kp g) es++tl)⟩ (G n):=λe1 FQ=>by rw[he] at FQ;cases FQ;exact .inr ⟨rfl,λ_=>⟨by rw[b9];rfl,rfl⟩⟩
        have fin: ∀(w':World),w.drawn<=w'.drawn->(∀c,c<w.heap.size-> ¬(∃e',lk R n=some e'/\bF (G n) e'.obj=some c)->w'.heap[c]?=w.heap[c]?)->w.heap.size<=w'.heap.size->w'.os=w.os->w'.tape=w.tape->w'.output=w.output->
          pG Q F w' G (ins n ⟨e.aV,e.tag,.arr ty' false (kq (me Q kp g) es++tl)⟩ R) n (.arr ty' false (kq (me Q kp g) es++tl))->
          ∃F' G',fM Q ⟨G,w0,0,false⟩ F' G' w' (ins n ⟨e.aV,e.tag,.arr ty' false (kq (me Q kp g) es++tl)⟩ R)/\aH F' w' G' (ins n ⟨e.aV,e.tag,.arr ty' false (kq (me Q kp g) es++tl)⟩ R) (.tuple #[]) (.cH [])/\Ext (Own G R) (Own G' (ins n ⟨e.aV,e.tag,.arr ty' false (kq (me Q kp g) es++tl)⟩ R)) F F' w w':=by
         intro w' hd eQ dN R7 htp aT GR;obtain⟨d1,d2⟩:=aG.oe hH (e1:=⟨e.aV,e.tag,.arr ty' false (kq (me Q kp g) es++tl)⟩) (g1:=G n) (w':=w') (hdr:=hd) gl eQ dN R7 htp aT
          (λc hc=> .inr ⟨e,he,by rw[b9];exact hc⟩) (by rw[ca];exact GR) (λi hi _=>hH.tag n e i he hi (by rw[b9];rfl))
         rw[ca] at d1 d2;exact⟨F,G,d1,.cH [] [] rfl (λi v c hv _=>by simp at hv),d2⟩
        by_cases hn:0<es.length
        ·obtain⟨b,iX,cs,k',qX,hh,nj,gy,hle,yL,dN,_,hE⟩: ∃b cap cs k,G n= .slice (some ⟨b,0,none⟩) (es++tl).length cap/\w.heap[b]?=some (.cells cs ty' (0,0))/\sz Q ty'=some k/\0<k/\(es++tl).length<=cap/\cap<=maxLen/\cs.size=cap*k/\(false=true->F b)/\nB F w cs k (es++tl):=by
          rcases hO with⟨_,Mv⟩|hO
          ·rw[(List.append_eq_nil_iff.1 Mv).1] at hn;simp at hn
          exact hO
         rw[hk] at nj;cases nj;rw[hG] at qX;cases qX;have hE0:=hE;have hE:nB F w cs k es:=λi x hx=>hE0 i x (by rw[zaR (zaf.1 hx).1];exact hx);have qen:=hle;have hle:es.length<=cap:=by rw[zah] at qen;omega
         have xn:b<w.heap.size:=(zaz.1 hh).1;have Y5: ¬F b:=hH.nf n e b he (by rw[b9];simp[bF,hG,aM]);have qil: ∀c,F c->c≠b:=λc hc e'=>Y5 (e'▸hc);obtain⟨fn,g1,g2,g3⟩:=hc.fn;have eg: ∀args w,(callFunc g args).run Q w= .ok (.enter g args) w:=λargs w=>enters g1 g2 g3 args w;have RZ:CmpLays Q g #[] (rz es.length k cs) k (λi j:Nat=>me Q kp g (el es i) (el es j)) b 0 (Array.range es.length).size w:=by intro m os dk hs x y;have hFw: ∀c,F c->(sortWorldK (rz es.length k cs) k w b 0 m dk os).heap[c]?=w.heap[c]?:=λc hc=>ke (hH.jE c hc) (qil c hc);have hFs: ∀c,F c->c<(sortWorldK (rz es.length k cs) k w b 0 m dk os).heap.size:=λc hc=>zbb (hH.jE c hc) (size_sortWorldK_c _ _ _ _ _ _ _ _);exact Pf L.mixed g1 g2 g3 (hc.run _ (mY hn x) _ (mY hn y)) (hX _) (MK hE hn hFs hFw hc.ag x) (MK hE hn hFs hFw hc.ag y)
         have hHo:HoldsK (rz es.length k cs) k w b 0 (Array.range es.length):=by
          intro j hj;have hj:j<es.length*k:=by simpa using hj
          have hjk:j/k<es.length:=Nat.div_lt_of_lt_mul (by rw[zcm];exact hj);have ML:j%k<k:=zc8 _ gy;have hjs:j<cs.size:=by rw[dN];exact zbb hj (zar k hle)
          refine⟨?_,by simp[World.frozen?,hh]⟩;rw[r0 hh,get_flatK _ _ _ _ (by simpa using hj)];rw[zcy (Array.range es.length) (j/k) (by simpa using hjk),Array.getElem_range];unfold rz;rw[zcy _ (j%k) (by simpa using ML)];simp only[zcL,List.getElem_range,zap hjk,id];rw[zaF,zcm,zdl];exact S1 hjs
         have mB:=AnyQ.slices_SortFunc_eq L k aE zE (rz es.length k cs) (λx=>by simp[rz]) (qas hE hn) (λi j:Nat=>me Q kp g (el es i) (el es j)) (KC hc hn) g #[] b 0 cap (Array.range es.length) w eg RZ hHo xn (by simp only[zcK];exact hc.len);obtain⟨s1,_⟩:=pdq_sorts (Go.Proofs.ltOf λi j:Nat=>me Q kp g (el es i) (el es j)) (KC hc hn) (Array.range es.length) 0 es.length (Lib.bitLen es.length) true true (za1 _) (by simp) (Or.inl rfl);simp only[zcK] at mB;have hsD:kq (me Q kp g) es=(pdq (Go.Proofs.ltOf λi j:Nat=>me Q kp g (el es i) (el es j)) (Array.range es.length) 0 es.length (Lib.bitLen es.length) true true).toList.map (el es):=by unfold kq;rw[zap hn]
         generalize pdq (Go.Proofs.ltOf λi j:Nat=>me Q kp g (el es i) (el es j)) (Array.range es.length) 0 es.length (Lib.bitLen es.length) true true=dk at mB s1 hsD;obtain⟨p1,_,_⟩:=s1;simp only[zcK] at p1;refine .inl ⟨gg _ w,?_⟩;rw[hf];refine mB.mono λe' w' ⟨cS,n',os,Hx⟩=>⟨_,cS,?_⟩
         subst Hx;have Hy:(kq (me Q kp g) es).length=es.length:=by rw[hsD];simp[p1]
         have hFw: ∀c,F c->(sortWorldK (rz es.length k cs) k w b 0 n' dk os).heap[c]?=w.heap[c]?:=λc hc=>ke (hH.jE c hc) (qil c hc);refine fin _ (by unfold sortWorldK grow putRowK putRow mapBlock Go.Sort.ahead;exact zdg _ _) (λc hc bS=>ke hc (λe'=>bS ⟨e,he,by rw[e',b9];simp[bF,hG,aM]⟩)) (size_sortWorldK_c _ _ _ _ _ _ _ _) rfl rfl rfl ?_;obtain⟨kV,hh',hs',hs2⟩:=zF (enc:=rz es.length k cs) (k:=k) (m:=n') (dk:=dk) (os:=os) hh;refine .inr ⟨b,cap,kV,k,by rw[zah,Hy,<-zah];exact hG,hh',hk,gy,by rw[zah,Hy,<-zah];exact qen,yL,by rw[hs'];exact dN,(λh=>by cases h),?_⟩;have qk2:=holdsK_sortWorldK_c (rz es.length k cs) k w b 0 (Array.range es.length) dk n' os hHo xn (by simp[p1]);intro i x hx;by_cases pT:es.length<=i
         ·rw[za2 (by rw[Hy];exact pT),Hy] at hx;obtain⟨q1,q2,q3⟩:=hE0 i x (by rw[za2 pT];exact hx);refine⟨q1,q2,λj c hjc=> ?_⟩;have hp:dk.size*k<=i*k+j:=by rw[p1];exact zaE (zar k pT) (zdg _ _)
          rw[zaI,hs2 _ hp,<-zaI];exact(q3 j c hjc).mono (λ_ h=>h) hFw
         rw[zaR (by rw[Hy];omega),hsD,zaD] at hx;have hid:i<dk.size:=by
          by_cases hid:i<dk.size
          ·exact hid
          rw[zbp (by simpa using hid)] at hx;cases hx
         have hdi:dk.toList[i]?=some dk[i]!:=by rw[zcO,zbQ hid,zcy dk i hid]
         rw[hdi] at hx;simp only[zaJ,zam] at hx;subst hx;have hii:(if dk[i]!<es.length then dk[i]! else 0)<es.length:=by split<;>assumption
         obtain⟨q1,q2,q3⟩:=hE _ _ (show es[if dk[i]!<es.length then dk[i]! else 0]?=some (el es dk[i]!) by unfold el;rw[zad,zac hii];rfl);refine⟨q1,q2,λj c hjc=> ?_⟩;have hj:j<k:=by rw[<-q1];exact(zaf.1 hjc).1
         have:=(HoldsK.cell qk2 hid hj).1;rw[r0 hh'] at this;unfold rz at this;rw[zcy _ j (by simpa using hj)] at this;simp only[zcL,List.getElem_range] at this;rw[zaF] at this;rw[zaI,this];exact(q3 j c hjc).mono (λ_ h=>h) hFw
        have Mv:es=[]:=zaA (by omega);subst Mv;refine .inl ⟨gg _ w,?_⟩;rw[hf];refine(AnyF.slices_SortFunc_none L a cap (.func (.func g) #[] ⟨[]⟩) w).mono λe' w' ⟨cS,Hx⟩=>⟨_,cS,?_⟩
        subst Hx;refine fin w' (zak _) (λc hc _=>rfl) (zak _) rfl rfl rfl ?_;have hsD:kq (me Q kp g) []=[]:=rfl;rw[hsD];rw[zbk] at hO⊢;rcases hO with⟨hg,_⟩| ⟨b,iX,cs,k',qX,hh,nj,gy,hle,yL,dN,h7,hE⟩
        ·exact .inl ⟨hg,by assumption⟩
        exact .inr ⟨b,iX,cs,k',qX,hh,nj,gy,hle,yL,dN,h7,hE⟩
    cases h
   cases h
  cases h
 cases h
end
end Pi
namespace Pi
open Go
theorem qat(Q:Program)(kf:KF)(kp:FuncId->Nat->Option (List Nat×List Nat))(xs:List Nat)(X Y:CF)(hk:List (Nat×(S->K (PX×S))))(dc:FuncId->Nat->Nat)(lf:Nat):
 nA Q kf ⟨kp,xs,X⟩ hk dc lf=nA Q kf ⟨kp,xs,Y⟩ hk dc lf:=rfl
theorem EA(Q:Program)(kp:FuncId->Nat->Option (List Nat×List Nat))(xs:List Nat)(X Y:CF)(dc:FuncId->Nat->Nat)(H:List (FuncId×bg))(lf:Nat): ∀k,
  runK Q ⟨kp,xs,X⟩ dc H lf k=runK Q ⟨kp,xs,Y⟩ dc H lf k
 |0=>rfl
 |k+1=>by funext f ps R;unfold runK;rw[EA Q kp xs X Y dc H lf k,qat Q _ kp xs X Y]
end Pi
namespace Pi
open Go Go.ChangeShapes Go.WideShapes Go.RowKit
mutual
def nK:D->Nat
 | .str l=>l.length
 | .sl _ es=>kr es
 | .agg cs=>dx cs
 |_=>0
def kr:List D->Nat
 | []=>0
 |x::r=>1+nK x+kr r
def dx:List D->Nat
 | []=>0
 |x::r=>nK x+dx r
end
theorem zG(x:D):dx x.cells=nK x:=by cases x<;>simp[D.cells,dx,nK]
theorem zH: ∀(a b:List D),dx (a++b)=dx a+dx b
 | [],b=>by simp[dx]
 |x::a,b=>by simp[dx,zH a b];omega
mutual
def fV{H:Type}:DataW H->Nat
 | .lit (.string bytes)=>bytes.length+1
 | .slice elems spare=>gF elems+gF spare+1
 | .agg parts=>gF parts+1
 |_=>1
def gF{H:Type}:List (DataW H)->Nat
 | []=>0
 |d::r=>fV d+gF r
end
section
variable{H:Type}{enc:TypeId×Value->H}{Q:Program}{w:World}
theorem zI{v:Value}{c:D}(h:sF w [v] [c]):aS (· <w.heap.size) w v c:=h.2.2 0 v c rfl rfl
theorem CR(nx:Nat)(ys:List D)(hy:ys.length=nx)(β:Nat->Nat): ∀(fs:List Field) (off j:Nat),lh Q off fs nx=true->off<=nx->
  (∀(i:Nat) (f:Field),fs[i]?=some f->dx ((ys.drop f.offset).take (Q.cellsOf f.type))<=β (j+i))->dx (ys.drop off)<=(List.range fs.length).foldl (λa i=>a+β (j+i)) 0
 | [],off,j,ht,hle,_=>by have:off=nx:=zag ht;rw[zci (by omega)];simp[dx]
 |f::r,off,j,ht,hle,hf=>by
  simp only[lh,zab] at ht;have ho:f.offset=off:=zag ht.1;have Ox:off+Q.cellsOf f.type<=nx:=by
   have: ∀(fs:List Field) (o:Nat),lh Q o fs nx=true->o<=nx:=by
    intro fs
    induction fs with
    |nil=>intro o h;exact zdb (zag h)
    |cons g gs ih=>intro o h;simp only[lh,zab] at h;have:=ih _ h.2;omega
   exact this r _ ht.2
  have ih:=CR nx ys hy β r (off+Q.cellsOf f.type) (j+1) ht.2 Ox λi g hg=>by have:=hf (i+1) g (by simpa using hg);rwa [show j+1+i=j+(i+1) by omega]
  have h0:=hf 0 f rfl;rw[ho,zb0] at h0;have e:dx (ys.drop off)=dx ((ys.drop off).take (Q.cellsOf f.type))+dx (ys.drop (off+Q.cellsOf f.type)):=by rw[<-zH];congr 1;rw[<-zcW,zbi]
  have qeF: ∀(g:Nat->Nat) (l:List Nat) (a:Nat),l.foldl (λa i=>a+g i) a=a+l.foldl (λa i=>a+g i) 0:=by
   intro g l
   induction l with
   |nil=>intro a;simp
   |cons x l ih=>intro a;simp only[zaU];rw[ih,ih (0+g x)];omega
  rw[zao,List.range_succ_eq_map,zaU,List.foldl_map,qeF,e];have e2:(λ(a i:Nat)=>a+β (j+i.succ))=λa i=>a+β (j+1+i):=by funext a i;rw[show j+i.succ=j+1+i by omega]
  rw[e2,zaF,zb0];omega
theorem Pg(xs:List (DataW H)):(List.range xs.length).foldl (λa i=>a+(match xs[i]? with |some d=>fV d |none=>0)) 0=gF xs:=by
 have qeF: ∀(g:Nat->Nat) (l:List Nat) (a:Nat),l.foldl (λa i=>a+g i) a=a+l.foldl (λa i=>a+g i) 0:=by
  intro g l
  induction l with
  |nil=>intro a;simp
  |cons x l ih=>intro a;simp only[zaU];rw[ih,ih (0+g x)];omega
 induction xs with
 |nil=>rfl
 |cons d r ih=>rw[zao,List.range_succ_eq_map,zaU,List.foldl_map,qeF];simp only[zcf,zdt,gF];rw[ih];omega
theorem Hz: ∀(es:List D) (ds:List (DataW H)),es.length=ds.length->(∀(i:Nat) (y:D) (d:DataW H),es[i]?=some y->ds[i]?=some d->1+nK y<=fV d)->kr es<=gF ds
 | [],_,_,_=>by simp[kr]
 |y::es,[],h,_=>by simp at h
 |y::es,d::ds,h,hh=>by have h0:=hh 0 y d rfl rfl;have ih:=Hz es ds (by simpa using h) λi y d h1 h2=>hh (i+1) y d (by simpa using h1) (by simpa using h2);simp only[kr,gF];omega
theorem Ph: ∀(m:Nat) (n:Nat) (t:TypeId) (cs:List Value) (x:DataW H×List MemPlace) (xs:List D),DataW.trod enc Q w 0 (λ_=>true) true n t cs=some x->gE Q m t=true->sF w cs xs->Fit Q m t xs->1+dx xs<=fV x.1:=by
 intro m
 induction m with
 |zero=>intro n t cs x xs _ h;simp[gE] at h
 |succ m ih=>
  intro n t cs x xs hx hp hr hf;unfold gE at hp;unfold Fit at hf;split at hp
  next hu=>obtain⟨b,rfl,rfl⟩:=DataW.trod_bool hu hx;rw[hu] at hf;obtain⟨b',rfl⟩:=hf;simp[dx,nK,fV]
  next k hu=>obtain⟨b,rfl,rfl,hw⟩:=DataW.trod_int hu hx;rw[hu] at hf;obtain⟨b',rfl,_⟩:=hf;simp[dx,nK,fV]
  next hu=>obtain⟨b,rfl,rfl,hw⟩:=DataW.trod_string hu hx;rw[hu] at hf;obtain⟨l,rfl,_⟩:=hf;have:=(zI hr).gj (u:= .string ⟨⟨l⟩⟩) rfl;simp only[Value.string.injEq] at this;subst this;simp[dx,nK,fV];omega
  next e hu=>
   simp only[zab] at hp;have hk:0<Q.cellsOf e:=by have:=hp.2;simp[Nat.blt] at this;omega
   rw[hu] at hf;obtain⟨es,rfl,_,hfe⟩:=hf;rcases DataW.trod_slice hu hx with⟨rfl,rfl⟩| ⟨a,len,cap,elems,rest,n',rfl,rfl,rfl,hb,GI,yL,FM,oE,_,_⟩
   ·have hv:=zI hr;cases hv;simp[dx,nK,kr,fV]
   have hv:=zI hr;cases hv with
   |J4 a k cap=>simp[dx,nK,kr,fV]
   |Ml b off k cap es f xf dm ju bR hw uW=>
    have key:kr es<=gF (elems.map (·.1)):=by
     refine Hz es _ (by simp[FM]) λi y d hy hd=> ?_;rw[zaD] at hd;cases he:elems[i]? with
     |none=>rw[he] at hd;cases hd
     |some z=>
      rw[he] at hd;simp only[zaJ,zam] at hd;subst hd;have hi:i<es.length:=(zaf.1 hy).1;have h1:=oE i hi;rw[he,zbH] at h1;obtain⟨kV,h2,h3⟩:=h1;obtain⟨_,xV,hc2⟩:=World.cells?_some h2;have bZ:y∈es:=zaC hy;obtain⟨f1,f2⟩:=hfe y bZ;have yB:sF w kV y.cells:=by
       refine⟨by rw[ju y bZ,xV],bR y bZ,λj v c hv hc=> ?_⟩;have hj:j<Q.cellsOf e:=by have:=(zaf.1 hc).1;rw[ju y bZ] at this;exact this
       have h5:=hc2 j hj;rw[hv] at h5;have hq:i*Q.cellsOf e+j<es.length*Q.cellsOf e:=by
        calc i*Q.cellsOf e+j<i*Q.cellsOf e+Q.cellsOf e:=by omega
         _=(i+1)*Q.cellsOf e:=by rw[zaZ,zbs]
         _<=es.length*Q.cellsOf e:=zar _ hi
       have h6:=hw _ hq;have h7:w.cell? ⟨b,off+(i*Q.cellsOf e+j),none⟩=some v:=by rw[<-h5,addr_add,addr_add,zbG]
       rw[h6] at h7;cases h7;exact uW i j y c hy hc
      have:=ih _ _ _ _ _ h3 hp.1 yB f1;rwa [zG] at this
    simp only[dx,nK,fV];omega
  next fs hu=>
   simp only[zab] at hp;rw[hu] at hf;obtain⟨RY,hff⟩:=hf;obtain⟨zs,n',rfl,rfl,hl,hn,hz⟩:=DataW.trod_struct hu hx;have:=CR (Q:=Q) (Q.cellsOf t) xs RY (λi=>match(zs.map (·.1))[i]? with |some d=>fV d |none=>0) fs.toList 0 0 hp.1 (za1 _) λi f hif=>by
    have hi:i<fs.size:=by have:=(zaf.1 hif).1;simpa using this
    have qk3:fs[i]?=some f:=by simpa using hif
    have h1:=hz i f qk3;have bJ:i<zs.length:=by omega
    rw[zac bJ] at h1;have bZ:f∈fs.toList:=zaC hif;have DV:=zbm.1 hp.2 _ bZ;have yB:sF w ((cs.drop f.offset).take (Q.cellsOf f.type)) ((xs.drop f.offset).take (Q.cellsOf f.type)):=by
     refine⟨by simp[hr.1],λc hc=>hr.2.1 c (zbR (zba hc)),λj v c hv hc=> ?_⟩;rw[zbD] at hv hc;split at hv
     ·rw[zap (by assumption)] at hc;rw[zbY] at hv hc;exact hr.2.2 _ v c hv hc
     cases hv
    have h2:=ih _ _ _ _ _ h1 DV yB (hff f bZ);simp only[zaF,zaD,zac bJ,zaJ];omega
   rw[zb5] at this;have hs:=Pg (zs.map (·.1));rw[zaa] at hs;simp only[zaF] at this;rw[zcr,<-hn,hs] at this;simp only[fV];omega
  cases hp
theorem KE{v:Value}{x:D}(h:aS (· <w.heap.size) w v x):sF w v.cells.toList x.cells:=by
 have one: ∀(v:Value) (c:D),c.bA=true->aS (· <w.heap.size) w v c->sF w [v] [c]:=λv c hc hr=>⟨rfl,by simpa using hc,λi v' c' h1 h2=>by
  cases i with
  |zero=>simp at h1 h2;subst h1;subst h2;exact hr
  |succ i=>simp at h1⟩
 cases h with
 |agg vs cs hl bR hc=>exact⟨by simpa [Value.cells,D.cells] using hl.symm,bR,λi v c h1 h2=>hc i v c (by simpa [Value.cells] using h1) h2⟩
 |bool b=>exact one _ _ rfl (.bool b)
 |int k n=>exact one _ _ rfl (.int k n)
 |str s=>exact one _ _ rfl (.str s)
 |fk=>exact one _ _ rfl .fk
 |p9=>exact one _ _ rfl .p9
 |rp=>exact one _ _ rfl .rp
 |yq=>exact one _ _ rfl .yq
 |yr=>exact one _ _ rfl .yr
 |J4 a k cap=>exact one _ _ rfl (.J4 a k cap)
 |Ml b off k cap es f xf hb hk bR hw hr=>exact one _ _ rfl (.Ml b off k cap es f xf hb hk bR hw hr)
theorem CS{m base:Nat}: ∀(ts:List TypeId) (vs:List Value) (ds:List (DataW H)) (ps:List MemPlace),(∀t∈ts,gE Q m t=true)->(∀(j:Nat) t v,ts[j]?=some t->vs[j]?=some v->Value.okWide Q w .any base t v)->
  DataW.TrodAll enc Q w 0 (λ_=>true) true ts vs ds ps-> ∀xs:List D,xs.length=vs.length->(∀(i:Nat) v x,vs[i]?=some v->xs[i]?=some x->aS (· <w.heap.size) w v x)->qB Q m ts xs->kr xs<=gF ds
 | [],vs,ds,ps,_,_,h,xs,hl,_,_=>by
  obtain⟨rfl,rfl,_⟩:=trodAll_nil h;have:xs=[]:=by simpa using hl
  subst this;simp[kr]
 |t::ts,vs,ds,ps,hp,my,h,xs,hl,hr,hf=>by
  obtain⟨v,vs',d,ds',p,q,rfl,rfl,rfl,h1,h2⟩:=trodAll_cons h
  match xs,hl,hf with
  |x::xs,hl,hf=>
   have ih:=CS ts vs' ds' q (λu hu=>hp u (by simp[hu])) (λj u v' hu hv=>my (j+1) u v' (by simpa using hu) (by simpa using hv)) h2 xs (by simpa using hl) (λi v x hv hx=>hr (i+1) v x (by simpa using hv) (by simpa using hx)) hf.2;have hx:=hr 0 v x rfl rfl;have iF:1+nK x<=fV d:=by obtain⟨n,hn⟩:=h1;have qim:sF w v.cells.toList x.cells:=KE hx;have:=Ph m n t _ _ x.cells hn (hp t (by simp)) qim hf.1.1;rwa [zG] at this
   simp only[kr,gF];omega
theorem uc{Q:Program}{kp:qV}(hm:Q.follows .mixedOrders=true){m:Nat}{f:FuncId}{fn:Func}(gg:Q.funcs[f]?=some fn)(cN:fn.body.isSome=true)(lG:(fn.name== "runtime.NumGoroutine")=false)
  {H:Type} {enc:TypeId×Value->H} {s:ChangeSpec} {apart fresh handsOn again:Bool} {tb:TypeId} (hl:laidOutB Q=true) (SZ: ∀t∈fn.params.toList,Q.readableRec t=true/\t<Q.types.size) (S3: ∀t∈fn.params.toList,gE Q m t=true) (Hs:s.vars=[]) (Ht:fn.resultTypes= #[tb]) (htb:Q.underlying tb=some .bool)
  {W:World} (hX:dw Q {W with drawn:=0} kp.X) {base:Nat} {args:Array Value} {ds gs:List (DataW H)} {before:List MemPlace} (hval: ∀(j:Nat) t v,fn.params[j]?=some t->args[j]?=some v->Value.okWide Q W .any base t v)
  (hW:DataW.Whole enc Q fn.params.toList s.vars apart W args.toList ds gs before) (yP: ∀ds:List (DataW H),ds.length=fn.params.toList.length->s.fn H ds={results:=[.lit (.bool true)],args:=ds})
  (cb: ∀xs,qB Q m fn.params.toList xs->kr xs<=gF ds-> ∃lf k R,fJ Q kp lf k f (xs.map P.d) []=some (.d (.bool true),R)):
  Calls Q f args W λe W'=> ∃v,e= .returned v/\s.post enc Q fn apart fresh handsOn again W args v W':=by
 obtain⟨p,q,hA,hV,_⟩:=id hW;have qdh: ∀(j:Nat) t v,fn.params.toList[j]?=some t->args.toList[j]?=some v->Value.okWide Q W .any base t v:=λj t v ht hv=>hval j t v (by simpa using ht) (by simpa using hv);obtain⟨xs,h1,h2,h3⟩:=Hr (Q:=Q) (w:=W) (base:=base) fn.params.toList args.toList ds p S3 qdh hA;have h4:=CS (Q:=Q) (w:=W) (base:=base) fn.params.toList args.toList ds p S3 qdh hA xs h1 h2 h3;obtain⟨lf,k,R,hR⟩:=cb xs h3 h4;have hc:=Ex hm gg cN lG hR hX (vs:=args.toList) h1 h2;refine hc.mono λe W' ⟨v,F',G',he,hp,hb⟩=>⟨v,he,?_⟩
 have:v= .bool true:=aH.cF (p:= .d (.bool true)) hp rfl;subst this;exact SY hl hb SZ Hs Ht htb (yP ds (wO _ _ _ _ hA)) hW
end
end Pi
