/- The text PiMk. -/
import Derived.Test.YtfelfooeclnbiaaPiEfOk4
import Derived.Laws.MakeOwn
namespace Pi
open Go
section
variable{Q:Program}{T:Tg}{F:Nat->Prop}{G:Nat->Value}{w:World}{a:Act}{s:S}
theorem wY{zc:Array Value}{n k i j:Nat}(hk:zc.size=k)(hj:j<k)(hn:i*k+j<n):(madeCells zc n).getD (i*k+j) undef=zc.getD j undef:=by
 have e:(i*k+j)%zc.size=j:=by rw[hk,zbM,Nat.mul_add_mod,Nat.mod_eq_of_lt hj]
 have yX:j<zc.size:=by omega
 simp[madeCells,Array.getD,hn,e,yX]
theorem iF{F:Nat->Prop}{w:World}{z:D}{zv:Value}{k l n:Nat}(hz:az F w zv z)(hl:z.cells.length=k)(hn:l*k<=n):iN F w (madeCells zv.cells n) k (List.replicate l z):=by
 obtain⟨c1,c2,c3⟩:=bR hz;have hs:zv.cells.size=k:=by rw[<-hl,<-c1];simp
 intro i x hx;rw[List.getElem?_replicate] at hx;split at hx
 next hi=>
  cases hx;refine⟨hl,c2,λj c hc=> ?_⟩;have hj:j<k:=by have:=(zaa.1 hc).1;omega
  have bA:i*k+j<n:=by
   calc i*k+j<i*k+k:=by omega
    _=(i+1)*k:=by rw[zaw,zaT]
    _<=l*k:=zag _ hi
    _<=n:=hn
  rw[wY hs hj bA];exact c3 j _ c (by simp_all) hc
 cases hx
theorem wZ(h:ar Q T F G w a s){dst:Option Nat}{t:TypeId}{p q:P}{s':S}(hs:jM Q s dst t p q=some s'){vx vy:Value}(hx:ao F w G s.rg vx p)(hy:ao F w G s.rg vy q):
  ∃v w' G',(Instr.makeSlice t vx vy).run Q w= .ok v w'/\ar Q T F G' w' (a.put dst v) s'/\Ext (Own G s.rg) (Own G' s'.rg) F F w w':=by
 unfold jM at hs;split at hs
 next e k1 l k2 c het=>
  have ht:=bJ het;split at hs
  next i k z hi hk hz=>
   obtain⟨i',_,lZ,_,cD⟩:=cL hk;rw[hi] at lZ;cases lZ;obtain⟨zv,tr,vM,wR⟩:=gg hi hz;split at hs
   ·rename_i cj;simp only[zac,zaI] at cj;obtain⟨oz,h0,rF,DF,hb⟩:=cj;have oz:z.cells.length=k+1:=by simpa using oz
    split at hs
    ·rename_i s1 v hn;cases hx with
     |d hx=>
      cases hx;cases hy with
      |d hy=>
       cases hy;have hr:=run_make (P:=Q) w t e i zv ht hi tr k1 k2 l c h0 rF hb DF;have hle:l.toNat<=c.toNat:=by omega
       obtain⟨h1,h2,h3,h4⟩:=eT h hn (g1:= .slice (some ⟨w.heap.size,0,none⟩) l.toNat c.toNat) (w':=w.alloc (.cells (madeCells zv.cells (c.toNat*i.size)) e))
        (λb hb=>heap_alloc_old w _ b hb) (by simp) rfl rfl rfl (λb hb=>by simp[aH,au] at hb;omega)
        (.inr ⟨w.heap.size,c.toNat,madeCells zv.cells (c.toNat*i.size),k+1,by rw[ax,zaC],heap_alloc_new w _,hk,by omega,by rw[zaC];exact hle,by simp only[maxLen];omega,
         by rw[size_madeCells,cD],by simp,iF (az.kq _ _ vM) oz (by simp_all [zag])⟩)
       obtain⟨c1,c2⟩:=bh h1 hs (v:= .slice (some ⟨w.heap.size,0,none⟩) l.toNat c.toNat) (bx.of (.sl (site dst) v l.toNat _ rfl ⟨_,h4,zaf _,λ_ _=>⟨_,l.toNat,c.toNat,ax _ _ _,rfl,zaf _⟩⟩));grind
    cases hs
   cases hs
  cases hs
 cases hs
theorem iN.set{F:Nat->Prop}{w:World}{cs:Array Value}{k i:Nat}{es:List D}{x:D}{v:Value}(hE:iN F w cs k es)(bM:cs.size=es.length*k)(hi:i<es.length)(hx:az F w v x)(hl:x.cells.length=k):
  ((v.cells.toList.zipIdx 0).foldl (λ(cs:Array Value) (x:Value×Nat)=>cs.setIfInBounds (i*k+x.2) x.1) cs).size=(es.set i x).length*k/\
  iN F w ((v.cells.toList.zipIdx 0).foldl (λ(cs:Array Value) (x:Value×Nat)=>cs.setIfInBounds (i*k+x.2) x.1) cs) k (es.set i x):=by
 obtain⟨c1,c2,c3⟩:=bR hx;have hle:i*k+k<=es.length*k:=by
  calc i*k+k=(i+1)*k:=by rw[zaw,zaT]
   _<=es.length*k:=zag _ hi
 obtain⟨h1,h2⟩:=pj (i*k) v.cells.toList 0 cs (by omega);refine⟨by rw[h1,bM,zaA],λi' y hy=> ?_⟩;by_cases he:i=i'
 ·grind
 rw[zbt he] at hy;obtain⟨g1,g2,g3⟩:=hE i' y hy;refine⟨g1,g2,λj c hc=> ?_⟩;have hj:j<k:=by have:=(zaa.1 hc).1;omega
 have dY: ¬(i*k+0<=i'*k+j/\i'*k+j<i*k+0+v.cells.toList.length):=by
  rcases zbx he with h |h
  ·have:(i+1)*k<=i'*k:=zag _ h;rw[zaw,zaT] at this;omega
  have:(i'+1)*k<=i*k:=zag _ h;rw[zaw,zaT] at this;omega
 grind
theorem hT{t:TypeId}{k:Nat}(hk:0<k): ∀(ps:List (Nat×P)) (vs:List (Nat×Value)) (s s':S) (es es':List D) (F:Nat->Prop) (cs:Array Value),ar Q T F G w a s->bf Q t k s es ps=some (s',es')->
  vs.length=ps.length->(∀(i:Nat) x y,vs[i]?=some x->ps[i]?=some y->x.1=y.1/\ao F w G s.rg x.2 y.2)->cs.size=es.length*k->iN F w cs k es->
  ∃F' fP,ar Q T F' G w a s'/\Ext (Own G s.rg) (Own G s'.rg) F F' w w/\es'.length=es.length/\fP.size=es'.length*k/\iN F' w fP k es'/\Instr.fill (λi=>some (i*k,k)) cs vs=some fP
 | [],vs,s,s',es,es',F,cs,h,hb,hl,_,bM,hE=>by
  obtain⟨rfl,rfl⟩:=hb;have:vs=[]:=by grind
  subst this;exact⟨F,cs,h,Ext.refl _ _ _,rfl,bM,hE,rfl⟩
 | (i,p)::ps,[],s,s',es,es',F,cs,h,hb,hl,_,bM,hE=>by simp at hl
 | (i,p)::ps,(i0,v)::vs,s,s',es,es',F,cs,h,hb,hl,hv,bM,hE=>by
  simp only[bf] at hb;split at hb
  next s1 x hf=>
   split at hb
   ·rename_i hc;simp only[zac] at hc;have AP:x.cells.length=k:=by simpa using hc.1
    have hi:i<es.length:=by simp_all
    obtain⟨e0,hp⟩:=hv 0 (i0,v) (i,p) rfl rfl;subst e0;obtain⟨F1,g1,g2,g3,g4,g5⟩:=lY h hf hp;have GY:iN F1 w cs k es:=hE.mono g4 (λ_ _=>rfl);obtain⟨m1,m2⟩:=GY.set bM hi g5 AP;obtain⟨F2,GZ,k1,k2,k3,k4,k5,k6⟩:=hT hk ps vs s1 s' _ es' F1 _ g1 hb (by grind) (λj x y hx hy=>by obtain⟨q1,q2⟩:=hv (j+1) x y (by grind) (by grind);exact⟨q1,q2.mono g4 (λ_ _=>rfl) g3⟩) m1 m2;refine⟨F2,GZ,k1,g2.trans k2,by rw[k3,zaA],k4,k5,?_⟩;have BT:v.cells.size=k:=by have:=(bR g5).1;grind
    have hle:i0*k+k<=cs.size:=by
     rw[bM]
     calc i0*k+k=(i0+1)*k:=by rw[zaw,zaT]
      _<=es.length*k:=zag _ hi
    have cj:(decide (v.cells.size≠k)||decide (i0*k+v.cells.size>cs.size))=false:=by simp;omega
    simp only[Instr.fill,cj,zaz,zbe];rw[<-k6];congr 1;rw[<-Array.foldl_toList];simp
   cases hb
  cases hb
theorem uI(h:ar Q T F G w a s){dst:Option Nat}{t:TypeId}{len:Nat}{ps:List (Nat×P)}{s':S}(hs:jj Q s dst t len ps=some s'){vs:Array (Nat×Value)}(hl:vs.toList.length=ps.length)
  (hv: ∀(i:Nat) x y,vs.toList[i]?=some x->ps[i]?=some y->x.1=y.1/\ao F w G s.rg x.2 y.2):
  ∃v w' F' G',(Instr.buildSlice t len vs).run Q w= .ok v w'/\ar Q T F' G' w' (a.put dst v) s'/\Ext (Own G s.rg) (Own G' s'.rg) F F' w w':=by
 unfold jj at hs;split at hs
 next e het=>
  have ht:=bJ het;split at hs
  next i k z hi hk hz=>
   obtain⟨i',_,lZ,_,cD⟩:=cL hk;rw[hi] at lZ;cases lZ;obtain⟨zv,tr,vM,wR⟩:=gg hi hz;split at hs
   ·rename_i cj;simp only[zac] at cj;obtain⟨⟨oz,w4⟩,pw⟩:=cj;have oz:z.cells.length=k+1:=by simpa using oz
    have w4:len*(k+1)<=16777216:=zbc w4;split at hs
    ·rename_i s1 es EC;split at hs
     ·rename_i s2 ay hn;have AU: ∃sk:Array Value,sk.size=(List.replicate len z).length*(k+1)/\iN F w sk (k+1) (List.replicate len z)/\((len*(k+1)=0/\sk= #[])\/(len*(k+1)≠0/\sk=madeCells zv.cells (len*(k+1)))):=by
       by_cases h0:len*(k+1)=0
       ·have:len=0:=by grind
        subst this;exact⟨#[],by simp,λi x hx=>by simp at hx,.inl ⟨h0,rfl⟩⟩
       exact⟨madeCells zv.cells (len*(k+1)),by rw[size_madeCells,zaC],iF (az.kq _ _ vM) oz (zaf _),.inr ⟨h0,rfl⟩⟩
      obtain⟨sk,q1,q2,q3⟩:=AU;obtain⟨F1,qe,g1,g2,g3,g4,g5,g6⟩:=hT (by omega) ps vs.toList s s1 _ es F sk h EC hl hv q1 q2;have hlen:es.length=len:=by rw[g3,zaC]
      obtain⟨h1,h2,h3,h4⟩:=eT g1 hn (g1:= .slice (some ⟨w.heap.size,0,none⟩) len len) (w':=w.alloc (.cells qe e))
       (λb hb=>heap_alloc_old w _ b hb) (by simp) rfl rfl rfl (λb hb=>by simp[aH,au] at hb;omega)
       (.inr ⟨w.heap.size,len,qe,k+1,by rw[ax,hlen],heap_alloc_new w _,hk,by omega,by omega,by simp only[maxLen];have:len<=len*(k+1):=Nat.le_mul_of_pos_right _ (by omega);omega,
        by rw[g4,hlen],by simp,g5.mono (λ_ h=>h) (λb hb=>heap_alloc_old w _ b (g1.gK b hb))⟩)
      obtain⟨c1,c2⟩:=bh h1 hs (v:= .slice (some ⟨w.heap.size,0,none⟩) len len) (bx.of (.sl (site dst) ay len _ rfl ⟨_,h4,zaf _,λ_ _=>⟨_,len,len,ax _ _ _,rfl,zaf _⟩⟩));refine⟨_,_,_,_,?_,c1,?_⟩
      ·have bM:(Go.sizeOf e).run Q w= .ok (k+1) w:=run_sizeOf hk w;unfold Instr.buildSlice;simp only[Sem.run_bind,run_underlying ht,Result.andThen_ok,bM];rw[zay (by omega)];rcases q3 with⟨h0,rfl⟩| ⟨h0,rfl⟩
       ·have e0:((Array.range (len*(k+1))).map λx=>(#[]:Array Value)[x%(#[]:Array Value).size]!)= #[]:=by rw[h0];simp
        rw[zau h0];simp only[Sem.run_bind,Sem.run_pure,Result.andThen_ok];rw[e0,g6];rfl
       have e0:((Array.range (len*(k+1))).map λx=>zv.cells[x%zv.cells.size]!)=madeCells zv.cells (len*(k+1)):=rfl;rw[zay h0];have nw:(zeroValue e).run Q w= .ok zv w:=by simp[zeroValue,typeInfo,hi,tr]
       simp only[Sem.run_bind,Sem.run_pure,Result.andThen_ok,nw];rw[e0,g6];rfl
      rw[c2];exact g2.trans h2
     cases hs
    cases hs
   cases hs
  cases hs
 cases hs
theorem jd{t:TypeId}{k:Nat}: ∀(ps:List (Nat×P)) (es es':List D),iz Q t k es ps=some es'-> ∀s:S,bf Q t k s es ps=some (s,es')
 | [],es,es',h,s=>by simp only[iz,zae] at h;subst h;rfl
 | (i,.d x)::r,es,es',h,s=>by
  have e:fU Q s t (.d x)=some (s,Dv Q t x):=by
   unfold fU Dv;cases iZ Q t with
   |false=>rfl
   |true=>show(Av Q t x).force (λy=>some (s,y))=_;rw[D.force_eq]
  simp only[iz] at h;split at h
  next hc=>simp only[bf,e,zau hc];exact jd r _ _ h s
  cases h
 | (_,.agg _)::_,_,_,h,_ | (_,.dW _)::_,_,_,h,_ | (_,.ref ..)::_,_,_,h,_ | (_,.bG ..)::_,_,_,h,_ | (_,.cl ..)::_,_,_,h,_ | (_,.sl ..)::_,_,_,h,_ | (_,.eZ ..)::_,_,_,h,_ | (_,.mp ..)::_,_,_,h,_ | (_,.fn ..)::_,_,_,h,_ | (_,.bad)::_,_,_,h,_ | (_,.when ..)::_,_,_,h,_=>by simp[iz] at h
theorem ar.grow(h:ar Q T F G w a s)(cs:Array Value)(e:TypeId):ar Q T (λb=>F b\/b=w.heap.size) G (w.alloc (.cells cs e)) a s/\Ext (Own G s.rg) (Own G s.rg) F (λb=>F b\/b=w.heap.size) w (w.alloc (.cells cs e)):=by
 have hk: ∀b,b<w.heap.size->(w.alloc (.cells cs e)).heap[b]?=w.heap[b]?:=λb hb=>heap_alloc_old w _ b hb;have bM:(w.alloc (.cells cs e)).heap.size=w.heap.size+1:=by simp
 have hx:Ext (Own G s.rg) (Own G s.rg) F (λb=>F b\/b=w.heap.size) w (w.alloc (.cells cs e)):=
  ⟨λ_=> .inl,λb hb=>hb.elim .inl λe=> .inr (.inr (by omega)),λ_=> .inl,λb hb _=>hk b hb,by omega,rfl,rfl,rfl⟩
 refine⟨⟨h.r4.go hx,h.size,λt p hp=>bx.mono (λ_=> .inl) (λb hb=>hk b (h.gK b hb)) (Names.refl _ _) (h.tm t p hp),λn e he=>(h.rg n e he).mono (λ_=> .inl) (λb hb=>hk b (h.gK b hb)) (Names.refl _ _) rfl (λb hb=>hk b ((h.rg n e he).lt hb)),h.own,
  λn e b he hb hf=>hf.elim (h.iO n e b he hb) λe'=> ?_,λb hb=> ?_,h.tag,λb hb=>⟨.inl (h.z b hb).1,(hk b (h.gK b (h.z b hb).1)).trans (h.z b hb).2⟩,h.dr,zaB h.sz hx.size⟩,hx⟩
 ·have:=(h.rg n e he).lt hb;omega
 rcases hb with hb |hb
 ·have:=h.gK b hb;omega
 omega
theorem w5(h:ar Q T F G w a s){t:TypeId}{len:Nat}{ps:List (Nat×P)}{p:P}(hs:n5 Q t len ps=some p){vs:Array (Nat×Value)}(hl:vs.toList.length=ps.length)
  (hv: ∀(i:Nat) x y,vs.toList[i]?=some x->ps[i]?=some y->x.1=y.1/\ao F w G s.rg x.2 y.2):
  ∃v w' F',(Instr.buildSlice t len vs).run Q w= .ok v w'/\ar Q T F' G w' a s/\ao F' w' G s.rg v p/\Ext (Own G s.rg) (Own G s.rg) F F' w w':=by
 unfold n5 at hs;split at hs
 next e het=>
  have ht:=bJ het;split at hs
  next i k z hi hk hz=>
   obtain⟨i',_,lZ,_,cD⟩:=cL hk;rw[hi] at lZ;cases lZ;obtain⟨zv,tr,vM,wR⟩:=gg hi hz;split at hs
   ·rename_i cj;simp only[zac] at cj;obtain⟨⟨oz,w4⟩,pw⟩:=cj;have oz:z.cells.length=k+1:=by simpa using oz
    have w4:len*(k+1)<=16777216:=zbc w4;split at hs
    ·rename_i es G4;cases hs;have EC:=jd _ _ _ G4 s;have AU: ∃sk:Array Value,sk.size=(List.replicate len z).length*(k+1)/\iN F w sk (k+1) (List.replicate len z)/\((len*(k+1)=0/\sk= #[])\/(len*(k+1)≠0/\sk=madeCells zv.cells (len*(k+1)))):=by
      by_cases h0:len*(k+1)=0
      ·have:len=0:=by grind
       subst this;exact⟨#[],by simp,λi x hx=>by simp at hx,.inl ⟨h0,rfl⟩⟩
      exact⟨madeCells zv.cells (len*(k+1)),by rw[size_madeCells,zaC],iF (az.kq _ _ vM) oz (zaf _),.inr ⟨h0,rfl⟩⟩
     obtain⟨sk,q1,q2,q3⟩:=AU;obtain⟨F1,qe,g1,g2,g3,g4,g5,g6⟩:=hT (by omega) ps vs.toList s s _ es F sk h EC hl hv q1 q2;have hlen:es.length=len:=by rw[g3,zaC]
     obtain⟨h1,h2⟩:=g1.grow qe e;have hE:iN (λb=>F1 b\/b=w.heap.size) (w.alloc (.cells qe e)) qe (k+1) es:=g5.mono (λ_=> .inl) (λb hb=>heap_alloc_old w _ b (g1.gK b hb));refine⟨.slice (some ⟨w.heap.size,0,none⟩) len len,_,_,?_,h1,?_,g2.trans h2⟩
     ·have bM:(Go.sizeOf e).run Q w= .ok (k+1) w:=run_sizeOf hk w;unfold Instr.buildSlice;simp only[Sem.run_bind,run_underlying ht,Result.andThen_ok,bM];rw[zay (by omega)];rcases q3 with⟨h0,rfl⟩| ⟨h0,rfl⟩
      ·have e0:((Array.range (len*(k+1))).map λx=>(#[]:Array Value)[x%(#[]:Array Value).size]!)= #[]:=by rw[h0];simp
       rw[zau h0];simp only[Sem.run_bind,Sem.run_pure,Result.andThen_ok];rw[e0,g6];rfl
      have e0:((Array.range (len*(k+1))).map λx=>zv.cells[x%zv.cells.size]!)=madeCells zv.cells (len*(k+1)):=rfl;rw[zay h0];have nw:(zeroValue e).run Q w= .ok zv w:=by simp[zeroValue,typeInfo,hi,tr]
      simp only[Sem.run_bind,Sem.run_pure,Result.andThen_ok,nw];rw[e0,g6];rfl
     refine .d ?_;have aP: ∀j,j<es.length*(k+1)->(w.alloc (.cells qe e)).cell? ⟨w.heap.size,0+j,none⟩=some (qe.getD j undef):=λj hj=>by simp_all
     have:=az.vI (F:=λb=>F1 b\/b=w.heap.size) (w:=w.alloc (.cells qe e)) w.heap.size 0 (k+1) len es (λj=>qe.getD j undef) (by omega) (.inr rfl)
      (λx hx=>by obtain⟨i,hi,rfl⟩:=zaU hx;exact(hE i _ (zad hi)).1) (λx hx=>by obtain⟨i,hi,rfl⟩:=zaU hx;exact(hE i _ (zad hi)).2.1) aP (λi j x c hx hc=>(hE i x hx).2.2 j c hc)
     rwa [hlen] at this
    cases hs
   cases hs
  cases hs
 cases hs
theorem pz{t tx ty e:TypeId}{i:TypeInfo}(ht:Q.underlying t=some (.slice e))(hi:Q.info? e=some i){b dLen dCap:Nat}{cur:Array Value}(hg:w.heap[b]?=some (.cells cur e (0,0))){x:Value}{n:Nat}{news:List Value}(hs:Src Q i.size tx x n news w)
  (hn:n<=dLen) (qB:news.length<=cur.size):
  (Builtin.copy_ #[t,tx] ty #[.slice (some ⟨b,0,none⟩) dLen dCap,x]).run Q w= .ok (goInt n) (w.setRow b (news++cur.toList.drop news.length).toArray):=by
 have gH:=run_storeCells_at Q b 0 e news 0 cur w hg (by grind) hs.one;have hm:Nat.min n dLen=n:=zb7 hn;simp[Builtin.copy_,run_underlying ht,Go.sizeOf,typeInfo,hi,hs.len,hm,hs.cells,gH]
theorem run_copy_none{t tx ty e:TypeId}{i:TypeInfo}(ht:Q.underlying t=some (.slice e))(hi:Q.info? e=some i){dLen dCap:Nat}{x:Value}(hs:Src Q i.size tx x 0 [] w):
  (Builtin.copy_ #[t,tx] ty #[.slice none dLen dCap,x]).run Q w= .ok (goInt 0) w:=by
 have hm:Nat.min 0 dLen=0:=Nat.zero_min _;simp[Builtin.copy_,run_underlying ht,Go.sizeOf,typeInfo,hi,hs.len,hm,hs.cells]
theorem w6(h:ar Q T F G w a s){dst:Option Nat}{t t2 ty:TypeId}{p q:P}{s':S}(hs:jN Q s dst t t2 p q=some s'){vx vy:Value}(hx:ao F w G s.rg vx p)(hy:ao F w G s.rg vy q):
  ∃v w' G',(Builtin.copy_ #[t,t2] ty #[vx,vy]).run Q w= .ok v w'/\ar Q T F G' w' (a.put dst v) s'/\Ext (Own G s.rg) (Own G' s'.rg) F F w w':=by
 unfold jN at hs;split at hs
 next e n ay len het=>
  have ht:=bJ het;split at hs
  next k hk=>
   obtain⟨i,_,hi,_,cD⟩:=cL hk;split at hs
   ·rename_i ys ty' es BS ho;split at hs
    ·rename_i hc;simp only[zac,zaI] at hc;obtain⟨r7,hle,DE⟩:=hc;have r7:ty'=e:=by simpa using r7
     subst r7;obtain⟨en,dZ,bP,aO⟩:=S.aJ ho;obtain⟨news,nP,jt⟩:=py h (by omega) BS hy;have Ac:Src Q i.size t2 vy ys.length news w:=by rw[cD];exact nP
     rw[S.cT dZ] at hs;have df:gx G s.rg n ⟨en.ay,en.tag,.arr ty' false (ys++es.drop ys.length)⟩ (G n):=λe' bb=>by rw[dZ] at bb;cases bb;exact .inr ⟨rfl,λ_=>⟨by rw[aO];rfl,rfl⟩⟩
     have fin: ∀(w':World) (v:Value),(Builtin.copy_ #[t,t2] ty #[vx,vy]).run Q w= .ok v w'->v= .int .i64 ys.length->(∀b,b<w.heap.size-> ¬(∃e,lk s.rg n=some e/\aH (G n) e.obj=some b)->w'.heap[b]?=w.heap[b]?)->
       w.heap.size<=w'.heap.size->w'.os=w.os->w'.tape=w.tape->w'.output=w.output->gY Q F w' G (ins n ⟨en.ay,en.tag,.arr ty' false (ys++es.drop ys.length)⟩ s.rg) n (.arr ty' false (ys++es.drop ys.length))->
       ∃v w' G',(Builtin.copy_ #[t,t2] ty #[vx,vy]).run Q w= .ok v w'/\ar Q T F G' w' (a.put dst v) s'/\Ext (Own G s.rg) (Own G' s'.rg) F F w w':=by
      intro w' v a8 hv ca bM yP ED mv w7;obtain⟨d1,d2⟩:=h.gL (n:=n) (e1:=⟨en.ay,en.tag,.arr ty' false (ys++es.drop ys.length)⟩) (g1:=G n) (w':=w') (hdr:=iE _ a8) df ca bM yP ED mv
       (λb hb=> .inr ⟨en,dZ,by rw[aO];exact hb⟩) (by rw[aN];exact w7) (λi lZ _=>h.tag n en i dZ lZ (by rw[aO];rfl))
      obtain⟨c1,c2⟩:=bh d1 hs (v:= .int .i64 ys.length) (bx.of (.d (.int .i64 ys.length)));grind
     have hO:=h.rg n en dZ;rw[aO] at hO;cases hx with
     |sl _ _ _ _ h1 hr=>
      obtain⟨a0,N,cap,hG,rfl,EB⟩:=hr.at dZ bP (by rw[aO];rfl);rcases hO with⟨hg,rfl⟩| ⟨b,dS,cs,k',hg,hh,ga,yV,rF,nx,bM,_,hE⟩
      ·rw[hG] at hg;obtain⟨rfl,rfl,rfl⟩:=hg;have h0:ys=[]:=zar (by omega);subst h0;have Ct:news=[]:=by have:=jt.1;simpa using this
       subst Ct;exact fin w _ (run_copy_none ht hi Ac) rfl (λ_ _ _=>rfl) (zaf _) rfl rfl rfl (.inl ⟨hG,by simp⟩)
      rw[hk] at ga;cases ga;rw[hG] at hg;obtain⟨rfl,rfl,rfl⟩:=hg;have yJ:ys.length<=es.length:=by omega
      have yU:news.length=ys.length*(k+1):=jt.1;have qB:news.length<=cs.size:=by rw[yU,bM];exact zag _ (by omega)
      have a8:=pz (ty:=ty) (dLen:=len) (dCap:=cap) ht hi hh Ac DE qB;have j9:(ys++es.drop ys.length).length=es.length:=by rw[zaG,zaF];omega
      have cA:aH (G n) en.obj=some b:=by rw[aO,hG];rfl
      have yT: ¬F b:=h.iO n en b dZ cA;have EE: ∀c,F c->(w.setRow b (news++cs.toList.drop news.length).toArray).heap[c]?=w.heap[c]?:=λc hc=>setRow_other w b c _ (λe=>yT (e▸hc));refine fin _ _ a8 rfl (λc _ dY=>setRow_other w b c _ (λe'=>dY ⟨en,dZ,by rw[e'];exact cA⟩)) (by simp) rfl rfl rfl
       (.inr ⟨b,cap,_,k+1,by rw[j9];exact hG,setRow_heap w b cs _ ty' _ hh,hk,by omega,by rw[j9];exact rF,nx,?_,by simp,?_⟩)
      ·skip
       grind
      refine bT.Ey ?_;rw[j9];have hf:=(bT.take hE (zaf _) (by simp_all [zag])).drop ys.length;rw[zb5] at hf;have e1:((news++cs.toList.drop news.length).toArray.toList.take (es.length*(k+1)))=news++(cs.toList.take (es.length*(k+1))).drop (ys.length*(k+1)):=by rw[List.take_append,zaD (by simp_all [zag]),yU,zbO]
      rw[e1];exact(jt.append hf).mono (λ_ h=>h) EE
     |_=>rename_i hd;cases hd
    cases hs
   cases hs
  cases hs
 cases hs
theorem uJ{F:Nat->Prop}{w:World}{z:D}{zv:Value}{k l:Nat}(hz:az F w zv z)(hl:z.cells.length=k):bT F w k (List.replicate l z) (Builtin.zeroCells zv.cells l).toList:=by
 obtain⟨c1,c2,c3⟩:=bR hz;have hs:zv.cells.size=k:=by rw[<-hl,<-c1];simp
 have hE:=iF (l:=l) (n:=l*k) hz hl (zaf _);have bM:(madeCells zv.cells (l*k)).size=l*k:=by simp[size_madeCells]
 have hf:=bT.take (len:=l) hE (by simp) (by rw[zaC,bM];simp);have e1:(List.replicate l z).take l=List.replicate l z:=zaD (by simp);have e2:(Builtin.zeroCells zv.cells l).toList=(madeCells zv.cells (l*k)).toList.take (l*k):=by rw[zaD (by grind)];unfold Builtin.zeroCells madeCells;rw[hs]
 rw[e1] at hf;rw[e2];exact hf
theorem uK(h:ar Q T F G w a s){dst:Option Nat}{t ty:TypeId}{p:P}{s':S}(hs:fV Q s dst t p=some s'){vx:Value}(hx:ao F w G s.rg vx p):
  ∃v w' G',(Builtin.clear_ #[t] ty #[vx]).run Q w= .ok v w'/\ar Q T F G' w' (a.put dst v) s'/\Ext (Own G s.rg) (Own G' s'.rg) F F w w':=by
 unfold fV at hs;split at hs
 next e n ay k0 off len het=>
  have ht:=bJ het;split at hs
  next k z ty' es hk hz ho=>
   obtain⟨i,_,hi,_,cD⟩:=cL hk;split at hs
   ·rename_i hc;simp only[zac,zaI] at hc;obtain⟨⟨⟨r7,dT⟩,oz⟩,G5⟩:=hc;have r7:ty'=e:=zab r7;have dT:k0=k+1:=zab dT;have oz:z.cells.length=k+1:=zab oz;subst r7 dT;obtain⟨en,dZ,bP,aO⟩:=S.aJ ho;obtain⟨zv,nw,qd⟩:=hD hz w;rw[S.cT dZ] at hs;generalize AV:es.take off++List.replicate len z++es.drop (off+len)=es' at hs;have j9:es'.length=es.length:=by rw[<-AV];simp;omega
    have df:gx G s.rg n ⟨en.ay,en.tag,.arr ty' false es'⟩ (G n):=λe' bb=>by rw[dZ] at bb;cases bb;exact .inr ⟨rfl,λ_=>⟨by rw[aO];rfl,rfl⟩⟩
    have fin: ∀(w':World),(Builtin.clear_ #[t] ty #[vx]).run Q w= .ok (.tuple #[]) w'->(∀b,b<w.heap.size-> ¬(∃e,lk s.rg n=some e/\aH (G n) e.obj=some b)->w'.heap[b]?=w.heap[b]?)->
      w.heap.size<=w'.heap.size->w'.os=w.os->w'.tape=w.tape->w'.output=w.output->gY Q F w' G (ins n ⟨en.ay,en.tag,.arr ty' false es'⟩ s.rg) n (.arr ty' false es')->
      ∃v w' G',(Builtin.clear_ #[t] ty #[vx]).run Q w= .ok v w'/\ar Q T F G' w' (a.put dst v) s'/\Ext (Own G s.rg) (Own G' s'.rg) F F w w':=by
     intro w' a8 ca bM yP ED mv w7;obtain⟨d1,d2⟩:=h.gL (n:=n) (e1:=⟨en.ay,en.tag,.arr ty' false es'⟩) (g1:=G n) (w':=w') (hdr:=iE _ a8) df ca bM yP ED mv
      (λb hb=> .inr ⟨en,dZ,by rw[aO];exact hb⟩) (by rw[aN];exact w7) (λi lZ _=>h.tag n en i dZ lZ (by rw[aO];rfl))
     obtain⟨c1,c2⟩:=bh d1 hs (v:= .tuple #[]) (bx.of (.bad _));grind
    have hO:=h.rg n en dZ;rw[aO] at hO;cases hx with
    |eZ _ _ _ _ _ _ h1 hr=>
     obtain⟨a0,N,cap,hG,hle,a1,iP,rfl,wD,H5⟩:=hr.at dZ bP (by rw[aO];rfl);by_cases h0:len=0
     ·subst h0;have e0:es'=es:=by rw[<-AV];simp
      subst e0;refine fin w ?_ (λ_ _ _=>rfl) (zaf _) rfl rfl rfl ?_
      ·cases a1<;>simp[Builtin.clear_,run_underlying ht]
      exact hO
     obtain⟨b0,AB,wE⟩: ∃b,a0=some ⟨b,0,none⟩/\a1=some ⟨b,off*(k+1),none⟩:=by grind
     subst AB wE;rcases hO with⟨hg,rfl⟩| ⟨b,dS,cs,k',hg,hh,ga,yV,rF,nx,bM,_,hE⟩
     ·rw[hG] at hg;simp at hg
     rw[hk] at ga;cases ga;rw[hG] at hg;obtain⟨rfl,rfl,rfl⟩:=hg;have vL:=uJ (l:=len) qd oz;have yU:(Builtin.zeroCells zv.cells len).toList.length=len*(k+1):=by have:=vL.1;grind
     have hole:off*(k+1)+len*(k+1)<=es.length*(k+1):=by rw[<-zaw];simp_all [zag]
     have G6:es.length*(k+1)<=cs.size:=by simp_all [zag]
     have gH:=run_storeCells_at Q b0 (off*(k+1)) ty' (Builtin.zeroCells zv.cells len).toList 0 cs w hh (by omega) (vL.one (by omega));simp only[zbj,yU] at gH;have a8:(Builtin.clear_ #[t] ty #[.slice (some ⟨b0,off*(k+1),none⟩) len iP]).run Q w= .ok (.tuple #[]) (w.setRow b0 (cs.toList.take (off*(k+1))++(Builtin.zeroCells zv.cells len).toList++cs.toList.drop (off*(k+1)+len*(k+1))).toArray):=by simp[Builtin.clear_,run_underlying ht,nw,gH]
     have cA:aH (G n) en.obj=some b0:=by rw[aO,hG];rfl
     have yT: ¬F b0:=h.iO n en b0 dZ cA;have EE: ∀c,F c->(w.setRow b0 (cs.toList.take (off*(k+1))++(Builtin.zeroCells zv.cells len).toList++cs.toList.drop (off*(k+1)+len*(k+1))).toArray).heap[c]?=w.heap[c]?:=λc hc=>setRow_other w b0 c _ (λe=>yT (e▸hc));refine fin _ a8 (λc _ dY=>setRow_other w b0 c _ (λe'=>dY ⟨en,dZ,by rw[e'];exact cA⟩)) (by simp) rfl rfl rfl
      (.inr ⟨b0,cap,_,k+1,by rw[j9];exact hG,setRow_heap w b0 cs _ ty' _ hh,hk,by omega,by rw[j9];exact rF,nx,?_,by simp,?_⟩)
     ·skip
      grind
     refine bT.Ey ?_;rw[j9,<-AV];have f1:=bT.take (len:=off) hE (by omega) (by grind);have f3:=(bT.take hE (zaf _) (by grind)).drop (off+len);rw[zb5] at f3;have e1:((cs.toList.take (off*(k+1))++(Builtin.zeroCells zv.cells len).toList++cs.toList.drop (off*(k+1)+len*(k+1))).toArray.toList.take (es.length*(k+1)))=cs.toList.take (off*(k+1))++(Builtin.zeroCells zv.cells len).toList++(cs.toList.take (es.length*(k+1))).drop ((off+len)*(k+1)):=by
      have l1:(cs.toList.take (off*(k+1))).length=off*(k+1):=by simp;omega
      rw[List.take_append,zaD (by rw[zaG,l1,yU];exact hole),zaG,l1,yU,zbO,zaw]
     rw[e1];exact((f1.append vL).append f3).mono (λ_ h=>h) EE
    |_=>rename_i hd;cases hd
   cases hs
  cases hs
 cases hs
end
end Pi
