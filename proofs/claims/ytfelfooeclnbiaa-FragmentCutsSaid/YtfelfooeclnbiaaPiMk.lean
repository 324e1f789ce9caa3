/- The text PiMk. -/
import Derived.Test.YtfelfooeclnbiaaPiEfOk4
import Derived.Laws.MakeOwn
namespace Pi
open Go
section
variable{Q:Program}{T:Tg}{F:Nat->Prop}{G:Nat->Value}{w:World}{a:Act}{s:S}
theorem vz{zc:Array Value}{n k i j:Nat}(hk:zc.size=k)(hj:j<k)(hn:i*k+j<n):(madeCells zc n).getD (i*k+j) undef=zc.getD j undef:=by
 have e:(i*k+j)%zc.size=j:=by rw[hk,zbi,Nat.mul_add_mod,Nat.mod_eq_of_lt hj]
 have xi:j<zc.size:=by omega
 simp[madeCells,Array.getD,hn,e,xi]
theorem hY{F:Nat->Prop}{w:World}{z:D}{zv:Value}{k l n:Nat}(hz:ay F w zv z)(hl:z.cells.length=k)(hn:l*k<=n):fj F w (madeCells zv.cells n) k (List.replicate l z):=by
 obtain⟨c1,c2,c3⟩:=bG hz;have hs:zv.cells.size=k:=by rw[<-hl,<-c1];simp
 intro i x hx;rw[List.getElem?_replicate] at hx;split at hx
 next hi=>
  cases hx;refine⟨hl,c2,λj c hc=> ?_⟩;have hj:j<k:=by have:=(zaa.1 hc).1;omega
  have bm:i*k+j<n:=by
   calc i*k+j<i*k+k:=by omega
    _=(i+1)*k:=by rw[zas,zaI]
    _<=l*k:=zaf _ hi
    _<=n:=hn
  rw[vz hs hj bm];exact c3 j _ c (by simp_all) hc
 cases hx
theorem vA(h:ar Q T F G w a s){dst:Option Nat}{t:TypeId}{p q:P}{s':S}(hs:jj Q s dst t p q=some s'){vx vy:Value}(hx:ao F w G s.rg vx p)(hy:ao F w G s.rg vy q):
  ∃v w' G',(Instr.makeSlice t vx vy).run Q w= .ok v w'/\ar Q T F G' w' (a.put dst v) s'/\Ext (Own G s.rg) (Own G' s'.rg) F F w w':=by
 unfold jj at hs;split at hs
 next e k1 l k2 c het=>
  have ht:=bx het;split at hs
  next i k z hi hk hz=>
   obtain⟨i',_,lq,_,cn⟩:=cy hk;rw[hi] at lq;cases lq;obtain⟨zv,sc,uo,tf⟩:=fO hi hz;split at hs
   ·rename_i bR;simp only[zad,zaH] at bR;obtain⟨nF,h0,qF,Bo,hb⟩:=bR;have nF:z.cells.length=k+1:=by simpa using nF
    split at hs
    ·rename_i s1 v hn;cases hx with
     |d hx=>
      cases hx;cases hy with
      |d hy=>
       cases hy;have hr:=run_make (P:=Q) w t e i zv ht hi sc k1 k2 l c h0 qF hb Bo;have hle:l.toNat<=c.toNat:=by omega
       obtain⟨h1,h2,h3,h4⟩:=eE h hn (g1:= .slice (some ⟨w.heap.size,0,none⟩) l.toNat c.toNat) (w':=w.alloc (.cells (madeCells zv.cells (c.toNat*i.size)) e))
        (λb hb=>heap_alloc_old w _ b hb) (by simp) rfl rfl rfl (λb hb=>by simp[aD,au] at hb;omega)
        (.inr ⟨w.heap.size,c.toNat,madeCells zv.cells (c.toNat*i.size),k+1,by rw[ax,zaM],heap_alloc_new w _,hk,by omega,by rw[zaM];exact hle,by simp only[maxLen];omega,
         by rw[size_madeCells,cn],by simp,hY (ay.jK _ _ uo) nF (by simp_all [zaf])⟩)
       obtain⟨c1,c2⟩:=a7 h1 hs (v:= .slice (some ⟨w.heap.size,0,none⟩) l.toNat c.toNat) (bj.of (.sl (site dst) v l.toNat _ rfl ⟨_,h4,zag _,λ_ _=>⟨_,l.toNat,c.toNat,ax _ _ _,rfl,zag _⟩⟩));grind
    cases hs
   cases hs
  cases hs
 cases hs
theorem fj.set{F:Nat->Prop}{w:World}{cs:Array Value}{k i:Nat}{es:List D}{x:D}{v:Value}(hE:fj F w cs k es)(bn:cs.size=es.length*k)(hi:i<es.length)(hx:ay F w v x)(hl:x.cells.length=k):
  ((v.cells.toList.zipIdx 0).foldl (λ(cs:Array Value) (x:Value×Nat)=>cs.setIfInBounds (i*k+x.2) x.1) cs).size=(es.set i x).length*k/\
  fj F w ((v.cells.toList.zipIdx 0).foldl (λ(cs:Array Value) (x:Value×Nat)=>cs.setIfInBounds (i*k+x.2) x.1) cs) k (es.set i x):=by
 obtain⟨c1,c2,c3⟩:=bG hx;have hle:i*k+k<=es.length*k:=by
  calc i*k+k=(i+1)*k:=by rw[zas,zaI]
   _<=es.length*k:=zaf _ hi
 obtain⟨h1,h2⟩:=ow (i*k) v.cells.toList 0 cs (by omega);refine⟨by rw[h1,bn,zbA],λi' y hy=> ?_⟩;by_cases he:i=i'
 ·grind
 rw[zbl he] at hy;obtain⟨g1,g2,g3⟩:=hE i' y hy;refine⟨g1,g2,λj c hc=> ?_⟩;have hj:j<k:=by have:=(zaa.1 hc).1;omega
 have dH: ¬(i*k+0<=i'*k+j/\i'*k+j<i*k+0+v.cells.toList.length):=by
  rcases zbp he with h |h
  ·have:(i+1)*k<=i'*k:=zaf _ h;rw[zas,zaI] at this;omega
  have:(i'+1)*k<=i*k:=zaf _ h;rw[zas,zaI] at this;omega
 grind
theorem gN{t:TypeId}{k:Nat}(hk:0<k): ∀(ps:List (Nat×P)) (vs:List (Nat×Value)) (s s':S) (es es':List D) (F:Nat->Prop) (cs:Array Value),ar Q T F G w a s->aY Q t k s es ps=some (s',es')->
  vs.length=ps.length->(∀(i:Nat) x y,vs[i]?=some x->ps[i]?=some y->x.1=y.1/\ao F w G s.rg x.2 y.2)->cs.size=es.length*k->fj F w cs k es->
  ∃F' eJ,ar Q T F' G w a s'/\Ext (Own G s.rg) (Own G s'.rg) F F' w w/\es'.length=es.length/\eJ.size=es'.length*k/\fj F' w eJ k es'/\Instr.fill (λi=>some (i*k,k)) cs vs=some eJ
 | [],vs,s,s',es,es',F,cs,h,hb,hl,_,bn,hE=>by
  obtain⟨rfl,rfl⟩:=hb;have:vs=[]:=by grind
  subst this;exact⟨F,cs,h,Ext.refl _ _ _,rfl,bn,hE,rfl⟩
 | (i,p)::ps,[],s,s',es,es',F,cs,h,hb,hl,_,bn,hE=>by simp at hl
 | (i,p)::ps,(i0,v)::vs,s,s',es,es',F,cs,h,hb,hl,hv,bn,hE=>by
  simp only[aY] at hb;split at hb
  next s1 x hf=>
   split at hb
   ·rename_i hc;simp only[zad] at hc;have yK:x.cells.length=k:=by simpa using hc.1
    have hi:i<es.length:=by simp_all
    obtain⟨e0,hp⟩:=hv 0 (i0,v) (i,p) rfl rfl;subst e0;obtain⟨F1,g1,g2,g3,g4,g5⟩:=lp h hf hp;have DO:fj F1 w cs k es:=hE.mono g4 (λ_ _=>rfl);obtain⟨m1,m2⟩:=DO.set bn hi g5 yK;obtain⟨F2,DP,k1,k2,k3,k4,k5,k6⟩:=gN hk ps vs s1 s' _ es' F1 _ g1 hb (by grind) (λj x y hx hy=>by obtain⟨q1,q2⟩:=hv (j+1) x y (by grind) (by grind);exact⟨q1,q2.mono g4 (λ_ _=>rfl) g3⟩) m1 m2;refine⟨F2,DP,k1,g2.trans k2,by rw[k3,zbA],k4,k5,?_⟩;have yO:v.cells.size=k:=by have:=(bG g5).1;grind
    have hle:i0*k+k<=cs.size:=by
     rw[bn]
     calc i0*k+k=(i0+1)*k:=by rw[zas,zaI]
      _<=es.length*k:=zaf _ hi
    have bR:(decide (v.cells.size≠k)||decide (i0*k+v.cells.size>cs.size))=false:=by simp;omega
    simp only[Instr.fill,bR,zaw,za6];rw[<-k6];congr 1;rw[<-Array.foldl_toList];simp
   cases hb
  cases hb
theorem tj(h:ar Q T F G w a s){dst:Option Nat}{t:TypeId}{len:Nat}{ps:List (Nat×P)}{s':S}(hs:iJ Q s dst t len ps=some s'){vs:Array (Nat×Value)}(hl:vs.toList.length=ps.length)
  (hv: ∀(i:Nat) x y,vs.toList[i]?=some x->ps[i]?=some y->x.1=y.1/\ao F w G s.rg x.2 y.2):
  ∃v w' F' G',(Instr.buildSlice t len vs).run Q w= .ok v w'/\ar Q T F' G' w' (a.put dst v) s'/\Ext (Own G s.rg) (Own G' s'.rg) F F' w w':=by
 unfold iJ at hs;split at hs
 next e het=>
  have ht:=bx het;split at hs
  next i k z hi hk hz=>
   obtain⟨i',_,lq,_,cn⟩:=cy hk;rw[hi] at lq;cases lq;obtain⟨zv,sc,uo,tf⟩:=fO hi hz;split at hs
   ·rename_i bR;simp only[zad] at bR;obtain⟨⟨nF,vB⟩,oD⟩:=bR;have nF:z.cells.length=k+1:=by simpa using nF
    have vB:len*(k+1)<=16777216:=za3 vB;split at hs
    ·rename_i s1 es BY;split at hs
     ·rename_i s2 aw hn;have yP: ∃ri:Array Value,ri.size=(List.replicate len z).length*(k+1)/\fj F w ri (k+1) (List.replicate len z)/\((len*(k+1)=0/\ri= #[])\/(len*(k+1)≠0/\ri=madeCells zv.cells (len*(k+1)))):=by
       by_cases h0:len*(k+1)=0
       ·have:len=0:=by grind
        subst this;exact⟨#[],by simp,λi x hx=>by simp at hx,.inl ⟨h0,rfl⟩⟩
       exact⟨madeCells zv.cells (len*(k+1)),by rw[size_madeCells,zaM],hY (ay.jK _ _ uo) nF (zag _),.inr ⟨h0,rfl⟩⟩
      obtain⟨ri,q1,q2,q3⟩:=yP;obtain⟨F1,pj,g1,g2,g3,g4,g5,g6⟩:=gN (by omega) ps vs.toList s s1 _ es F ri h BY hl hv q1 q2;have hlen:es.length=len:=by rw[g3,zaM]
      obtain⟨h1,h2,h3,h4⟩:=eE g1 hn (g1:= .slice (some ⟨w.heap.size,0,none⟩) len len) (w':=w.alloc (.cells pj e))
       (λb hb=>heap_alloc_old w _ b hb) (by simp) rfl rfl rfl (λb hb=>by simp[aD,au] at hb;omega)
       (.inr ⟨w.heap.size,len,pj,k+1,by rw[ax,hlen],heap_alloc_new w _,hk,by omega,by omega,by simp only[maxLen];have:len<=len*(k+1):=Nat.le_mul_of_pos_right _ (by omega);omega,
        by rw[g4,hlen],by simp,g5.mono (λ_ h=>h) (λb hb=>heap_alloc_old w _ b (g1.fL b hb))⟩)
      obtain⟨c1,c2⟩:=a7 h1 hs (v:= .slice (some ⟨w.heap.size,0,none⟩) len len) (bj.of (.sl (site dst) aw len _ rfl ⟨_,h4,zag _,λ_ _=>⟨_,len,len,ax _ _ _,rfl,zag _⟩⟩));refine⟨_,_,_,_,?_,c1,?_⟩
      ·have bn:(Go.sizeOf e).run Q w= .ok (k+1) w:=run_sizeOf hk w;unfold Instr.buildSlice;simp only[Sem.run_bind,run_underlying ht,Result.andThen_ok,bn];rw[zaB (by omega)];rcases q3 with⟨h0,rfl⟩| ⟨h0,rfl⟩
       ·have e0:((Array.range (len*(k+1))).map λx=>(#[]:Array Value)[x%(#[]:Array Value).size]!)= #[]:=by rw[h0];simp
        rw[zax h0];simp only[Sem.run_bind,Sem.run_pure,Result.andThen_ok];rw[e0,g6];rfl
       have e0:((Array.range (len*(k+1))).map λx=>zv.cells[x%zv.cells.size]!)=madeCells zv.cells (len*(k+1)):=rfl;rw[zaB h0];have mI:(zeroValue e).run Q w= .ok zv w:=by simp[zeroValue,typeInfo,hi,sc]
       simp only[Sem.run_bind,Sem.run_pure,Result.andThen_ok,mI];rw[e0,g6];rfl
      rw[c2];exact g2.trans h2
     cases hs
    cases hs
   cases hs
  cases hs
 cases hs
theorem iz{t:TypeId}{k:Nat}: ∀(ps:List (Nat×P)) (es es':List D),hJ Q t k es ps=some es'-> ∀s:S,aY Q t k s es ps=some (s,es')
 | [],es,es',h,s=>by simp only[hJ,zae] at h;subst h;rfl
 | (i,.d x)::r,es,es',h,s=>by
  have e:fE Q s t (.d x)=some (s,Bf Q t x):=by
   unfold fE Bf;cases iv Q t with
   |false=>rfl
   |true=>show(yu Q t x).force (λy=>some (s,y))=_;rw[D.force_eq]
  simp only[hJ] at h;split at h
  next hc=>simp only[aY,e,zax hc];exact iz r _ _ h s
  cases h
 | (_,.agg _)::_,_,_,h,_ | (_,.dR _)::_,_,_,h,_ | (_,.ref ..)::_,_,_,h,_ | (_,.bs ..)::_,_,_,h,_ | (_,.bT ..)::_,_,_,h,_ | (_,.sl ..)::_,_,_,h,_ | (_,.eL ..)::_,_,_,h,_ | (_,.mp ..)::_,_,_,h,_ | (_,.fn ..)::_,_,_,h,_ | (_,.bad)::_,_,_,h,_ | (_,.when ..)::_,_,_,h,_=>by simp[hJ] at h
theorem ar.grow(h:ar Q T F G w a s)(cs:Array Value)(e:TypeId):ar Q T (λb=>F b\/b=w.heap.size) G (w.alloc (.cells cs e)) a s/\Ext (Own G s.rg) (Own G s.rg) F (λb=>F b\/b=w.heap.size) w (w.alloc (.cells cs e)):=by
 have hk: ∀b,b<w.heap.size->(w.alloc (.cells cs e)).heap[b]?=w.heap[b]?:=λb hb=>heap_alloc_old w _ b hb;have bn:(w.alloc (.cells cs e)).heap.size=w.heap.size+1:=by simp
 have hx:Ext (Own G s.rg) (Own G s.rg) F (λb=>F b\/b=w.heap.size) w (w.alloc (.cells cs e)):=
  ⟨λ_=> .inl,λb hb=>hb.elim .inl λe=> .inr (.inr (by omega)),λ_=> .inl,λb hb _=>hk b hb,by omega,rfl,rfl,rfl⟩
 refine⟨⟨h.qX.go hx,h.size,λt p hp=>bj.mono (λ_=> .inl) (λb hb=>hk b (h.fL b hb)) (Names.refl _ _) (h.tm t p hp),λn e he=>(h.rg n e he).mono (λ_=> .inl) (λb hb=>hk b (h.fL b hb)) (Names.refl _ _) rfl (λb hb=>hk b ((h.rg n e he).lt hb)),h.own,
  λn e b he hb hf=>hf.elim (h.hS n e b he hb) λe'=> ?_,λb hb=> ?_,h.tag,λb hb=>⟨.inl (h.z b hb).1,(hk b (h.fL b (h.z b hb).1)).trans (h.z b hb).2⟩,h.dr,zaA h.sz hx.size⟩,hx⟩
 ·have:=(h.rg n e he).lt hb;omega
 rcases hb with hb |hb
 ·have:=h.fL b hb;omega
 omega
theorem vC(h:ar Q T F G w a s){t:TypeId}{len:Nat}{ps:List (Nat×P)}{p:P}(hs:nk Q t len ps=some p){vs:Array (Nat×Value)}(hl:vs.toList.length=ps.length)
  (hv: ∀(i:Nat) x y,vs.toList[i]?=some x->ps[i]?=some y->x.1=y.1/\ao F w G s.rg x.2 y.2):
  ∃v w' F',(Instr.buildSlice t len vs).run Q w= .ok v w'/\ar Q T F' G w' a s/\ao F' w' G s.rg v p/\Ext (Own G s.rg) (Own G s.rg) F F' w w':=by
 unfold nk at hs;split at hs
 next e het=>
  have ht:=bx het;split at hs
  next i k z hi hk hz=>
   obtain⟨i',_,lq,_,cn⟩:=cy hk;rw[hi] at lq;cases lq;obtain⟨zv,sc,uo,tf⟩:=fO hi hz;split at hs
   ·rename_i bR;simp only[zad] at bR;obtain⟨⟨nF,vB⟩,oD⟩:=bR;have nF:z.cells.length=k+1:=by simpa using nF
    have vB:len*(k+1)<=16777216:=za3 vB;split at hs
    ·rename_i es DQ;cases hs;have BY:=iz _ _ _ DQ s;have yP: ∃ri:Array Value,ri.size=(List.replicate len z).length*(k+1)/\fj F w ri (k+1) (List.replicate len z)/\((len*(k+1)=0/\ri= #[])\/(len*(k+1)≠0/\ri=madeCells zv.cells (len*(k+1)))):=by
      by_cases h0:len*(k+1)=0
      ·have:len=0:=by grind
       subst this;exact⟨#[],by simp,λi x hx=>by simp at hx,.inl ⟨h0,rfl⟩⟩
      exact⟨madeCells zv.cells (len*(k+1)),by rw[size_madeCells,zaM],hY (ay.jK _ _ uo) nF (zag _),.inr ⟨h0,rfl⟩⟩
     obtain⟨ri,q1,q2,q3⟩:=yP;obtain⟨F1,pj,g1,g2,g3,g4,g5,g6⟩:=gN (by omega) ps vs.toList s s _ es F ri h BY hl hv q1 q2;have hlen:es.length=len:=by rw[g3,zaM]
     obtain⟨h1,h2⟩:=g1.grow pj e;have hE:fj (λb=>F1 b\/b=w.heap.size) (w.alloc (.cells pj e)) pj (k+1) es:=g5.mono (λ_=> .inl) (λb hb=>heap_alloc_old w _ b (g1.fL b hb));refine⟨.slice (some ⟨w.heap.size,0,none⟩) len len,_,_,?_,h1,?_,g2.trans h2⟩
     ·have bn:(Go.sizeOf e).run Q w= .ok (k+1) w:=run_sizeOf hk w;unfold Instr.buildSlice;simp only[Sem.run_bind,run_underlying ht,Result.andThen_ok,bn];rw[zaB (by omega)];rcases q3 with⟨h0,rfl⟩| ⟨h0,rfl⟩
      ·have e0:((Array.range (len*(k+1))).map λx=>(#[]:Array Value)[x%(#[]:Array Value).size]!)= #[]:=by rw[h0];simp
       rw[zax h0];simp only[Sem.run_bind,Sem.run_pure,Result.andThen_ok];rw[e0,g6];rfl
      have e0:((Array.range (len*(k+1))).map λx=>zv.cells[x%zv.cells.size]!)=madeCells zv.cells (len*(k+1)):=rfl;rw[zaB h0];have mI:(zeroValue e).run Q w= .ok zv w:=by simp[zeroValue,typeInfo,hi,sc]
      simp only[Sem.run_bind,Sem.run_pure,Result.andThen_ok,mI];rw[e0,g6];rfl
     refine .d ?_;have aO: ∀j,j<es.length*(k+1)->(w.alloc (.cells pj e)).cell? ⟨w.heap.size,0+j,none⟩=some (pj.getD j undef):=λj hj=>by simp_all
     have:=ay.ui (F:=λb=>F1 b\/b=w.heap.size) (w:=w.alloc (.cells pj e)) w.heap.size 0 (k+1) len es (λj=>pj.getD j undef) (by omega) (.inr rfl)
      (λx hx=>by obtain⟨i,hi,rfl⟩:=zaL hx;exact(hE i _ (zab hi)).1) (λx hx=>by obtain⟨i,hi,rfl⟩:=zaL hx;exact(hE i _ (zab hi)).2.1) aO (λi j x c hx hc=>(hE i x hx).2.2 j c hc)
     rwa [hlen] at this
    cases hs
   cases hs
  cases hs
 cases hs
theorem oF{t tx ty e:TypeId}{i:TypeInfo}(ht:Q.underlying t=some (.slice e))(hi:Q.info? e=some i){b dLen dCap:Nat}{cur:Array Value}(hg:w.heap[b]?=some (.cells cur e (0,0))){x:Value}{n:Nat}{news:List Value}(hs:Src Q i.size tx x n news w)
  (hn:n<=dLen) (pL:news.length<=cur.size):
  (Builtin.copy_ #[t,tx] ty #[.slice (some ⟨b,0,none⟩) dLen dCap,x]).run Q w= .ok (goInt n) (w.setRow b (news++cur.toList.drop news.length).toArray):=by
 have gj:=run_storeCells_at Q b 0 e news 0 cur w hg (by grind) hs.one;have hm:Nat.min n dLen=n:=zbZ hn;simp[Builtin.copy_,run_underlying ht,Go.sizeOf,typeInfo,hi,hs.len,hm,hs.cells,gj]
theorem run_copy_none{t tx ty e:TypeId}{i:TypeInfo}(ht:Q.underlying t=some (.slice e))(hi:Q.info? e=some i){dLen dCap:Nat}{x:Value}(hs:Src Q i.size tx x 0 [] w):
  (Builtin.copy_ #[t,tx] ty #[.slice none dLen dCap,x]).run Q w= .ok (goInt 0) w:=by
 have hm:Nat.min 0 dLen=0:=Nat.zero_min _;simp[Builtin.copy_,run_underlying ht,Go.sizeOf,typeInfo,hi,hs.len,hm,hs.cells]
theorem vD(h:ar Q T F G w a s){dst:Option Nat}{t t2 ty:TypeId}{p q:P}{s':S}(hs:jk Q s dst t t2 p q=some s'){vx vy:Value}(hx:ao F w G s.rg vx p)(hy:ao F w G s.rg vy q):
  ∃v w' G',(Builtin.copy_ #[t,t2] ty #[vx,vy]).run Q w= .ok v w'/\ar Q T F G' w' (a.put dst v) s'/\Ext (Own G s.rg) (Own G' s'.rg) F F w w':=by
 unfold jk at hs;split at hs
 next e n aw len het=>
  have ht:=bx het;split at hs
  next k hk=>
   obtain⟨i,_,hi,_,cn⟩:=cy hk;split at hs
   ·rename_i ys ty' es zS ho;split at hs
    ·rename_i hc;simp only[zad,zaH] at hc;obtain⟨q4,hle,Bn⟩:=hc;have q4:ty'=e:=by simpa using q4
     subst q4;obtain⟨en,dQ,bE,aN⟩:=S.aJ ho;obtain⟨news,mV,gq⟩:=oE h (by omega) zS hy;have ye:Src Q i.size t2 vy ys.length news w:=by rw[cn];exact mV
     rw[S.cH dQ] at hs;have cD:fm G s.rg n ⟨en.aw,en.tag,.arr ty' false (ys++es.drop ys.length)⟩ (G n):=λe' aW=>by rw[dQ] at aW;cases aW;exact .inr ⟨rfl,λ_=>⟨by rw[aN];rfl,rfl⟩⟩
     have fin: ∀(w':World) (v:Value),(Builtin.copy_ #[t,t2] ty #[vx,vy]).run Q w= .ok v w'->v= .int .i64 ys.length->(∀b,b<w.heap.size-> ¬(∃e,lk s.rg n=some e/\aD (G n) e.obj=some b)->w'.heap[b]?=w.heap[b]?)->
       w.heap.size<=w'.heap.size->w'.os=w.os->w'.tape=w.tape->w'.output=w.output->gi Q F w' G (ins n ⟨en.aw,en.tag,.arr ty' false (ys++es.drop ys.length)⟩ s.rg) n (.arr ty' false (ys++es.drop ys.length))->
       ∃v w' G',(Builtin.copy_ #[t,t2] ty #[vx,vy]).run Q w= .ok v w'/\ar Q T F G' w' (a.put dst v) s'/\Ext (Own G s.rg) (Own G' s'.rg) F F w w':=by
      intro w' v aU hv bH bn vf Aq iR pM;obtain⟨d1,d2⟩:=h.gk (n:=n) (e1:=⟨en.aw,en.tag,.arr ty' false (ys++es.drop ys.length)⟩) (g1:=G n) (w':=w') (hdr:=hU _ aU) cD bH bn vf Aq iR
       (λb hb=> .inr ⟨en,dQ,by rw[aN];exact hb⟩) (by rw[aH];exact pM) (λi lq _=>h.tag n en i dQ lq (by rw[aN];rfl))
      obtain⟨c1,c2⟩:=a7 d1 hs (v:= .int .i64 ys.length) (bj.of (.d (.int .i64 ys.length)));grind
     have hO:=h.rg n en dQ;rw[aN] at hO;cases hx with
     |sl _ _ _ _ h1 hr=>
      obtain⟨a0,N,cap,hG,rfl,BX⟩:=hr.at dQ bE (by rw[aN];rfl);rcases hO with⟨hg,rfl⟩| ⟨b,cX,cs,k',hg,hh,eO,xg,qF,kl,bn,_,hE⟩
      ·rw[hG] at hg;obtain⟨rfl,rfl,rfl⟩:=hg;have h0:ys=[]:=zam (by omega);subst h0;have Ap:news=[]:=by have:=gq.1;simpa using this
       subst Ap;exact fin w _ (run_copy_none ht hi ye) rfl (λ_ _ _=>rfl) (zag _) rfl rfl rfl (.inl ⟨hG,by simp⟩)
      rw[hk] at eO;cases eO;rw[hG] at hg;obtain⟨rfl,rfl,rfl⟩:=hg;have w7:ys.length<=es.length:=by omega
      have xf:news.length=ys.length*(k+1):=gq.1;have pL:news.length<=cs.size:=by rw[xf,bn];exact zaf _ (by omega)
      have aU:=oF (ty:=ty) (dLen:=len) (dCap:=cap) ht hi hh ye Bn pL;have jA:(ys++es.drop ys.length).length=es.length:=by rw[zaq,zaC];omega
      have cg:aD (G n) en.obj=some b:=by rw[aN,hG];rfl
      have vp: ¬F b:=h.hS n en b dQ cg;have BZ: ∀c,F c->(w.setRow b (news++cs.toList.drop news.length).toArray).heap[c]?=w.heap[c]?:=λc hc=>setRow_other w b c _ (λe=>vp (e▸hc));refine fin _ _ aU rfl (λc _ dH=>setRow_other w b c _ (λe'=>dH ⟨en,dQ,by rw[e'];exact cg⟩)) (by simp) rfl rfl rfl
       (.inr ⟨b,cap,_,k+1,by rw[jA];exact hG,setRow_heap w b cs _ ty' _ hh,hk,by omega,by rw[jA];exact qF,kl,?_,by simp,?_⟩)
      ·skip
       grind
      refine bJ.BU ?_;rw[jA];have hf:=(bJ.take hE (zag _) (by simp_all [zaf])).drop ys.length;rw[zbw] at hf;have e1:((news++cs.toList.drop news.length).toArray.toList.take (es.length*(k+1)))=news++(cs.toList.take (es.length*(k+1))).drop (ys.length*(k+1)):=by rw[List.take_append,zat (by simp_all [zaf]),xf,zbF]
      rw[e1];exact(gq.append hf).mono (λ_ h=>h) BZ
     |_=>rename_i hd;cases hd
    cases hs
   cases hs
  cases hs
 cases hs
theorem tk{F:Nat->Prop}{w:World}{z:D}{zv:Value}{k l:Nat}(hz:ay F w zv z)(hl:z.cells.length=k):bJ F w k (List.replicate l z) (Builtin.zeroCells zv.cells l).toList:=by
 obtain⟨c1,c2,c3⟩:=bG hz;have hs:zv.cells.size=k:=by rw[<-hl,<-c1];simp
 have hE:=hY (l:=l) (n:=l*k) hz hl (zag _);have bn:(madeCells zv.cells (l*k)).size=l*k:=by simp[size_madeCells]
 have hf:=bJ.take (len:=l) hE (by simp) (by rw[zaM,bn];simp);have e1:(List.replicate l z).take l=List.replicate l z:=zat (by simp);have e2:(Builtin.zeroCells zv.cells l).toList=(madeCells zv.cells (l*k)).toList.take (l*k):=by rw[zat (by grind)];unfold Builtin.zeroCells madeCells;rw[hs]
 rw[e1] at hf;rw[e2];exact hf
theorem tn(h:ar Q T F G w a s){dst:Option Nat}{t ty:TypeId}{p:P}{s':S}(hs:fF Q s dst t p=some s'){vx:Value}(hx:ao F w G s.rg vx p):
  ∃v w' G',(Builtin.clear_ #[t] ty #[vx]).run Q w= .ok v w'/\ar Q T F G' w' (a.put dst v) s'/\Ext (Own G s.rg) (Own G' s'.rg) F F w w':=by
 unfold fF at hs;split at hs
 next e n aw k0 off len het=>
  have ht:=bx het;split at hs
  next k z ty' es hk hz ho=>
   obtain⟨i,_,hi,_,cn⟩:=cy hk;split at hs
   ·rename_i hc;simp only[zad,zaH] at hc;obtain⟨⟨⟨q4,dK⟩,nF⟩,yQ⟩:=hc;have q4:ty'=e:=zac q4;have dK:k0=k+1:=zac dK;have nF:z.cells.length=k+1:=zac nF;subst q4 dK;obtain⟨en,dQ,bE,aN⟩:=S.aJ ho;obtain⟨zv,mI,ph⟩:=gI hz w;rw[S.cH dQ] at hs;generalize yR:es.take off++List.replicate len z++es.drop (off+len)=es' at hs;have jA:es'.length=es.length:=by rw[<-yR];simp;omega
    have cD:fm G s.rg n ⟨en.aw,en.tag,.arr ty' false es'⟩ (G n):=λe' aW=>by rw[dQ] at aW;cases aW;exact .inr ⟨rfl,λ_=>⟨by rw[aN];rfl,rfl⟩⟩
    have fin: ∀(w':World),(Builtin.clear_ #[t] ty #[vx]).run Q w= .ok (.tuple #[]) w'->(∀b,b<w.heap.size-> ¬(∃e,lk s.rg n=some e/\aD (G n) e.obj=some b)->w'.heap[b]?=w.heap[b]?)->
      w.heap.size<=w'.heap.size->w'.os=w.os->w'.tape=w.tape->w'.output=w.output->gi Q F w' G (ins n ⟨en.aw,en.tag,.arr ty' false es'⟩ s.rg) n (.arr ty' false es')->
      ∃v w' G',(Builtin.clear_ #[t] ty #[vx]).run Q w= .ok v w'/\ar Q T F G' w' (a.put dst v) s'/\Ext (Own G s.rg) (Own G' s'.rg) F F w w':=by
     intro w' aU bH bn vf Aq iR pM;obtain⟨d1,d2⟩:=h.gk (n:=n) (e1:=⟨en.aw,en.tag,.arr ty' false es'⟩) (g1:=G n) (w':=w') (hdr:=hU _ aU) cD bH bn vf Aq iR
      (λb hb=> .inr ⟨en,dQ,by rw[aN];exact hb⟩) (by rw[aH];exact pM) (λi lq _=>h.tag n en i dQ lq (by rw[aN];rfl))
     obtain⟨c1,c2⟩:=a7 d1 hs (v:= .tuple #[]) (bj.of (.bad _));grind
    have hO:=h.rg n en dQ;rw[aN] at hO;cases hx with
    |eL _ _ _ _ _ _ h1 hr=>
     obtain⟨a0,N,cap,hG,hle,a1,ie,rfl,uX,ES⟩:=hr.at dQ bE (by rw[aN];rfl);by_cases h0:len=0
     ·subst h0;have e0:es'=es:=by rw[<-yR];simp
      subst e0;refine fin w ?_ (λ_ _ _=>rfl) (zag _) rfl rfl rfl ?_
      ·cases a1<;>simp[Builtin.clear_,run_underlying ht]
      exact hO
     obtain⟨b0,yA,uY⟩: ∃b,a0=some ⟨b,0,none⟩/\a1=some ⟨b,off*(k+1),none⟩:=by grind
     subst yA uY;rcases hO with⟨hg,rfl⟩| ⟨b,cX,cs,k',hg,hh,eO,xg,qF,kl,bn,_,hE⟩
     ·rw[hG] at hg;simp at hg
     rw[hk] at eO;cases eO;rw[hG] at hg;obtain⟨rfl,rfl,rfl⟩:=hg;have um:=tk (l:=len) ph nF;have xf:(Builtin.zeroCells zv.cells len).toList.length=len*(k+1):=by have:=um.1;grind
     have hole:off*(k+1)+len*(k+1)<=es.length*(k+1):=by rw[<-zas];simp_all [zaf]
     have DR:es.length*(k+1)<=cs.size:=by simp_all [zaf]
     have gj:=run_storeCells_at Q b0 (off*(k+1)) ty' (Builtin.zeroCells zv.cells len).toList 0 cs w hh (by omega) (um.one (by omega));simp only[zbb,xf] at gj;have aU:(Builtin.clear_ #[t] ty #[.slice (some ⟨b0,off*(k+1),none⟩) len ie]).run Q w= .ok (.tuple #[]) (w.setRow b0 (cs.toList.take (off*(k+1))++(Builtin.zeroCells zv.cells len).toList++cs.toList.drop (off*(k+1)+len*(k+1))).toArray):=by simp[Builtin.clear_,run_underlying ht,mI,gj]
     have cg:aD (G n) en.obj=some b0:=by rw[aN,hG];rfl
     have vp: ¬F b0:=h.hS n en b0 dQ cg;have BZ: ∀c,F c->(w.setRow b0 (cs.toList.take (off*(k+1))++(Builtin.zeroCells zv.cells len).toList++cs.toList.drop (off*(k+1)+len*(k+1))).toArray).heap[c]?=w.heap[c]?:=λc hc=>setRow_other w b0 c _ (λe=>vp (e▸hc));refine fin _ aU (λc _ dH=>setRow_other w b0 c _ (λe'=>dH ⟨en,dQ,by rw[e'];exact cg⟩)) (by simp) rfl rfl rfl
      (.inr ⟨b0,cap,_,k+1,by rw[jA];exact hG,setRow_heap w b0 cs _ ty' _ hh,hk,by omega,by rw[jA];exact qF,kl,?_,by simp,?_⟩)
     ·skip
      grind
     refine bJ.BU ?_;rw[jA,<-yR];have f1:=bJ.take (len:=off) hE (by omega) (by grind);have f3:=(bJ.take hE (zag _) (by grind)).drop (off+len);rw[zbw] at f3;have e1:((cs.toList.take (off*(k+1))++(Builtin.zeroCells zv.cells len).toList++cs.toList.drop (off*(k+1)+len*(k+1))).toArray.toList.take (es.length*(k+1)))=cs.toList.take (off*(k+1))++(Builtin.zeroCells zv.cells len).toList++(cs.toList.take (es.length*(k+1))).drop ((off+len)*(k+1)):=by
      have l1:(cs.toList.take (off*(k+1))).length=off*(k+1):=by simp;omega
      rw[List.take_append,zat (by rw[zaq,l1,xf];exact hole),zaq,l1,xf,zbF,zas]
     rw[e1];exact((f1.append um).append f3).mono (λ_ h=>h) BZ
    |_=>rename_i hd;cases hd
   cases hs
  cases hs
 cases hs
end
end Pi
