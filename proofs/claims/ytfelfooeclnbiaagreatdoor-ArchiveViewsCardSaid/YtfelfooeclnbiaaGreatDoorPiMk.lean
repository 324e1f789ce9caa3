/- The text PiMk. -/
import Derived.Test.YtfelfooeclnbiaaGreatDoorPiEfOk4
import Derived.Laws.MakeOwn
namespace Pi
open Go
section
variable{Q:Program}{T:Tg}{F:Nat->Prop}{G:Nat->Value}{w:World}{a:Act}{s:S}
theorem PI{zc:Array Value}{n k i j:Nat}(hk:zc.size=k)(hj:j<k)(hn:i*k+j<n):(madeCells zc n).getD (i*k+j) undef=zc.getD j undef:=by
 have e:(i*k+j)%zc.size=j:=by rw[hk,zbK,Nat.mul_add_mod,zcA hj]
 have AQ:j<zc.size:=by omega
 simp[madeCells,Array.getD,hn,e,AQ]
theorem p8{F:Nat->Prop}{w:World}{z:D}{zv:Value}{k l n:Nat}(hz:aU F w zv z)(hl:z.cells.length=k)(hn:l*k<=n):lZ F w (madeCells zv.cells n) k (List.replicate l z):=by
 obtain⟨c1,c2,c3⟩:=dL hz;have hs:zv.cells.size=k:=by rw[<-hl,<-c1];simp
 intro i x hx;rw[List.getElem?_replicate] at hx;split at hx
 next hi=>
  cases hx;refine⟨hl,c2,λj c hc=> ?_⟩;have hj:j<k:=by have:=(zae.1 hc).1;omega
  have bz:i*k+j<n:=by
   calc i*k+j<i*k+k:=by omega
    _=(i+1)*k:=by rw[zaR,zbz]
    _<=l*k:=zao _ hi
    _<=n:=hn
  rw[PI hs hj bz];exact c3 j _ c (by simp_all) hc
 cases hx
theorem PJ(h:aB Q T F G w a s){dst:Option Nat}{t:TypeId}{p q:P}{s':S}(hs:sg Q s dst t p q=some s'){vx vy:Value}(hx:aF F w G s.rg vx p)(hy:aF F w G s.rg vy q):
  ∃v w' G',(Instr.makeSlice t vx vy).run Q w= .ok v w'/\aB Q T F G' w' (a.put dst v) s'/\Ext (Own G s.rg) (Own G' s'.rg) F F w w':=by
 unfold sg at hs;split at hs
 next e k1 l k2 c het=>
  have ht:=dp het;split at hs
  next i k z hi hk hz=>
   obtain⟨i',_,zl,_,fP⟩:=gn hk;rw[hi] at zl;cases zl;obtain⟨zv,Kf,Oh,hzs⟩:=nB hi hz;split at hs
   ·rename_i dZ;simp only[zad,zal] at dZ;obtain⟨AP,h0,Hk,h63,hb⟩:=dZ;have AP:z.cells.length=k+1:=by simpa using AP
    split at hs
    ·rename_i s1 v hn;cases hx with
     |d hx=>
      cases hx;cases hy with
      |d hy=>
       cases hy;have hr:=run_make (P:=Q) w t e i zv ht hi Kf k1 k2 l c h0 Hk hb h63;have hle:l.toNat<=c.toNat:=by omega
       obtain⟨h1,h2,h3,h4⟩:=l5 h hn (g1:= .slice (some ⟨w.heap.size,0,none⟩) l.toNat c.toNat) (w':=w.alloc (.cells (madeCells zv.cells (c.toNat*i.size)) e))
        (λb hb=>heap_alloc_old w _ b hb) (by simp) rfl rfl rfl (λb hb=>by simp[bm,aI] at hb;omega)
        (.inr ⟨w.heap.size,c.toNat,madeCells zv.cells (c.toNat*i.size),k+1,by rw[aV,zbC],heap_alloc_new w _,hk,by omega,by rw[zbC];exact hle,by simp only[maxLen];omega,
         by rw[size_madeCells,fP],by simp,p8 (aU.tX _ _ Oh) AP (by simp_all [zao])⟩)
       obtain⟨c1,c2⟩:=cr h1 hs (v:= .slice (some ⟨w.heap.size,0,none⟩) l.toNat c.toNat) (cy.of (.sl (site dst) v l.toNat _ rfl ⟨_,h4,zai _,λ_ _=>⟨_,l.toNat,c.toNat,aV _ _ _,rfl,zai _⟩⟩));grind
    cases hs
   cases hs
  cases hs
 cases hs
theorem lZ.set{F:Nat->Prop}{w:World}{cs:Array Value}{k i:Nat}{es:List D}{x:D}{v:Value}(hE:lZ F w cs k es)(cM:cs.size=es.length*k)(hi:i<es.length)(hx:aU F w v x)(hl:x.cells.length=k):
  ((v.cells.toList.zipIdx 0).foldl (λ(cs:Array Value) (x:Value×Nat)=>cs.setIfInBounds (i*k+x.2) x.1) cs).size=(es.set i x).length*k/\
  lZ F w ((v.cells.toList.zipIdx 0).foldl (λ(cs:Array Value) (x:Value×Nat)=>cs.setIfInBounds (i*k+x.2) x.1) cs) k (es.set i x):=by
 obtain⟨c1,c2,c3⟩:=dL hx;have hle:i*k+k<=es.length*k:=by
  calc i*k+k=(i+1)*k:=by rw[zaR,zbz]
   _<=es.length*k:=zao _ hi
 obtain⟨h1,h2⟩:=Cb (i*k) v.cells.toList 0 cs (by omega);refine⟨by rw[h1,cM,zbi],λi' y hy=> ?_⟩;by_cases he:i=i'
 ·grind
 rw[zaY he] at hy;obtain⟨g1,g2,g3⟩:=hE i' y hy;refine⟨g1,g2,λj c hc=> ?_⟩;have hj:j<k:=by have:=(zae.1 hc).1;omega
 have bk: ¬(i*k+0<=i'*k+j/\i'*k+j<i*k+0+v.cells.toList.length):=by
  rcases zcq he with h |h
  ·have:(i+1)*k<=i'*k:=zao _ h;rw[zaR,zbz] at this;omega
  have:(i'+1)*k<=i*k:=zao _ h;rw[zaR,zbz] at this;omega
 grind
theorem pw{t:TypeId}{k:Nat}(hk:0<k): ∀(ps:List (Nat×P)) (vs:List (Nat×Value)) (s s':S) (es jI:List D) (F:Nat->Prop) (cs:Array Value),aB Q T F G w a s->cK Q t k s es ps=some (s',jI)->
  vs.length=ps.length->(∀(i:Nat) x y,vs[i]?=some x->ps[i]?=some y->x.1=y.1/\aF F w G s.rg x.2 y.2)->cs.size=es.length*k->lZ F w cs k es->
  ∃F' ll,aB Q T F' G w a s'/\Ext (Own G s.rg) (Own G s'.rg) F F' w w/\jI.length=es.length/\ll.size=jI.length*k/\lZ F' w ll k jI/\Instr.fill (λi=>some (i*k,k)) cs vs=some ll
 | [],vs,s,s',es,jI,F,cs,h,hb,hl,_,cM,hE=>by
  obtain⟨rfl,rfl⟩:=hb;have:vs=[]:=by grind
  subst this;exact⟨F,cs,h,Ext.refl _ _ _,rfl,cM,hE,rfl⟩
 | (i,p)::ps,[],s,s',es,jI,F,cs,h,hb,hl,_,cM,hE=>by simp at hl
 | (i,p)::ps,(i0,v)::vs,s,s',es,jI,F,cs,h,hb,hl,hv,cM,hE=>by
  simp only[cK] at hb;split at hb
  next s1 x hf=>
   split at hb
   ·rename_i hc;simp only[zad] at hc;have hxl:x.cells.length=k:=by simpa using hc.1
    have hi:i<es.length:=by simp_all
    obtain⟨e0,hp⟩:=hv 0 (i0,v) (i,p) rfl rfl;subst e0;obtain⟨F1,g1,g2,g3,g4,g5⟩:=wF h hf hp;have hE1:lZ F1 w cs k es:=hE.mono g4 (λ_ _=>rfl);obtain⟨m1,m2⟩:=hE1.set cM hi g5 hxl;obtain⟨F2,cs2,k1,k2,k3,k4,k5,k6⟩:=pw hk ps vs s1 s' _ jI F1 _ g1 hb (by grind) (λj x y hx hy=>by obtain⟨q1,q2⟩:=hv (j+1) x y (by grind) (by grind);exact⟨q1,q2.mono g4 (λ_ _=>rfl) g3⟩) m1 m2;refine⟨F2,cs2,k1,g2.trans k2,by rw[k3,zbi],k4,k5,?_⟩;have H9:v.cells.size=k:=by have:=(dL g5).1;grind
    have hle:i0*k+k<=cs.size:=by
     rw[cM]
     calc i0*k+k=(i0+1)*k:=by rw[zaR,zbz]
      _<=es.length*k:=zao _ hi
    have dZ:(decide (v.cells.size≠k)||decide (i0*k+v.cells.size>cs.size))=false:=by simp;omega
    simp only[Instr.fill,dZ,zaC,zbq];rw[<-k6];congr 1;rw[<-zcT];simp
   cases hb
  cases hb
theorem Mk(h:aB Q T F G w a s){dst:Option Nat}{t:TypeId}{len:Nat}{ps:List (Nat×P)}{s':S}(hs:ra Q s dst t len ps=some s'){vs:Array (Nat×Value)}(hl:vs.toList.length=ps.length)
  (hv: ∀(i:Nat) x y,vs.toList[i]?=some x->ps[i]?=some y->x.1=y.1/\aF F w G s.rg x.2 y.2):
  ∃v w' F' G',(Instr.buildSlice t len vs).run Q w= .ok v w'/\aB Q T F' G' w' (a.put dst v) s'/\Ext (Own G s.rg) (Own G' s'.rg) F F' w w':=by
 unfold ra at hs;split at hs
 next e het=>
  have ht:=dp het;split at hs
  next i k z hi hk hz=>
   obtain⟨i',_,zl,_,fP⟩:=gn hk;rw[hi] at zl;cases zl;obtain⟨zv,Kf,Oh,hzs⟩:=nB hi hz;split at hs
   ·rename_i dZ;simp only[zad] at dZ;obtain⟨⟨AP,Ck⟩,Ci⟩:=dZ;have AP:z.cells.length=k+1:=by simpa using AP
    have Ck:len*(k+1)<=16777216:=zbJ Ck;split at hs
    ·rename_i s1 es hbe;split at hs
     ·rename_i s2 aR hn;have qbR: ∃Ia:Array Value,Ia.size=(List.replicate len z).length*(k+1)/\lZ F w Ia (k+1) (List.replicate len z)/\((len*(k+1)=0/\Ia= #[])\/(len*(k+1)≠0/\Ia=madeCells zv.cells (len*(k+1)))):=by
       by_cases h0:len*(k+1)=0
       ·have:len=0:=by grind
        subst this;exact⟨#[],by simp,λi x hx=>by simp at hx,.inl ⟨h0,rfl⟩⟩
       exact⟨madeCells zv.cells (len*(k+1)),by rw[size_madeCells,zbC],p8 (aU.tX _ _ Oh) AP (zai _),.inr ⟨h0,rfl⟩⟩
      obtain⟨Ia,q1,q2,q3⟩:=qbR;obtain⟨F1,DO,g1,g2,g3,g4,g5,g6⟩:=pw (by omega) ps vs.toList s s1 _ es F Ia h hbe hl hv q1 q2;have hlen:es.length=len:=by rw[g3,zbC]
      obtain⟨h1,h2,h3,h4⟩:=l5 g1 hn (g1:= .slice (some ⟨w.heap.size,0,none⟩) len len) (w':=w.alloc (.cells DO e))
       (λb hb=>heap_alloc_old w _ b hb) (by simp) rfl rfl rfl (λb hb=>by simp[bm,aI] at hb;omega)
       (.inr ⟨w.heap.size,len,DO,k+1,by rw[aV,hlen],heap_alloc_new w _,hk,by omega,by omega,by simp only[maxLen];have:len<=len*(k+1):=Nat.le_mul_of_pos_right _ (by omega);omega,
        by rw[g4,hlen],by simp,g5.mono (λ_ h=>h) (λb hb=>heap_alloc_old w _ b (g1.ja b hb))⟩)
      obtain⟨c1,c2⟩:=cr h1 hs (v:= .slice (some ⟨w.heap.size,0,none⟩) len len) (cy.of (.sl (site dst) aR len _ rfl ⟨_,h4,zai _,λ_ _=>⟨_,len,len,aV _ _ _,rfl,zai _⟩⟩));refine⟨_,_,_,_,?_,c1,?_⟩
      ·have cM:(Go.sizeOf e).run Q w= .ok (k+1) w:=run_sizeOf hk w;unfold Instr.buildSlice;simp only[Sem.run_bind,run_underlying ht,Result.andThen_ok,cM];rw[zap (by omega)];rcases q3 with⟨h0,rfl⟩| ⟨h0,rfl⟩
       ·have e0:((Array.range (len*(k+1))).map λx=>(#[]:Array Value)[x%(#[]:Array Value).size]!)= #[]:=by rw[h0];simp
        rw[zaq h0];simp only[Sem.run_bind,Sem.run_pure,Result.andThen_ok];rw[e0,g6];rfl
       have e0:((Array.range (len*(k+1))).map λx=>zv.cells[x%zv.cells.size]!)=madeCells zv.cells (len*(k+1)):=rfl;rw[zap h0];have AH:(zeroValue e).run Q w= .ok zv w:=by simp[zeroValue,typeInfo,hi,Kf]
       simp only[Sem.run_bind,Sem.run_pure,Result.andThen_ok,AH];rw[e0,g6];rfl
      rw[c2];exact g2.trans h2
     cases hs
    cases hs
   cases hs
  cases hs
 cases hs
theorem qL{t:TypeId}{k:Nat}: ∀(ps:List (Nat×P)) (es jI:List D),pY Q t k es ps=some jI-> ∀s:S,cK Q t k s es ps=some (s,jI)
 | [],es,jI,h,s=>by simp only[pY,zak] at h;subst h;rfl
 | (i,.d x)::r,es,jI,h,s=>by
  have e:nq Q s t (.d x)=some (s,nzE Q t x):=by
   unfold nq nzE;cases qF Q t with
   |false=>rfl
   |true=>show(nzD Q t x).force (λy=>some (s,y))=_;rw[D.force_eq]
  simp only[pY] at h;split at h
  next hc=>simp only[cK,e,zaq hc];exact qL r _ _ h s
  cases h
 | (_,.agg _)::_,_,_,h,_ | (_,.bI _)::_,_,_,h,_ | (_,.ref ..)::_,_,_,h,_ | (_,.dj ..)::_,_,_,h,_ | (_,.eX ..)::_,_,_,h,_ | (_,.sl ..)::_,_,_,h,_ | (_,.lu ..)::_,_,_,h,_ | (_,.mp ..)::_,_,_,h,_ | (_,.fn ..)::_,_,_,h,_ | (_,.bad)::_,_,_,h,_ | (_,.when ..)::_,_,_,h,_=>by simp[pY] at h
theorem aB.grow(h:aB Q T F G w a s)(cs:Array Value)(e:TypeId):aB Q T (λb=>F b\/b=w.heap.size) G (w.alloc (.cells cs e)) a s/\Ext (Own G s.rg) (Own G s.rg) F (λb=>F b\/b=w.heap.size) w (w.alloc (.cells cs e)):=by
 have hk: ∀b,b<w.heap.size->(w.alloc (.cells cs e)).heap[b]?=w.heap[b]?:=λb hb=>heap_alloc_old w _ b hb;have cM:(w.alloc (.cells cs e)).heap.size=w.heap.size+1:=by simp
 have hx:Ext (Own G s.rg) (Own G s.rg) F (λb=>F b\/b=w.heap.size) w (w.alloc (.cells cs e)):=
  ⟨λ_=> .inl,λb hb=>hb.elim .inl λe=> .inr (.inr (by omega)),λ_=> .inl,λb hb _=>hk b hb,by omega,rfl,rfl,rfl⟩
 refine⟨⟨h.r0.go hx,h.size,λt p hp=>cy.mono (λ_=> .inl) (λb hb=>hk b (h.ja b hb)) (Names.refl _ _) (h.tm t p hp),λn e he=>(h.rg n e he).mono (λ_=> .inl) (λb hb=>hk b (h.ja b hb)) (Names.refl _ _) rfl (λb hb=>hk b ((h.rg n e he).lt hb)),h.own,
  λn e b he hb hf=>hf.elim (h.mg n e b he hb) λe'=> ?_,λb hb=> ?_,h.tag,λb hb=>⟨.inl (h.z b hb).1,(hk b (h.ja b (h.z b hb).1)).trans (h.z b hb).2⟩,h.dr,zaE h.sz hx.size⟩,hx⟩
 ·have:=(h.rg n e he).lt hb;omega
 rcases hb with hb |hb
 ·have:=h.ja b hb;omega
 omega
theorem PK(h:aB Q T F G w a s){t:TypeId}{len:Nat}{ps:List (Nat×P)}{p:P}(hs:Aq Q t len ps=some p){vs:Array (Nat×Value)}(hl:vs.toList.length=ps.length)
  (hv: ∀(i:Nat) x y,vs.toList[i]?=some x->ps[i]?=some y->x.1=y.1/\aF F w G s.rg x.2 y.2):
  ∃v w' F',(Instr.buildSlice t len vs).run Q w= .ok v w'/\aB Q T F' G w' a s/\aF F' w' G s.rg v p/\Ext (Own G s.rg) (Own G s.rg) F F' w w':=by
 unfold Aq at hs;split at hs
 next e het=>
  have ht:=dp het;split at hs
  next i k z hi hk hz=>
   obtain⟨i',_,zl,_,fP⟩:=gn hk;rw[hi] at zl;cases zl;obtain⟨zv,Kf,Oh,hzs⟩:=nB hi hz;split at hs
   ·rename_i dZ;simp only[zad] at dZ;obtain⟨⟨AP,Ck⟩,Ci⟩:=dZ;have AP:z.cells.length=k+1:=by simpa using AP
    have Ck:len*(k+1)<=16777216:=zbJ Ck;split at hs
    ·rename_i es hde;cases hs;have hbe:=qL _ _ _ hde s;have qbR: ∃Ia:Array Value,Ia.size=(List.replicate len z).length*(k+1)/\lZ F w Ia (k+1) (List.replicate len z)/\((len*(k+1)=0/\Ia= #[])\/(len*(k+1)≠0/\Ia=madeCells zv.cells (len*(k+1)))):=by
      by_cases h0:len*(k+1)=0
      ·have:len=0:=by grind
       subst this;exact⟨#[],by simp,λi x hx=>by simp at hx,.inl ⟨h0,rfl⟩⟩
      exact⟨madeCells zv.cells (len*(k+1)),by rw[size_madeCells,zbC],p8 (aU.tX _ _ Oh) AP (zai _),.inr ⟨h0,rfl⟩⟩
     obtain⟨Ia,q1,q2,q3⟩:=qbR;obtain⟨F1,DO,g1,g2,g3,g4,g5,g6⟩:=pw (by omega) ps vs.toList s s _ es F Ia h hbe hl hv q1 q2;have hlen:es.length=len:=by rw[g3,zbC]
     obtain⟨h1,h2⟩:=g1.grow DO e;have hE:lZ (λb=>F1 b\/b=w.heap.size) (w.alloc (.cells DO e)) DO (k+1) es:=g5.mono (λ_=> .inl) (λb hb=>heap_alloc_old w _ b (g1.ja b hb));refine⟨.slice (some ⟨w.heap.size,0,none⟩) len len,_,_,?_,h1,?_,g2.trans h2⟩
     ·have cM:(Go.sizeOf e).run Q w= .ok (k+1) w:=run_sizeOf hk w;unfold Instr.buildSlice;simp only[Sem.run_bind,run_underlying ht,Result.andThen_ok,cM];rw[zap (by omega)];rcases q3 with⟨h0,rfl⟩| ⟨h0,rfl⟩
      ·have e0:((Array.range (len*(k+1))).map λx=>(#[]:Array Value)[x%(#[]:Array Value).size]!)= #[]:=by rw[h0];simp
       rw[zaq h0];simp only[Sem.run_bind,Sem.run_pure,Result.andThen_ok];rw[e0,g6];rfl
      have e0:((Array.range (len*(k+1))).map λx=>zv.cells[x%zv.cells.size]!)=madeCells zv.cells (len*(k+1)):=rfl;rw[zap h0];have AH:(zeroValue e).run Q w= .ok zv w:=by simp[zeroValue,typeInfo,hi,Kf]
      simp only[Sem.run_bind,Sem.run_pure,Result.andThen_ok,AH];rw[e0,g6];rfl
     refine .d ?_;have bU: ∀j,j<es.length*(k+1)->(w.alloc (.cells DO e)).cell? ⟨w.heap.size,0+j,none⟩=some (DO.getD j undef):=λj hj=>by simp_all
     have:=aU.Pg (F:=λb=>F1 b\/b=w.heap.size) (w:=w.alloc (.cells DO e)) w.heap.size 0 (k+1) len es (λj=>DO.getD j undef) (by omega) (.inr rfl)
      (λx hx=>by obtain⟨i,hi,rfl⟩:=zaN hx;exact(hE i _ (zac hi)).1) (λx hx=>by obtain⟨i,hi,rfl⟩:=zaN hx;exact(hE i _ (zac hi)).2.1) bU (λi j x c hx hc=>(hE i x hx).2.2 j c hc)
     rwa [hlen] at this
    cases hs
   cases hs
  cases hs
 cases hs
theorem Cl{t tx ty e:TypeId}{i:TypeInfo}(ht:Q.underlying t=some (.slice e))(hi:Q.info? e=some i){b dLen dCap:Nat}{cur:Array Value}(hg:w.heap[b]?=some (.cells cur e (0,0))){x:Value}{n:Nat}{news:List Value}(hs:Src Q i.size tx x n news w)
  (hn:n<=dLen) (EF:news.length<=cur.size):
  (Builtin.copy_ #[t,tx] ty #[.slice (some ⟨b,0,none⟩) dLen dCap,x]).run Q w= .ok (goInt n) (w.setRow b (news++cur.toList.drop news.length).toArray):=by
 have jy:=run_storeCells_at Q b 0 e news 0 cur w hg (by grind) hs.one;have hm:Nat.min n dLen=n:=zbW hn;simp[Builtin.copy_,run_underlying ht,Go.sizeOf,typeInfo,hi,hs.len,hm,hs.cells,jy]
theorem run_copy_none{t tx ty e:TypeId}{i:TypeInfo}(ht:Q.underlying t=some (.slice e))(hi:Q.info? e=some i){dLen dCap:Nat}{x:Value}(hs:Src Q i.size tx x 0 [] w):
  (Builtin.copy_ #[t,tx] ty #[.slice none dLen dCap,x]).run Q w= .ok (goInt 0) w:=by
 have hm:Nat.min 0 dLen=0:=Nat.zero_min _;simp[Builtin.copy_,run_underlying ht,Go.sizeOf,typeInfo,hi,hs.len,hm,hs.cells]
theorem PL(h:aB Q T F G w a s){dst:Option Nat}{t t2 ty:TypeId}{p q:P}{s':S}(hs:sj Q s dst t t2 p q=some s'){vx vy:Value}(hx:aF F w G s.rg vx p)(hy:aF F w G s.rg vy q):
  ∃v w' G',(Builtin.copy_ #[t,t2] ty #[vx,vy]).run Q w= .ok v w'/\aB Q T F G' w' (a.put dst v) s'/\Ext (Own G s.rg) (Own G' s'.rg) F F w w':=by
 unfold sj at hs;split at hs
 next e n aR len het=>
  have ht:=dp het;split at hs
  next k hk=>
   obtain⟨i,_,hi,_,fP⟩:=gn hk;split at hs
   ·rename_i ys ty' es hys ho;split at hs
    ·rename_i hc;simp only[zad,zal] at hc;obtain⟨H3,hle,hyl⟩:=hc;have H3:ty'=e:=by simpa using H3
     subst H3;obtain⟨en,mC,dw,bH⟩:=S.bw ho;obtain⟨news,zN,gK⟩:=Cj h (by omega) hys hy;have qaS:Src Q i.size t2 vy ys.length news w:=by rw[fP];exact zN
     rw[S.fg mC] at hs;have eS:oo G s.rg n ⟨en.aR,en.tag,.arr ty' false (ys++es.drop ys.length)⟩ (G n):=λe' cx=>by rw[mC] at cx;cases cx;exact .inr ⟨rfl,λ_=>⟨by rw[bH];rfl,rfl⟩⟩
     have fin: ∀(w':World) (v:Value),(Builtin.copy_ #[t,t2] ty #[vx,vy]).run Q w= .ok v w'->v= .int .i64 ys.length->(∀b,b<w.heap.size-> ¬(∃e,lk s.rg n=some e/\bm (G n) e.obj=some b)->w'.heap[b]?=w.heap[b]?)->
       w.heap.size<=w'.heap.size->w'.os=w.os->w'.tape=w.tape->w'.output=w.output->oJ Q F w' G (ins n ⟨en.aR,en.tag,.arr ty' false (ys++es.drop ys.length)⟩ s.rg) n (.arr ty' false (ys++es.drop ys.length))->
       ∃v w' G',(Builtin.copy_ #[t,t2] ty #[vx,vy]).run Q w= .ok v w'/\aB Q T F G' w' (a.put dst v) s'/\Ext (Own G s.rg) (Own G' s'.rg) F F w w':=by
      intro w' v bX hv eF cM Pw htp aW EG;obtain⟨d1,d2⟩:=h.mh (n:=n) (e1:=⟨en.aR,en.tag,.arr ty' false (ys++es.drop ys.length)⟩) (g1:=G n) (w':=w') (hdr:=p7 _ bX) eS eF cM Pw htp aW
       (λb hb=> .inr ⟨en,mC,by rw[bH];exact hb⟩) (by rw[bx];exact EG) (λi zl _=>h.tag n en i mC zl (by rw[bH];rfl))
      obtain⟨c1,c2⟩:=cr d1 hs (v:= .int .i64 ys.length) (cy.of (.d (.int .i64 ys.length)));grind
     have hO:=h.rg n en mC;rw[bH] at hO;cases hx with
     |sl _ _ _ _ h1 hr=>
      obtain⟨a0,N,cap,hG,rfl,qhE⟩:=hr.at mC dw (by rw[bH];rfl);rcases hO with⟨hg,rfl⟩| ⟨b,ig,cs,k',hg,hh,mY,Wd,Hk,tL,cM,_,hE⟩
      ·rw[hG] at hg;obtain⟨rfl,rfl,rfl⟩:=hg;have h0:ys=[]:=zax (by omega);subst h0;have Vu:news=[]:=by have:=gK.1;simpa using this
       subst Vu;exact fin w _ (run_copy_none ht hi qaS) rfl (λ_ _ _=>rfl) (zai _) rfl rfl rfl (.inl ⟨hG,by simp⟩)
      rw[hk] at mY;cases mY;rw[hG] at hg;obtain⟨rfl,rfl,rfl⟩:=hg;have V4:ys.length<=es.length:=by omega
      have zL:news.length=ys.length*(k+1):=gK.1;have EF:news.length<=cs.size:=by rw[zL,cM];exact zao _ (by omega)
      have bX:=Cl (ty:=ty) (dLen:=len) (dCap:=cap) ht hi hh qaS hyl EF;have sE:(ys++es.drop ys.length).length=es.length:=by rw[zaj,za0];omega
      have fV:bm (G n) en.obj=some b:=by rw[bH,hG];rfl
      have PC: ¬F b:=h.mg n en b mC fV;have hkF: ∀c,F c->(w.setRow b (news++cs.toList.drop news.length).toArray).heap[c]?=w.heap[c]?:=λc hc=>setRow_other w b c _ (λe=>PC (e▸hc));refine fin _ _ bX rfl (λc _ bk=>setRow_other w b c _ (λe'=>bk ⟨en,mC,by rw[e'];exact fV⟩)) (by simp) rfl rfl rfl
       (.inr ⟨b,cap,_,k+1,by rw[sE];exact hG,setRow_heap w b cs _ ty' _ hh,hk,by omega,by rw[sE];exact Hk,tL,?_,by simp,?_⟩)
      ·skip
       grind
      refine dT.toE ?_;rw[sE];have hf:=(dT.take hE (zai _) (by simp_all [zao])).drop ys.length;rw[zag] at hf;have e1:((news++cs.toList.drop news.length).toArray.toList.take (es.length*(k+1)))=news++(cs.toList.take (es.length*(k+1))).drop (ys.length*(k+1)):=by rw[zc9,zan (by simp_all [zao]),zL,zcP]
      rw[e1];exact(gK.append hf).mono (λ_ h=>h) hkF
     |_=>rename_i hd;cases hd
    cases hs
   cases hs
  cases hs
 cases hs
theorem Ml{F:Nat->Prop}{w:World}{z:D}{zv:Value}{k l:Nat}(hz:aU F w zv z)(hl:z.cells.length=k):dT F w k (List.replicate l z) (Builtin.zeroCells zv.cells l).toList:=by
 obtain⟨c1,c2,c3⟩:=dL hz;have hs:zv.cells.size=k:=by rw[<-hl,<-c1];simp
 have hE:=p8 (l:=l) (n:=l*k) hz hl (zai _);have cM:(madeCells zv.cells (l*k)).size=l*k:=by simp[size_madeCells]
 have hf:=dT.take (len:=l) hE (by simp) (by rw[zbC,cM];simp);have e1:(List.replicate l z).take l=List.replicate l z:=zan (by simp);have e2:(Builtin.zeroCells zv.cells l).toList=(madeCells zv.cells (l*k)).toList.take (l*k):=by rw[zan (by grind)];unfold Builtin.zeroCells madeCells;rw[hs]
 rw[e1] at hf;rw[e2];exact hf
theorem Mm(h:aB Q T F G w a s){dst:Option Nat}{t ty:TypeId}{p:P}{s':S}(hs:nr Q s dst t p=some s'){vx:Value}(hx:aF F w G s.rg vx p):
  ∃v w' G',(Builtin.clear_ #[t] ty #[vx]).run Q w= .ok v w'/\aB Q T F G' w' (a.put dst v) s'/\Ext (Own G s.rg) (Own G' s'.rg) F F w w':=by
 unfold nr at hs;split at hs
 next e n aR k0 off len het=>
  have ht:=dp het;split at hs
  next k z ty' es hk hz ho=>
   obtain⟨i,_,hi,_,fP⟩:=gn hk;split at hs
   ·rename_i hc;simp only[zad,zal] at hc;obtain⟨⟨⟨H3,jG⟩,AP⟩,qbS⟩:=hc;have H3:ty'=e:=zah H3;have jG:k0=k+1:=zah jG;have AP:z.cells.length=k+1:=zah AP;subst H3 jG;obtain⟨en,mC,dw,bH⟩:=S.bw ho;obtain⟨zv,AH,Hi⟩:=ph hz w;rw[S.fg mC] at hs;generalize qbT:es.take off++List.replicate len z++es.drop (off+len)=jI at hs;have sE:jI.length=es.length:=by rw[<-qbT];simp;omega
    have eS:oo G s.rg n ⟨en.aR,en.tag,.arr ty' false jI⟩ (G n):=λe' cx=>by rw[mC] at cx;cases cx;exact .inr ⟨rfl,λ_=>⟨by rw[bH];rfl,rfl⟩⟩
    have fin: ∀(w':World),(Builtin.clear_ #[t] ty #[vx]).run Q w= .ok (.tuple #[]) w'->(∀b,b<w.heap.size-> ¬(∃e,lk s.rg n=some e/\bm (G n) e.obj=some b)->w'.heap[b]?=w.heap[b]?)->
      w.heap.size<=w'.heap.size->w'.os=w.os->w'.tape=w.tape->w'.output=w.output->oJ Q F w' G (ins n ⟨en.aR,en.tag,.arr ty' false jI⟩ s.rg) n (.arr ty' false jI)->
      ∃v w' G',(Builtin.clear_ #[t] ty #[vx]).run Q w= .ok v w'/\aB Q T F G' w' (a.put dst v) s'/\Ext (Own G s.rg) (Own G' s'.rg) F F w w':=by
     intro w' bX eF cM Pw htp aW EG;obtain⟨d1,d2⟩:=h.mh (n:=n) (e1:=⟨en.aR,en.tag,.arr ty' false jI⟩) (g1:=G n) (w':=w') (hdr:=p7 _ bX) eS eF cM Pw htp aW
      (λb hb=> .inr ⟨en,mC,by rw[bH];exact hb⟩) (by rw[bx];exact EG) (λi zl _=>h.tag n en i mC zl (by rw[bH];rfl))
     obtain⟨c1,c2⟩:=cr d1 hs (v:= .tuple #[]) (cy.of (.bad _));grind
    have hO:=h.rg n en mC;rw[bH] at hO;cases hx with
    |lu _ _ _ _ _ _ h1 hr=>
     obtain⟨a0,N,cap,hG,hle,a1,qo,rfl,Pm,hzz⟩:=hr.at mC dw (by rw[bH];rfl);by_cases h0:len=0
     ·subst h0;have e0:jI=es:=by rw[<-qbT];simp
      subst e0;refine fin w ?_ (λ_ _ _=>rfl) (zai _) rfl rfl rfl ?_
      ·cases a1<;>simp[Builtin.clear_,run_underlying ht]
      exact hO
     obtain⟨b0,ha0,Pn⟩: ∃b,a0=some ⟨b,0,none⟩/\a1=some ⟨b,off*(k+1),none⟩:=by grind
     subst ha0 Pn;rcases hO with⟨hg,rfl⟩| ⟨b,ig,cs,k',hg,hh,mY,Wd,Hk,tL,cM,_,hE⟩
     ·rw[hG] at hg;simp at hg
     rw[hk] at mY;cases mY;rw[hG] at hg;obtain⟨rfl,rfl,rfl⟩:=hg;have DP:=Ml (l:=len) Hi AP;have zL:(Builtin.zeroCells zv.cells len).toList.length=len*(k+1):=by have:=DP.1;grind
     have hole:off*(k+1)+len*(k+1)<=es.length*(k+1):=by rw[<-zaR];simp_all [zao]
     have qiS:es.length*(k+1)<=cs.size:=by simp_all [zao]
     have jy:=run_storeCells_at Q b0 (off*(k+1)) ty' (Builtin.zeroCells zv.cells len).toList 0 cs w hh (by omega) (DP.one (by omega));simp only[zbV,zL] at jy;have bX:(Builtin.clear_ #[t] ty #[.slice (some ⟨b0,off*(k+1),none⟩) len qo]).run Q w= .ok (.tuple #[]) (w.setRow b0 (cs.toList.take (off*(k+1))++(Builtin.zeroCells zv.cells len).toList++cs.toList.drop (off*(k+1)+len*(k+1))).toArray):=by simp[Builtin.clear_,run_underlying ht,AH,jy]
     have fV:bm (G n) en.obj=some b0:=by rw[bH,hG];rfl
     have PC: ¬F b0:=h.mg n en b0 mC fV;have hkF: ∀c,F c->(w.setRow b0 (cs.toList.take (off*(k+1))++(Builtin.zeroCells zv.cells len).toList++cs.toList.drop (off*(k+1)+len*(k+1))).toArray).heap[c]?=w.heap[c]?:=λc hc=>setRow_other w b0 c _ (λe=>PC (e▸hc));refine fin _ bX (λc _ bk=>setRow_other w b0 c _ (λe'=>bk ⟨en,mC,by rw[e'];exact fV⟩)) (by simp) rfl rfl rfl
      (.inr ⟨b0,cap,_,k+1,by rw[sE];exact hG,setRow_heap w b0 cs _ ty' _ hh,hk,by omega,by rw[sE];exact Hk,tL,?_,by simp,?_⟩)
     ·skip
      grind
     refine dT.toE ?_;rw[sE,<-qbT];have f1:=dT.take (len:=off) hE (by omega) (by grind);have f3:=(dT.take hE (zai _) (by grind)).drop (off+len);rw[zag] at f3;have e1:((cs.toList.take (off*(k+1))++(Builtin.zeroCells zv.cells len).toList++cs.toList.drop (off*(k+1)+len*(k+1))).toArray.toList.take (es.length*(k+1)))=cs.toList.take (off*(k+1))++(Builtin.zeroCells zv.cells len).toList++(cs.toList.take (es.length*(k+1))).drop ((off+len)*(k+1)):=by
      have l1:(cs.toList.take (off*(k+1))).length=off*(k+1):=by simp;omega
      rw[zc9,zan (by rw[zaj,l1,zL];exact hole),zaj,l1,zL,zcP,zaR]
     rw[e1];exact((f1.append DP).append f3).mono (λ_ h=>h) hkF
    |_=>rename_i hd;cases hd
   cases hs
  cases hs
 cases hs
end
end Pi
