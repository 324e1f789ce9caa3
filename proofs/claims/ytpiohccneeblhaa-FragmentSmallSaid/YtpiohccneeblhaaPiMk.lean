/- The text PiMk. -/
import Derived.Test.YtpiohccneeblhaaPiEfOk4
import Derived.Laws.MakeOwn
namespace Pi
open Go
section
variable{Q:Program}{T:Tg}{F:Nat->Prop}{G:Nat->Value}{w:World}{a:Act}{s:S}
theorem CA{zc:Array Value}{n k i j:Nat}(hk:zc.size=k)(hj:j<k)(hn:i*k+j<n):(madeCells zc n).getD (i*k+j) undef=zc.getD j undef:=by
 have e:(i*k+j)%zc.size=j:=by rw[hk,zcb,Nat.mul_add_mod,Nat.mod_eq_of_lt hj]
 have CB:j<zc.size:=by omega
 simp[madeCells,Array.getD,hn,e,CB]
theorem la{F:Nat->Prop}{w:World}{z:D}{zv:Value}{k l n:Nat}(hz:aA F w zv z)(hl:z.cells.length=k)(hn:l*k<=n):fC F w (madeCells zv.cells n) k (List.replicate l z):=by
 obtain⟨c1,c2,c3⟩:=cH hz;have hs:zv.cells.size=k:=by rw[<-hl,<-c1];simp
 intro i x hx;rw[List.getElem?_replicate] at hx;split at hx
 next hi=>
  cases hx;refine⟨hl,c2,λj c hc=> ?_⟩;have hj:j<k:=by have:=(zaa.1 hc).1;omega
  have bj:i*k+j<n:=by
   calc i*k+j<i*k+k:=by omega
    _=(i+1)*k:=by rw[zaz,zaV]
    _<=l*k:=zah _ hi
    _<=n:=hn
  rw[CA hs hj bj];exact c3 j _ c (by simp_all) hc
 cases hx
theorem CC(h:aq Q T F G w a s){dst:Option Nat}{t:TypeId}{p q:P}{s':S}(hs:mr Q s dst t p q=some s'){vx vy:Value}(hx:ao F w G s.rg vx p)(hy:ao F w G s.rg vy q):
  ∃v w' G',(Instr.makeSlice t vx vy).run Q w= .ok v w'/\aq Q T F G' w' (a.put dst v) s'/\Ext (Own G s.rg) (Own G' s'.rg) F F w w':=by
 unfold mr at hs;split at hs
 next e k1 l k2 c het=>
  have ht:=cu het;split at hs
  next i k z hi hk hz=>
   obtain⟨i',_,qY,_,cJ⟩:=dQ hk;rw[hi] at qY;cases qY;obtain⟨zv,xI,Bv,Gh⟩:=jq hi hz;split at hs
   ·rename_i cv;simp only[zad,zaI] at cv;obtain⟨rC,h0,sg,Lp,hb⟩:=cv;have rC:z.cells.length=k+1:=by simpa using rC
    split at hs
    ·rename_i s1 v hn;cases hx with
     |d hx=>
      cases hx;cases hy with
      |d hy=>
       cases hy;have hr:=run_make (P:=Q) w t e i zv ht hi xI k1 k2 l c h0 sg hb Lp;have hle:l.toNat<=c.toNat:=by omega
       obtain⟨h1,h2,h3,h4⟩:=gP h hn (g1:= .slice (some ⟨w.heap.size,0,none⟩) l.toNat c.toNat) (w':=w.alloc (.cells (madeCells zv.cells (c.toNat*i.size)) e))
        (λb hb=>heap_alloc_old w _ b hb) (by simp) rfl rfl rfl (λb hb=>by simp[ay,aj] at hb;omega)
        (.inr ⟨w.heap.size,c.toNat,madeCells zv.cells (c.toNat*i.size),k+1,by rw[aC,zaR],heap_alloc_new w _,hk,by omega,by rw[zaR];exact hle,by simp only[maxLen];omega,
         by rw[size_madeCells,cJ],by simp,la (aA.nh _ _ Bv) rC (by simp_all [zah])⟩)
       obtain⟨c1,c2⟩:=bc h1 hs (v:= .slice (some ⟨w.heap.size,0,none⟩) l.toNat c.toNat) (bt.of (.sl (site dst) v l.toNat _ rfl ⟨_,h4,zae _,λ_ _=>⟨_,l.toNat,c.toNat,aC _ _ _,rfl,zae _⟩⟩));grind
    cases hs
   cases hs
  cases hs
 cases hs
theorem fC.set{F:Nat->Prop}{w:World}{cs:Array Value}{k i:Nat}{es:List D}{x:D}{v:Value}(hE:fC F w cs k es)(cp:cs.size=es.length*k)(hi:i<es.length)(hx:aA F w v x)(hl:x.cells.length=k):
  ((v.cells.toList.zipIdx 0).foldl (λ(cs:Array Value) (x:Value×Nat)=>cs.setIfInBounds (i*k+x.2) x.1) cs).size=(es.set i x).length*k/\
  fC F w ((v.cells.toList.zipIdx 0).foldl (λ(cs:Array Value) (x:Value×Nat)=>cs.setIfInBounds (i*k+x.2) x.1) cs) k (es.set i x):=by
 obtain⟨c1,c2,c3⟩:=cH hx;have hle:i*k+k<=es.length*k:=by
  calc i*k+k=(i+1)*k:=by rw[zaz,zaV]
   _<=es.length*k:=zah _ hi
 obtain⟨h1,h2⟩:=tJ (i*k) v.cells.toList 0 cs (by omega);refine⟨by rw[h1,cp,zas],λi' y hy=> ?_⟩;by_cases he:i=i'
 ·grind
 rw[zau he] at hy;obtain⟨g1,g2,g3⟩:=hE i' y hy;refine⟨g1,g2,λj c hc=> ?_⟩;have hj:j<k:=by have:=(zaa.1 hc).1;omega
 have bg: ¬(i*k+0<=i'*k+j/\i'*k+j<i*k+0+v.cells.toList.length):=by
  rcases zbC he with h |h
  ·have:(i+1)*k<=i'*k:=zah _ h;rw[zaz,zaV] at this;omega
  have:(i'+1)*k<=i*k:=zah _ h;rw[zaz,zaV] at this;omega
 grind
theorem kD{t:TypeId}{k:Nat}(hk:0<k): ∀(ps:List (Nat×P)) (vs:List (Nat×Value)) (s s':S) (es es':List D) (F:Nat->Prop) (cs:Array Value),aq Q T F G w a s->bK Q t k s es ps=some (s',es')->
  vs.length=ps.length->(∀(i:Nat) x y,vs[i]?=some x->ps[i]?=some y->x.1=y.1/\ao F w G s.rg x.2 y.2)->cs.size=es.length*k->fC F w cs k es->
  ∃F' jd,aq Q T F' G w a s'/\Ext (Own G s.rg) (Own G s'.rg) F F' w w/\es'.length=es.length/\jd.size=es'.length*k/\fC F' w jd k es'/\Instr.fill (λi=>some (i*k,k)) cs vs=some jd
 | [],vs,s,s',es,es',F,cs,h,hb,hl,_,cp,hE=>by
  obtain⟨rfl,rfl⟩:=hb;have:vs=[]:=by grind
  subst this;exact⟨F,cs,h,Ext.refl _ _ _,rfl,cp,hE,rfl⟩
 | (i,p)::ps,[],s,s',es,es',F,cs,h,hb,hl,_,cp,hE=>by simp at hl
 | (i,p)::ps,(i0,v)::vs,s,s',es,es',F,cs,h,hb,hl,hv,cp,hE=>by
  simp only[bK] at hb;split at hb
  next s1 x hf=>
   split at hb
   ·rename_i hc;simp only[zad] at hc;have xQ:x.cells.length=k:=by simpa using hc.1
    have hi:i<es.length:=by simp_all
    obtain⟨e0,hp⟩:=hv 0 (i0,v) (i,p) rfl rfl;subst e0;obtain⟨F1,g1,g2,g3,g4,g5⟩:=oX h hf hp;have Pl:fC F1 w cs k es:=hE.mono g4 (λ_ _=>rfl);obtain⟨m1,m2⟩:=Pl.set cp hi g5 xQ;obtain⟨F2,Pm,k1,k2,k3,k4,k5,k6⟩:=kD hk ps vs s1 s' _ es' F1 _ g1 hb (by grind) (λj x y hx hy=>by obtain⟨q1,q2⟩:=hv (j+1) x y (by grind) (by grind);exact⟨q1,q2.mono g4 (λ_ _=>rfl) g3⟩) m1 m2;refine⟨F2,Pm,k1,g2.trans k2,by rw[k3,zas],k4,k5,?_⟩;have Ap:v.cells.size=k:=by have:=(cH g5).1;grind
    have hle:i0*k+k<=cs.size:=by
     rw[cp]
     calc i0*k+k=(i0+1)*k:=by rw[zaz,zaV]
      _<=es.length*k:=zah _ hi
    have cv:(decide (v.cells.size≠k)||decide (i0*k+v.cells.size>cs.size))=false:=by simp;omega
    simp only[Instr.fill,cv,zar,za3];rw[<-k6];congr 1;rw[<-zcl];simp
   cases hb
  cases hb
theorem Aq(h:aq Q T F G w a s){dst:Option Nat}{t:TypeId}{len:Nat}{ps:List (Nat×P)}{s':S}(hs:lL Q s dst t len ps=some s'){vs:Array (Nat×Value)}(hl:vs.toList.length=ps.length)
  (hv: ∀(i:Nat) x y,vs.toList[i]?=some x->ps[i]?=some y->x.1=y.1/\ao F w G s.rg x.2 y.2):
  ∃v w' F' G',(Instr.buildSlice t len vs).run Q w= .ok v w'/\aq Q T F' G' w' (a.put dst v) s'/\Ext (Own G s.rg) (Own G' s'.rg) F F' w w':=by
 unfold lL at hs;split at hs
 next e het=>
  have ht:=cu het;split at hs
  next i k z hi hk hz=>
   obtain⟨i',_,qY,_,cJ⟩:=dQ hk;rw[hi] at qY;cases qY;obtain⟨zv,xI,Bv,Gh⟩:=jq hi hz;split at hs
   ·rename_i cv;simp only[zad] at cv;obtain⟨⟨rC,CD⟩,tR⟩:=cv;have rC:z.cells.length=k+1:=by simpa using rC
    have CD:len*(k+1)<=16777216:=zbu CD;split at hs
    ·rename_i s1 es Mq;split at hs
     ·rename_i s2 az hn;have Hf: ∃xW:Array Value,xW.size=(List.replicate len z).length*(k+1)/\fC F w xW (k+1) (List.replicate len z)/\((len*(k+1)=0/\xW= #[])\/(len*(k+1)≠0/\xW=madeCells zv.cells (len*(k+1)))):=by
       by_cases h0:len*(k+1)=0
       ·have:len=0:=by grind
        subst this;exact⟨#[],by simp,λi x hx=>by simp at hx,.inl ⟨h0,rfl⟩⟩
       exact⟨madeCells zv.cells (len*(k+1)),by rw[size_madeCells,zaR],la (aA.nh _ _ Bv) rC (zae _),.inr ⟨h0,rfl⟩⟩
      obtain⟨xW,q1,q2,q3⟩:=Hf;obtain⟨F1,uV,g1,g2,g3,g4,g5,g6⟩:=kD (by omega) ps vs.toList s s1 _ es F xW h Mq hl hv q1 q2;have hlen:es.length=len:=by rw[g3,zaR]
      obtain⟨h1,h2,h3,h4⟩:=gP g1 hn (g1:= .slice (some ⟨w.heap.size,0,none⟩) len len) (w':=w.alloc (.cells uV e))
       (λb hb=>heap_alloc_old w _ b hb) (by simp) rfl rfl rfl (λb hb=>by simp[ay,aj] at hb;omega)
       (.inr ⟨w.heap.size,len,uV,k+1,by rw[aC,hlen],heap_alloc_new w _,hk,by omega,by omega,by simp only[maxLen];have:len<=len*(k+1):=Nat.le_mul_of_pos_right _ (by omega);omega,
        by rw[g4,hlen],by simp,g5.mono (λ_ h=>h) (λb hb=>heap_alloc_old w _ b (g1.fw b hb))⟩)
      obtain⟨c1,c2⟩:=bc h1 hs (v:= .slice (some ⟨w.heap.size,0,none⟩) len len) (bt.of (.sl (site dst) az len _ rfl ⟨_,h4,zae _,λ_ _=>⟨_,len,len,aC _ _ _,rfl,zae _⟩⟩));refine⟨_,_,_,_,?_,c1,?_⟩
      ·have cp:(Go.sizeOf e).run Q w= .ok (k+1) w:=run_sizeOf hk w;unfold Instr.buildSlice;simp only[Sem.run_bind,run_underlying ht,Result.andThen_ok,cp];rw[zaB (by omega)];rcases q3 with⟨h0,rfl⟩| ⟨h0,rfl⟩
       ·have e0:((Array.range (len*(k+1))).map λx=>(#[]:Array Value)[x%(#[]:Array Value).size]!)= #[]:=by rw[h0];simp
        rw[zat h0];simp only[Sem.run_bind,Sem.run_pure,Result.andThen_ok];rw[e0,g6];rfl
       have e0:((Array.range (len*(k+1))).map λx=>zv.cells[x%zv.cells.size]!)=madeCells zv.cells (len*(k+1)):=rfl;rw[zaB h0];have qW:(zeroValue e).run Q w= .ok zv w:=by simp[zeroValue,typeInfo,hi,xI]
       simp only[Sem.run_bind,Sem.run_pure,Result.andThen_ok,qW];rw[e0,g6];rfl
      rw[c2];exact g2.trans h2
     cases hs
    cases hs
   cases hs
  cases hs
 cases hs
theorem lG{t:TypeId}{k:Nat}: ∀(ps:List (Nat×P)) (es es':List D),kZ Q t k es ps=some es'-> ∀s:S,bK Q t k s es ps=some (s,es')
 | [],es,es',h,s=>by simp only[kZ,zaf] at h;subst h;rfl
 | (i,.d x)::r,es,es',h,s=>by
  have e:jh Q s t (.d x)=some (s,Lb Q t x):=by
   unfold jh Lb;cases lz Q t with
   |false=>rfl
   |true=>show(GR Q t x).force (λy=>some (s,y))=_;rw[D.force_eq]
  simp only[kZ] at h;split at h
  next hc=>simp only[bK,e,zat hc];exact lG r _ _ h s
  cases h
 | (_,.agg _)::_,_,_,h,_ | (_,.fL _)::_,_,_,h,_ | (_,.ref ..)::_,_,_,h,_ | (_,.bR ..)::_,_,_,h,_ | (_,.dg ..)::_,_,_,h,_ | (_,.sl ..)::_,_,_,h,_ | (_,.hZ ..)::_,_,_,h,_ | (_,.mp ..)::_,_,_,h,_ | (_,.fn ..)::_,_,_,h,_ | (_,.bad)::_,_,_,h,_ | (_,.when ..)::_,_,_,h,_=>by simp[kZ] at h
theorem aq.grow(h:aq Q T F G w a s)(cs:Array Value)(e:TypeId):aq Q T (λb=>F b\/b=w.heap.size) G (w.alloc (.cells cs e)) a s/\Ext (Own G s.rg) (Own G s.rg) F (λb=>F b\/b=w.heap.size) w (w.alloc (.cells cs e)):=by
 have hk: ∀b,b<w.heap.size->(w.alloc (.cells cs e)).heap[b]?=w.heap[b]?:=λb hb=>heap_alloc_old w _ b hb;have cp:(w.alloc (.cells cs e)).heap.size=w.heap.size+1:=by simp
 have hx:Ext (Own G s.rg) (Own G s.rg) F (λb=>F b\/b=w.heap.size) w (w.alloc (.cells cs e)):=
  ⟨λ_=> .inl,λb hb=>hb.elim .inl λe=> .inr (.inr (by omega)),λ_=> .inl,λb hb _=>hk b hb,by omega,rfl,rfl,rfl⟩
 refine⟨⟨h.mf.go hx,h.size,λt p hp=>bt.mono (λ_=> .inl) (λb hb=>hk b (h.fw b hb)) (Names.refl _ _) (h.tm t p hp),λn e he=>(h.rg n e he).mono (λ_=> .inl) (λb hb=>hk b (h.fw b hb)) (Names.refl _ _) rfl (λb hb=>hk b ((h.rg n e he).lt hb)),h.own,
  λn e b he hb hf=>hf.elim (h.gG n e b he hb) λe'=> ?_,λb hb=> ?_,h.tag,λb hb=>⟨.inl (h.z b hb).1,(hk b (h.fw b (h.z b hb).1)).trans (h.z b hb).2⟩,h.dr,zaN h.sz hx.size⟩,hx⟩
 ·have:=(h.rg n e he).lt hb;omega
 rcases hb with hb |hb
 ·have:=h.fw b hb;omega
 omega
theorem CG(h:aq Q T F G w a s){t:TypeId}{len:Nat}{ps:List (Nat×P)}{p:P}(hs:rY Q t len ps=some p){vs:Array (Nat×Value)}(hl:vs.toList.length=ps.length)
  (hv: ∀(i:Nat) x y,vs.toList[i]?=some x->ps[i]?=some y->x.1=y.1/\ao F w G s.rg x.2 y.2):
  ∃v w' F',(Instr.buildSlice t len vs).run Q w= .ok v w'/\aq Q T F' G w' a s/\ao F' w' G s.rg v p/\Ext (Own G s.rg) (Own G s.rg) F F' w w':=by
 unfold rY at hs;split at hs
 next e het=>
  have ht:=cu het;split at hs
  next i k z hi hk hz=>
   obtain⟨i',_,qY,_,cJ⟩:=dQ hk;rw[hi] at qY;cases qY;obtain⟨zv,xI,Bv,Gh⟩:=jq hi hz;split at hs
   ·rename_i cv;simp only[zad] at cv;obtain⟨⟨rC,CD⟩,tR⟩:=cv;have rC:z.cells.length=k+1:=by simpa using rC
    have CD:len*(k+1)<=16777216:=zbu CD;split at hs
    ·rename_i es Pn;cases hs;have Mq:=lG _ _ _ Pn s;have Hf: ∃xW:Array Value,xW.size=(List.replicate len z).length*(k+1)/\fC F w xW (k+1) (List.replicate len z)/\((len*(k+1)=0/\xW= #[])\/(len*(k+1)≠0/\xW=madeCells zv.cells (len*(k+1)))):=by
      by_cases h0:len*(k+1)=0
      ·have:len=0:=by grind
       subst this;exact⟨#[],by simp,λi x hx=>by simp at hx,.inl ⟨h0,rfl⟩⟩
      exact⟨madeCells zv.cells (len*(k+1)),by rw[size_madeCells,zaR],la (aA.nh _ _ Bv) rC (zae _),.inr ⟨h0,rfl⟩⟩
     obtain⟨xW,q1,q2,q3⟩:=Hf;obtain⟨F1,uV,g1,g2,g3,g4,g5,g6⟩:=kD (by omega) ps vs.toList s s _ es F xW h Mq hl hv q1 q2;have hlen:es.length=len:=by rw[g3,zaR]
     obtain⟨h1,h2⟩:=g1.grow uV e;have hE:fC (λb=>F1 b\/b=w.heap.size) (w.alloc (.cells uV e)) uV (k+1) es:=g5.mono (λ_=> .inl) (λb hb=>heap_alloc_old w _ b (g1.fw b hb));refine⟨.slice (some ⟨w.heap.size,0,none⟩) len len,_,_,?_,h1,?_,g2.trans h2⟩
     ·have cp:(Go.sizeOf e).run Q w= .ok (k+1) w:=run_sizeOf hk w;unfold Instr.buildSlice;simp only[Sem.run_bind,run_underlying ht,Result.andThen_ok,cp];rw[zaB (by omega)];rcases q3 with⟨h0,rfl⟩| ⟨h0,rfl⟩
      ·have e0:((Array.range (len*(k+1))).map λx=>(#[]:Array Value)[x%(#[]:Array Value).size]!)= #[]:=by rw[h0];simp
       rw[zat h0];simp only[Sem.run_bind,Sem.run_pure,Result.andThen_ok];rw[e0,g6];rfl
      have e0:((Array.range (len*(k+1))).map λx=>zv.cells[x%zv.cells.size]!)=madeCells zv.cells (len*(k+1)):=rfl;rw[zaB h0];have qW:(zeroValue e).run Q w= .ok zv w:=by simp[zeroValue,typeInfo,hi,xI]
      simp only[Sem.run_bind,Sem.run_pure,Result.andThen_ok,qW];rw[e0,g6];rfl
     refine .d ?_;have aW: ∀j,j<es.length*(k+1)->(w.alloc (.cells uV e)).cell? ⟨w.heap.size,0+j,none⟩=some (uV.getD j undef):=λj hj=>by simp_all
     have:=aA.Bq (F:=λb=>F1 b\/b=w.heap.size) (w:=w.alloc (.cells uV e)) w.heap.size 0 (k+1) len es (λj=>uV.getD j undef) (by omega) (.inr rfl)
      (λx hx=>by obtain⟨i,hi,rfl⟩:=zaM hx;exact(hE i _ (zac hi)).1) (λx hx=>by obtain⟨i,hi,rfl⟩:=zaM hx;exact(hE i _ (zac hi)).2.1) aW (λi j x c hx hc=>(hE i x hx).2.2 j c hc)
     rwa [hlen] at this
    cases hs
   cases hs
  cases hs
 cases hs
theorem tT{t tx ty e:TypeId}{i:TypeInfo}(ht:Q.underlying t=some (.slice e))(hi:Q.info? e=some i){b dLen dCap:Nat}{cur:Array Value}(hg:w.heap[b]?=some (.cells cur e (0,0))){x:Value}{n:Nat}{news:List Value}(hs:Src Q i.size tx x n news w)
  (hn:n<=dLen) (vL:news.length<=cur.size):
  (Builtin.copy_ #[t,tx] ty #[.slice (some ⟨b,0,none⟩) dLen dCap,x]).run Q w= .ok (goInt n) (w.setRow b (news++cur.toList.drop news.length).toArray):=by
 have iO:=run_storeCells_at Q b 0 e news 0 cur w hg (by grind) hs.one;have hm:Nat.min n dLen=n:=zca hn;simp[Builtin.copy_,run_underlying ht,Go.sizeOf,typeInfo,hi,hs.len,hm,hs.cells,iO]
theorem run_copy_none{t tx ty e:TypeId}{i:TypeInfo}(ht:Q.underlying t=some (.slice e))(hi:Q.info? e=some i){dLen dCap:Nat}{x:Value}(hs:Src Q i.size tx x 0 [] w):
  (Builtin.copy_ #[t,tx] ty #[.slice none dLen dCap,x]).run Q w= .ok (goInt 0) w:=by
 have hm:Nat.min 0 dLen=0:=Nat.zero_min _;simp[Builtin.copy_,run_underlying ht,Go.sizeOf,typeInfo,hi,hs.len,hm,hs.cells]
theorem CH(h:aq Q T F G w a s){dst:Option Nat}{t t2 ty:TypeId}{p q:P}{s':S}(hs:mv Q s dst t t2 p q=some s'){vx vy:Value}(hx:ao F w G s.rg vx p)(hy:ao F w G s.rg vy q):
  ∃v w' G',(Builtin.copy_ #[t,t2] ty #[vx,vy]).run Q w= .ok v w'/\aq Q T F G' w' (a.put dst v) s'/\Ext (Own G s.rg) (Own G' s'.rg) F F w w':=by
 unfold mv at hs;split at hs
 next e n az len het=>
  have ht:=cu het;split at hs
  next k hk=>
   obtain⟨i,_,hi,_,cJ⟩:=dQ hk;split at hs
   ·rename_i ys ty' es Ix ho;split at hs
    ·rename_i hc;simp only[zad,zaI] at hc;obtain⟨sa,hle,Lo⟩:=hc;have sa:ty'=e:=by simpa using sa
     subst sa;obtain⟨en,eP,bN,aP⟩:=S.aJ ho;obtain⟨news,pT,fg⟩:=tS h (by omega) Ix hy;have Gj:Src Q i.size t2 vy ys.length news w:=by rw[cJ];exact pT
     rw[S.a8 eP] at hs;have bX:jJ G s.rg n ⟨en.az,en.tag,.arr ty' false (ys++es.drop ys.length)⟩ (G n):=λe' bb=>by rw[eP] at bb;cases bb;exact .inr ⟨rfl,λ_=>⟨by rw[aP];rfl,rfl⟩⟩
     have fin: ∀(w':World) (v:Value),(Builtin.copy_ #[t,t2] ty #[vx,vy]).run Q w= .ok v w'->v= .int .i64 ys.length->(∀b,b<w.heap.size-> ¬(∃e,lk s.rg n=some e/\ay (G n) e.obj b)->w'.heap[b]?=w.heap[b]?)->
       w.heap.size<=w'.heap.size->w'.os=w.os->w'.tape=w.tape->w'.output=w.output->eO Q F w' G (ins n ⟨en.az,en.tag,.arr ty' false (ys++es.drop ys.length)⟩ s.rg) n (.arr ty' false (ys++es.drop ys.length))->
       ∃v w' G',(Builtin.copy_ #[t,t2] ty #[vx,vy]).run Q w= .ok v w'/\aq Q T F G' w' (a.put dst v) s'/\Ext (Own G s.rg) (Own G' s'.rg) F F w w':=by
      intro w' v aX hv bY cp EO Mr iG CI;obtain⟨d1,d2⟩:=h.iH (n:=n) (e1:=⟨en.az,en.tag,.arr ty' false (ys++es.drop ys.length)⟩) (g1:=G n) (w':=w') (hdr:=iT _ aX) bX bY cp EO Mr iG
       (λb hb=> .inr ⟨en,eP,by rw[aP];exact hb⟩) (by rw[aK];exact CI) (λi qY _=>h.tag n en i eP qY (by rw[aP];rfl))
      obtain⟨c1,c2⟩:=bc d1 hs (v:= .int .i64 ys.length) (bt.of (.d (.int .i64 ys.length)));grind
     have hO:=h.rg n en eP;rw[aP] at hO;cases hx with
     |sl _ _ _ _ h1 hr=>
      obtain⟨a0,N,cap,hG,rfl,JI⟩:=hr.at eP bN (by rw[aP];rfl);rcases hO with⟨hg,rfl⟩| ⟨b,dV,cs,k',hg,hh,ij,Cy,sg,qX,cp,_,hE⟩
      ·rw[hG] at hg;obtain⟨rfl,rfl,rfl⟩:=hg;have h0:ys=[]:=zaJ (by omega);subst h0;have He:news=[]:=by have:=fg.1;simpa using this
       subst He;exact fin w _ (run_copy_none ht hi Gj) rfl (λ_ _ _=>rfl) (zae _) rfl rfl rfl (.inl ⟨hG,by simp⟩)
      rw[hk] at ij;cases ij;rw[hG] at hg;obtain⟨rfl,rfl,rfl⟩:=hg;have EH:ys.length<=es.length:=by omega
      have EU:news.length=ys.length*(k+1):=fg.1;have vL:news.length<=cs.size:=by rw[EU,cp];exact zah _ (by omega)
      have aX:=tT (ty:=ty) (dLen:=len) (dCap:=cap) ht hi hh Gj Lo vL;have kC:(ys++es.drop ys.length).length=es.length:=by rw[zaw,zbA];omega
      have cA:ay (G n) en.obj b:=by rw[aP,hG];simp[ay,aj]
      have ES: ¬F b:=h.gG n en b eP cA;have Ms: ∀c,F c->(w.setRow b (news++cs.toList.drop news.length).toArray).heap[c]?=w.heap[c]?:=λc hc=>setRow_other w b c _ (λe=>ES (e▸hc));refine fin _ _ aX rfl (λc _ bg=>setRow_other w b c _ (λe'=>bg ⟨en,eP,by rw[e'];exact cA⟩)) (by simp) rfl rfl rfl
       (.inr ⟨b,cap,_,k+1,by rw[kC];exact hG,setRow_heap w b cs _ ty' _ hh,hk,by omega,by rw[kC];exact sg,qX,?_,by simp,?_⟩)
      ·skip
       grind
      refine cy.Mk ?_;rw[kC];have hf:=(cy.take hE (zae _) (by simp_all [zah])).drop ys.length;rw[zb7] at hf;have e1:((news++cs.toList.drop news.length).toArray.toList.take (es.length*(k+1)))=news++(cs.toList.take (es.length*(k+1))).drop (ys.length*(k+1)):=by rw[List.take_append,zay (by simp_all [zah]),EU,zcf]
      rw[e1];exact(fg.append hf).mono (λ_ h=>h) Ms
     |_=>rename_i hd;cases hd
    cases hs
   cases hs
  cases hs
 cases hs
theorem Ar{F:Nat->Prop}{w:World}{z:D}{zv:Value}{k l:Nat}(hz:aA F w zv z)(hl:z.cells.length=k):cy F w k (List.replicate l z) (Builtin.zeroCells zv.cells l).toList:=by
 obtain⟨c1,c2,c3⟩:=cH hz;have hs:zv.cells.size=k:=by rw[<-hl,<-c1];simp
 have hE:=la (l:=l) (n:=l*k) hz hl (zae _);have cp:(madeCells zv.cells (l*k)).size=l*k:=by simp[size_madeCells]
 have hf:=cy.take (len:=l) hE (by simp) (by rw[zaR,cp];simp);have e1:(List.replicate l z).take l=List.replicate l z:=zay (by simp);have e2:(Builtin.zeroCells zv.cells l).toList=(madeCells zv.cells (l*k)).toList.take (l*k):=by rw[zay (by grind)];unfold Builtin.zeroCells madeCells;rw[hs]
 rw[e1] at hf;rw[e2];exact hf
theorem As(h:aq Q T F G w a s){dst:Option Nat}{t ty:TypeId}{p:P}{s':S}(hs:ji Q s dst t p=some s'){vx:Value}(hx:ao F w G s.rg vx p):
  ∃v w' G',(Builtin.clear_ #[t] ty #[vx]).run Q w= .ok v w'/\aq Q T F G' w' (a.put dst v) s'/\Ext (Own G s.rg) (Own G' s'.rg) F F w w':=by
 unfold ji at hs;split at hs
 next e n az k0 off len het=>
  have ht:=cu het;split at hs
  next k z ty' es hk hz ho=>
   obtain⟨i,_,hi,_,cJ⟩:=dQ hk;split at hs
   ·rename_i hc;simp only[zad,zaI] at hc;obtain⟨⟨⟨sa,dW⟩,rC⟩,Po⟩:=hc;have sa:ty'=e:=zab sa;have dW:k0=k+1:=zab dW;have rC:z.cells.length=k+1:=zab rC;subst sa dW;obtain⟨en,eP,bN,aP⟩:=S.aJ ho;obtain⟨zv,qW,uU⟩:=kq hz w;rw[S.a8 eP] at hs;generalize Hg:es.take off++List.replicate len z++es.drop (off+len)=es' at hs;have kC:es'.length=es.length:=by rw[<-Hg];simp;omega
    have bX:jJ G s.rg n ⟨en.az,en.tag,.arr ty' false es'⟩ (G n):=λe' bb=>by rw[eP] at bb;cases bb;exact .inr ⟨rfl,λ_=>⟨by rw[aP];rfl,rfl⟩⟩
    have fin: ∀(w':World),(Builtin.clear_ #[t] ty #[vx]).run Q w= .ok (.tuple #[]) w'->(∀b,b<w.heap.size-> ¬(∃e,lk s.rg n=some e/\ay (G n) e.obj b)->w'.heap[b]?=w.heap[b]?)->
      w.heap.size<=w'.heap.size->w'.os=w.os->w'.tape=w.tape->w'.output=w.output->eO Q F w' G (ins n ⟨en.az,en.tag,.arr ty' false es'⟩ s.rg) n (.arr ty' false es')->
      ∃v w' G',(Builtin.clear_ #[t] ty #[vx]).run Q w= .ok v w'/\aq Q T F G' w' (a.put dst v) s'/\Ext (Own G s.rg) (Own G' s'.rg) F F w w':=by
     intro w' aX bY cp EO Mr iG CI;obtain⟨d1,d2⟩:=h.iH (n:=n) (e1:=⟨en.az,en.tag,.arr ty' false es'⟩) (g1:=G n) (w':=w') (hdr:=iT _ aX) bX bY cp EO Mr iG
      (λb hb=> .inr ⟨en,eP,by rw[aP];exact hb⟩) (by rw[aK];exact CI) (λi qY _=>h.tag n en i eP qY (by rw[aP];rfl))
     obtain⟨c1,c2⟩:=bc d1 hs (v:= .tuple #[]) (bt.of (.bad _));grind
    have hO:=h.rg n en eP;rw[aP] at hO;cases hx with
    |hZ _ _ _ _ _ _ h1 hr=>
     obtain⟨a0,N,cap,hG,hle,a1,ll,rfl,Cc,Lq⟩:=hr.at eP bN (by rw[aP];rfl);by_cases h0:len=0
     ·subst h0;have e0:es'=es:=by rw[<-Hg];simp
      subst e0;refine fin w ?_ (λ_ _ _=>rfl) (zae _) rfl rfl rfl ?_
      ·cases a1<;>simp[Builtin.clear_,run_underlying ht]
      exact hO
     obtain⟨b0,GW,Cd⟩: ∃b,a0=some ⟨b,0,none⟩/\a1=some ⟨b,off*(k+1),none⟩:=by grind
     subst GW Cd;rcases hO with⟨hg,rfl⟩| ⟨b,dV,cs,k',hg,hh,ij,Cy,sg,qX,cp,_,hE⟩
     ·rw[hG] at hg;simp at hg
     rw[hk] at ij;cases ij;rw[hG] at hg;obtain⟨rfl,rfl,rfl⟩:=hg;have vK:=Ar (l:=len) uU rC;have EU:(Builtin.zeroCells zv.cells len).toList.length=len*(k+1):=by have:=vK.1;grind
     have hole:off*(k+1)+len*(k+1)<=es.length*(k+1):=by rw[<-zaz];simp_all [zah]
     have Pp:es.length*(k+1)<=cs.size:=by simp_all [zah]
     have iO:=run_storeCells_at Q b0 (off*(k+1)) ty' (Builtin.zeroCells zv.cells len).toList 0 cs w hh (by omega) (vK.one (by omega));simp only[zbJ,EU] at iO;have aX:(Builtin.clear_ #[t] ty #[.slice (some ⟨b0,off*(k+1),none⟩) len ll]).run Q w= .ok (.tuple #[]) (w.setRow b0 (cs.toList.take (off*(k+1))++(Builtin.zeroCells zv.cells len).toList++cs.toList.drop (off*(k+1)+len*(k+1))).toArray):=by simp[Builtin.clear_,run_underlying ht,qW,iO]
     have cA:ay (G n) en.obj b0:=by rw[aP,hG];simp[ay,aj]
     have ES: ¬F b0:=h.gG n en b0 eP cA;have Ms: ∀c,F c->(w.setRow b0 (cs.toList.take (off*(k+1))++(Builtin.zeroCells zv.cells len).toList++cs.toList.drop (off*(k+1)+len*(k+1))).toArray).heap[c]?=w.heap[c]?:=λc hc=>setRow_other w b0 c _ (λe=>ES (e▸hc));refine fin _ aX (λc _ bg=>setRow_other w b0 c _ (λe'=>bg ⟨en,eP,by rw[e'];exact cA⟩)) (by simp) rfl rfl rfl
      (.inr ⟨b0,cap,_,k+1,by rw[kC];exact hG,setRow_heap w b0 cs _ ty' _ hh,hk,by omega,by rw[kC];exact sg,qX,?_,by simp,?_⟩)
     ·skip
      grind
     refine cy.Mk ?_;rw[kC,<-Hg];have f1:=cy.take (len:=off) hE (by omega) (by grind);have f3:=(cy.take hE (zae _) (by grind)).drop (off+len);rw[zb7] at f3;have e1:((cs.toList.take (off*(k+1))++(Builtin.zeroCells zv.cells len).toList++cs.toList.drop (off*(k+1)+len*(k+1))).toArray.toList.take (es.length*(k+1)))=cs.toList.take (off*(k+1))++(Builtin.zeroCells zv.cells len).toList++(cs.toList.take (es.length*(k+1))).drop ((off+len)*(k+1)):=by
      have l1:(cs.toList.take (off*(k+1))).length=off*(k+1):=by simp;omega
      rw[List.take_append,zay (by rw[zaw,l1,EU];exact hole),zaw,l1,EU,zcf,zaz]
     rw[e1];exact((f1.append vK).append f3).mono (λ_ h=>h) Ms
    |_=>rename_i hd;cases hd
   cases hs
  cases hs
 cases hs
end
end Pi
