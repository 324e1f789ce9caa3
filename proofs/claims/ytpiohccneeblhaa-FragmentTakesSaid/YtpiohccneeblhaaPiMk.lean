/- The text PiMk. -/
import Derived.Test.YtpiohccneeblhaaPiEfOk4
import Derived.Laws.MakeOwn
namespace Pi
open Go
section
variable{Q:Program}{T:Tg}{F:Nat->Prop}{G:Nat->Value}{w:World}{a:Act}{s:S}
theorem Cj{zc:Array Value}{n k i j:Nat}(hk:zc.size=k)(hj:j<k)(hn:i*k+j<n):(madeCells zc n).getD (i*k+j) undef=zc.getD j undef:=by
 have e:(i*k+j)%zc.size=j:=by rw[hk,zca,Nat.mul_add_mod,Nat.mod_eq_of_lt hj]
 have Ck:j<zc.size:=by omega
 simp[madeCells,Array.getD,hn,e,Ck]
theorem la{F:Nat->Prop}{w:World}{z:D}{zv:Value}{k l n:Nat}(hz:az F w zv z)(hl:z.cells.length=k)(hn:l*k<=n):fC F w (madeCells zv.cells n) k (List.replicate l z):=by
 obtain⟨c1,c2,c3⟩:=cH hz;have hs:zv.cells.size=k:=by rw[<-hl,<-c1];simp
 intro i x hx;rw[List.getElem?_replicate] at hx;split at hx
 next hi=>
  cases hx;refine⟨hl,c2,λj c hc=> ?_⟩;have hj:j<k:=by have:=(zaa.1 hc).1;omega
  have bj:i*k+j<n:=by
   calc i*k+j<i*k+k:=by omega
    _=(i+1)*k:=by rw[zaz,zaV]
    _<=l*k:=zag _ hi
    _<=n:=hn
  rw[Cj hs hj bj];exact c3 j _ c (by simp_all) hc
 cases hx
theorem Cl(h:aq Q T F G w a s){dst:Option Nat}{t:TypeId}{p q:P}{s':S}(hs:mj Q s dst t p q=some s'){vx vy:Value}(hx:ao F w G s.rg vx p)(hy:ao F w G s.rg vy q):
  ∃v w' G',(Instr.makeSlice t vx vy).run Q w= .ok v w'/\aq Q T F G' w' (a.put dst v) s'/\Ext (Own G s.rg) (Own G' s'.rg) F F w w':=by
 unfold mj at hs;split at hs
 next e k1 l k2 c het=>
  have ht:=ct het;split at hs
  next i k z hi hk hz=>
   obtain⟨i',_,qV,_,cJ⟩:=dP hk;rw[hi] at qV;cases qV;obtain⟨zv,xw,Bf,FZ⟩:=jq hi hz;split at hs
   ·rename_i cu;simp only[zad,zaP] at cu;obtain⟨rv,h0,sb,KU,hb⟩:=cu;have rv:z.cells.length=k+1:=by simpa using rv
    split at hs
    ·rename_i s1 v hn;cases hx with
     |d hx=>
      cases hx;cases hy with
      |d hy=>
       cases hy;have hr:=run_make (P:=Q) w t e i zv ht hi xw k1 k2 l c h0 sb hb KU;have hle:l.toNat<=c.toNat:=by omega
       obtain⟨h1,h2,h3,h4⟩:=gP h hn (g1:= .slice (some ⟨w.heap.size,0,none⟩) l.toNat c.toNat) (w':=w.alloc (.cells (madeCells zv.cells (c.toNat*i.size)) e))
        (λb hb=>heap_alloc_old w _ b hb) (by simp) rfl rfl rfl (λb hb=>by simp[ax,aj] at hb;omega)
        (.inr ⟨w.heap.size,c.toNat,madeCells zv.cells (c.toNat*i.size),k+1,by rw[aB,zaR],heap_alloc_new w _,hk,by omega,by rw[zaR];exact hle,by simp only[maxLen];omega,
         by rw[size_madeCells,cJ],by simp,la (az.nc _ _ Bf) rv (by simp_all [zag])⟩)
       obtain⟨c1,c2⟩:=bf h1 hs (v:= .slice (some ⟨w.heap.size,0,none⟩) l.toNat c.toNat) (br.of (.sl (site dst) v l.toNat _ rfl ⟨_,h4,zae _,λ_ _=>⟨_,l.toNat,c.toNat,aB _ _ _,rfl,zae _⟩⟩));grind
    cases hs
   cases hs
  cases hs
 cases hs
theorem fC.set{F:Nat->Prop}{w:World}{cs:Array Value}{k i:Nat}{es:List D}{x:D}{v:Value}(hE:fC F w cs k es)(cm:cs.size=es.length*k)(hi:i<es.length)(hx:az F w v x)(hl:x.cells.length=k):
  ((v.cells.toList.zipIdx 0).foldl (λ(cs:Array Value) (x:Value×Nat)=>cs.setIfInBounds (i*k+x.2) x.1) cs).size=(es.set i x).length*k/\
  fC F w ((v.cells.toList.zipIdx 0).foldl (λ(cs:Array Value) (x:Value×Nat)=>cs.setIfInBounds (i*k+x.2) x.1) cs) k (es.set i x):=by
 obtain⟨c1,c2,c3⟩:=cH hx;have hle:i*k+k<=es.length*k:=by
  calc i*k+k=(i+1)*k:=by rw[zaz,zaV]
   _<=es.length*k:=zag _ hi
 obtain⟨h1,h2⟩:=tC (i*k) v.cells.toList 0 cs (by omega);refine⟨by rw[h1,cm,zas],λi' y hy=> ?_⟩;by_cases he:i=i'
 ·grind
 rw[zau he] at hy;obtain⟨g1,g2,g3⟩:=hE i' y hy;refine⟨g1,g2,λj c hc=> ?_⟩;have hj:j<k:=by have:=(zaa.1 hc).1;omega
 have bg: ¬(i*k+0<=i'*k+j/\i'*k+j<i*k+0+v.cells.toList.length):=by
  rcases zbB he with h |h
  ·have:(i+1)*k<=i'*k:=zag _ h;rw[zaz,zaV] at this;omega
  have:(i'+1)*k<=i*k:=zag _ h;rw[zaz,zaV] at this;omega
 grind
theorem kD{t:TypeId}{k:Nat}(hk:0<k): ∀(ps:List (Nat×P)) (vs:List (Nat×Value)) (s s':S) (es es':List D) (F:Nat->Prop) (cs:Array Value),aq Q T F G w a s->bI Q t k s es ps=some (s',es')->
  vs.length=ps.length->(∀(i:Nat) x y,vs[i]?=some x->ps[i]?=some y->x.1=y.1/\ao F w G s.rg x.2 y.2)->cs.size=es.length*k->fC F w cs k es->
  ∃F' jd,aq Q T F' G w a s'/\Ext (Own G s.rg) (Own G s'.rg) F F' w w/\es'.length=es.length/\jd.size=es'.length*k/\fC F' w jd k es'/\Instr.fill (λi=>some (i*k,k)) cs vs=some jd
 | [],vs,s,s',es,es',F,cs,h,hb,hl,_,cm,hE=>by
  obtain⟨rfl,rfl⟩:=hb;have:vs=[]:=by grind
  subst this;exact⟨F,cs,h,Ext.refl _ _ _,rfl,cm,hE,rfl⟩
 | (i,p)::ps,[],s,s',es,es',F,cs,h,hb,hl,_,cm,hE=>by simp at hl
 | (i,p)::ps,(i0,v)::vs,s,s',es,es',F,cs,h,hb,hl,hv,cm,hE=>by
  simp only[bI] at hb;split at hb
  next s1 x hf=>
   split at hb
   ·rename_i hc;simp only[zad] at hc;have xF:x.cells.length=k:=by simpa using hc.1
    have hi:i<es.length:=by simp_all
    obtain⟨e0,hp⟩:=hv 0 (i0,v) (i,p) rfl rfl;subst e0;obtain⟨F1,g1,g2,g3,g4,g5⟩:=oV h hf hp;have OM:fC F1 w cs k es:=hE.mono g4 (λ_ _=>rfl);obtain⟨m1,m2⟩:=OM.set cm hi g5 xF;obtain⟨F2,ON,k1,k2,k3,k4,k5,k6⟩:=kD hk ps vs s1 s' _ es' F1 _ g1 hb (by grind) (λj x y hx hy=>by obtain⟨q1,q2⟩:=hv (j+1) x y (by grind) (by grind);exact⟨q1,q2.mono g4 (λ_ _=>rfl) g3⟩) m1 m2;refine⟨F2,ON,k1,g2.trans k2,by rw[k3,zas],k4,k5,?_⟩;have Ab:v.cells.size=k:=by have:=(cH g5).1;grind
    have hle:i0*k+k<=cs.size:=by
     rw[cm]
     calc i0*k+k=(i0+1)*k:=by rw[zaz,zaV]
      _<=es.length*k:=zag _ hi
    have cu:(decide (v.cells.size≠k)||decide (i0*k+v.cells.size>cs.size))=false:=by simp;omega
    simp only[Instr.fill,cu,zar,za2];rw[<-k6];congr 1;rw[<-zck];simp
   cases hb
  cases hb
theorem Ac(h:aq Q T F G w a s){dst:Option Nat}{t:TypeId}{len:Nat}{ps:List (Nat×P)}{s':S}(hs:lJ Q s dst t len ps=some s'){vs:Array (Nat×Value)}(hl:vs.toList.length=ps.length)
  (hv: ∀(i:Nat) x y,vs.toList[i]?=some x->ps[i]?=some y->x.1=y.1/\ao F w G s.rg x.2 y.2):
  ∃v w' F' G',(Instr.buildSlice t len vs).run Q w= .ok v w'/\aq Q T F' G' w' (a.put dst v) s'/\Ext (Own G s.rg) (Own G' s'.rg) F F' w w':=by
 unfold lJ at hs;split at hs
 next e het=>
  have ht:=ct het;split at hs
  next i k z hi hk hz=>
   obtain⟨i',_,qV,_,cJ⟩:=dP hk;rw[hi] at qV;cases qV;obtain⟨zv,xw,Bf,FZ⟩:=jq hi hz;split at hs
   ·rename_i cu;simp only[zad] at cu;obtain⟨⟨rv,Cm⟩,tK⟩:=cu;have rv:z.cells.length=k+1:=by simpa using rv
    have Cm:len*(k+1)<=16777216:=zbt Cm;split at hs
    ·rename_i s1 es LY;split at hs
     ·rename_i s2 ay hn;have GU: ∃xM:Array Value,xM.size=(List.replicate len z).length*(k+1)/\fC F w xM (k+1) (List.replicate len z)/\((len*(k+1)=0/\xM= #[])\/(len*(k+1)≠0/\xM=madeCells zv.cells (len*(k+1)))):=by
       by_cases h0:len*(k+1)=0
       ·have:len=0:=by grind
        subst this;exact⟨#[],by simp,λi x hx=>by simp at hx,.inl ⟨h0,rfl⟩⟩
       exact⟨madeCells zv.cells (len*(k+1)),by rw[size_madeCells,zaR],la (az.nc _ _ Bf) rv (zae _),.inr ⟨h0,rfl⟩⟩
      obtain⟨xM,q1,q2,q3⟩:=GU;obtain⟨F1,uL,g1,g2,g3,g4,g5,g6⟩:=kD (by omega) ps vs.toList s s1 _ es F xM h LY hl hv q1 q2;have hlen:es.length=len:=by rw[g3,zaR]
      obtain⟨h1,h2,h3,h4⟩:=gP g1 hn (g1:= .slice (some ⟨w.heap.size,0,none⟩) len len) (w':=w.alloc (.cells uL e))
       (λb hb=>heap_alloc_old w _ b hb) (by simp) rfl rfl rfl (λb hb=>by simp[ax,aj] at hb;omega)
       (.inr ⟨w.heap.size,len,uL,k+1,by rw[aB,hlen],heap_alloc_new w _,hk,by omega,by omega,by simp only[maxLen];have:len<=len*(k+1):=Nat.le_mul_of_pos_right _ (by omega);omega,
        by rw[g4,hlen],by simp,g5.mono (λ_ h=>h) (λb hb=>heap_alloc_old w _ b (g1.fw b hb))⟩)
      obtain⟨c1,c2⟩:=bf h1 hs (v:= .slice (some ⟨w.heap.size,0,none⟩) len len) (br.of (.sl (site dst) ay len _ rfl ⟨_,h4,zae _,λ_ _=>⟨_,len,len,aB _ _ _,rfl,zae _⟩⟩));refine⟨_,_,_,_,?_,c1,?_⟩
      ·have cm:(Go.sizeOf e).run Q w= .ok (k+1) w:=run_sizeOf hk w;unfold Instr.buildSlice;simp only[Sem.run_bind,run_underlying ht,Result.andThen_ok,cm];rw[zaC (by omega)];rcases q3 with⟨h0,rfl⟩| ⟨h0,rfl⟩
       ·have e0:((Array.range (len*(k+1))).map λx=>(#[]:Array Value)[x%(#[]:Array Value).size]!)= #[]:=by rw[h0];simp
        rw[zat h0];simp only[Sem.run_bind,Sem.run_pure,Result.andThen_ok];rw[e0,g6];rfl
       have e0:((Array.range (len*(k+1))).map λx=>zv.cells[x%zv.cells.size]!)=madeCells zv.cells (len*(k+1)):=rfl;rw[zaC h0];have qT:(zeroValue e).run Q w= .ok zv w:=by simp[zeroValue,typeInfo,hi,xw]
       simp only[Sem.run_bind,Sem.run_pure,Result.andThen_ok,qT];rw[e0,g6];rfl
      rw[c2];exact g2.trans h2
     cases hs
    cases hs
   cases hs
  cases hs
 cases hs
theorem lE{t:TypeId}{k:Nat}: ∀(ps:List (Nat×P)) (es es':List D),kZ Q t k es ps=some es'-> ∀s:S,bI Q t k s es ps=some (s,es')
 | [],es,es',h,s=>by simp only[kZ,zaf] at h;subst h;rfl
 | (i,.d x)::r,es,es',h,s=>by
  have e:jh Q s t (.d x)=some (s,KG Q t x):=by
   unfold jh KG;cases lx Q t with
   |false=>rfl
   |true=>show(GA Q t x).force (λy=>some (s,y))=_;rw[D.force_eq]
  simp only[kZ] at h;split at h
  next hc=>simp only[bI,e,zat hc];exact lE r _ _ h s
  cases h
 | (_,.agg _)::_,_,_,h,_ | (_,.fL _)::_,_,_,h,_ | (_,.ref ..)::_,_,_,h,_ | (_,.bP ..)::_,_,_,h,_ | (_,.dg ..)::_,_,_,h,_ | (_,.sl ..)::_,_,_,h,_ | (_,.hZ ..)::_,_,_,h,_ | (_,.mp ..)::_,_,_,h,_ | (_,.fn ..)::_,_,_,h,_ | (_,.bad)::_,_,_,h,_ | (_,.when ..)::_,_,_,h,_=>by simp[kZ] at h
theorem aq.grow(h:aq Q T F G w a s)(cs:Array Value)(e:TypeId):aq Q T (λb=>F b\/b=w.heap.size) G (w.alloc (.cells cs e)) a s/\Ext (Own G s.rg) (Own G s.rg) F (λb=>F b\/b=w.heap.size) w (w.alloc (.cells cs e)):=by
 have hk: ∀b,b<w.heap.size->(w.alloc (.cells cs e)).heap[b]?=w.heap[b]?:=λb hb=>heap_alloc_old w _ b hb;have cm:(w.alloc (.cells cs e)).heap.size=w.heap.size+1:=by simp
 have hx:Ext (Own G s.rg) (Own G s.rg) F (λb=>F b\/b=w.heap.size) w (w.alloc (.cells cs e)):=
  ⟨λ_=> .inl,λb hb=>hb.elim .inl λe=> .inr (.inr (by omega)),λ_=> .inl,λb hb _=>hk b hb,by omega,rfl,rfl,rfl⟩
 refine⟨⟨h.ma.go hx,h.size,λt p hp=>br.mono (λ_=> .inl) (λb hb=>hk b (h.fw b hb)) (Names.refl _ _) (h.tm t p hp),λn e he=>(h.rg n e he).mono (λ_=> .inl) (λb hb=>hk b (h.fw b hb)) (Names.refl _ _) rfl (λb hb=>hk b ((h.rg n e he).lt hb)),h.own,
  λn e b he hb hf=>hf.elim (h.gG n e b he hb) λe'=> ?_,λb hb=> ?_,h.tag,λb hb=>⟨.inl (h.z b hb).1,(hk b (h.fw b (h.z b hb).1)).trans (h.z b hb).2⟩,h.dr,zaN h.sz hx.size⟩,hx⟩
 ·have:=(h.rg n e he).lt hb;omega
 rcases hb with hb |hb
 ·have:=h.fw b hb;omega
 omega
theorem Cn(h:aq Q T F G w a s){t:TypeId}{len:Nat}{ps:List (Nat×P)}{p:P}(hs:rU Q t len ps=some p){vs:Array (Nat×Value)}(hl:vs.toList.length=ps.length)
  (hv: ∀(i:Nat) x y,vs.toList[i]?=some x->ps[i]?=some y->x.1=y.1/\ao F w G s.rg x.2 y.2):
  ∃v w' F',(Instr.buildSlice t len vs).run Q w= .ok v w'/\aq Q T F' G w' a s/\ao F' w' G s.rg v p/\Ext (Own G s.rg) (Own G s.rg) F F' w w':=by
 unfold rU at hs;split at hs
 next e het=>
  have ht:=ct het;split at hs
  next i k z hi hk hz=>
   obtain⟨i',_,qV,_,cJ⟩:=dP hk;rw[hi] at qV;cases qV;obtain⟨zv,xw,Bf,FZ⟩:=jq hi hz;split at hs
   ·rename_i cu;simp only[zad] at cu;obtain⟨⟨rv,Cm⟩,tK⟩:=cu;have rv:z.cells.length=k+1:=by simpa using rv
    have Cm:len*(k+1)<=16777216:=zbt Cm;split at hs
    ·rename_i es OO;cases hs;have LY:=lE _ _ _ OO s;have GU: ∃xM:Array Value,xM.size=(List.replicate len z).length*(k+1)/\fC F w xM (k+1) (List.replicate len z)/\((len*(k+1)=0/\xM= #[])\/(len*(k+1)≠0/\xM=madeCells zv.cells (len*(k+1)))):=by
      by_cases h0:len*(k+1)=0
      ·have:len=0:=by grind
       subst this;exact⟨#[],by simp,λi x hx=>by simp at hx,.inl ⟨h0,rfl⟩⟩
      exact⟨madeCells zv.cells (len*(k+1)),by rw[size_madeCells,zaR],la (az.nc _ _ Bf) rv (zae _),.inr ⟨h0,rfl⟩⟩
     obtain⟨xM,q1,q2,q3⟩:=GU;obtain⟨F1,uL,g1,g2,g3,g4,g5,g6⟩:=kD (by omega) ps vs.toList s s _ es F xM h LY hl hv q1 q2;have hlen:es.length=len:=by rw[g3,zaR]
     obtain⟨h1,h2⟩:=g1.grow uL e;have hE:fC (λb=>F1 b\/b=w.heap.size) (w.alloc (.cells uL e)) uL (k+1) es:=g5.mono (λ_=> .inl) (λb hb=>heap_alloc_old w _ b (g1.fw b hb));refine⟨.slice (some ⟨w.heap.size,0,none⟩) len len,_,_,?_,h1,?_,g2.trans h2⟩
     ·have cm:(Go.sizeOf e).run Q w= .ok (k+1) w:=run_sizeOf hk w;unfold Instr.buildSlice;simp only[Sem.run_bind,run_underlying ht,Result.andThen_ok,cm];rw[zaC (by omega)];rcases q3 with⟨h0,rfl⟩| ⟨h0,rfl⟩
      ·have e0:((Array.range (len*(k+1))).map λx=>(#[]:Array Value)[x%(#[]:Array Value).size]!)= #[]:=by rw[h0];simp
       rw[zat h0];simp only[Sem.run_bind,Sem.run_pure,Result.andThen_ok];rw[e0,g6];rfl
      have e0:((Array.range (len*(k+1))).map λx=>zv.cells[x%zv.cells.size]!)=madeCells zv.cells (len*(k+1)):=rfl;rw[zaC h0];have qT:(zeroValue e).run Q w= .ok zv w:=by simp[zeroValue,typeInfo,hi,xw]
      simp only[Sem.run_bind,Sem.run_pure,Result.andThen_ok,qT];rw[e0,g6];rfl
     refine .d ?_;have aW: ∀j,j<es.length*(k+1)->(w.alloc (.cells uL e)).cell? ⟨w.heap.size,0+j,none⟩=some (uL.getD j undef):=λj hj=>by simp_all
     have:=az.Ba (F:=λb=>F1 b\/b=w.heap.size) (w:=w.alloc (.cells uL e)) w.heap.size 0 (k+1) len es (λj=>uL.getD j undef) (by omega) (.inr rfl)
      (λx hx=>by obtain⟨i,hi,rfl⟩:=zaM hx;exact(hE i _ (zac hi)).1) (λx hx=>by obtain⟨i,hi,rfl⟩:=zaM hx;exact(hE i _ (zac hi)).2.1) aW (λi j x c hx hc=>(hE i x hx).2.2 j c hc)
     rwa [hlen] at this
    cases hs
   cases hs
  cases hs
 cases hs
theorem tM{t tx ty e:TypeId}{i:TypeInfo}(ht:Q.underlying t=some (.slice e))(hi:Q.info? e=some i){b dLen dCap:Nat}{cur:Array Value}(hg:w.heap[b]?=some (.cells cur e (0,0))){x:Value}{n:Nat}{news:List Value}(hs:Src Q i.size tx x n news w)
  (hn:n<=dLen) (vB:news.length<=cur.size):
  (Builtin.copy_ #[t,tx] ty #[.slice (some ⟨b,0,none⟩) dLen dCap,x]).run Q w= .ok (goInt n) (w.setRow b (news++cur.toList.drop news.length).toArray):=by
 have iO:=run_storeCells_at Q b 0 e news 0 cur w hg (by grind) hs.one;have hm:Nat.min n dLen=n:=zb9 hn;simp[Builtin.copy_,run_underlying ht,Go.sizeOf,typeInfo,hi,hs.len,hm,hs.cells,iO]
theorem run_copy_none{t tx ty e:TypeId}{i:TypeInfo}(ht:Q.underlying t=some (.slice e))(hi:Q.info? e=some i){dLen dCap:Nat}{x:Value}(hs:Src Q i.size tx x 0 [] w):
  (Builtin.copy_ #[t,tx] ty #[.slice none dLen dCap,x]).run Q w= .ok (goInt 0) w:=by
 have hm:Nat.min 0 dLen=0:=Nat.zero_min _;simp[Builtin.copy_,run_underlying ht,Go.sizeOf,typeInfo,hi,hs.len,hm,hs.cells]
theorem Co(h:aq Q T F G w a s){dst:Option Nat}{t t2 ty:TypeId}{p q:P}{s':S}(hs:ml Q s dst t t2 p q=some s'){vx vy:Value}(hx:ao F w G s.rg vx p)(hy:ao F w G s.rg vy q):
  ∃v w' G',(Builtin.copy_ #[t,t2] ty #[vx,vy]).run Q w= .ok v w'/\aq Q T F G' w' (a.put dst v) s'/\Ext (Own G s.rg) (Own G' s'.rg) F F w w':=by
 unfold ml at hs;split at hs
 next e n ay len het=>
  have ht:=ct het;split at hs
  next k hk=>
   obtain⟨i,_,hi,_,cJ⟩:=dP hk;split at hs
   ·rename_i ys ty' es Ie ho;split at hs
    ·rename_i hc;simp only[zad,zaP] at hc;obtain⟨r5,hle,KT⟩:=hc;have r5:ty'=e:=by simpa using r5
     subst r5;obtain⟨en,eO,bL,aP⟩:=S.aI ho;obtain⟨news,pO,fg⟩:=tL h (by omega) Ie hy;have F4:Src Q i.size t2 vy ys.length news w:=by rw[cJ];exact pO
     rw[S.bb eO] at hs;have bV:jK G s.rg n ⟨en.ay,en.tag,.arr ty' false (ys++es.drop ys.length)⟩ (G n):=λe' bc=>by rw[eO] at bc;cases bc;exact .inr ⟨rfl,λ_=>⟨by rw[aP];rfl,rfl⟩⟩
     have fin: ∀(w':World) (v:Value),(Builtin.copy_ #[t,t2] ty #[vx,vy]).run Q w= .ok v w'->v= .int .i64 ys.length->(∀b,b<w.heap.size-> ¬(∃e,lk s.rg n=some e/\ax (G n) e.obj b)->w'.heap[b]?=w.heap[b]?)->
       w.heap.size<=w'.heap.size->w'.os=w.os->w'.tape=w.tape->w'.output=w.output->eN Q F w' G (ins n ⟨en.ay,en.tag,.arr ty' false (ys++es.drop ys.length)⟩ s.rg) n (.arr ty' false (ys++es.drop ys.length))->
       ∃v w' G',(Builtin.copy_ #[t,t2] ty #[vx,vy]).run Q w= .ok v w'/\aq Q T F G' w' (a.put dst v) s'/\Ext (Own G s.rg) (Own G' s'.rg) F F w w':=by
      intro w' v aX hv bW cm Ey LZ iF Cp;obtain⟨d1,d2⟩:=h.iG (n:=n) (e1:=⟨en.ay,en.tag,.arr ty' false (ys++es.drop ys.length)⟩) (g1:=G n) (w':=w') (hdr:=iT _ aX) bV bW cm Ey LZ iF
       (λb hb=> .inr ⟨en,eO,by rw[aP];exact hb⟩) (by rw[aJ];exact Cp) (λi qV _=>h.tag n en i eO qV (by rw[aP];rfl))
      obtain⟨c1,c2⟩:=bf d1 hs (v:= .int .i64 ys.length) (br.of (.d (.int .i64 ys.length)));grind
     have hO:=h.rg n en eO;rw[aP] at hO;cases hx with
     |sl _ _ _ _ h1 hr=>
      obtain⟨a0,N,cap,hG,rfl,Je⟩:=hr.at eO bL (by rw[aP];rfl);rcases hO with⟨hg,rfl⟩| ⟨b,dU,cs,k',hg,hh,ig,Ch,sb,qU,cm,_,hE⟩
      ·rw[hG] at hg;obtain⟨rfl,rfl,rfl⟩:=hg;have h0:ys=[]:=zaJ (by omega);subst h0;have GS:news=[]:=by have:=fg.1;simpa using this
       subst GS;exact fin w _ (run_copy_none ht hi F4) rfl (λ_ _ _=>rfl) (zae _) rfl rfl rfl (.inl ⟨hG,by simp⟩)
      rw[hk] at ig;cases ig;rw[hG] at hg;obtain⟨rfl,rfl,rfl⟩:=hg;have Ep:ys.length<=es.length:=by omega
      have ED:news.length=ys.length*(k+1):=fg.1;have vB:news.length<=cs.size:=by rw[ED,cm];exact zag _ (by omega)
      have aX:=tM (ty:=ty) (dLen:=len) (dCap:=cap) ht hi hh F4 KT vB;have kC:(ys++es.drop ys.length).length=es.length:=by rw[zaw,zb5];omega
      have cz:ax (G n) en.obj b:=by rw[aP,hG];simp[ax,aj]
      have EB: ¬F b:=h.gG n en b eO cz;have L0: ∀c,F c->(w.setRow b (news++cs.toList.drop news.length).toArray).heap[c]?=w.heap[c]?:=λc hc=>setRow_other w b c _ (λe=>EB (e▸hc));refine fin _ _ aX rfl (λc _ bg=>setRow_other w b c _ (λe'=>bg ⟨en,eO,by rw[e'];exact cz⟩)) (by simp) rfl rfl rfl
       (.inr ⟨b,cap,_,k+1,by rw[kC];exact hG,setRow_heap w b cs _ ty' _ hh,hk,by omega,by rw[kC];exact sb,qU,?_,by simp,?_⟩)
      ·skip
       grind
      refine cx.LS ?_;rw[kC];have hf:=(cx.take hE (zae _) (by simp_all [zag])).drop ys.length;rw[zb6] at hf;have e1:((news++cs.toList.drop news.length).toArray.toList.take (es.length*(k+1)))=news++(cs.toList.take (es.length*(k+1))).drop (ys.length*(k+1)):=by rw[List.take_append,zay (by simp_all [zag]),ED,zce]
      rw[e1];exact(fg.append hf).mono (λ_ h=>h) L0
     |_=>rename_i hd;cases hd
    cases hs
   cases hs
  cases hs
 cases hs
theorem Ad{F:Nat->Prop}{w:World}{z:D}{zv:Value}{k l:Nat}(hz:az F w zv z)(hl:z.cells.length=k):cx F w k (List.replicate l z) (Builtin.zeroCells zv.cells l).toList:=by
 obtain⟨c1,c2,c3⟩:=cH hz;have hs:zv.cells.size=k:=by rw[<-hl,<-c1];simp
 have hE:=la (l:=l) (n:=l*k) hz hl (zae _);have cm:(madeCells zv.cells (l*k)).size=l*k:=by simp[size_madeCells]
 have hf:=cx.take (len:=l) hE (by simp) (by rw[zaR,cm];simp);have e1:(List.replicate l z).take l=List.replicate l z:=zay (by simp);have e2:(Builtin.zeroCells zv.cells l).toList=(madeCells zv.cells (l*k)).toList.take (l*k):=by rw[zay (by grind)];unfold Builtin.zeroCells madeCells;rw[hs]
 rw[e1] at hf;rw[e2];exact hf
theorem Ae(h:aq Q T F G w a s){dst:Option Nat}{t ty:TypeId}{p:P}{s':S}(hs:ji Q s dst t p=some s'){vx:Value}(hx:ao F w G s.rg vx p):
  ∃v w' G',(Builtin.clear_ #[t] ty #[vx]).run Q w= .ok v w'/\aq Q T F G' w' (a.put dst v) s'/\Ext (Own G s.rg) (Own G' s'.rg) F F w w':=by
 unfold ji at hs;split at hs
 next e n ay k0 off len het=>
  have ht:=ct het;split at hs
  next k z ty' es hk hz ho=>
   obtain⟨i,_,hi,_,cJ⟩:=dP hk;split at hs
   ·rename_i hc;simp only[zad,zaP] at hc;obtain⟨⟨⟨r5,dV⟩,rv⟩,OP⟩:=hc;have r5:ty'=e:=zab r5;have dV:k0=k+1:=zab dV;have rv:z.cells.length=k+1:=zab rv;subst r5 dV;obtain⟨en,eO,bL,aP⟩:=S.aI ho;obtain⟨zv,qT,uK⟩:=kq hz w;rw[S.bb eO] at hs;generalize GV:es.take off++List.replicate len z++es.drop (off+len)=es' at hs;have kC:es'.length=es.length:=by rw[<-GV];simp;omega
    have bV:jK G s.rg n ⟨en.ay,en.tag,.arr ty' false es'⟩ (G n):=λe' bc=>by rw[eO] at bc;cases bc;exact .inr ⟨rfl,λ_=>⟨by rw[aP];rfl,rfl⟩⟩
    have fin: ∀(w':World),(Builtin.clear_ #[t] ty #[vx]).run Q w= .ok (.tuple #[]) w'->(∀b,b<w.heap.size-> ¬(∃e,lk s.rg n=some e/\ax (G n) e.obj b)->w'.heap[b]?=w.heap[b]?)->
      w.heap.size<=w'.heap.size->w'.os=w.os->w'.tape=w.tape->w'.output=w.output->eN Q F w' G (ins n ⟨en.ay,en.tag,.arr ty' false es'⟩ s.rg) n (.arr ty' false es')->
      ∃v w' G',(Builtin.clear_ #[t] ty #[vx]).run Q w= .ok v w'/\aq Q T F G' w' (a.put dst v) s'/\Ext (Own G s.rg) (Own G' s'.rg) F F w w':=by
     intro w' aX bW cm Ey LZ iF Cp;obtain⟨d1,d2⟩:=h.iG (n:=n) (e1:=⟨en.ay,en.tag,.arr ty' false es'⟩) (g1:=G n) (w':=w') (hdr:=iT _ aX) bV bW cm Ey LZ iF
      (λb hb=> .inr ⟨en,eO,by rw[aP];exact hb⟩) (by rw[aJ];exact Cp) (λi qV _=>h.tag n en i eO qV (by rw[aP];rfl))
     obtain⟨c1,c2⟩:=bf d1 hs (v:= .tuple #[]) (br.of (.bad _));grind
    have hO:=h.rg n en eO;rw[aP] at hO;cases hx with
    |hZ _ _ _ _ _ _ h1 hr=>
     obtain⟨a0,N,cap,hG,hle,a1,lj,rfl,BW,KV⟩:=hr.at eO bL (by rw[aP];rfl);by_cases h0:len=0
     ·subst h0;have e0:es'=es:=by rw[<-GV];simp
      subst e0;refine fin w ?_ (λ_ _ _=>rfl) (zae _) rfl rfl rfl ?_
      ·cases a1<;>simp[Builtin.clear_,run_underlying ht]
      exact hO
     obtain⟨b0,GF,BX⟩: ∃b,a0=some ⟨b,0,none⟩/\a1=some ⟨b,off*(k+1),none⟩:=by grind
     subst GF BX;rcases hO with⟨hg,rfl⟩| ⟨b,dU,cs,k',hg,hh,ig,Ch,sb,qU,cm,_,hE⟩
     ·rw[hG] at hg;simp at hg
     rw[hk] at ig;cases ig;rw[hG] at hg;obtain⟨rfl,rfl,rfl⟩:=hg;have vA:=Ad (l:=len) uK rv;have ED:(Builtin.zeroCells zv.cells len).toList.length=len*(k+1):=by have:=vA.1;grind
     have hole:off*(k+1)+len*(k+1)<=es.length*(k+1):=by rw[<-zaz];simp_all [zag]
     have OQ:es.length*(k+1)<=cs.size:=by simp_all [zag]
     have iO:=run_storeCells_at Q b0 (off*(k+1)) ty' (Builtin.zeroCells zv.cells len).toList 0 cs w hh (by omega) (vA.one (by omega));simp only[zbJ,ED] at iO;have aX:(Builtin.clear_ #[t] ty #[.slice (some ⟨b0,off*(k+1),none⟩) len lj]).run Q w= .ok (.tuple #[]) (w.setRow b0 (cs.toList.take (off*(k+1))++(Builtin.zeroCells zv.cells len).toList++cs.toList.drop (off*(k+1)+len*(k+1))).toArray):=by simp[Builtin.clear_,run_underlying ht,qT,iO]
     have cz:ax (G n) en.obj b0:=by rw[aP,hG];simp[ax,aj]
     have EB: ¬F b0:=h.gG n en b0 eO cz;have L0: ∀c,F c->(w.setRow b0 (cs.toList.take (off*(k+1))++(Builtin.zeroCells zv.cells len).toList++cs.toList.drop (off*(k+1)+len*(k+1))).toArray).heap[c]?=w.heap[c]?:=λc hc=>setRow_other w b0 c _ (λe=>EB (e▸hc));refine fin _ aX (λc _ bg=>setRow_other w b0 c _ (λe'=>bg ⟨en,eO,by rw[e'];exact cz⟩)) (by simp) rfl rfl rfl
      (.inr ⟨b0,cap,_,k+1,by rw[kC];exact hG,setRow_heap w b0 cs _ ty' _ hh,hk,by omega,by rw[kC];exact sb,qU,?_,by simp,?_⟩)
     ·skip
      grind
     refine cx.LS ?_;rw[kC,<-GV];have f1:=cx.take (len:=off) hE (by omega) (by grind);have f3:=(cx.take hE (zae _) (by grind)).drop (off+len);rw[zb6] at f3;have e1:((cs.toList.take (off*(k+1))++(Builtin.zeroCells zv.cells len).toList++cs.toList.drop (off*(k+1)+len*(k+1))).toArray.toList.take (es.length*(k+1)))=cs.toList.take (off*(k+1))++(Builtin.zeroCells zv.cells len).toList++(cs.toList.take (es.length*(k+1))).drop ((off+len)*(k+1)):=by
      have l1:(cs.toList.take (off*(k+1))).length=off*(k+1):=by simp;omega
      rw[List.take_append,zay (by rw[zaw,l1,ED];exact hole),zaw,l1,ED,zce,zaz]
     rw[e1];exact((f1.append vA).append f3).mono (λ_ h=>h) L0
    |_=>rename_i hd;cases hd
   cases hs
  cases hs
 cases hs
end
end Pi
