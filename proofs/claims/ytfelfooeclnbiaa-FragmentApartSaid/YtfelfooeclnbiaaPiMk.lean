/- The text PiMk. -/
import Derived.Test.YtfelfooeclnbiaaPiEfOk4
import Derived.Laws.MakeOwn
namespace Pi
open Go
section
variable{Q:Program}{T:Tg}{F:Nat->Prop}{G:Nat->Value}{w:World}{a:Act}{s:S}
theorem wY{zc:Array Value}{n k i j:Nat}(hk:zc.size=k)(hj:j<k)(hn:i*k+j<n):(madeCells zc n).getD (i*k+j) undef=zc.getD j undef:=by
 have e:(i*k+j)%zc.size=j:=by rw[hk,zbD,Nat.mul_add_mod,Nat.mod_eq_of_lt hj]
 have y9:j<zc.size:=by omega
 simp[madeCells,Array.getD,hn,e,y9]
theorem iP{F:Nat->Prop}{w:World}{z:D}{zv:Value}{k l n:Nat}(hz:ax F w zv z)(hl:z.cells.length=k)(hn:l*k<=n):iX F w (madeCells zv.cells n) k (List.replicate l z):=by
 obtain⟨c1,c2,c3⟩:=bO hz;have hs:zv.cells.size=k:=by rw[<-hl,<-c1];simp
 intro i x hx;rw[zb5] at hx;split at hx
 next hi=>
  cases hx;refine⟨hl,c2,λj c hc=> ?_⟩;have hj:j<k:=by have:=(zaa.1 hc).1;omega
  have bu:i*k+j<n:=by
   calc i*k+j<i*k+k:=by omega
    _=(i+1)*k:=by rw[zau,zaN]
    _<=l*k:=zag _ hi
    _<=n:=hn
  rw[wY hs hj bu];exact c3 j _ c (by simp_all) hc
 cases hx
theorem wZ(h:aq Q T F G w a s){dst:Option Nat}{t:TypeId}{p q:P}{s':S}(hs:jV Q s dst t p q=some s'){vx vy:Value}(hx:ak F w G s.rg vx p)(hy:ak F w G s.rg vy q):
  ∃v w' G',(Instr.makeSlice t vx vy).run Q w= .ok v w'/\aq Q T F G' w' (a.put dst v) s'/\Ext (Own G s.rg) (Own G' s'.rg) F F w w':=by
 unfold jV at hs;split at hs
 next e k1 l k2 c het=>
  have ht:=bI het;split at hs
  next i k z hi hk hz=>
   obtain⟨i',_,kB,_,cz⟩:=cG hk;rw[hi] at kB;cases kB;obtain⟨zv,tH,vK,wS⟩:=gi hi hz;split at hs
   ·rename_i cc;simp only[zac,zaE] at cc;obtain⟨oD,h0,rT,Ei,hb⟩:=cc;have oD:z.cells.length=k+1:=by simpa using oD
    split at hs
    ·rename_i s1 v hn;cases hx with
     |d hx=>
      cases hx;cases hy with
      |d hy=>
       cases hy;have hr:=run_make (P:=Q) w t e i zv ht hi tH k1 k2 l c h0 rT hb Ei;have hle:l.toNat<=c.toNat:=by omega
       obtain⟨h1,h2,h3,h4⟩:=eS h hn (g1:= .slice (some ⟨w.heap.size,0,none⟩) l.toNat c.toNat) (w':=w.alloc (.cells (madeCells zv.cells (c.toNat*i.size)) e))
        (λb hb=>heap_alloc_old w _ b hb) (by simp) rfl rfl rfl (λb hb=>by simp[aG,ar] at hb;omega)
        (.inr ⟨w.heap.size,c.toNat,madeCells zv.cells (c.toNat*i.size),k+1,by rw[av,zax],heap_alloc_new w _,hk,by omega,by rw[zax];exact hle,by simp only[maxLen];omega,
         by rw[size_madeCells,cz],by simp,iP (ax.kD _ _ vK) oD (by simp_all [zag])⟩)
       obtain⟨c1,c2⟩:=bg h1 hs (v:= .slice (some ⟨w.heap.size,0,none⟩) l.toNat c.toNat) (bt.of (.sl (site dst) v l.toNat _ rfl ⟨_,h4,zaf _,λ_ _=>⟨_,l.toNat,c.toNat,av _ _ _,rfl,zaf _⟩⟩));grind
    cases hs
   cases hs
  cases hs
 cases hs
theorem iX.set{F:Nat->Prop}{w:World}{cs:Array Value}{k i:Nat}{es:List D}{x:D}{v:Value}(hE:iX F w cs k es)(bK:cs.size=es.length*k)(hi:i<es.length)(hx:ax F w v x)(hl:x.cells.length=k):
  ((v.cells.toList.zipIdx 0).foldl (λ(cs:Array Value) (x:Value×Nat)=>cs.setIfInBounds (i*k+x.2) x.1) cs).size=(es.set i x).length*k/\
  iX F w ((v.cells.toList.zipIdx 0).foldl (λ(cs:Array Value) (x:Value×Nat)=>cs.setIfInBounds (i*k+x.2) x.1) cs) k (es.set i x):=by
 obtain⟨c1,c2,c3⟩:=bO hx;have hle:i*k+k<=es.length*k:=by
  calc i*k+k=(i+1)*k:=by rw[zau,zaN]
   _<=es.length*k:=zag _ hi
 obtain⟨h1,h2⟩:=pw (i*k) v.cells.toList 0 cs (by omega);refine⟨by rw[h1,bK,zas],λi' y hy=> ?_⟩;by_cases he:i=i'
 ·grind
 rw[zbk he] at hy;obtain⟨g1,g2,g3⟩:=hE i' y hy;refine⟨g1,g2,λj c hc=> ?_⟩;have hj:j<k:=by have:=(zaa.1 hc).1;omega
 have eb: ¬(i*k+0<=i'*k+j/\i'*k+j<i*k+0+v.cells.toList.length):=by
  rcases zbo he with h |h
  ·have:(i+1)*k<=i'*k:=zag _ h;rw[zau,zaN] at this;omega
  have:(i'+1)*k<=i*k:=zag _ h;rw[zau,zaN] at this;omega
 grind
theorem ik{t:TypeId}{k:Nat}(hk:0<k): ∀(ps:List (Nat×P)) (vs:List (Nat×Value)) (s s':S) (es es':List D) (F:Nat->Prop) (cs:Array Value),aq Q T F G w a s->bd Q t k s es ps=some (s',es')->
  vs.length=ps.length->(∀(i:Nat) x y,vs[i]?=some x->ps[i]?=some y->x.1=y.1/\ak F w G s.rg x.2 y.2)->cs.size=es.length*k->iX F w cs k es->
  ∃F' fS,aq Q T F' G w a s'/\Ext (Own G s.rg) (Own G s'.rg) F F' w w/\es'.length=es.length/\fS.size=es'.length*k/\iX F' w fS k es'/\Instr.fill (λi=>some (i*k,k)) cs vs=some fS
 | [],vs,s,s',es,es',F,cs,h,hb,hl,_,bK,hE=>by
  obtain⟨rfl,rfl⟩:=hb;have:vs=[]:=by grind
  subst this;exact⟨F,cs,h,Ext.refl _ _ _,rfl,bK,hE,rfl⟩
 | (i,p)::ps,[],s,s',es,es',F,cs,h,hb,hl,_,bK,hE=>by simp at hl
 | (i,p)::ps,(i0,v)::vs,s,s',es,es',F,cs,h,hb,hl,hv,bK,hE=>by
  simp only[bd] at hb;split at hb
  next s1 x hf=>
   split at hb
   ·rename_i hc;simp only[zac] at hc;have A7:x.cells.length=k:=by simpa using hc.1
    have hi:i<es.length:=by simp_all
    obtain⟨e0,hp⟩:=hv 0 (i0,v) (i,p) rfl rfl;subst e0;obtain⟨F1,g1,g2,g3,g4,g5⟩:=l7 h hf hp;have HF:iX F1 w cs k es:=hE.mono g4 (λ_ _=>rfl);obtain⟨m1,m2⟩:=HF.set bK hi g5 A7;obtain⟨F2,HG,k1,k2,k3,k4,k5,k6⟩:=ik hk ps vs s1 s' _ es' F1 _ g1 hb (by grind) (λj x y hx hy=>by obtain⟨q1,q2⟩:=hv (j+1) x y (by grind) (by grind);exact⟨q1,q2.mono g4 (λ_ _=>rfl) g3⟩) m1 m2;refine⟨F2,HG,k1,g2.trans k2,by rw[k3,zas],k4,k5,?_⟩;have Ch:v.cells.size=k:=by have:=(bO g5).1;grind
    have hle:i0*k+k<=cs.size:=by
     rw[bK]
     calc i0*k+k=(i0+1)*k:=by rw[zau,zaN]
      _<=es.length*k:=zag _ hi
    have cc:(decide (v.cells.size≠k)||decide (i0*k+v.cells.size>cs.size))=false:=by simp;omega
    simp only[Instr.fill,cc,zaz,za6];rw[<-k6];congr 1;rw[<-Array.foldl_toList];simp
   cases hb
  cases hb
theorem uK(h:aq Q T F G w a s){dst:Option Nat}{t:TypeId}{len:Nat}{ps:List (Nat×P)}{s':S}(hs:jv Q s dst t len ps=some s'){vs:Array (Nat×Value)}(hl:vs.toList.length=ps.length)
  (hv: ∀(i:Nat) x y,vs.toList[i]?=some x->ps[i]?=some y->x.1=y.1/\ak F w G s.rg x.2 y.2):
  ∃v w' F' G',(Instr.buildSlice t len vs).run Q w= .ok v w'/\aq Q T F' G' w' (a.put dst v) s'/\Ext (Own G s.rg) (Own G' s'.rg) F F' w w':=by
 unfold jv at hs;split at hs
 next e het=>
  have ht:=bI het;split at hs
  next i k z hi hk hz=>
   obtain⟨i',_,kB,_,cz⟩:=cG hk;rw[hi] at kB;cases kB;obtain⟨zv,tH,vK,wS⟩:=gi hi hz;split at hs
   ·rename_i cc;simp only[zac] at cc;obtain⟨⟨oD,w4⟩,pC⟩:=cc;have oD:z.cells.length=k+1:=by simpa using oD
    have w4:len*(k+1)<=16777216:=za3 w4;split at hs
    ·rename_i s1 es Fh;split at hs
     ·rename_i s2 aw hn;have Bb: ∃sF:Array Value,sF.size=(List.replicate len z).length*(k+1)/\iX F w sF (k+1) (List.replicate len z)/\((len*(k+1)=0/\sF= #[])\/(len*(k+1)≠0/\sF=madeCells zv.cells (len*(k+1)))):=by
       by_cases h0:len*(k+1)=0
       ·have:len=0:=by grind
        subst this;exact⟨#[],by simp,λi x hx=>by simp at hx,.inl ⟨h0,rfl⟩⟩
       exact⟨madeCells zv.cells (len*(k+1)),by rw[size_madeCells,zax],iP (ax.kD _ _ vK) oD (zaf _),.inr ⟨h0,rfl⟩⟩
      obtain⟨sF,q1,q2,q3⟩:=Bb;obtain⟨F1,qm,g1,g2,g3,g4,g5,g6⟩:=ik (by omega) ps vs.toList s s1 _ es F sF h Fh hl hv q1 q2;have hlen:es.length=len:=by rw[g3,zax]
      obtain⟨h1,h2,h3,h4⟩:=eS g1 hn (g1:= .slice (some ⟨w.heap.size,0,none⟩) len len) (w':=w.alloc (.cells qm e))
       (λb hb=>heap_alloc_old w _ b hb) (by simp) rfl rfl rfl (λb hb=>by simp[aG,ar] at hb;omega)
       (.inr ⟨w.heap.size,len,qm,k+1,by rw[av,hlen],heap_alloc_new w _,hk,by omega,by omega,by simp only[maxLen];have:len<=len*(k+1):=Nat.le_mul_of_pos_right _ (by omega);omega,
        by rw[g4,hlen],by simp,g5.mono (λ_ h=>h) (λb hb=>heap_alloc_old w _ b (g1.gQ b hb))⟩)
      obtain⟨c1,c2⟩:=bg h1 hs (v:= .slice (some ⟨w.heap.size,0,none⟩) len len) (bt.of (.sl (site dst) aw len _ rfl ⟨_,h4,zaf _,λ_ _=>⟨_,len,len,av _ _ _,rfl,zaf _⟩⟩));refine⟨_,_,_,_,?_,c1,?_⟩
      ·have bK:(Go.sizeOf e).run Q w= .ok (k+1) w:=run_sizeOf hk w;unfold Instr.buildSlice;simp only[Sem.run_bind,run_underlying ht,Result.andThen_ok,bK];rw[zav (by omega)];rcases q3 with⟨h0,rfl⟩| ⟨h0,rfl⟩
       ·have e0:((Array.range (len*(k+1))).map λx=>(#[]:Array Value)[x%(#[]:Array Value).size]!)= #[]:=by rw[h0];simp
        rw[zat h0];simp only[Sem.run_bind,Sem.run_pure,Result.andThen_ok];rw[e0,g6];rfl
       have e0:((Array.range (len*(k+1))).map λx=>zv.cells[x%zv.cells.size]!)=madeCells zv.cells (len*(k+1)):=rfl;rw[zav h0];have nH:(zeroValue e).run Q w= .ok zv w:=by simp[zeroValue,typeInfo,hi,tH]
       simp only[Sem.run_bind,Sem.run_pure,Result.andThen_ok,nH];rw[e0,g6];rfl
      rw[c2];exact g2.trans h2
     cases hs
    cases hs
   cases hs
  cases hs
 cases hs
theorem jn{t:TypeId}{k:Nat}: ∀(ps:List (Nat×P)) (es es':List D),iK Q t k es ps=some es'-> ∀s:S,bd Q t k s es ps=some (s,es')
 | [],es,es',h,s=>by simp only[iK,zae] at h;subst h;rfl
 | (i,.d x)::r,es,es',h,s=>by
  have e:fW Q s t (.d x)=some (s,D9 Q t x):=by
   unfold fW D9;cases jj Q t with
   |false=>rfl
   |true=>show(AP Q t x).force (λy=>some (s,y))=_;rw[D.force_eq]
  simp only[iK] at h;split at h
  next hc=>simp only[bd,e,zat hc];exact jn r _ _ h s
  cases h
 | (_,.agg _)::_,_,_,h,_ | (_,.dX _)::_,_,_,h,_ | (_,.ref ..)::_,_,_,h,_ | (_,.bE ..)::_,_,_,h,_ | (_,.cd ..)::_,_,_,h,_ | (_,.sl ..)::_,_,_,h,_ | (_,.e9 ..)::_,_,_,h,_ | (_,.mp ..)::_,_,_,h,_ | (_,.fn ..)::_,_,_,h,_ | (_,.bad)::_,_,_,h,_ | (_,.when ..)::_,_,_,h,_=>by simp[iK] at h
theorem aq.grow(h:aq Q T F G w a s)(cs:Array Value)(e:TypeId):aq Q T (λb=>F b\/b=w.heap.size) G (w.alloc (.cells cs e)) a s/\Ext (Own G s.rg) (Own G s.rg) F (λb=>F b\/b=w.heap.size) w (w.alloc (.cells cs e)):=by
 have hk: ∀b,b<w.heap.size->(w.alloc (.cells cs e)).heap[b]?=w.heap[b]?:=λb hb=>heap_alloc_old w _ b hb;have bK:(w.alloc (.cells cs e)).heap.size=w.heap.size+1:=by simp
 have hx:Ext (Own G s.rg) (Own G s.rg) F (λb=>F b\/b=w.heap.size) w (w.alloc (.cells cs e)):=
  ⟨λ_=> .inl,λb hb=>hb.elim .inl λe=> .inr (.inr (by omega)),λ_=> .inl,λb hb _=>hk b hb,by omega,rfl,rfl,rfl⟩
 refine⟨⟨h.si.go hx,h.size,λt p hp=>bt.mono (λ_=> .inl) (λb hb=>hk b (h.gQ b hb)) (Names.refl _ _) (h.tm t p hp),λn e he=>(h.rg n e he).mono (λ_=> .inl) (λb hb=>hk b (h.gQ b hb)) (Names.refl _ _) rfl (λb hb=>hk b ((h.rg n e he).lt hb)),h.own,
  λn e b he hb hf=>hf.elim (h.iY n e b he hb) λe'=> ?_,λb hb=> ?_,h.tag,λb hb=>⟨.inl (h.z b hb).1,(hk b (h.gQ b (h.z b hb).1)).trans (h.z b hb).2⟩,h.dr,zaB h.sz hx.size⟩,hx⟩
 ·have:=(h.rg n e he).lt hb;omega
 rcases hb with hb |hb
 ·have:=h.gQ b hb;omega
 omega
theorem w5(h:aq Q T F G w a s){t:TypeId}{len:Nat}{ps:List (Nat×P)}{p:P}(hs:oc Q t len ps=some p){vs:Array (Nat×Value)}(hl:vs.toList.length=ps.length)
  (hv: ∀(i:Nat) x y,vs.toList[i]?=some x->ps[i]?=some y->x.1=y.1/\ak F w G s.rg x.2 y.2):
  ∃v w' F',(Instr.buildSlice t len vs).run Q w= .ok v w'/\aq Q T F' G w' a s/\ak F' w' G s.rg v p/\Ext (Own G s.rg) (Own G s.rg) F F' w w':=by
 unfold oc at hs;split at hs
 next e het=>
  have ht:=bI het;split at hs
  next i k z hi hk hz=>
   obtain⟨i',_,kB,_,cz⟩:=cG hk;rw[hi] at kB;cases kB;obtain⟨zv,tH,vK,wS⟩:=gi hi hz;split at hs
   ·rename_i cc;simp only[zac] at cc;obtain⟨⟨oD,w4⟩,pC⟩:=cc;have oD:z.cells.length=k+1:=by simpa using oD
    have w4:len*(k+1)<=16777216:=za3 w4;split at hs
    ·rename_i es HI;cases hs;have Fh:=jn _ _ _ HI s;have Bb: ∃sF:Array Value,sF.size=(List.replicate len z).length*(k+1)/\iX F w sF (k+1) (List.replicate len z)/\((len*(k+1)=0/\sF= #[])\/(len*(k+1)≠0/\sF=madeCells zv.cells (len*(k+1)))):=by
      by_cases h0:len*(k+1)=0
      ·have:len=0:=by grind
       subst this;exact⟨#[],by simp,λi x hx=>by simp at hx,.inl ⟨h0,rfl⟩⟩
      exact⟨madeCells zv.cells (len*(k+1)),by rw[size_madeCells,zax],iP (ax.kD _ _ vK) oD (zaf _),.inr ⟨h0,rfl⟩⟩
     obtain⟨sF,q1,q2,q3⟩:=Bb;obtain⟨F1,qm,g1,g2,g3,g4,g5,g6⟩:=ik (by omega) ps vs.toList s s _ es F sF h Fh hl hv q1 q2;have hlen:es.length=len:=by rw[g3,zax]
     obtain⟨h1,h2⟩:=g1.grow qm e;have hE:iX (λb=>F1 b\/b=w.heap.size) (w.alloc (.cells qm e)) qm (k+1) es:=g5.mono (λ_=> .inl) (λb hb=>heap_alloc_old w _ b (g1.gQ b hb));refine⟨.slice (some ⟨w.heap.size,0,none⟩) len len,_,_,?_,h1,?_,g2.trans h2⟩
     ·have bK:(Go.sizeOf e).run Q w= .ok (k+1) w:=run_sizeOf hk w;unfold Instr.buildSlice;simp only[Sem.run_bind,run_underlying ht,Result.andThen_ok,bK];rw[zav (by omega)];rcases q3 with⟨h0,rfl⟩| ⟨h0,rfl⟩
      ·have e0:((Array.range (len*(k+1))).map λx=>(#[]:Array Value)[x%(#[]:Array Value).size]!)= #[]:=by rw[h0];simp
       rw[zat h0];simp only[Sem.run_bind,Sem.run_pure,Result.andThen_ok];rw[e0,g6];rfl
      have e0:((Array.range (len*(k+1))).map λx=>zv.cells[x%zv.cells.size]!)=madeCells zv.cells (len*(k+1)):=rfl;rw[zav h0];have nH:(zeroValue e).run Q w= .ok zv w:=by simp[zeroValue,typeInfo,hi,tH]
      simp only[Sem.run_bind,Sem.run_pure,Result.andThen_ok,nH];rw[e0,g6];rfl
     refine .d ?_;have aQ: ∀j,j<es.length*(k+1)->(w.alloc (.cells qm e)).cell? ⟨w.heap.size,0+j,none⟩=some (qm.getD j undef):=λj hj=>by simp_all
     have:=ax.vG (F:=λb=>F1 b\/b=w.heap.size) (w:=w.alloc (.cells qm e)) w.heap.size 0 (k+1) len es (λj=>qm.getD j undef) (by omega) (.inr rfl)
      (λx hx=>by obtain⟨i,hi,rfl⟩:=zaO hx;exact(hE i _ (zad hi)).1) (λx hx=>by obtain⟨i,hi,rfl⟩:=zaO hx;exact(hE i _ (zad hi)).2.1) aQ (λi j x c hx hc=>(hE i x hx).2.2 j c hc)
     rwa [hlen] at this
    cases hs
   cases hs
  cases hs
 cases hs
theorem pF{t tx ty e:TypeId}{i:TypeInfo}(ht:Q.underlying t=some (.slice e))(hi:Q.info? e=some i){b dLen dCap:Nat}{cur:Array Value}(hg:w.heap[b]?=some (.cells cur e (0,0))){x:Value}{n:Nat}{news:List Value}(hs:Src Q i.size tx x n news w)
  (hn:n<=dLen) (qS:news.length<=cur.size):
  (Builtin.copy_ #[t,tx] ty #[.slice (some ⟨b,0,none⟩) dLen dCap,x]).run Q w= .ok (goInt n) (w.setRow b (news++cur.toList.drop news.length).toArray):=by
 have gH:=run_storeCells_at Q b 0 e news 0 cur w hg (by grind) hs.one;have hm:Nat.min n dLen=n:=zbW hn;simp[Builtin.copy_,run_underlying ht,Go.sizeOf,typeInfo,hi,hs.len,hm,hs.cells,gH]
theorem run_copy_none{t tx ty e:TypeId}{i:TypeInfo}(ht:Q.underlying t=some (.slice e))(hi:Q.info? e=some i){dLen dCap:Nat}{x:Value}(hs:Src Q i.size tx x 0 [] w):
  (Builtin.copy_ #[t,tx] ty #[.slice none dLen dCap,x]).run Q w= .ok (goInt 0) w:=by
 have hm:Nat.min 0 dLen=0:=Nat.zero_min _;simp[Builtin.copy_,run_underlying ht,Go.sizeOf,typeInfo,hi,hs.len,hm,hs.cells]
theorem w6(h:aq Q T F G w a s){dst:Option Nat}{t t2 ty:TypeId}{p q:P}{s':S}(hs:jW Q s dst t t2 p q=some s'){vx vy:Value}(hx:ak F w G s.rg vx p)(hy:ak F w G s.rg vy q):
  ∃v w' G',(Builtin.copy_ #[t,t2] ty #[vx,vy]).run Q w= .ok v w'/\aq Q T F G' w' (a.put dst v) s'/\Ext (Own G s.rg) (Own G' s'.rg) F F w w':=by
 unfold jW at hs;split at hs
 next e n aw len het=>
  have ht:=bI het;split at hs
  next k hk=>
   obtain⟨i,_,hi,_,cz⟩:=cG hk;split at hs
   ·rename_i ys ty' es Cg ho;split at hs
    ·rename_i hc;simp only[zac,zaE] at hc;obtain⟨sm,hle,Eh⟩:=hc;have sm:ty'=e:=by simpa using sm
     subst sm;obtain⟨en,ec,bM,aO⟩:=S.aI ho;obtain⟨news,nW,jD⟩:=pD h (by omega) Cg hy;have Ak:Src Q i.size t2 vy ys.length news w:=by rw[cz];exact nW
     rw[S.cP ec] at hs;have c6:gA G s.rg n ⟨en.aw,en.tag,.arr ty' false (ys++es.drop ys.length)⟩ (G n):=λe' a7=>by rw[ec] at a7;cases a7;exact .inr ⟨rfl,λ_=>⟨by rw[aO];rfl,rfl⟩⟩
     have fin: ∀(w':World) (v:Value),(Builtin.copy_ #[t,t2] ty #[vx,vy]).run Q w= .ok v w'->v= .int .i64 ys.length->(∀b,b<w.heap.size-> ¬(∃e,lk s.rg n=some e/\aG (G n) e.obj=some b)->w'.heap[b]?=w.heap[b]?)->
       w.heap.size<=w'.heap.size->w'.os=w.os->w'.tape=w.tape->w'.output=w.output->hZ Q F w' G (ins n ⟨en.aw,en.tag,.arr ty' false (ys++es.drop ys.length)⟩ s.rg) n (.arr ty' false (ys++es.drop ys.length))->
       ∃v w' G',(Builtin.copy_ #[t,t2] ty #[vx,vy]).run Q w= .ok v w'/\aq Q T F G' w' (a.put dst v) s'/\Ext (Own G s.rg) (Own G' s'.rg) F F w w':=by
      intro w' v aY hv bZ bK yX Fi mE w7;obtain⟨d1,d2⟩:=h.gR (n:=n) (e1:=⟨en.aw,en.tag,.arr ty' false (ys++es.drop ys.length)⟩) (g1:=G n) (w':=w') (hdr:=iO _ aY) c6 bZ bK yX Fi mE
       (λb hb=> .inr ⟨en,ec,by rw[aO];exact hb⟩) (by rw[aM];exact w7) (λi kB _=>h.tag n en i ec kB (by rw[aO];rfl))
      obtain⟨c1,c2⟩:=bg d1 hs (v:= .int .i64 ys.length) (bt.of (.d (.int .i64 ys.length)));grind
     have hO:=h.rg n en ec;rw[aO] at hO;cases hx with
     |sl _ _ _ _ h1 hr=>
      obtain⟨a0,N,cap,hG,rfl,Fg⟩:=hr.at ec bM (by rw[aO];rfl);rcases hO with⟨hg,rfl⟩| ⟨b,dR,cs,k',hg,hh,gf,y7,rT,nI,bK,_,hE⟩
      ·rw[hG] at hg;obtain⟨rfl,rfl,rfl⟩:=hg;have h0:ys=[]:=zap (by omega);subst h0;have CX:news=[]:=by have:=jD.1;simpa using this
       subst CX;exact fin w _ (run_copy_none ht hi Ak) rfl (λ_ _ _=>rfl) (zaf _) rfl rfl rfl (.inl ⟨hG,by simp⟩)
      rw[hk] at gf;cases gf;rw[hG] at hg;obtain⟨rfl,rfl,rfl⟩:=hg;have yR:ys.length<=es.length:=by omega
      have y6:news.length=ys.length*(k+1):=jD.1;have qS:news.length<=cs.size:=by rw[y6,bK];exact zag _ (by omega)
      have aY:=pF (ty:=ty) (dLen:=len) (dCap:=cap) ht hi hh Ak Eh qS;have kl:(ys++es.drop ys.length).length=es.length:=by rw[zaG,zaC];omega
      have cx:aG (G n) en.obj=some b:=by rw[aO,hG];rfl
      have y5: ¬F b:=h.iY n en b ec cx;have Fj: ∀c,F c->(w.setRow b (news++cs.toList.drop news.length).toArray).heap[c]?=w.heap[c]?:=λc hc=>setRow_other w b c _ (λe=>y5 (e▸hc));refine fin _ _ aY rfl (λc _ eb=>setRow_other w b c _ (λe'=>eb ⟨en,ec,by rw[e'];exact cx⟩)) (by simp) rfl rfl rfl
       (.inr ⟨b,cap,_,k+1,by rw[kl];exact hG,setRow_heap w b cs _ ty' _ hh,hk,by omega,by rw[kl];exact rT,nI,?_,by simp,?_⟩)
      ·skip
       grind
      refine bR.Fc ?_;rw[kl];have hf:=(bR.take hE (zaf _) (by simp_all [zag])).drop ys.length;rw[zbT] at hf;have e1:((news++cs.toList.drop news.length).toArray.toList.take (es.length*(k+1)))=news++(cs.toList.take (es.length*(k+1))).drop (ys.length*(k+1)):=by rw[List.take_append,zaA (by simp_all [zag]),y6,zbE]
      rw[e1];exact(jD.append hf).mono (λ_ h=>h) Fj
     |_=>rename_i hd;cases hd
    cases hs
   cases hs
  cases hs
 cases hs
theorem uL{F:Nat->Prop}{w:World}{z:D}{zv:Value}{k l:Nat}(hz:ax F w zv z)(hl:z.cells.length=k):bR F w k (List.replicate l z) (Builtin.zeroCells zv.cells l).toList:=by
 obtain⟨c1,c2,c3⟩:=bO hz;have hs:zv.cells.size=k:=by rw[<-hl,<-c1];simp
 have hE:=iP (l:=l) (n:=l*k) hz hl (zaf _);have bK:(madeCells zv.cells (l*k)).size=l*k:=by simp[size_madeCells]
 have hf:=bR.take (len:=l) hE (by simp) (by rw[zax,bK];simp);have e1:(List.replicate l z).take l=List.replicate l z:=zaA (by simp);have e2:(Builtin.zeroCells zv.cells l).toList=(madeCells zv.cells (l*k)).toList.take (l*k):=by rw[zaA (by grind)];unfold Builtin.zeroCells madeCells;rw[hs]
 rw[e1] at hf;rw[e2];exact hf
theorem uM(h:aq Q T F G w a s){dst:Option Nat}{t ty:TypeId}{p:P}{s':S}(hs:fX Q s dst t p=some s'){vx:Value}(hx:ak F w G s.rg vx p):
  ∃v w' G',(Builtin.clear_ #[t] ty #[vx]).run Q w= .ok v w'/\aq Q T F G' w' (a.put dst v) s'/\Ext (Own G s.rg) (Own G' s'.rg) F F w w':=by
 unfold fX at hs;split at hs
 next e n aw k0 off len het=>
  have ht:=bI het;split at hs
  next k z ty' es hk hz ho=>
   obtain⟨i,_,hi,_,cz⟩:=cG hk;split at hs
   ·rename_i hc;simp only[zac,zaE] at hc;obtain⟨⟨⟨sm,dS⟩,oD⟩,HJ⟩:=hc;have sm:ty'=e:=zab sm;have dS:k0=k+1:=zab dS;have oD:z.cells.length=k+1:=zab oD;subst sm dS;obtain⟨en,ec,bM,aO⟩:=S.aI ho;obtain⟨zv,nH,ql⟩:=ib hz w;rw[S.cP ec] at hs;generalize Bc:es.take off++List.replicate len z++es.drop (off+len)=es' at hs;have kl:es'.length=es.length:=by rw[<-Bc];simp;omega
    have c6:gA G s.rg n ⟨en.aw,en.tag,.arr ty' false es'⟩ (G n):=λe' a7=>by rw[ec] at a7;cases a7;exact .inr ⟨rfl,λ_=>⟨by rw[aO];rfl,rfl⟩⟩
    have fin: ∀(w':World),(Builtin.clear_ #[t] ty #[vx]).run Q w= .ok (.tuple #[]) w'->(∀b,b<w.heap.size-> ¬(∃e,lk s.rg n=some e/\aG (G n) e.obj=some b)->w'.heap[b]?=w.heap[b]?)->
      w.heap.size<=w'.heap.size->w'.os=w.os->w'.tape=w.tape->w'.output=w.output->hZ Q F w' G (ins n ⟨en.aw,en.tag,.arr ty' false es'⟩ s.rg) n (.arr ty' false es')->
      ∃v w' G',(Builtin.clear_ #[t] ty #[vx]).run Q w= .ok v w'/\aq Q T F G' w' (a.put dst v) s'/\Ext (Own G s.rg) (Own G' s'.rg) F F w w':=by
     intro w' aY bZ bK yX Fi mE w7;obtain⟨d1,d2⟩:=h.gR (n:=n) (e1:=⟨en.aw,en.tag,.arr ty' false es'⟩) (g1:=G n) (w':=w') (hdr:=iO _ aY) c6 bZ bK yX Fi mE
      (λb hb=> .inr ⟨en,ec,by rw[aO];exact hb⟩) (by rw[aM];exact w7) (λi kB _=>h.tag n en i ec kB (by rw[aO];rfl))
     obtain⟨c1,c2⟩:=bg d1 hs (v:= .tuple #[]) (bt.of (.bad _));grind
    have hO:=h.rg n en ec;rw[aO] at hO;cases hx with
    |e9 _ _ _ _ _ _ h1 hr=>
     obtain⟨a0,N,cap,hG,hle,a1,iZ,rfl,wF,IP⟩:=hr.at ec bM (by rw[aO];rfl);by_cases h0:len=0
     ·subst h0;have e0:es'=es:=by rw[<-Bc];simp
      subst e0;refine fin w ?_ (λ_ _ _=>rfl) (zaf _) rfl rfl rfl ?_
      ·cases a1<;>simp[Builtin.clear_,run_underlying ht]
      exact hO
     obtain⟨b0,AW,wG⟩: ∃b,a0=some ⟨b,0,none⟩/\a1=some ⟨b,off*(k+1),none⟩:=by grind
     subst AW wG;rcases hO with⟨hg,rfl⟩| ⟨b,dR,cs,k',hg,hh,gf,y7,rT,nI,bK,_,hE⟩
     ·rw[hG] at hg;simp at hg
     rw[hk] at gf;cases gf;rw[hG] at hg;obtain⟨rfl,rfl,rfl⟩:=hg;have vJ:=uL (l:=len) ql oD;have y6:(Builtin.zeroCells zv.cells len).toList.length=len*(k+1):=by have:=vJ.1;grind
     have hole:off*(k+1)+len*(k+1)<=es.length*(k+1):=by rw[<-zau];simp_all [zag]
     have HK:es.length*(k+1)<=cs.size:=by simp_all [zag]
     have gH:=run_storeCells_at Q b0 (off*(k+1)) ty' (Builtin.zeroCells zv.cells len).toList 0 cs w hh (by omega) (vJ.one (by omega));simp only[zbb,y6] at gH;have aY:(Builtin.clear_ #[t] ty #[.slice (some ⟨b0,off*(k+1),none⟩) len iZ]).run Q w= .ok (.tuple #[]) (w.setRow b0 (cs.toList.take (off*(k+1))++(Builtin.zeroCells zv.cells len).toList++cs.toList.drop (off*(k+1)+len*(k+1))).toArray):=by simp[Builtin.clear_,run_underlying ht,nH,gH]
     have cx:aG (G n) en.obj=some b0:=by rw[aO,hG];rfl
     have y5: ¬F b0:=h.iY n en b0 ec cx;have Fj: ∀c,F c->(w.setRow b0 (cs.toList.take (off*(k+1))++(Builtin.zeroCells zv.cells len).toList++cs.toList.drop (off*(k+1)+len*(k+1))).toArray).heap[c]?=w.heap[c]?:=λc hc=>setRow_other w b0 c _ (λe=>y5 (e▸hc));refine fin _ aY (λc _ eb=>setRow_other w b0 c _ (λe'=>eb ⟨en,ec,by rw[e'];exact cx⟩)) (by simp) rfl rfl rfl
      (.inr ⟨b0,cap,_,k+1,by rw[kl];exact hG,setRow_heap w b0 cs _ ty' _ hh,hk,by omega,by rw[kl];exact rT,nI,?_,by simp,?_⟩)
     ·skip
      grind
     refine bR.Fc ?_;rw[kl,<-Bc];have f1:=bR.take (len:=off) hE (by omega) (by grind);have f3:=(bR.take hE (zaf _) (by grind)).drop (off+len);rw[zbT] at f3;have e1:((cs.toList.take (off*(k+1))++(Builtin.zeroCells zv.cells len).toList++cs.toList.drop (off*(k+1)+len*(k+1))).toArray.toList.take (es.length*(k+1)))=cs.toList.take (off*(k+1))++(Builtin.zeroCells zv.cells len).toList++(cs.toList.take (es.length*(k+1))).drop ((off+len)*(k+1)):=by
      have l1:(cs.toList.take (off*(k+1))).length=off*(k+1):=by simp;omega
      rw[List.take_append,zaA (by rw[zaG,l1,y6];exact hole),zaG,l1,y6,zbE,zau]
     rw[e1];exact((f1.append vJ).append f3).mono (λ_ h=>h) Fj
    |_=>rename_i hd;cases hd
   cases hs
  cases hs
 cases hs
end
end Pi
