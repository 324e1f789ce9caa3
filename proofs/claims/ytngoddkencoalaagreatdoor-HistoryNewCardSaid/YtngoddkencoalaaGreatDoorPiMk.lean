/- The text PiMk. -/
import Derived.Test.YtngoddkencoalaaGreatDoorPiEfOk4
import Derived.Laws.MakeOwn
namespace Pi
open Go
section
variable{Q:Program}{T:Tg}{F:Nat->Prop}{G:Nat->Value}{w:World}{a:Act}{s:S}
theorem PD{zc:Array Value}{n k i j:Nat}(hk:zc.size=k)(hj:j<k)(hn:i*k+j<n):(madeCells zc n).getD (i*k+j) undef=zc.getD j undef:=by
 have e:(i*k+j)%zc.size=j:=by rw[hk,zb8,Nat.mul_add_mod,Nat.mod_eq_of_lt hj]
 have Kn:j<zc.size:=by omega
 simp[madeCells,Array.getD,hn,e,Kn]
theorem qb{F:Nat->Prop}{w:World}{z:D}{zv:Value}{k l n:Nat}(hz:a8 F w zv z)(hl:z.cells.length=k)(hn:l*k<=n):mG F w (madeCells zv.cells n) k (List.replicate l z):=by
 obtain⟨c1,c2,c3⟩:=dY hz;have hs:zv.cells.size=k:=by rw[<-hl,<-c1];simp
 intro i x hx;rw[List.getElem?_replicate] at hx;split at hx
 next hi=>
  cases hx;refine⟨hl,c2,λj c hc=> ?_⟩;have hj:j<k:=by have:=(zad.1 hc).1;omega
  have bI:i*k+j<n:=by
   calc i*k+j<i*k+k:=by omega
    _=(i+1)*k:=by rw[zaV,zbt]
    _<=l*k:=zaq _ hi
    _<=n:=hn
  rw[PD hs hj bI];exact c3 j _ c (by simp_all) hc
 cases hx
theorem PE(h:aD Q T F G w a s){dst:Option Nat}{t:TypeId}{p q:P}{s':S}(hs:sk Q s dst t p q=some s'){vx vy:Value}(hx:aF F w G s.rg vx p)(hy:aF F w G s.rg vy q):
  ∃v w' G',(Instr.makeSlice t vx vy).run Q w= .ok v w'/\aD Q T F G' w' (a.put dst v) s'/\Ext (Own G s.rg) (Own G' s'.rg) F F w w':=by
 unfold sk at hs;split at hs
 next e k1 l k2 c het=>
  have ht:=dE het;split at hs
  next i k z hi hk hz=>
   obtain⟨i',_,xr,_,fJ⟩:=gm hk;rw[hi] at xr;cases xr;obtain⟨zv,Kd,Oj,hzs⟩:=nE hi hz;split at hs
   ·rename_i fh;simp only[zab,zah] at fh;obtain⟨AU,h0,G6,h63,hb⟩:=fh;have AU:z.cells.length=k+1:=by simpa using AU
    split at hs
    ·rename_i s1 v hn;cases hx with
     |d hx=>
      cases hx;cases hy with
      |d hy=>
       cases hy;have hr:=run_make (P:=Q) w t e i zv ht hi Kd k1 k2 l c h0 G6 hb h63;have hle:l.toNat<=c.toNat:=by omega
       obtain⟨h1,h2,h3,h4⟩:=mc h hn (g1:= .slice (some ⟨w.heap.size,0,none⟩) l.toNat c.toNat) (w':=w.alloc (.cells (madeCells zv.cells (c.toNat*i.size)) e))
        (λb hb=>heap_alloc_old w _ b hb) (by simp) rfl rfl rfl (λb hb=>by simp[bH,aR] at hb;omega)
        (.inr ⟨w.heap.size,c.toNat,madeCells zv.cells (c.toNat*i.size),k+1,by rw[bb,zbw],heap_alloc_new w _,hk,by omega,by rw[zbw];exact hle,by simp only[maxLen];omega,
         by rw[size_madeCells,fJ],by simp,qb (a8.tM _ _ Oj) AU (by simp_all [zaq])⟩)
       obtain⟨c1,c2⟩:=cz h1 hs (v:= .slice (some ⟨w.heap.size,0,none⟩) l.toNat c.toNat) (cx.of (.sl (site dst) v l.toNat _ rfl ⟨_,h4,zaj _,λ_ _=>⟨_,l.toNat,c.toNat,bb _ _ _,rfl,zaj _⟩⟩));grind
    cases hs
   cases hs
  cases hs
 cases hs
theorem mG.set{F:Nat->Prop}{w:World}{cs:Array Value}{k i:Nat}{es:List D}{x:D}{v:Value}(hE:mG F w cs k es)(dt:cs.size=es.length*k)(hi:i<es.length)(hx:a8 F w v x)(hl:x.cells.length=k):
  ((v.cells.toList.zipIdx 0).foldl (λ(cs:Array Value) (x:Value×Nat)=>cs.setIfInBounds (i*k+x.2) x.1) cs).size=(es.set i x).length*k/\
  mG F w ((v.cells.toList.zipIdx 0).foldl (λ(cs:Array Value) (x:Value×Nat)=>cs.setIfInBounds (i*k+x.2) x.1) cs) k (es.set i x):=by
 obtain⟨c1,c2,c3⟩:=dY hx;have hle:i*k+k<=es.length*k:=by
  calc i*k+k=(i+1)*k:=by rw[zaV,zbt]
   _<=es.length*k:=zaq _ hi
 obtain⟨h1,h2⟩:=Cg (i*k) v.cells.toList 0 cs (by omega);refine⟨by rw[h1,dt,zbf],λi' y hy=> ?_⟩;by_cases he:i=i'
 ·grind
 rw[zaX he] at hy;obtain⟨g1,g2,g3⟩:=hE i' y hy;refine⟨g1,g2,λj c hc=> ?_⟩;have hj:j<k:=by have:=(zad.1 hc).1;omega
 have b7: ¬(i*k+0<=i'*k+j/\i'*k+j<i*k+0+v.cells.toList.length):=by
  rcases zci he with h |h
  ·have:(i+1)*k<=i'*k:=zaq _ h;rw[zaV,zbt] at this;omega
  have:(i'+1)*k<=i*k:=zaq _ h;rw[zaV,zbt] at this;omega
 grind
theorem pg{t:TypeId}{k:Nat}(hk:0<k): ∀(ps:List (Nat×P)) (vs:List (Nat×Value)) (s s':S) (es fA:List D) (F:Nat->Prop) (cs:Array Value),aD Q T F G w a s->cN Q t k s es ps=some (s',fA)->
  vs.length=ps.length->(∀(i:Nat) x y,vs[i]?=some x->ps[i]?=some y->x.1=y.1/\aF F w G s.rg x.2 y.2)->cs.size=es.length*k->mG F w cs k es->
  ∃F' lC,aD Q T F' G w a s'/\Ext (Own G s.rg) (Own G s'.rg) F F' w w/\fA.length=es.length/\lC.size=fA.length*k/\mG F' w lC k fA/\Instr.fill (λi=>some (i*k,k)) cs vs=some lC
 | [],vs,s,s',es,fA,F,cs,h,hb,hl,_,dt,hE=>by
  obtain⟨rfl,rfl⟩:=hb;have:vs=[]:=by grind
  subst this;exact⟨F,cs,h,Ext.refl _ _ _,rfl,dt,hE,rfl⟩
 | (i,p)::ps,[],s,s',es,fA,F,cs,h,hb,hl,_,dt,hE=>by simp at hl
 | (i,p)::ps,(i0,v)::vs,s,s',es,fA,F,cs,h,hb,hl,hv,dt,hE=>by
  simp only[cN] at hb;split at hb
  next s1 x hf=>
   split at hb
   ·rename_i hc;simp only[zab] at hc;have hxl:x.cells.length=k:=by simpa using hc.1
    have hi:i<es.length:=by simp_all
    obtain⟨e0,hp⟩:=hv 0 (i0,v) (i,p) rfl rfl;subst e0;obtain⟨F1,g1,g2,g3,g4,g5⟩:=wv h hf hp;have hE1:mG F1 w cs k es:=hE.mono g4 (λ_ _=>rfl);obtain⟨m1,m2⟩:=hE1.set dt hi g5 hxl;obtain⟨F2,cs2,k1,k2,k3,k4,k5,k6⟩:=pg hk ps vs s1 s' _ fA F1 _ g1 hb (by grind) (λj x y hx hy=>by obtain⟨q1,q2⟩:=hv (j+1) x y (by grind) (by grind);exact⟨q1,q2.mono g4 (λ_ _=>rfl) g3⟩) m1 m2;refine⟨F2,cs2,k1,g2.trans k2,by rw[k3,zbf],k4,k5,?_⟩;have G7:v.cells.size=k:=by have:=(dY g5).1;grind
    have hle:i0*k+k<=cs.size:=by
     rw[dt]
     calc i0*k+k=(i0+1)*k:=by rw[zaV,zbt]
      _<=es.length*k:=zaq _ hi
    have fh:(decide (v.cells.size≠k)||decide (i0*k+v.cells.size>cs.size))=false:=by simp;omega
    simp only[Instr.fill,fh,zaB,zbj];rw[<-k6];congr 1;rw[<-zcP];simp
   cases hb
  cases hb
theorem Mg(h:aD Q T F G w a s){dst:Option Nat}{t:TypeId}{len:Nat}{ps:List (Nat×P)}{s':S}(hs:rj Q s dst t len ps=some s'){vs:Array (Nat×Value)}(hl:vs.toList.length=ps.length)
  (hv: ∀(i:Nat) x y,vs.toList[i]?=some x->ps[i]?=some y->x.1=y.1/\aF F w G s.rg x.2 y.2):
  ∃v w' F' G',(Instr.buildSlice t len vs).run Q w= .ok v w'/\aD Q T F' G' w' (a.put dst v) s'/\Ext (Own G s.rg) (Own G' s'.rg) F F' w w':=by
 unfold rj at hs;split at hs
 next e het=>
  have ht:=dE het;split at hs
  next i k z hi hk hz=>
   obtain⟨i',_,xr,_,fJ⟩:=gm hk;rw[hi] at xr;cases xr;obtain⟨zv,Kd,Oj,hzs⟩:=nE hi hz;split at hs
   ·rename_i fh;simp only[zab] at fh;obtain⟨⟨AU,PF⟩,Cp⟩:=fh;have AU:z.cells.length=k+1:=by simpa using AU
    have PF:len*(k+1)<=16777216:=zbI PF;split at hs
    ·rename_i s1 es hbe;split at hs
     ·rename_i s2 aY hn;have qbF: ∃H2:Array Value,H2.size=(List.replicate len z).length*(k+1)/\mG F w H2 (k+1) (List.replicate len z)/\((len*(k+1)=0/\H2= #[])\/(len*(k+1)≠0/\H2=madeCells zv.cells (len*(k+1)))):=by
       by_cases h0:len*(k+1)=0
       ·have:len=0:=by grind
        subst this;exact⟨#[],by simp,λi x hx=>by simp at hx,.inl ⟨h0,rfl⟩⟩
       exact⟨madeCells zv.cells (len*(k+1)),by rw[size_madeCells,zbw],qb (a8.tM _ _ Oj) AU (zaj _),.inr ⟨h0,rfl⟩⟩
      obtain⟨H2,q1,q2,q3⟩:=qbF;obtain⟨F1,DX,g1,g2,g3,g4,g5,g6⟩:=pg (by omega) ps vs.toList s s1 _ es F H2 h hbe hl hv q1 q2;have hlen:es.length=len:=by rw[g3,zbw]
      obtain⟨h1,h2,h3,h4⟩:=mc g1 hn (g1:= .slice (some ⟨w.heap.size,0,none⟩) len len) (w':=w.alloc (.cells DX e))
       (λb hb=>heap_alloc_old w _ b hb) (by simp) rfl rfl rfl (λb hb=>by simp[bH,aR] at hb;omega)
       (.inr ⟨w.heap.size,len,DX,k+1,by rw[bb,hlen],heap_alloc_new w _,hk,by omega,by omega,by simp only[maxLen];have:len<=len*(k+1):=Nat.le_mul_of_pos_right _ (by omega);omega,
        by rw[g4,hlen],by simp,g5.mono (λ_ h=>h) (λb hb=>heap_alloc_old w _ b (g1.ji b hb))⟩)
      obtain⟨c1,c2⟩:=cz h1 hs (v:= .slice (some ⟨w.heap.size,0,none⟩) len len) (cx.of (.sl (site dst) aY len _ rfl ⟨_,h4,zaj _,λ_ _=>⟨_,len,len,bb _ _ _,rfl,zaj _⟩⟩));refine⟨_,_,_,_,?_,c1,?_⟩
      ·have dt:(Go.sizeOf e).run Q w= .ok (k+1) w:=run_sizeOf hk w;unfold Instr.buildSlice;simp only[Sem.run_bind,run_underlying ht,Result.andThen_ok,dt];rw[zam (by omega)];rcases q3 with⟨h0,rfl⟩| ⟨h0,rfl⟩
       ·have e0:((Array.range (len*(k+1))).map λx=>(#[]:Array Value)[x%(#[]:Array Value).size]!)= #[]:=by rw[h0];simp
        rw[zao h0];simp only[Sem.run_bind,Sem.run_pure,Result.andThen_ok];rw[e0,g6];rfl
       have e0:((Array.range (len*(k+1))).map λx=>zv.cells[x%zv.cells.size]!)=madeCells zv.cells (len*(k+1)):=rfl;rw[zam h0];have AP:(zeroValue e).run Q w= .ok zv w:=by simp[zeroValue,typeInfo,hi,Kd]
       simp only[Sem.run_bind,Sem.run_pure,Result.andThen_ok,AP];rw[e0,g6];rfl
      rw[c2];exact g2.trans h2
     cases hs
    cases hs
   cases hs
  cases hs
 cases hs
theorem qU{t:TypeId}{k:Nat}: ∀(ps:List (Nat×P)) (es fA:List D),pX Q t k es ps=some fA-> ∀s:S,cN Q t k s es ps=some (s,fA)
 | [],es,fA,h,s=>by simp only[pX,zal] at h;subst h;rfl
 | (i,.d x)::r,es,fA,h,s=>by
  have e:nv Q s t (.d x)=some (s,nzE Q t x):=by
   unfold nv nzE;cases qN Q t with
   |false=>rfl
   |true=>show(nzD Q t x).force (λy=>some (s,y))=_;rw[D.force_eq]
  simp only[pX] at h;split at h
  next hc=>simp only[cN,e,zao hc];exact qU r _ _ h s
  cases h
 | (_,.agg _)::_,_,_,h,_ | (_,.cX _)::_,_,_,h,_ | (_,.ref ..)::_,_,_,h,_ | (_,.dz ..)::_,_,_,h,_ | (_,.e8 ..)::_,_,_,h,_ | (_,.sl ..)::_,_,_,h,_ | (_,.lG ..)::_,_,_,h,_ | (_,.mp ..)::_,_,_,h,_ | (_,.fn ..)::_,_,_,h,_ | (_,.bad)::_,_,_,h,_ | (_,.when ..)::_,_,_,h,_=>by simp[pX] at h
theorem aD.grow(h:aD Q T F G w a s)(cs:Array Value)(e:TypeId):aD Q T (λb=>F b\/b=w.heap.size) G (w.alloc (.cells cs e)) a s/\Ext (Own G s.rg) (Own G s.rg) F (λb=>F b\/b=w.heap.size) w (w.alloc (.cells cs e)):=by
 have hk: ∀b,b<w.heap.size->(w.alloc (.cells cs e)).heap[b]?=w.heap[b]?:=λb hb=>heap_alloc_old w _ b hb;have dt:(w.alloc (.cells cs e)).heap.size=w.heap.size+1:=by simp
 have hx:Ext (Own G s.rg) (Own G s.rg) F (λb=>F b\/b=w.heap.size) w (w.alloc (.cells cs e)):=
  ⟨λ_=> .inl,λb hb=>hb.elim .inl λe=> .inr (.inr (by omega)),λ_=> .inl,λb hb _=>hk b hb,by omega,rfl,rfl,rfl⟩
 refine⟨⟨h.rp.go hx,h.size,λt p hp=>cx.mono (λ_=> .inl) (λb hb=>hk b (h.ji b hb)) (Names.refl _ _) (h.tm t p hp),λn e he=>(h.rg n e he).mono (λ_=> .inl) (λb hb=>hk b (h.ji b hb)) (Names.refl _ _) rfl (λb hb=>hk b ((h.rg n e he).lt hb)),h.own,
  λn e b he hb hf=>hf.elim (h.my n e b he hb) λe'=> ?_,λb hb=> ?_,h.tag,λb hb=>⟨.inl (h.z b hb).1,(hk b (h.ji b (h.z b hb).1)).trans (h.z b hb).2⟩,h.dr,zaI h.sz hx.size⟩,hx⟩
 ·have:=(h.rg n e he).lt hb;omega
 rcases hb with hb |hb
 ·have:=h.ji b hb;omega
 omega
theorem PG(h:aD Q T F G w a s){t:TypeId}{len:Nat}{ps:List (Nat×P)}{p:P}(hs:AA Q t len ps=some p){vs:Array (Nat×Value)}(hl:vs.toList.length=ps.length)
  (hv: ∀(i:Nat) x y,vs.toList[i]?=some x->ps[i]?=some y->x.1=y.1/\aF F w G s.rg x.2 y.2):
  ∃v w' F',(Instr.buildSlice t len vs).run Q w= .ok v w'/\aD Q T F' G w' a s/\aF F' w' G s.rg v p/\Ext (Own G s.rg) (Own G s.rg) F F' w w':=by
 unfold AA at hs;split at hs
 next e het=>
  have ht:=dE het;split at hs
  next i k z hi hk hz=>
   obtain⟨i',_,xr,_,fJ⟩:=gm hk;rw[hi] at xr;cases xr;obtain⟨zv,Kd,Oj,hzs⟩:=nE hi hz;split at hs
   ·rename_i fh;simp only[zab] at fh;obtain⟨⟨AU,PF⟩,Cp⟩:=fh;have AU:z.cells.length=k+1:=by simpa using AU
    have PF:len*(k+1)<=16777216:=zbI PF;split at hs
    ·rename_i es Mh;cases hs;have hbe:=qU _ _ _ Mh s;have qbF: ∃H2:Array Value,H2.size=(List.replicate len z).length*(k+1)/\mG F w H2 (k+1) (List.replicate len z)/\((len*(k+1)=0/\H2= #[])\/(len*(k+1)≠0/\H2=madeCells zv.cells (len*(k+1)))):=by
      by_cases h0:len*(k+1)=0
      ·have:len=0:=by grind
       subst this;exact⟨#[],by simp,λi x hx=>by simp at hx,.inl ⟨h0,rfl⟩⟩
      exact⟨madeCells zv.cells (len*(k+1)),by rw[size_madeCells,zbw],qb (a8.tM _ _ Oj) AU (zaj _),.inr ⟨h0,rfl⟩⟩
     obtain⟨H2,q1,q2,q3⟩:=qbF;obtain⟨F1,DX,g1,g2,g3,g4,g5,g6⟩:=pg (by omega) ps vs.toList s s _ es F H2 h hbe hl hv q1 q2;have hlen:es.length=len:=by rw[g3,zbw]
     obtain⟨h1,h2⟩:=g1.grow DX e;have hE:mG (λb=>F1 b\/b=w.heap.size) (w.alloc (.cells DX e)) DX (k+1) es:=g5.mono (λ_=> .inl) (λb hb=>heap_alloc_old w _ b (g1.ji b hb));refine⟨.slice (some ⟨w.heap.size,0,none⟩) len len,_,_,?_,h1,?_,g2.trans h2⟩
     ·have dt:(Go.sizeOf e).run Q w= .ok (k+1) w:=run_sizeOf hk w;unfold Instr.buildSlice;simp only[Sem.run_bind,run_underlying ht,Result.andThen_ok,dt];rw[zam (by omega)];rcases q3 with⟨h0,rfl⟩| ⟨h0,rfl⟩
      ·have e0:((Array.range (len*(k+1))).map λx=>(#[]:Array Value)[x%(#[]:Array Value).size]!)= #[]:=by rw[h0];simp
       rw[zao h0];simp only[Sem.run_bind,Sem.run_pure,Result.andThen_ok];rw[e0,g6];rfl
      have e0:((Array.range (len*(k+1))).map λx=>zv.cells[x%zv.cells.size]!)=madeCells zv.cells (len*(k+1)):=rfl;rw[zam h0];have AP:(zeroValue e).run Q w= .ok zv w:=by simp[zeroValue,typeInfo,hi,Kd]
      simp only[Sem.run_bind,Sem.run_pure,Result.andThen_ok,AP];rw[e0,g6];rfl
     refine .d ?_;have cc: ∀j,j<es.length*(k+1)->(w.alloc (.cells DX e)).cell? ⟨w.heap.size,0+j,none⟩=some (DX.getD j undef):=λj hj=>by simp_all
     have:=a8.O8 (F:=λb=>F1 b\/b=w.heap.size) (w:=w.alloc (.cells DX e)) w.heap.size 0 (k+1) len es (λj=>DX.getD j undef) (by omega) (.inr rfl)
      (λx hx=>by obtain⟨i,hi,rfl⟩:=zaW hx;exact(hE i _ (zae hi)).1) (λx hx=>by obtain⟨i,hi,rfl⟩:=zaW hx;exact(hE i _ (zae hi)).2.1) cc (λi j x c hx hc=>(hE i x hx).2.2 j c hc)
     rwa [hlen] at this
    cases hs
   cases hs
  cases hs
 cases hs
theorem Cr{t tx ty e:TypeId}{i:TypeInfo}(ht:Q.underlying t=some (.slice e))(hi:Q.info? e=some i){b dLen dCap:Nat}{cur:Array Value}(hg:w.heap[b]?=some (.cells cur e (0,0))){x:Value}{n:Nat}{news:List Value}(hs:Src Q i.size tx x n news w)
  (hn:n<=dLen) (EK:news.length<=cur.size):
  (Builtin.copy_ #[t,tx] ty #[.slice (some ⟨b,0,none⟩) dLen dCap,x]).run Q w= .ok (goInt n) (w.setRow b (news++cur.toList.drop news.length).toArray):=by
 have kO:=run_storeCells_at Q b 0 e news 0 cur w hg (by grind) hs.one;have hm:Nat.min n dLen=n:=zce hn;simp[Builtin.copy_,run_underlying ht,Go.sizeOf,typeInfo,hi,hs.len,hm,hs.cells,kO]
theorem run_copy_none{t tx ty e:TypeId}{i:TypeInfo}(ht:Q.underlying t=some (.slice e))(hi:Q.info? e=some i){dLen dCap:Nat}{x:Value}(hs:Src Q i.size tx x 0 [] w):
  (Builtin.copy_ #[t,tx] ty #[.slice none dLen dCap,x]).run Q w= .ok (goInt 0) w:=by
 have hm:Nat.min 0 dLen=0:=Nat.zero_min _;simp[Builtin.copy_,run_underlying ht,Go.sizeOf,typeInfo,hi,hs.len,hm,hs.cells]
theorem PH(h:aD Q T F G w a s){dst:Option Nat}{t t2 ty:TypeId}{p q:P}{s':S}(hs:sq Q s dst t t2 p q=some s'){vx vy:Value}(hx:aF F w G s.rg vx p)(hy:aF F w G s.rg vy q):
  ∃v w' G',(Builtin.copy_ #[t,t2] ty #[vx,vy]).run Q w= .ok v w'/\aD Q T F G' w' (a.put dst v) s'/\Ext (Own G s.rg) (Own G' s'.rg) F F w w':=by
 unfold sq at hs;split at hs
 next e n aY len het=>
  have ht:=dE het;split at hs
  next k hk=>
   obtain⟨i,_,hi,_,fJ⟩:=gm hk;split at hs
   ·rename_i ys ty' es hys ho;split at hs
    ·rename_i hc;simp only[zab,zah] at hc;obtain⟨Cd,hle,hyl⟩:=hc;have Cd:ty'=e:=by simpa using Cd
     subst Cd;obtain⟨en,mJ,dR,bV⟩:=S.bJ ho;obtain⟨news,zU,fW⟩:=Cq h (by omega) hys hy;have qaD:Src Q i.size t2 vy ys.length news w:=by rw[fJ];exact zU
     rw[S.fj mJ] at hs;have fY:qT G s.rg n ⟨en.aY,en.tag,.arr ty' false (ys++es.drop ys.length)⟩ (G n):=λe' cK=>by rw[mJ] at cK;cases cK;exact .inr ⟨rfl,λ_=>⟨by rw[bV];rfl,rfl⟩⟩
     have fin: ∀(w':World) (v:Value),(Builtin.copy_ #[t,t2] ty #[vx,vy]).run Q w= .ok v w'->v= .int .i64 ys.length->(∀b,b<w.heap.size-> ¬(∃e,lk s.rg n=some e/\bH (G n) e.obj=some b)->w'.heap[b]?=w.heap[b]?)->
       w.heap.size<=w'.heap.size->w'.os=w.os->w'.tape=w.tape->w'.output=w.output->oB Q F w' G (ins n ⟨en.aY,en.tag,.arr ty' false (ys++es.drop ys.length)⟩ s.rg) n (.arr ty' false (ys++es.drop ys.length))->
       ∃v w' G',(Builtin.copy_ #[t,t2] ty #[vx,vy]).run Q w= .ok v w'/\aD Q T F G' w' (a.put dst v) s'/\Ext (Own G s.rg) (Own G' s'.rg) F F w w':=by
      intro w' v bX hv eK dt Pq htp bw EM;obtain⟨d1,d2⟩:=h.ni (n:=n) (e1:=⟨en.aY,en.tag,.arr ty' false (ys++es.drop ys.length)⟩) (g1:=G n) (w':=w') (hdr:=qa _ bX) fY eK dt Pq htp bw
       (λb hb=> .inr ⟨en,mJ,by rw[bV];exact hb⟩) (by rw[bW];exact EM) (λi xr _=>h.tag n en i mJ xr (by rw[bV];rfl))
      obtain⟨c1,c2⟩:=cz d1 hs (v:= .int .i64 ys.length) (cx.of (.d (.int .i64 ys.length)));grind
     have hO:=h.rg n en mJ;rw[bV] at hO;cases hx with
     |sl _ _ _ _ h1 hr=>
      obtain⟨a0,N,cap,hG,rfl,qhI⟩:=hr.at mJ dR (by rw[bV];rfl);rcases hO with⟨hg,rfl⟩| ⟨b,iK,cs,k',hg,hh,mz,Wd,G6,zn,dt,_,hE⟩
      ·rw[hG] at hg;obtain⟨rfl,rfl,rfl⟩:=hg;have h0:ys=[]:=zax (by omega);subst h0;have hn0:news=[]:=by have:=fW.1;simpa using this
       subst hn0;exact fin w _ (run_copy_none ht hi qaD) rfl (λ_ _ _=>rfl) (zaj _) rfl rfl rfl (.inl ⟨hG,by simp⟩)
      rw[hk] at mz;cases mz;rw[hG] at hg;obtain⟨rfl,rfl,rfl⟩:=hg;have V3:ys.length<=es.length:=by omega
      have r7:news.length=ys.length*(k+1):=fW.1;have EK:news.length<=cs.size:=by rw[r7,dt];exact zaq _ (by omega)
      have bX:=Cr (ty:=ty) (dLen:=len) (dCap:=cap) ht hi hh qaD hyl EK;have sF:(ys++es.drop ys.length).length=es.length:=by rw[zan,zbd];omega
      have fT:bH (G n) en.obj=some b:=by rw[bV,hG];rfl
      have Wb: ¬F b:=h.my n en b mJ fT;have hkF: ∀c,F c->(w.setRow b (news++cs.toList.drop news.length).toArray).heap[c]?=w.heap[c]?:=λc hc=>setRow_other w b c _ (λe=>Wb (e▸hc));refine fin _ _ bX rfl (λc _ b7=>setRow_other w b c _ (λe'=>b7 ⟨en,mJ,by rw[e'];exact fT⟩)) (by simp) rfl rfl rfl
       (.inr ⟨b,cap,_,k+1,by rw[sF];exact hG,setRow_heap w b cs _ ty' _ hh,hk,by omega,by rw[sF];exact G6,zn,?_,by simp,?_⟩)
      ·skip
       grind
      refine er.toE ?_;rw[sF];have hf:=(er.take hE (zaj _) (by simp_all [zaq])).drop ys.length;rw[zak] at hf;have e1:((news++cs.toList.drop news.length).toArray.toList.take (es.length*(k+1)))=news++(cs.toList.take (es.length*(k+1))).drop (ys.length*(k+1)):=by rw[List.take_append,zai (by simp_all [zaq]),r7,zcJ]
      rw[e1];exact(fW.append hf).mono (λ_ h=>h) hkF
     |_=>rename_i hd;cases hd
    cases hs
   cases hs
  cases hs
 cases hs
theorem Mi{F:Nat->Prop}{w:World}{z:D}{zv:Value}{k l:Nat}(hz:a8 F w zv z)(hl:z.cells.length=k):er F w k (List.replicate l z) (Builtin.zeroCells zv.cells l).toList:=by
 obtain⟨c1,c2,c3⟩:=dY hz;have hs:zv.cells.size=k:=by rw[<-hl,<-c1];simp
 have hE:=qb (l:=l) (n:=l*k) hz hl (zaj _);have dt:(madeCells zv.cells (l*k)).size=l*k:=by simp[size_madeCells]
 have hf:=er.take (len:=l) hE (by simp) (by rw[zbw,dt];simp);have e1:(List.replicate l z).take l=List.replicate l z:=zai (by simp);have e2:(Builtin.zeroCells zv.cells l).toList=(madeCells zv.cells (l*k)).toList.take (l*k):=by rw[zai (by grind)];unfold Builtin.zeroCells madeCells;rw[hs]
 rw[e1] at hf;rw[e2];exact hf
theorem Mj(h:aD Q T F G w a s){dst:Option Nat}{t ty:TypeId}{p:P}{s':S}(hs:nw Q s dst t p=some s'){vx:Value}(hx:aF F w G s.rg vx p):
  ∃v w' G',(Builtin.clear_ #[t] ty #[vx]).run Q w= .ok v w'/\aD Q T F G' w' (a.put dst v) s'/\Ext (Own G s.rg) (Own G' s'.rg) F F w w':=by
 unfold nw at hs;split at hs
 next e n aY k0 off len het=>
  have ht:=dE het;split at hs
  next k z ty' es hk hz ho=>
   obtain⟨i,_,hi,_,fJ⟩:=gm hk;split at hs
   ·rename_i hc;simp only[zab,zah] at hc;obtain⟨⟨⟨Cd,jJ⟩,AU⟩,qbG⟩:=hc;have Cd:ty'=e:=zaf Cd;have jJ:k0=k+1:=zaf jJ;have AU:z.cells.length=k+1:=zaf AU;subst Cd jJ;obtain⟨en,mJ,dR,bV⟩:=S.bJ ho;obtain⟨zv,AP,GY⟩:=o8 hz w;rw[S.fj mJ] at hs;generalize qbH:es.take off++List.replicate len z++es.drop (off+len)=fA at hs;have sF:fA.length=es.length:=by rw[<-qbH];simp;omega
    have fY:qT G s.rg n ⟨en.aY,en.tag,.arr ty' false fA⟩ (G n):=λe' cK=>by rw[mJ] at cK;cases cK;exact .inr ⟨rfl,λ_=>⟨by rw[bV];rfl,rfl⟩⟩
    have fin: ∀(w':World),(Builtin.clear_ #[t] ty #[vx]).run Q w= .ok (.tuple #[]) w'->(∀b,b<w.heap.size-> ¬(∃e,lk s.rg n=some e/\bH (G n) e.obj=some b)->w'.heap[b]?=w.heap[b]?)->
      w.heap.size<=w'.heap.size->w'.os=w.os->w'.tape=w.tape->w'.output=w.output->oB Q F w' G (ins n ⟨en.aY,en.tag,.arr ty' false fA⟩ s.rg) n (.arr ty' false fA)->
      ∃v w' G',(Builtin.clear_ #[t] ty #[vx]).run Q w= .ok v w'/\aD Q T F G' w' (a.put dst v) s'/\Ext (Own G s.rg) (Own G' s'.rg) F F w w':=by
     intro w' bX eK dt Pq htp bw EM;obtain⟨d1,d2⟩:=h.ni (n:=n) (e1:=⟨en.aY,en.tag,.arr ty' false fA⟩) (g1:=G n) (w':=w') (hdr:=qa _ bX) fY eK dt Pq htp bw
      (λb hb=> .inr ⟨en,mJ,by rw[bV];exact hb⟩) (by rw[bW];exact EM) (λi xr _=>h.tag n en i mJ xr (by rw[bV];rfl))
     obtain⟨c1,c2⟩:=cz d1 hs (v:= .tuple #[]) (cx.of (.bad _));grind
    have hO:=h.rg n en mJ;rw[bV] at hO;cases hx with
    |lG _ _ _ _ _ _ h1 hr=>
     obtain⟨a0,N,cap,hG,hle,a1,qt,rfl,Pc,hzz⟩:=hr.at mJ dR (by rw[bV];rfl);by_cases h0:len=0
     ·subst h0;have e0:fA=es:=by rw[<-qbH];simp
      subst e0;refine fin w ?_ (λ_ _ _=>rfl) (zaj _) rfl rfl rfl ?_
      ·cases a1<;>simp[Builtin.clear_,run_underlying ht]
      exact hO
     obtain⟨b0,ha0,Pd⟩: ∃b,a0=some ⟨b,0,none⟩/\a1=some ⟨b,off*(k+1),none⟩:=by grind
     subst ha0 Pd;rcases hO with⟨hg,rfl⟩| ⟨b,iK,cs,k',hg,hh,mz,Wd,G6,zn,dt,_,hE⟩
     ·rw[hG] at hg;simp at hg
     rw[hk] at mz;cases mz;rw[hG] at hg;obtain⟨rfl,rfl,rfl⟩:=hg;have EJ:=Mi (l:=len) GY AU;have r7:(Builtin.zeroCells zv.cells len).toList.length=len*(k+1):=by have:=EJ.1;grind
     have hole:off*(k+1)+len*(k+1)<=es.length*(k+1):=by rw[<-zaV];simp_all [zaq]
     have qjf:es.length*(k+1)<=cs.size:=by simp_all [zaq]
     have kO:=run_storeCells_at Q b0 (off*(k+1)) ty' (Builtin.zeroCells zv.cells len).toList 0 cs w hh (by omega) (EJ.one (by omega));simp only[zbQ,r7] at kO;have bX:(Builtin.clear_ #[t] ty #[.slice (some ⟨b0,off*(k+1),none⟩) len qt]).run Q w= .ok (.tuple #[]) (w.setRow b0 (cs.toList.take (off*(k+1))++(Builtin.zeroCells zv.cells len).toList++cs.toList.drop (off*(k+1)+len*(k+1))).toArray):=by simp[Builtin.clear_,run_underlying ht,AP,kO]
     have fT:bH (G n) en.obj=some b0:=by rw[bV,hG];rfl
     have Wb: ¬F b0:=h.my n en b0 mJ fT;have hkF: ∀c,F c->(w.setRow b0 (cs.toList.take (off*(k+1))++(Builtin.zeroCells zv.cells len).toList++cs.toList.drop (off*(k+1)+len*(k+1))).toArray).heap[c]?=w.heap[c]?:=λc hc=>setRow_other w b0 c _ (λe=>Wb (e▸hc));refine fin _ bX (λc _ b7=>setRow_other w b0 c _ (λe'=>b7 ⟨en,mJ,by rw[e'];exact fT⟩)) (by simp) rfl rfl rfl
      (.inr ⟨b0,cap,_,k+1,by rw[sF];exact hG,setRow_heap w b0 cs _ ty' _ hh,hk,by omega,by rw[sF];exact G6,zn,?_,by simp,?_⟩)
     ·skip
      grind
     refine er.toE ?_;rw[sF,<-qbH];have f1:=er.take (len:=off) hE (by omega) (by grind);have f3:=(er.take hE (zaj _) (by grind)).drop (off+len);rw[zak] at f3;have e1:((cs.toList.take (off*(k+1))++(Builtin.zeroCells zv.cells len).toList++cs.toList.drop (off*(k+1)+len*(k+1))).toArray.toList.take (es.length*(k+1)))=cs.toList.take (off*(k+1))++(Builtin.zeroCells zv.cells len).toList++(cs.toList.take (es.length*(k+1))).drop ((off+len)*(k+1)):=by
      have l1:(cs.toList.take (off*(k+1))).length=off*(k+1):=by simp;omega
      rw[List.take_append,zai (by rw[zan,l1,r7];exact hole),zan,l1,r7,zcJ,zaV]
     rw[e1];exact((f1.append EJ).append f3).mono (λ_ h=>h) hkF
    |_=>rename_i hd;cases hd
   cases hs
  cases hs
 cases hs
end
end Pi
