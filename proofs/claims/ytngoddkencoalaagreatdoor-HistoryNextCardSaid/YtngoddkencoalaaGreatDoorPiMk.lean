/- The text PiMk. -/
import Derived.Test.YtngoddkencoalaaGreatDoorPiEfOk4
import Derived.Laws.MakeOwn
namespace Pi
open Go
section
variable {Q:Program} {T:Tg} {F:Nat->Prop} {G:Nat->Value} {w:World} {a:Act} {s:S}
theorem Pv {zc:Array Value} {n k i j:Nat} (hk:zc.size=k) (hj:j<k) (hn:i*k+j<n):(madeCells zc n).getD (i*k+j) undef=zc.getD j undef:=by
 have e:(i*k+j)%zc.size=j:=by rw[hk,zb7,Nat.mul_add_mod,Nat.mod_eq_of_lt hj]
 have Ki:j<zc.size:=by omega
 simp[madeCells,Array.getD,hn,e,Ki]
theorem qb {F:Nat->Prop} {w:World} {z:D} {zv:Value} {k l n:Nat} (hz:a7 F w zv z) (hl:z.cells.length=k) (hn:l*k<=n):mC F w (madeCells zv.cells n) k (List.replicate l z):=by
 obtain⟨c1,c2,c3⟩:=dW hz
 have hs:zv.cells.size=k:=by rw[<-hl,<-c1];simp
 intro i x hx
 rw[List.getElem?_replicate] at hx
 split at hx
 ·rename_i hi
  cases hx
  refine⟨hl,c2,fun j c hc=> ?_⟩
  have hj:j<k:=by have:=(zad.1 hc).1;omega
  have bG:i*k+j<n:=by
   calc i*k+j<i*k+k:=by omega
    _=(i+1)*k:=by rw[zaT,zbr]
    _<=l*k:=zaq _ hi
    _<=n:=hn
  rw[Pv hs hj bG]
  exact c3 j _ c (by simp_all) hc
 ·cases hx
theorem Pw (h:aC Q T F G w a s) {dst:Option Nat} {t:TypeId} {p q:P} {s':S} (hs:sc Q s dst t p q=some s') {vx vy:Value} (hx:aF F w G s.rg vx p) (hy:aF F w G s.rg vy q):
  ∃v w' G',(Instr.makeSlice t vx vy).run Q w= .ok v w'/\aC Q T F G' w' (a.put dst v) s'/\Ext (Own G s.rg) (Own G' s'.rg) F F w w':=by
 unfold sc at hs
 split at hs
 ·rename_i e k1 l k2 c het
  have ht:=dC het
  split at hs
  ·rename_i i k z hi hk hz
   obtain⟨i',_,xh,_,fK⟩:=gl hk
   rw[hi] at xh
   cases xh
   obtain⟨zv,J8,N7,hzs⟩:=nA hi hz
   split at hs
   ·rename_i ff
    simp only[zab,zah] at ff
    obtain⟨AN,h0,GS,h63,hb⟩:=ff
    have AN:z.cells.length=k+1:=by simpa using AN
    split at hs
    ·rename_i s1 v hn
     cases hx with
     |d hx=>
      cases hx
      cases hy with
      |d hy=>
       cases hy
       have hr:=run_make (P:=Q) w t e i zv ht hi J8 k1 k2 l c h0 GS hb h63
       have hle:l.toNat<=c.toNat:=by omega
       obtain⟨h1,h2,h3,h4⟩:=mb h hn (g1:= .slice (some ⟨w.heap.size,0,none⟩) l.toNat c.toNat) (w':=w.alloc (.cells (madeCells zv.cells (c.toNat*i.size)) e))
        (fun b hb=>heap_alloc_old w _ b hb) (by simp) rfl rfl rfl (fun b hb=>by simp[bF,aQ] at hb;omega)
        (.inr ⟨w.heap.size,c.toNat,madeCells zv.cells (c.toNat*i.size),k+1,by rw[a8,zbu],heap_alloc_new w _,hk,by omega,by rw[zbu];exact hle,by simp only[maxLen];omega,
         by rw[size_madeCells,fK],by simp,qb (a7.tF _ _ N7) AN (by simp_all [zaq])⟩)
       obtain⟨c1,c2⟩:=cv h1 hs (v:= .slice (some ⟨w.heap.size,0,none⟩) l.toNat c.toNat) (ct.of (.sl (site dst) v l.toNat _ rfl ⟨_,h4,zaj _,fun _ _=>⟨_,l.toNat,c.toNat,a8 _ _ _,rfl,zaj _⟩⟩))
       grind
    ·cases hs
   ·cases hs
  ·cases hs
 ·cases hs
theorem mC.set {F:Nat->Prop} {w:World} {cs:Array Value} {k i:Nat} {es:List D} {x:D} {v:Value} (hE:mC F w cs k es) (dq:cs.size=es.length*k) (hi:i<es.length) (hx:a7 F w v x) (hl:x.cells.length=k):
  ((v.cells.toList.zipIdx 0).foldl (fun(cs:Array Value) (x:Value×Nat)=>cs.setIfInBounds (i*k+x.2) x.1) cs).size=(es.set i x).length*k/\
  mC F w ((v.cells.toList.zipIdx 0).foldl (fun(cs:Array Value) (x:Value×Nat)=>cs.setIfInBounds (i*k+x.2) x.1) cs) k (es.set i x):=by
 obtain⟨c1,c2,c3⟩:=dW hx
 have hle:i*k+k<=es.length*k:=by
  calc i*k+k=(i+1)*k:=by rw[zaT,zbr]
   _<=es.length*k:=zaq _ hi
 obtain⟨h1,h2⟩:=Cd (i*k) v.cells.toList 0 cs (by omega)
 refine⟨by rw[h1,dq,zbg],fun i' y hy=> ?_⟩
 by_cases he:i=i'
 ·grind
 ·rw[zaW he] at hy
  obtain⟨g1,g2,g3⟩:=hE i' y hy
  refine⟨g1,g2,fun j c hc=> ?_⟩
  have hj:j<k:=by have:=(zad.1 hc).1;omega
  have bZ: ¬(i*k+0<=i'*k+j/\i'*k+j<i*k+0+v.cells.toList.length):=by
   rcases zch he with h |h
   ·have:(i+1)*k<=i'*k:=zaq _ h
    rw[zaT,zbr] at this
    omega
   ·have:(i'+1)*k<=i*k:=zaq _ h
    rw[zaT,zbr] at this
    omega
  grind
theorem ph {t:TypeId} {k:Nat} (hk:0<k): ∀(ps:List (Nat×P)) (vs:List (Nat×Value)) (s s':S) (es fA:List D) (F:Nat->Prop) (cs:Array Value),aC Q T F G w a s->cK Q t k s es ps=some (s',fA)->
  vs.length=ps.length->(∀(i:Nat) x y,vs[i]?=some x->ps[i]?=some y->x.1=y.1/\aF F w G s.rg x.2 y.2)->cs.size=es.length*k->mC F w cs k es->
  ∃F' ly,aC Q T F' G w a s'/\Ext (Own G s.rg) (Own G s'.rg) F F' w w/\fA.length=es.length/\ly.size=fA.length*k/\mC F' w ly k fA/\Instr.fill (fun i=>some (i*k,k)) cs vs=some ly
 | [],vs,s,s',es,fA,F,cs,h,hb,hl,_,dq,hE=>by
  obtain⟨rfl,rfl⟩:=hb
  have:vs=[]:=by grind
  subst this
  exact⟨F,cs,h,Ext.refl _ _ _,rfl,dq,hE,rfl⟩
 | (i,p)::ps,[],s,s',es,fA,F,cs,h,hb,hl,_,dq,hE=>by simp at hl
 | (i,p)::ps,(i0,v)::vs,s,s',es,fA,F,cs,h,hb,hl,hv,dq,hE=>by
  simp only[cK] at hb
  split at hb
  ·rename_i s1 x hf
   split at hb
   ·rename_i hc
    simp only[zab] at hc
    have hxl:x.cells.length=k:=by simpa using hc.1
    have hi:i<es.length:=by simp_all
    obtain⟨e0,hp⟩:=hv 0 (i0,v) (i,p) rfl rfl
    subst e0
    obtain⟨F1,g1,g2,g3,g4,g5⟩:=wg h hf hp
    have hE1:mC F1 w cs k es:=hE.mono g4 (fun _ _=>rfl)
    obtain⟨m1,m2⟩:=hE1.set dq hi g5 hxl
    obtain⟨F2,cs2,k1,k2,k3,k4,k5,k6⟩:=ph hk ps vs s1 s' _ fA F1 _ g1 hb (by grind) (fun j x y hx hy=>by
     obtain⟨q1,q2⟩:=hv (j+1) x y (by grind) (by grind)
     exact⟨q1,q2.mono g4 (fun _ _=>rfl) g3⟩) m1 m2
    refine⟨F2,cs2,k1,g2.trans k2,by rw[k3,zbg],k4,k5,?_⟩
    have GU:v.cells.size=k:=by
     have:=(dW g5).1
     grind
    have hle:i0*k+k<=cs.size:=by
     rw[dq]
     calc i0*k+k=(i0+1)*k:=by rw[zaT,zbr]
      _<=es.length*k:=zaq _ hi
    have ff:(decide (v.cells.size≠k)||decide (i0*k+v.cells.size>cs.size))=false:=by
     simp;omega
    simp only[Instr.fill,ff,zaz,zbd]
    rw[<-k6]
    congr 1
    rw[<-zcM]
    simp
   ·cases hb
  ·cases hb
theorem L6 (h:aC Q T F G w a s) {dst:Option Nat} {t:TypeId} {len:Nat} {ps:List (Nat×P)} {s':S} (hs:q9 Q s dst t len ps=some s') {vs:Array (Nat×Value)} (hl:vs.toList.length=ps.length)
  (hv: ∀(i:Nat) x y,vs.toList[i]?=some x->ps[i]?=some y->x.1=y.1/\aF F w G s.rg x.2 y.2):
  ∃v w' F' G',(Instr.buildSlice t len vs).run Q w= .ok v w'/\aC Q T F' G' w' (a.put dst v) s'/\Ext (Own G s.rg) (Own G' s'.rg) F F' w w':=by
 unfold q9 at hs
 split at hs
 ·rename_i e het
  have ht:=dC het
  split at hs
  ·rename_i i k z hi hk hz
   obtain⟨i',_,xh,_,fK⟩:=gl hk
   rw[hi] at xh
   cases xh
   obtain⟨zv,J8,N7,hzs⟩:=nA hi hz
   split at hs
   ·rename_i ff
    simp only[zab] at ff
    obtain⟨⟨AN,Px⟩,Cm⟩:=ff
    have AN:z.cells.length=k+1:=by simpa using AN
    have Px:len*(k+1)<=16777216:=zbI Px
    split at hs
    ·rename_i s1 es hbe
     split at hs
     ·rename_i s2 aX hn
      have qbA: ∃HS:Array Value,HS.size=(List.replicate len z).length*(k+1)/\mC F w HS (k+1) (List.replicate len z)/\((len*(k+1)=0/\HS= #[])\/(len*(k+1)≠0/\HS=madeCells zv.cells (len*(k+1)))):=by
       by_cases h0:len*(k+1)=0
       ·have:len=0:=by
         grind
        subst this
        exact⟨#[],by simp,fun i x hx=>by simp at hx,.inl ⟨h0,rfl⟩⟩
       ·exact⟨madeCells zv.cells (len*(k+1)),by rw[size_madeCells,zbu],qb (a7.tF _ _ N7) AN (zaj _),.inr ⟨h0,rfl⟩⟩
      obtain⟨HS,q1,q2,q3⟩:=qbA
      obtain⟨F1,DR,g1,g2,g3,g4,g5,g6⟩:=ph (by omega) ps vs.toList s s1 _ es F HS h hbe hl hv q1 q2
      have hlen:es.length=len:=by rw[g3,zbu]
      obtain⟨h1,h2,h3,h4⟩:=mb g1 hn (g1:= .slice (some ⟨w.heap.size,0,none⟩) len len) (w':=w.alloc (.cells DR e))
       (fun b hb=>heap_alloc_old w _ b hb) (by simp) rfl rfl rfl (fun b hb=>by simp[bF,aQ] at hb;omega)
       (.inr ⟨w.heap.size,len,DR,k+1,by rw[a8,hlen],heap_alloc_new w _,hk,by omega,by omega,by simp only[maxLen];have:len<=len*(k+1):=Nat.le_mul_of_pos_right _ (by omega);omega,
        by rw[g4,hlen],by simp,g5.mono (fun _ h=>h) (fun b hb=>heap_alloc_old w _ b (g1.jm b hb))⟩)
      obtain⟨c1,c2⟩:=cv h1 hs (v:= .slice (some ⟨w.heap.size,0,none⟩) len len) (ct.of (.sl (site dst) aX len _ rfl ⟨_,h4,zaj _,fun _ _=>⟨_,len,len,a8 _ _ _,rfl,zaj _⟩⟩))
      refine⟨_,_,_,_,?_,c1,?_⟩
      ·have dq:(Go.sizeOf e).run Q w= .ok (k+1) w:=run_sizeOf hk w
       unfold Instr.buildSlice
       simp only[Sem.run_bind,run_underlying ht,Result.andThen_ok,dq]
       rw[zam (by omega)]
       rcases q3 with⟨h0,rfl⟩| ⟨h0,rfl⟩
       ·have e0:((Array.range (len*(k+1))).map fun x=>(#[]:Array Value)[x%(#[]:Array Value).size]!)= #[]:=by rw[h0];simp
        rw[zao h0]
        simp only[Sem.run_bind,Sem.run_pure,Result.andThen_ok]
        rw[e0,g6]
        rfl
       ·have e0:((Array.range (len*(k+1))).map fun x=>zv.cells[x%zv.cells.size]!)=madeCells zv.cells (len*(k+1)):=rfl
        rw[zam h0]
        have AI:(zeroValue e).run Q w= .ok zv w:=by simp[zeroValue,typeInfo,hi,J8]
        simp only[Sem.run_bind,Sem.run_pure,Result.andThen_ok,AI]
        rw[e0,g6]
        rfl
      ·rw[c2]
       exact g2.trans h2
     ·cases hs
    ·cases hs
   ·cases hs
  ·cases hs
 ·cases hs
theorem qO {t:TypeId} {k:Nat}: ∀(ps:List (Nat×P)) (es fA:List D),pX Q t k es ps=some fA-> ∀s:S,cK Q t k s es ps=some (s,fA)
 | [],es,fA,h,s=>by
  simp only[pX,zal] at h
  subst h
  rfl
 | (i,.d x)::r,es,fA,h,s=>by
  have e:nq Q s t (.d x)=some (s,nzE Q t x):=by
   unfold nq nzE
   cases qH Q t with
   |false=>rfl
   |true=>
    show(nzD Q t x).force (fun y=>some (s,y))=_
    rw[D.force_eq]
  simp only[pX] at h
  split at h
  ·rename_i hc
   simp only[cK,e,zao hc]
   exact qO r _ _ h s
  ·cases h
 | (_,.agg _)::_,_,_,h,_ | (_,.cV _)::_,_,_,h,_ | (_,.ref ..)::_,_,_,h,_ | (_,.dx ..)::_,_,_,h,_ | (_,.eZ ..)::_,_,_,h,_ | (_,.sl ..)::_,_,_,h,_ | (_,.lC ..)::_,_,_,h,_ | (_,.mp ..)::_,_,_,h,_ | (_,.fn ..)::_,_,_,h,_ | (_,.bad)::_,_,_,h,_ | (_,.when ..)::_,_,_,h,_=>by simp[pX] at h
theorem aC.grow (h:aC Q T F G w a s) (cs:Array Value) (e:TypeId):aC Q T (fun b=>F b\/b=w.heap.size) G (w.alloc (.cells cs e)) a s/\Ext (Own G s.rg) (Own G s.rg) F (fun b=>F b\/b=w.heap.size) w (w.alloc (.cells cs e)):=by
 have hk: ∀b,b<w.heap.size->(w.alloc (.cells cs e)).heap[b]?=w.heap[b]?:=fun b hb=>heap_alloc_old w _ b hb
 have dq:(w.alloc (.cells cs e)).heap.size=w.heap.size+1:=by simp
 have hx:Ext (Own G s.rg) (Own G s.rg) F (fun b=>F b\/b=w.heap.size) w (w.alloc (.cells cs e)):=
  ⟨fun _=> .inl,fun b hb=>hb.elim .inl fun e=> .inr (.inr (by omega)),fun _=> .inl,fun b hb _=>hk b hb,by omega,rfl,rfl,rfl⟩
 refine⟨⟨h.rf.go hx,h.size,fun t p hp=>ct.mono (fun _=> .inl) (fun b hb=>hk b (h.jm b hb)) (Names.refl _ _) (h.tm t p hp),fun n e he=>(h.rg n e he).mono (fun _=> .inl) (fun b hb=>hk b (h.jm b hb)) (Names.refl _ _) rfl (fun b hb=>hk b ((h.rg n e he).lt hb)),h.own,
  fun n e b he hb hf=>hf.elim (h.mq n e b he hb) fun e'=> ?_,fun b hb=> ?_,h.tag,fun b hb=>⟨.inl (h.z b hb).1,(hk b (h.jm b (h.z b hb).1)).trans (h.z b hb).2⟩,h.dr,zaI h.sz hx.size⟩,hx⟩
 ·have:=(h.rg n e he).lt hb
  omega
 ·rcases hb with hb |hb
  ·have:=h.jm b hb
   omega
  ·omega
theorem Py (h:aC Q T F G w a s) {t:TypeId} {len:Nat} {ps:List (Nat×P)} {p:P} (hs:Au Q t len ps=some p) {vs:Array (Nat×Value)} (hl:vs.toList.length=ps.length)
  (hv: ∀(i:Nat) x y,vs.toList[i]?=some x->ps[i]?=some y->x.1=y.1/\aF F w G s.rg x.2 y.2):
  ∃v w' F',(Instr.buildSlice t len vs).run Q w= .ok v w'/\aC Q T F' G w' a s/\aF F' w' G s.rg v p/\Ext (Own G s.rg) (Own G s.rg) F F' w w':=by
 unfold Au at hs
 split at hs
 ·rename_i e het
  have ht:=dC het
  split at hs
  ·rename_i i k z hi hk hz
   obtain⟨i',_,xh,_,fK⟩:=gl hk
   rw[hi] at xh
   cases xh
   obtain⟨zv,J8,N7,hzs⟩:=nA hi hz
   split at hs
   ·rename_i ff
    simp only[zab] at ff
    obtain⟨⟨AN,Px⟩,Cm⟩:=ff
    have AN:z.cells.length=k+1:=by simpa using AN
    have Px:len*(k+1)<=16777216:=zbI Px
    split at hs
    ·rename_i es L7
     cases hs
     have hbe:=qO _ _ _ L7 s
     have qbA: ∃HS:Array Value,HS.size=(List.replicate len z).length*(k+1)/\mC F w HS (k+1) (List.replicate len z)/\((len*(k+1)=0/\HS= #[])\/(len*(k+1)≠0/\HS=madeCells zv.cells (len*(k+1)))):=by
      by_cases h0:len*(k+1)=0
      ·have:len=0:=by
        grind
       subst this
       exact⟨#[],by simp,fun i x hx=>by simp at hx,.inl ⟨h0,rfl⟩⟩
      ·exact⟨madeCells zv.cells (len*(k+1)),by rw[size_madeCells,zbu],qb (a7.tF _ _ N7) AN (zaj _),.inr ⟨h0,rfl⟩⟩
     obtain⟨HS,q1,q2,q3⟩:=qbA
     obtain⟨F1,DR,g1,g2,g3,g4,g5,g6⟩:=ph (by omega) ps vs.toList s s _ es F HS h hbe hl hv q1 q2
     have hlen:es.length=len:=by rw[g3,zbu]
     obtain⟨h1,h2⟩:=g1.grow DR e
     have hE:mC (fun b=>F1 b\/b=w.heap.size) (w.alloc (.cells DR e)) DR (k+1) es:=g5.mono (fun _=> .inl) (fun b hb=>heap_alloc_old w _ b (g1.jm b hb))
     refine⟨.slice (some ⟨w.heap.size,0,none⟩) len len,_,_,?_,h1,?_,g2.trans h2⟩
     ·have dq:(Go.sizeOf e).run Q w= .ok (k+1) w:=run_sizeOf hk w
      unfold Instr.buildSlice
      simp only[Sem.run_bind,run_underlying ht,Result.andThen_ok,dq]
      rw[zam (by omega)]
      rcases q3 with⟨h0,rfl⟩| ⟨h0,rfl⟩
      ·have e0:((Array.range (len*(k+1))).map fun x=>(#[]:Array Value)[x%(#[]:Array Value).size]!)= #[]:=by rw[h0];simp
       rw[zao h0]
       simp only[Sem.run_bind,Sem.run_pure,Result.andThen_ok]
       rw[e0,g6]
       rfl
      ·have e0:((Array.range (len*(k+1))).map fun x=>zv.cells[x%zv.cells.size]!)=madeCells zv.cells (len*(k+1)):=rfl
       rw[zam h0]
       have AI:(zeroValue e).run Q w= .ok zv w:=by simp[zeroValue,typeInfo,hi,J8]
       simp only[Sem.run_bind,Sem.run_pure,Result.andThen_ok,AI]
       rw[e0,g6]
       rfl
     ·refine .d ?_
      have ca: ∀j,j<es.length*(k+1)->(w.alloc (.cells DR e)).cell? ⟨w.heap.size,0+j,none⟩=some (DR.getD j undef):=fun j hj=>by
       simp_all
      have:=a7.O0 (F:=fun b=>F1 b\/b=w.heap.size) (w:=w.alloc (.cells DR e)) w.heap.size 0 (k+1) len es (fun j=>DR.getD j undef) (by omega) (.inr rfl)
       (fun x hx=>by obtain⟨i,hi,rfl⟩:=zaU hx;exact(hE i _ (zae hi)).1) (fun x hx=>by obtain⟨i,hi,rfl⟩:=zaU hx;exact(hE i _ (zae hi)).2.1) ca (fun i j x c hx hc=>(hE i x hx).2.2 j c hc)
      rwa [hlen] at this
    ·cases hs
   ·cases hs
  ·cases hs
 ·cases hs
theorem Co {t tx ty e:TypeId} {i:TypeInfo} (ht:Q.underlying t=some (.slice e)) (hi:Q.info? e=some i) {b dLen dCap:Nat} {cur:Array Value} (hg:w.heap[b]?=some (.cells cur e (0,0))) {x:Value} {n:Nat} {news:List Value} (hs:Src Q i.size tx x n news w)
  (hn:n<=dLen) (EF:news.length<=cur.size):
  (Builtin.copy_ #[t,tx] ty #[.slice (some ⟨b,0,none⟩) dLen dCap,x]).run Q w= .ok (goInt n) (w.setRow b (news++cur.toList.drop news.length).toArray):=by
 have kO:=run_storeCells_at Q b 0 e news 0 cur w hg (by grind) hs.one
 have hm:Nat.min n dLen=n:=zcd hn
 simp[Builtin.copy_,run_underlying ht,Go.sizeOf,typeInfo,hi,hs.len,hm,hs.cells,kO]
theorem run_copy_none {t tx ty e:TypeId} {i:TypeInfo} (ht:Q.underlying t=some (.slice e)) (hi:Q.info? e=some i) {dLen dCap:Nat} {x:Value} (hs:Src Q i.size tx x 0 [] w):
  (Builtin.copy_ #[t,tx] ty #[.slice none dLen dCap,x]).run Q w= .ok (goInt 0) w:=by
 have hm:Nat.min 0 dLen=0:=Nat.zero_min _
 simp[Builtin.copy_,run_underlying ht,Go.sizeOf,typeInfo,hi,hs.len,hm,hs.cells]
theorem Pz (h:aC Q T F G w a s) {dst:Option Nat} {t t2 ty:TypeId} {p q:P} {s':S} (hs:sd Q s dst t t2 p q=some s') {vx vy:Value} (hx:aF F w G s.rg vx p) (hy:aF F w G s.rg vy q):
  ∃v w' G',(Builtin.copy_ #[t,t2] ty #[vx,vy]).run Q w= .ok v w'/\aC Q T F G' w' (a.put dst v) s'/\Ext (Own G s.rg) (Own G' s'.rg) F F w w':=by
 unfold sd at hs
 split at hs
 ·rename_i e n aX len het
  have ht:=dC het
  split at hs
  ·rename_i k hk
   obtain⟨i,_,hi,_,fK⟩:=gl hk
   split at hs
   ·rename_i ys ty' es hys ho
    split at hs
    ·rename_i hc
     simp only[zab,zah] at hc
     obtain⟨Ca,hle,hyl⟩:=hc
     have Ca:ty'=e:=by simpa using Ca
     subst Ca
     obtain⟨en,mF,dP,bV⟩:=S.bH ho
     obtain⟨news,zL,fX⟩:=Cn h (by omega) hys hy
     have qax:Src Q i.size t2 vy ys.length news w:=by rw[fK];exact zL
     rw[S.fg mF] at hs
     have fZ:qN G s.rg n ⟨en.aX,en.tag,.arr ty' false (ys++es.drop ys.length)⟩ (G n):=fun e' cI=>by rw[mF] at cI;cases cI;exact .inr ⟨rfl,fun _=>⟨by rw[bV];rfl,rfl⟩⟩
     have fin: ∀(w':World) (v:Value),(Builtin.copy_ #[t,t2] ty #[vx,vy]).run Q w= .ok v w'->v= .int .i64 ys.length->(∀b,b<w.heap.size-> ¬(∃e,lk s.rg n=some e/\bF (G n) e.obj=some b)->w'.heap[b]?=w.heap[b]?)->
       w.heap.size<=w'.heap.size->w'.os=w.os->w'.tape=w.tape->w'.output=w.output->ot Q F w' G (ins n ⟨en.aX,en.tag,.arr ty' false (ys++es.drop ys.length)⟩ s.rg) n (.arr ty' false (ys++es.drop ys.length))->
       ∃v w' G',(Builtin.copy_ #[t,t2] ty #[vx,vy]).run Q w= .ok v w'/\aC Q T F G' w' (a.put dst v) s'/\Ext (Own G s.rg) (Own G' s'.rg) F F w w':=by
      intro w' v bX hv eJ dq Pg htp br EH
      obtain⟨d1,d2⟩:=h.mY (n:=n) (e1:=⟨en.aX,en.tag,.arr ty' false (ys++es.drop ys.length)⟩) (g1:=G n) (w':=w') (hdr:=qa _ bX) fZ eJ dq Pg htp br
       (fun b hb=> .inr ⟨en,mF,by rw[bV];exact hb⟩) (by rw[bW];exact EH) (fun i xh _=>h.tag n en i mF xh (by rw[bV];rfl))
      obtain⟨c1,c2⟩:=cv d1 hs (v:= .int .i64 ys.length) (ct.of (.d (.int .i64 ys.length)))
      grind
     have hO:=h.rg n en mF
     rw[bV] at hO
     cases hx with
     |sl _ _ _ _ h1 hr=>
      obtain⟨a0,N,cap,hG,rfl,qhD⟩:=hr.at mF dP (by rw[bV];rfl)
      rcases hO with⟨hg,rfl⟩| ⟨b,iJ,cs,k',hg,hh,mr,V0,GS,zb,dq,_,hE⟩
      ·rw[hG] at hg
       obtain⟨rfl,rfl,rfl⟩:=hg
       have h0:ys=[]:=zax (by omega)
       subst h0
       have hn0:news=[]:=by have:=fX.1;simpa using this
       subst hn0
       exact fin w _ (run_copy_none ht hi qax) rfl (fun _ _ _=>rfl) (zaj _) rfl rfl rfl (.inl ⟨hG,by simp⟩)
      ·rw[hk] at mr
       cases mr
       rw[hG] at hg
       obtain⟨rfl,rfl,rfl⟩:=hg
       have VP:ys.length<=es.length:=by omega
       have rZ:news.length=ys.length*(k+1):=fX.1
       have EF:news.length<=cs.size:=by
        rw[rZ,dq]
        exact zaq _ (by omega)
       have bX:=Co (ty:=ty) (dLen:=len) (dCap:=cap) ht hi hh qax hyl EF
       have sw:(ys++es.drop ys.length).length=es.length:=by rw[zan,zbc];omega
       have fU:bF (G n) en.obj=some b:=by rw[bV,hG];rfl
       have VY: ¬F b:=h.mq n en b mF fU
       have hkF: ∀c,F c->(w.setRow b (news++cs.toList.drop news.length).toArray).heap[c]?=w.heap[c]?:=fun c hc=>setRow_other w b c _ (fun e=>VY (e▸hc))
       refine fin _ _ bX rfl (fun c _ bZ=>setRow_other w b c _ (fun e'=>bZ ⟨en,mF,by rw[e'];exact fU⟩)) (by simp) rfl rfl rfl
        (.inr ⟨b,cap,_,k+1,by rw[sw];exact hG,setRow_heap w b cs _ ty' _ hh,hk,by omega,by rw[sw];exact GS,zb,?_,by simp,?_⟩)
       ·skip
        grind
       ·refine er.toE ?_
        rw[sw]
        have hf:=(er.take hE (zaj _) (by simp_all [zaq])).drop ys.length
        rw[zak] at hf
        have e1:((news++cs.toList.drop news.length).toArray.toList.take (es.length*(k+1)))=news++(cs.toList.take (es.length*(k+1))).drop (ys.length*(k+1)):=by
         rw[List.take_append,zai (by simp_all [zaq]),rZ,zcH]
        rw[e1]
        exact(fX.append hf).mono (fun _ h=>h) hkF
     |_=>rename_i hd;cases hd
    ·cases hs
   ·cases hs
  ·cases hs
 ·cases hs
theorem L8 {F:Nat->Prop} {w:World} {z:D} {zv:Value} {k l:Nat} (hz:a7 F w zv z) (hl:z.cells.length=k):er F w k (List.replicate l z) (Builtin.zeroCells zv.cells l).toList:=by
 obtain⟨c1,c2,c3⟩:=dW hz
 have hs:zv.cells.size=k:=by rw[<-hl,<-c1];simp
 have hE:=qb (l:=l) (n:=l*k) hz hl (zaj _)
 have dq:(madeCells zv.cells (l*k)).size=l*k:=by simp[size_madeCells]
 have hf:=er.take (len:=l) hE (by simp) (by rw[zbu,dq];simp)
 have e1:(List.replicate l z).take l=List.replicate l z:=zai (by simp)
 have e2:(Builtin.zeroCells zv.cells l).toList=(madeCells zv.cells (l*k)).toList.take (l*k):=by
  rw[zai (by grind)]
  unfold Builtin.zeroCells madeCells
  rw[hs]
 rw[e1] at hf
 rw[e2]
 exact hf
theorem L9 (h:aC Q T F G w a s) {dst:Option Nat} {t ty:TypeId} {p:P} {s':S} (hs:nr Q s dst t p=some s') {vx:Value} (hx:aF F w G s.rg vx p):
  ∃v w' G',(Builtin.clear_ #[t] ty #[vx]).run Q w= .ok v w'/\aC Q T F G' w' (a.put dst v) s'/\Ext (Own G s.rg) (Own G' s'.rg) F F w w':=by
 unfold nr at hs
 split at hs
 ·rename_i e n aX k0 off len het
  have ht:=dC het
  split at hs
  ·rename_i k z ty' es hk hz ho
   obtain⟨i,_,hi,_,fK⟩:=gl hk
   split at hs
   ·rename_i hc
    simp only[zab,zah] at hc
    obtain⟨⟨⟨Ca,jH⟩,AN⟩,qbB⟩:=hc
    have Ca:ty'=e:=zaf Ca
    have jH:k0=k+1:=zaf jH
    have AN:z.cells.length=k+1:=zaf AN
    subst Ca jH
    obtain⟨en,mF,dP,bV⟩:=S.bH ho
    obtain⟨zv,AI,GQ⟩:=o9 hz w
    rw[S.fg mF] at hs
    generalize qbC:es.take off++List.replicate len z++es.drop (off+len)=fA at hs
    have sw:fA.length=es.length:=by rw[<-qbC];simp;omega
    have fZ:qN G s.rg n ⟨en.aX,en.tag,.arr ty' false fA⟩ (G n):=fun e' cI=>by rw[mF] at cI;cases cI;exact .inr ⟨rfl,fun _=>⟨by rw[bV];rfl,rfl⟩⟩
    have fin: ∀(w':World),(Builtin.clear_ #[t] ty #[vx]).run Q w= .ok (.tuple #[]) w'->(∀b,b<w.heap.size-> ¬(∃e,lk s.rg n=some e/\bF (G n) e.obj=some b)->w'.heap[b]?=w.heap[b]?)->
      w.heap.size<=w'.heap.size->w'.os=w.os->w'.tape=w.tape->w'.output=w.output->ot Q F w' G (ins n ⟨en.aX,en.tag,.arr ty' false fA⟩ s.rg) n (.arr ty' false fA)->
      ∃v w' G',(Builtin.clear_ #[t] ty #[vx]).run Q w= .ok v w'/\aC Q T F G' w' (a.put dst v) s'/\Ext (Own G s.rg) (Own G' s'.rg) F F w w':=by
     intro w' bX eJ dq Pg htp br EH
     obtain⟨d1,d2⟩:=h.mY (n:=n) (e1:=⟨en.aX,en.tag,.arr ty' false fA⟩) (g1:=G n) (w':=w') (hdr:=qa _ bX) fZ eJ dq Pg htp br
      (fun b hb=> .inr ⟨en,mF,by rw[bV];exact hb⟩) (by rw[bW];exact EH) (fun i xh _=>h.tag n en i mF xh (by rw[bV];rfl))
     obtain⟨c1,c2⟩:=cv d1 hs (v:= .tuple #[]) (ct.of (.bad _))
     grind
    have hO:=h.rg n en mF
    rw[bV] at hO
    cases hx with
    |lC _ _ _ _ _ _ h1 hr=>
     obtain⟨a0,N,cap,hG,hle,a1,qn,rfl,O4,hzz⟩:=hr.at mF dP (by rw[bV];rfl)
     by_cases h0:len=0
     ·subst h0
      have e0:fA=es:=by rw[<-qbC];simp
      subst e0
      refine fin w ?_ (fun _ _ _=>rfl) (zaj _) rfl rfl rfl ?_
      ·cases a1<;>simp[Builtin.clear_,run_underlying ht]
      ·exact hO
     obtain⟨b0,ha0,O5⟩: ∃b,a0=some ⟨b,0,none⟩/\a1=some ⟨b,off*(k+1),none⟩:=by
      grind
     subst ha0 O5
     rcases hO with⟨hg,rfl⟩| ⟨b,iJ,cs,k',hg,hh,mr,V0,GS,zb,dq,_,hE⟩
     ·rw[hG] at hg
      simp at hg
     ·rw[hk] at mr
      cases mr
      rw[hG] at hg
      obtain⟨rfl,rfl,rfl⟩:=hg
      have EE:=L8 (l:=len) GQ AN
      have rZ:(Builtin.zeroCells zv.cells len).toList.length=len*(k+1):=by have:=EE.1;grind
      have hole:off*(k+1)+len*(k+1)<=es.length*(k+1):=by rw[<-zaT];simp_all [zaq]
      have qja:es.length*(k+1)<=cs.size:=by simp_all [zaq]
      have kO:=run_storeCells_at Q b0 (off*(k+1)) ty' (Builtin.zeroCells zv.cells len).toList 0 cs w hh (by omega) (EE.one (by omega))
      simp only[zbQ,rZ] at kO
      have bX:(Builtin.clear_ #[t] ty #[.slice (some ⟨b0,off*(k+1),none⟩) len qn]).run Q w= .ok (.tuple #[]) (w.setRow b0 (cs.toList.take (off*(k+1))++(Builtin.zeroCells zv.cells len).toList++cs.toList.drop (off*(k+1)+len*(k+1))).toArray):=by
       simp[Builtin.clear_,run_underlying ht,AI,kO]
      have fU:bF (G n) en.obj=some b0:=by rw[bV,hG];rfl
      have VY: ¬F b0:=h.mq n en b0 mF fU
      have hkF: ∀c,F c->(w.setRow b0 (cs.toList.take (off*(k+1))++(Builtin.zeroCells zv.cells len).toList++cs.toList.drop (off*(k+1)+len*(k+1))).toArray).heap[c]?=w.heap[c]?:=fun c hc=>setRow_other w b0 c _ (fun e=>VY (e▸hc))
      refine fin _ bX (fun c _ bZ=>setRow_other w b0 c _ (fun e'=>bZ ⟨en,mF,by rw[e'];exact fU⟩)) (by simp) rfl rfl rfl
       (.inr ⟨b0,cap,_,k+1,by rw[sw];exact hG,setRow_heap w b0 cs _ ty' _ hh,hk,by omega,by rw[sw];exact GS,zb,?_,by simp,?_⟩)
      ·skip
       grind
      ·refine er.toE ?_
       rw[sw,<-qbC]
       have f1:=er.take (len:=off) hE (by omega) (by grind)
       have f3:=(er.take hE (zaj _) (by grind)).drop (off+len)
       rw[zak] at f3
       have e1:((cs.toList.take (off*(k+1))++(Builtin.zeroCells zv.cells len).toList++cs.toList.drop (off*(k+1)+len*(k+1))).toArray.toList.take (es.length*(k+1)))=cs.toList.take (off*(k+1))++(Builtin.zeroCells zv.cells len).toList++(cs.toList.take (es.length*(k+1))).drop ((off+len)*(k+1)):=by
        have l1:(cs.toList.take (off*(k+1))).length=off*(k+1):=by simp;omega
        rw[List.take_append,zai (by rw[zan,l1,rZ];exact hole),zan,l1,rZ,zcH,zaT]
       rw[e1]
       exact((f1.append EE).append f3).mono (fun _ h=>h) hkF
    |_=>rename_i hd;cases hd
   ·cases hs
  ·cases hs
 ·cases hs
end
end Pi
