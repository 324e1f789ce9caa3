/- The text PiMk. -/
import Derived.Test.YtngoddkencoalaaGreatDoorPiEfOk4
import Derived.Laws.MakeOwn
namespace Pi
open Go
section
variable {Q:Program} {T:Tg} {F:Nat->Prop} {G:Nat->Value} {w:World} {a:Act} {s:S}
theorem NI {zc:Array Value} {n k i j:Nat} (hk:zc.size=k) (hj:j<k) (hn:i*k+j<n):(madeCells zc n).getD (i*k+j) undef=zc.getD j undef:=by
 have e:(i*k+j)%zc.size=j:=by rw[hk,Nat.mul_comm,Nat.mul_add_mod,Nat.mod_eq_of_lt hj]
 have C2:j<zc.size:=by omega
 simp[madeCells,Array.getD,hn,e,C2]
theorem pD {F:Nat->Prop} {w:World} {z:D} {zv:Value} {k l n:Nat} (hz:aW F w zv z) (hl:z.cells.length=k) (hn:l*k<=n):lR F w (madeCells zv.cells n) k (List.replicate l z):=by
 obtain⟨c1,c2,c3⟩:=dP hz
 have hs:zv.cells.size=k:=by rw[<-hl,<-c1];simp
 intro i x hx
 rw[List.getElem?_replicate] at hx
 split at hx
 ·rename_i hi
  cases hx
  refine⟨hl,c2,fun j c hc=> ?_⟩
  have hj:j<k:=by have:=(List.getElem?_eq_some_iff.1 hc).1;omega
  have bk:i*k+j<n:=by
   calc i*k+j<i*k+k:=by omega
    _=(i+1)*k:=by rw[Nat.add_mul,Nat.one_mul]
    _<=l*k:=Nat.mul_le_mul_right _ hi
    _<=n:=hn
  rw[NI hs hj bk]
  have C2:j<zv.cells.size:=by omega
  exact c3 j _ c (by simp[Array.getD,C2]) hc
 ·cases hx
theorem NJ (h:aB Q T F G w a s) {dst:Option Nat} {t:TypeId} {p q:P} {s':S} (hs:rT Q s dst t p q=some s') {vx vy:Value} (hx:aD F w G s.rg vx p) (hy:aD F w G s.rg vy q):
  ∃v w' G',(Instr.makeSlice t vx vy).run Q w= .ok v w'/\aB Q T F G' w' (a.put dst v) s'/\Ext (Own G s.rg) (Own G' s'.rg) F F w w':=by
 unfold rT at hs
 split at hs
 ·rename_i e k1 l k2 c het
  have ht:=dv het
  split at hs
  ·rename_i i k z hi hk hz
   obtain⟨i',_,sW,_,e8⟩:=fU hk
   rw[hi] at sW
   cases sW
   obtain⟨zv,Fs,Mq,YW⟩:=mO hi hz
   split at hs
   ·rename_i dF
    simp only[Bool.and_eq_true,decide_eq_true_eq] at dF
    obtain⟨zO,h0,zL,h63,hb⟩:=dF
    have zO:z.cells.length=k+1:=by simpa using zO
    split at hs
    ·rename_i s1 v hn
     cases hx with
     |d hx=>
      cases hx
      cases hy with
      |d hy=>
       cases hy
       have hr:=run_make (P:=Q) w t e i zv ht hi Fs k1 k2 l c h0 zL hb h63
       have hle:l.toNat<=c.toNat:=by omega
       obtain⟨h1,h2,h3,h4⟩:=lv h hn (g1:= .slice (some ⟨w.heap.size,0,none⟩) l.toNat c.toNat) (w':=w.alloc (.cells (madeCells zv.cells (c.toNat*i.size)) e))
        (fun b hb=>heap_alloc_old w _ b hb) (by simp) rfl rfl rfl (fun b hb=>by simp[bu,aL] at hb;omega)
        (.inr ⟨w.heap.size,c.toNat,madeCells zv.cells (c.toNat*i.size),k+1,by rw[aZ,List.length_replicate],heap_alloc_new w _,hk,by omega,by rw[List.length_replicate];exact hle,by simp only[maxLen];omega,
         by rw[size_madeCells,e8],by simp,pD (aW.sQ _ _ Mq) zO (by rw[e8];exact Nat.mul_le_mul_right _ hle)⟩)
       obtain⟨c1,c2⟩:=ct h1 hs (v:= .slice (some ⟨w.heap.size,0,none⟩) l.toNat c.toNat) (cr.of (.sl (site dst) v l.toNat _ rfl ⟨_,h4,Nat.le_refl _,fun _ _=>⟨_,l.toNat,c.toNat,aZ _ _ _,rfl,Nat.le_refl _⟩⟩))
       refine⟨_,_,_,hr,c1,?_⟩
       rw[c2]
       exact h2
    ·cases hs
   ·cases hs
  ·cases hs
 ·cases hs
theorem lR.set {F:Nat->Prop} {w:World} {cs:Array Value} {k i:Nat} {es:List D} {x:D} {v:Value} (hE:lR F w cs k es) (cJ:cs.size=es.length*k) (hi:i<es.length) (hx:aW F w v x) (hl:x.cells.length=k):
  ((v.cells.toList.zipIdx 0).foldl (fun(cs:Array Value) (x:Value×Nat)=>cs.setIfInBounds (i*k+x.2) x.1) cs).size=(es.set i x).length*k/\
  lR F w ((v.cells.toList.zipIdx 0).foldl (fun(cs:Array Value) (x:Value×Nat)=>cs.setIfInBounds (i*k+x.2) x.1) cs) k (es.set i x):=by
 obtain⟨c1,c2,c3⟩:=dP hx
 have hle:i*k+k<=es.length*k:=by
  calc i*k+k=(i+1)*k:=by rw[Nat.add_mul,Nat.one_mul]
   _<=es.length*k:=Nat.mul_le_mul_right _ hi
 obtain⟨h1,h2⟩:=Bf (i*k) v.cells.toList 0 cs (by rw[c1,hl];omega)
 refine⟨by rw[h1,cJ,List.length_set],fun i' y hy=> ?_⟩
 by_cases he:i=i'
 ·subst he
  rw[List.getElem?_set_self hi] at hy
  cases hy
  refine⟨hl,c2,fun j c hc=> ?_⟩
  have hj:j<k:=by have:=(List.getElem?_eq_some_iff.1 hc).1;omega
  rw[h2,if_pos (by rw[c1,hl];omega)]
  have e:i*k+j-(i*k+0)=j:=by omega
  rw[e]
  have hj2:j<v.cells.toList.length:=by omega
  exact c3 j _ c (by rw[List.getD_eq_getElem?_getD,List.getElem?_eq_getElem hj2];rfl) hc
 ·rw[List.getElem?_set_ne he] at hy
  obtain⟨g1,g2,g3⟩:=hE i' y hy
  refine⟨g1,g2,fun j c hc=> ?_⟩
  have hj:j<k:=by have:=(List.getElem?_eq_some_iff.1 hc).1;omega
  have b9: ¬(i*k+0<=i'*k+j/\i'*k+j<i*k+0+v.cells.toList.length):=by
   rw[c1,hl]
   rcases Nat.lt_or_gt_of_ne he with h |h
   ·have:(i+1)*k<=i'*k:=Nat.mul_le_mul_right _ h
    rw[Nat.add_mul,Nat.one_mul] at this
    omega
   ·have:(i'+1)*k<=i*k:=Nat.mul_le_mul_right _ h
    rw[Nat.add_mul,Nat.one_mul] at this
    omega
  rw[h2,if_neg b9]
  exact g3 j c hc
theorem oF {t:TypeId} {k:Nat} (hk:0<k): ∀(ps:List (Nat×P)) (vs:List (Nat×Value)) (s s':S) (es fh:List D) (F:Nat->Prop) (cs:Array Value),aB Q T F G w a s->cz Q t k s es ps=some (s',fh)->
  vs.length=ps.length->(∀(i:Nat) x y,vs[i]?=some x->ps[i]?=some y->x.1=y.1/\aD F w G s.rg x.2 y.2)->cs.size=es.length*k->lR F w cs k es->
  ∃F' kO,aB Q T F' G w a s'/\Ext (Own G s.rg) (Own G s'.rg) F F' w w/\fh.length=es.length/\kO.size=fh.length*k/\lR F' w kO k fh/\Instr.fill (fun i=>some (i*k,k)) cs vs=some kO
 | [],vs,s,s',es,fh,F,cs,h,hb,hl,_,cJ,hE=>by
  simp[cz] at hb
  obtain⟨rfl,rfl⟩:=hb
  have:vs=[]:=by simpa using hl
  subst this
  exact⟨F,cs,h,Ext.refl _ _ _,rfl,cJ,hE,rfl⟩
 | (i,p)::ps,[],s,s',es,fh,F,cs,h,hb,hl,_,cJ,hE=>by simp at hl
 | (i,p)::ps,(i0,v)::vs,s,s',es,fh,F,cs,h,hb,hl,hv,cJ,hE=>by
  simp only[cz] at hb
  split at hb
  ·rename_i s1 x hf
   split at hb
   ·rename_i hc
    simp only[Bool.and_eq_true] at hc
    have WW:x.cells.length=k:=by simpa using hc.1
    have hi:i<es.length:=by have:=hc.2;simp[Nat.blt] at this;omega
    obtain⟨e0,hp⟩:=hv 0 (i0,v) (i,p) rfl rfl
    simp only at e0 hp
    subst e0
    obtain⟨F1,g1,g2,g3,g4,g5⟩:=vo h hf hp
    have hE1:lR F1 w cs k es:=hE.mono g4 (fun _ _=>rfl)
    obtain⟨m1,m2⟩:=hE1.set cJ hi g5 WW
    obtain⟨F2,cs2,k1,k2,k3,k4,k5,k6⟩:=oF hk ps vs s1 s' _ fh F1 _ g1 hb (by simpa using hl) (fun j x y hx hy=>by
     obtain⟨q1,q2⟩:=hv (j+1) x y (by simpa using hx) (by simpa using hy)
     exact⟨q1,q2.mono g4 (fun _ _=>rfl) g3⟩) m1 m2
    refine⟨F2,cs2,k1,g2.trans k2,by rw[k3,List.length_set],k4,k5,?_⟩
    have C3:v.cells.size=k:=by
     have:=(dP g5).1
     rw[WW] at this
     simpa using this
    have hle:i0*k+k<=cs.size:=by
     rw[cJ]
     calc i0*k+k=(i0+1)*k:=by rw[Nat.add_mul,Nat.one_mul]
      _<=es.length*k:=Nat.mul_le_mul_right _ hi
    have dF:(decide (v.cells.size≠k)||decide (i0*k+v.cells.size>cs.size))=false:=by
     rw[C3];simp;omega
    simp only[Instr.fill,dF,Bool.false_eq_true,if_false]
    rw[<-k6]
    congr 1
    rw[<-Array.foldl_toList]
    simp
   ·cases hb
  ·cases hb
theorem Kl (h:aB Q T F G w a s) {dst:Option Nat} {t:TypeId} {len:Nat} {ps:List (Nat×P)} {s':S} (hs:qQ Q s dst t len ps=some s') {vs:Array (Nat×Value)} (hl:vs.toList.length=ps.length)
  (hv: ∀(i:Nat) x y,vs.toList[i]?=some x->ps[i]?=some y->x.1=y.1/\aD F w G s.rg x.2 y.2):
  ∃v w' F' G',(Instr.buildSlice t len vs).run Q w= .ok v w'/\aB Q T F' G' w' (a.put dst v) s'/\Ext (Own G s.rg) (Own G' s'.rg) F F' w w':=by
 unfold qQ at hs
 split at hs
 ·rename_i e het
  have ht:=dv het
  split at hs
  ·rename_i i k z hi hk hz
   obtain⟨i',_,sW,_,e8⟩:=fU hk
   rw[hi] at sW
   cases sW
   obtain⟨zv,Fs,Mq,YW⟩:=mO hi hz
   split at hs
   ·rename_i dF
    simp only[Bool.and_eq_true] at dF
    obtain⟨⟨zO,NK⟩,Br⟩:=dF
    have zO:z.cells.length=k+1:=by simpa using zO
    have NK:len*(k+1)<=16777216:=Nat.le_of_ble_eq_true NK
    split at hs
    ·rename_i s1 es hbe
     split at hs
     ·rename_i s2 aU hn
      have YZ: ∃Gl:Array Value,Gl.size=(List.replicate len z).length*(k+1)/\lR F w Gl (k+1) (List.replicate len z)/\((len*(k+1)=0/\Gl= #[])\/(len*(k+1)≠0/\Gl=madeCells zv.cells (len*(k+1)))):=by
       by_cases h0:len*(k+1)=0
       ·have:len=0:=by
         rcases Nat.mul_eq_zero.1 h0 with h0 |h0
         ·exact h0
         ·omega
        subst this
        exact⟨#[],by simp,fun i x hx=>by simp at hx,.inl ⟨h0,rfl⟩⟩
       ·exact⟨madeCells zv.cells (len*(k+1)),by rw[size_madeCells,List.length_replicate],pD (aW.sQ _ _ Mq) zO (Nat.le_refl _),.inr ⟨h0,rfl⟩⟩
      obtain⟨Gl,q1,q2,q3⟩:=YZ
      obtain⟨F1,zK,g1,g2,g3,g4,g5,g6⟩:=oF (by omega) ps vs.toList s s1 _ es F Gl h hbe hl hv q1 q2
      have hlen:es.length=len:=by rw[g3,List.length_replicate]
      obtain⟨h1,h2,h3,h4⟩:=lv g1 hn (g1:= .slice (some ⟨w.heap.size,0,none⟩) len len) (w':=w.alloc (.cells zK e))
       (fun b hb=>heap_alloc_old w _ b hb) (by simp) rfl rfl rfl (fun b hb=>by simp[bu,aL] at hb;omega)
       (.inr ⟨w.heap.size,len,zK,k+1,by rw[aZ,hlen],heap_alloc_new w _,hk,by omega,by omega,by simp only[maxLen];have:len<=len*(k+1):=Nat.le_mul_of_pos_right _ (by omega);omega,
        by rw[g4,hlen],by simp,g5.mono (fun _ h=>h) (fun b hb=>heap_alloc_old w _ b (g1.iR b hb))⟩)
      obtain⟨c1,c2⟩:=ct h1 hs (v:= .slice (some ⟨w.heap.size,0,none⟩) len len) (cr.of (.sl (site dst) aU len _ rfl ⟨_,h4,Nat.le_refl _,fun _ _=>⟨_,len,len,aZ _ _ _,rfl,Nat.le_refl _⟩⟩))
      refine⟨_,_,_,_,?_,c1,?_⟩
      ·have cJ:(Go.sizeOf e).run Q w= .ok (k+1) w:=run_sizeOf hk w
       unfold Instr.buildSlice
       simp only[Sem.run_bind,run_underlying ht,Result.andThen_ok,cJ]
       rw[if_neg (by omega)]
       rcases q3 with⟨h0,rfl⟩| ⟨h0,rfl⟩
       ·have e0:((Array.range (len*(k+1))).map fun x=>(#[]:Array Value)[x%(#[]:Array Value).size]!)= #[]:=by rw[h0];simp
        rw[if_pos h0]
        simp only[Sem.run_bind,Sem.run_pure,Result.andThen_ok]
        rw[e0,g6]
        simp[newRow]
       ·have e0:((Array.range (len*(k+1))).map fun x=>zv.cells[x%zv.cells.size]!)=madeCells zv.cells (len*(k+1)):=rfl
        rw[if_neg h0]
        have zI:(zeroValue e).run Q w= .ok zv w:=by simp[zeroValue,typeInfo,hi,Fs]
        simp only[Sem.run_bind,Sem.run_pure,Result.andThen_ok,zI]
        rw[e0,g6]
        simp[newRow]
      ·rw[c2]
       exact g2.trans h2
     ·cases hs
    ·cases hs
   ·cases hs
  ·cases hs
 ·cases hs
theorem qq {t:TypeId} {k:Nat}: ∀(ps:List (Nat×P)) (es fh:List D),pr Q t k es ps=some fh-> ∀s:S,cz Q t k s es ps=some (s,fh)
 | [],es,fh,h,s=>by
  simp only[pr,Option.some.injEq] at h
  subst h
  rfl
 | (i,.d x)::r,es,fh,h,s=>by
  have e:mF Q s t (.d x)=some (s,nzE Q t x):=by
   unfold mF nzE
   cases qj Q t with
   |false=>rfl
   |true=>
    show(YJ Q t x).force (fun y=>some (s,y))=_
    rw[D.force_eq]
  simp only[pr] at h
  split at h
  ·rename_i hc
   simp only[cz,e,if_pos hc]
   exact qq r _ _ h s
  ·cases h
 | (_,.agg _)::_,_,_,h,_ | (_,.da _)::_,_,_,h,_ | (_,.ref ..)::_,_,_,h,_ | (_,.dn ..)::_,_,_,h,_ | (_,.eS ..)::_,_,_,h,_ | (_,.sl ..)::_,_,_,h,_ | (_,.kT ..)::_,_,_,h,_ | (_,.mp ..)::_,_,_,h,_ | (_,.fn ..)::_,_,_,h,_ | (_,.bad)::_,_,_,h,_ | (_,.when ..)::_,_,_,h,_=>by simp[pr] at h
theorem aB.grow (h:aB Q T F G w a s) (cs:Array Value) (e:TypeId):aB Q T (fun b=>F b\/b=w.heap.size) G (w.alloc (.cells cs e)) a s/\Ext (Own G s.rg) (Own G s.rg) F (fun b=>F b\/b=w.heap.size) w (w.alloc (.cells cs e)):=by
 have hk: ∀b,b<w.heap.size->(w.alloc (.cells cs e)).heap[b]?=w.heap[b]?:=fun b hb=>heap_alloc_old w _ b hb
 have cJ:(w.alloc (.cells cs e)).heap.size=w.heap.size+1:=by simp
 have hx:Ext (Own G s.rg) (Own G s.rg) F (fun b=>F b\/b=w.heap.size) w (w.alloc (.cells cs e)):=
  ⟨fun _=> .inl,fun b hb=>hb.elim .inl fun e=> .inr (.inr (by omega)),fun _=> .inl,fun b hb _=>hk b hb,by omega,rfl,rfl,rfl⟩
 refine⟨⟨h.qV.go hx,h.size,fun t p hp=>cr.mono (fun _=> .inl) (fun b hb=>hk b (h.iR b hb)) (Names.refl _ _) (h.tm t p hp),fun n e he=>(h.rg n e he).mono (fun _=> .inl) (fun b hb=>hk b (h.iR b hb)) (Names.refl _ _) rfl (fun b hb=>hk b ((h.rg n e he).lt hb)),h.own,
  fun n e b he hb hf=>hf.elim (h.lr n e b he hb) fun e'=> ?_,fun b hb=> ?_,h.tag,fun b hb=>⟨.inl (h.z b hb).1,(hk b (h.iR b (h.z b hb).1)).trans (h.z b hb).2⟩,h.dr,Nat.le_trans h.sz hx.size⟩,hx⟩
 ·have:=(h.rg n e he).lt hb
  omega
 ·rcases hb with hb |hb
  ·have:=h.iR b hb
   omega
  ·omega
theorem NL (h:aB Q T F G w a s) {t:TypeId} {len:Nat} {ps:List (Nat×P)} {p:P} (hs:zu Q t len ps=some p) {vs:Array (Nat×Value)} (hl:vs.toList.length=ps.length)
  (hv: ∀(i:Nat) x y,vs.toList[i]?=some x->ps[i]?=some y->x.1=y.1/\aD F w G s.rg x.2 y.2):
  ∃v w' F',(Instr.buildSlice t len vs).run Q w= .ok v w'/\aB Q T F' G w' a s/\aD F' w' G s.rg v p/\Ext (Own G s.rg) (Own G s.rg) F F' w w':=by
 unfold zu at hs
 split at hs
 ·rename_i e het
  have ht:=dv het
  split at hs
  ·rename_i i k z hi hk hz
   obtain⟨i',_,sW,_,e8⟩:=fU hk
   rw[hi] at sW
   cases sW
   obtain⟨zv,Fs,Mq,YW⟩:=mO hi hz
   split at hs
   ·rename_i dF
    simp only[Bool.and_eq_true] at dF
    obtain⟨⟨zO,NK⟩,Br⟩:=dF
    have zO:z.cells.length=k+1:=by simpa using zO
    have NK:len*(k+1)<=16777216:=Nat.le_of_ble_eq_true NK
    split at hs
    ·rename_i es Km
     cases hs
     have hbe:=qq _ _ _ Km s
     have YZ: ∃Gl:Array Value,Gl.size=(List.replicate len z).length*(k+1)/\lR F w Gl (k+1) (List.replicate len z)/\((len*(k+1)=0/\Gl= #[])\/(len*(k+1)≠0/\Gl=madeCells zv.cells (len*(k+1)))):=by
      by_cases h0:len*(k+1)=0
      ·have:len=0:=by
        rcases Nat.mul_eq_zero.1 h0 with h0 |h0
        ·exact h0
        ·omega
       subst this
       exact⟨#[],by simp,fun i x hx=>by simp at hx,.inl ⟨h0,rfl⟩⟩
      ·exact⟨madeCells zv.cells (len*(k+1)),by rw[size_madeCells,List.length_replicate],pD (aW.sQ _ _ Mq) zO (Nat.le_refl _),.inr ⟨h0,rfl⟩⟩
     obtain⟨Gl,q1,q2,q3⟩:=YZ
     obtain⟨F1,zK,g1,g2,g3,g4,g5,g6⟩:=oF (by omega) ps vs.toList s s _ es F Gl h hbe hl hv q1 q2
     have hlen:es.length=len:=by rw[g3,List.length_replicate]
     obtain⟨h1,h2⟩:=g1.grow zK e
     have hE:lR (fun b=>F1 b\/b=w.heap.size) (w.alloc (.cells zK e)) zK (k+1) es:=g5.mono (fun _=> .inl) (fun b hb=>heap_alloc_old w _ b (g1.iR b hb))
     refine⟨.slice (some ⟨w.heap.size,0,none⟩) len len,_,_,?_,h1,?_,g2.trans h2⟩
     ·have cJ:(Go.sizeOf e).run Q w= .ok (k+1) w:=run_sizeOf hk w
      unfold Instr.buildSlice
      simp only[Sem.run_bind,run_underlying ht,Result.andThen_ok,cJ]
      rw[if_neg (by omega)]
      rcases q3 with⟨h0,rfl⟩| ⟨h0,rfl⟩
      ·have e0:((Array.range (len*(k+1))).map fun x=>(#[]:Array Value)[x%(#[]:Array Value).size]!)= #[]:=by rw[h0];simp
       rw[if_pos h0]
       simp only[Sem.run_bind,Sem.run_pure,Result.andThen_ok]
       rw[e0,g6]
       simp[newRow]
      ·have e0:((Array.range (len*(k+1))).map fun x=>zv.cells[x%zv.cells.size]!)=madeCells zv.cells (len*(k+1)):=rfl
       rw[if_neg h0]
       have zI:(zeroValue e).run Q w= .ok zv w:=by simp[zeroValue,typeInfo,hi,Fs]
       simp only[Sem.run_bind,Sem.run_pure,Result.andThen_ok,zI]
       rw[e0,g6]
       simp[newRow]
     ·refine .d ?_
      have bY: ∀j,j<es.length*(k+1)->(w.alloc (.cells zK e)).cell? ⟨w.heap.size,0+j,none⟩=some (zK.getD j undef):=fun j hj=>by
       have C2:j<zK.size:=by rw[g4];exact hj
       have hh:=heap_alloc_new w (.cells zK e)
       unfold World.cell?
       simp only[hh,Nat.zero_add]
       simp[Array.getD,C2]
      have:=aW.Na (F:=fun b=>F1 b\/b=w.heap.size) (w:=w.alloc (.cells zK e)) w.heap.size 0 (k+1) len es (fun j=>zK.getD j undef) (by omega) (.inr rfl)
       (fun x hx=>by obtain⟨i,hi,rfl⟩:=List.getElem_of_mem hx;exact(hE i _ (List.getElem?_eq_getElem hi)).1) (fun x hx=>by obtain⟨i,hi,rfl⟩:=List.getElem_of_mem hx;exact(hE i _ (List.getElem?_eq_getElem hi)).2.1) bY (fun i j x c hx hc=>(hE i x hx).2.2 j c hc)
      rwa [hlen] at this
    ·cases hs
   ·cases hs
  ·cases hs
 ·cases hs
theorem Bt {t tx ty e:TypeId} {i:TypeInfo} (ht:Q.underlying t=some (.slice e)) (hi:Q.info? e=some i) {b dLen dCap:Nat} {cur:Array Value} (hg:w.heap[b]?=some (.cells cur e (0,0))) {x:Value} {n:Nat} {news:List Value} (hs:Src Q i.size tx x n news w)
  (hn:n<=dLen) (Bq:news.length<=cur.size):
  (Builtin.copy_ #[t,tx] ty #[.slice (some ⟨b,0,none⟩) dLen dCap,x]).run Q w= .ok (goInt n) (w.setRow b (news++cur.toList.drop news.length).toArray):=by
 have jj:=run_storeCells_at Q b 0 e news 0 cur w hg (by simpa using Bq) hs.one
 simp only[Nat.add_zero,Nat.zero_add,List.take_zero,List.nil_append] at jj
 have hm:Nat.min n dLen=n:=Nat.min_eq_left hn
 simp[Builtin.copy_,run_underlying ht,Go.sizeOf,typeInfo,hi,hs.len,hm,hs.cells,jj]
theorem run_copy_none {t tx ty e:TypeId} {i:TypeInfo} (ht:Q.underlying t=some (.slice e)) (hi:Q.info? e=some i) {dLen dCap:Nat} {x:Value} (hs:Src Q i.size tx x 0 [] w):
  (Builtin.copy_ #[t,tx] ty #[.slice none dLen dCap,x]).run Q w= .ok (goInt 0) w:=by
 have hm:Nat.min 0 dLen=0:=Nat.zero_min _
 simp[Builtin.copy_,run_underlying ht,Go.sizeOf,typeInfo,hi,hs.len,hm,hs.cells]
theorem NM (h:aB Q T F G w a s) {dst:Option Nat} {t t2 ty:TypeId} {p q:P} {s':S} (hs:rU Q s dst t t2 p q=some s') {vx vy:Value} (hx:aD F w G s.rg vx p) (hy:aD F w G s.rg vy q):
  ∃v w' G',(Builtin.copy_ #[t,t2] ty #[vx,vy]).run Q w= .ok v w'/\aB Q T F G' w' (a.put dst v) s'/\Ext (Own G s.rg) (Own G' s'.rg) F F w w':=by
 unfold rU at hs
 split at hs
 ·rename_i e n aU len het
  have ht:=dv het
  split at hs
  ·rename_i k hk
   obtain⟨i,_,hi,_,e8⟩:=fU hk
   split at hs
   ·rename_i ys ty' es hys ho
    split at hs
    ·rename_i hc
     simp only[Bool.and_eq_true,decide_eq_true_eq] at hc
     obtain⟨Ba,hle,hyl⟩:=hc
     have Ba:ty'=e:=by simpa using Ba
     subst Ba
     obtain⟨en,jC,dI,bR⟩:=S.bF ho
     obtain⟨news,yP,eJ⟩:=Bs h (by omega) hys hy
     have WX:Src Q i.size t2 vy ys.length news w:=by rw[e8];exact yP
     rw[S.e9 jC] at hs
     have gF:qo G s.rg n ⟨en.aU,en.tag,.arr ty' false (ys++es.drop ys.length)⟩ (G n):=fun e' cF=>by rw[jC] at cF;cases cF;exact .inr ⟨rfl,fun _=>⟨by rw[bR];rfl,rfl⟩⟩
     have fin: ∀(w':World) (v:Value),(Builtin.copy_ #[t,t2] ty #[vx,vy]).run Q w= .ok v w'->v= .int .i64 ys.length->(∀b,b<w.heap.size-> ¬(∃e,lk s.rg n=some e/\bu (G n) e.obj=some b)->w'.heap[b]?=w.heap[b]?)->
       w.heap.size<=w'.heap.size->w'.os=w.os->w'.tape=w.tape->w'.output=w.output->nR Q F w' G (ins n ⟨en.aU,en.tag,.arr ty' false (ys++es.drop ys.length)⟩ s.rg) n (.arr ty' false (ys++es.drop ys.length))->
       ∃v w' G',(Builtin.copy_ #[t,t2] ty #[vx,vy]).run Q w= .ok v w'/\aB Q T F G' w' (a.put dst v) s'/\Ext (Own G s.rg) (Own G' s'.rg) F F w w':=by
      intro w' v bE hv eA cJ Nu htp cp DF
      have hO:=h.rg n en jC
      obtain⟨d1,d2⟩:=h.mn (n:=n) (e1:=⟨en.aU,en.tag,.arr ty' false (ys++es.drop ys.length)⟩) (g1:=G n) (w':=w') (hdr:=pC _ bE) gF eA cJ Nu htp cp
       (fun b hb=> .inr ⟨en,jC,by rw[bR];exact hb⟩) (by rw[bU];exact DF) (fun i sW _=>h.tag n en i jC sW (by rw[bR];rfl))
      subst hv
      obtain⟨c1,c2⟩:=ct d1 hs (v:= .int .i64 ys.length) (cr.of (.d (.int .i64 ys.length)))
      refine⟨_,w',_,bE,c1,?_⟩
      rw[c2]
      exact d2
     have hO:=h.rg n en jC
     rw[bR] at hO
     cases hx with
     |sl _ _ _ _ h1 hr=>
      obtain⟨a0,N,cap,hG,rfl,qfQ⟩:=hr.at jC dI (by rw[bR];rfl)
      rcases hO with⟨hg,rfl⟩| ⟨b,im,cs,k',hg,hh,lK,Tn,zL,yq,cJ,_,hE⟩
      ·rw[hG] at hg
       simp at hg
       obtain⟨rfl,rfl,rfl⟩:=hg
       have h0:ys=[]:=List.eq_nil_of_length_eq_zero (by omega)
       subst h0
       have hn0:news=[]:=by have:=eJ.1;simpa using this
       subst hn0
       exact fin w _ (run_copy_none ht hi WX) rfl (fun _ _ _=>rfl) (Nat.le_refl _) rfl rfl rfl (.inl ⟨hG,by simp⟩)
      ·rw[hk] at lK
       cases lK
       rw[hG] at hg
       simp at hg
       obtain⟨rfl,rfl,rfl⟩:=hg
       have Ni:ys.length<=es.length:=by omega
       have oD:news.length=ys.length*(k+1):=eJ.1
       have Bq:news.length<=cs.size:=by
        rw[oD,cJ]
        exact Nat.mul_le_mul_right _ (by omega)
       have bE:=Bt (ty:=ty) (dLen:=len) (dCap:=cap) ht hi hh WX hyl Bq
       have r7:(ys++es.drop ys.length).length=es.length:=by rw[List.length_append,List.length_drop];omega
       have ep:bu (G n) en.obj=some b:=by rw[bR,hG];simp[bu,aL]
       have Tm: ¬F b:=h.lr n en b jC ep
       have hkF: ∀c,F c->(w.setRow b (news++cs.toList.drop news.length).toArray).heap[c]?=w.heap[c]?:=fun c hc=>setRow_other w b c _ (fun e=>Tm (e▸hc))
       refine fin _ _ bE rfl (fun c _ b9=>setRow_other w b c _ (fun e'=>b9 ⟨en,jC,by rw[e'];exact ep⟩)) (by simp) rfl rfl rfl
        (.inr ⟨b,cap,_,k+1,by rw[r7];exact hG,setRow_heap w b cs _ ty' _ hh,hk,by omega,by rw[r7];exact zL,yq,?_,by simp,?_⟩)
       ·have qdd:cs.size=cap*(k+1):=cJ
        simp only[List.size_toArray,List.length_append,List.length_drop,Array.length_toList]
        omega
       ·refine dW.toE ?_
        rw[r7]
        have hf:=(dW.take hE (Nat.le_refl _) (by rw[cJ];exact Nat.mul_le_mul_right _ zL)).drop ys.length
        rw[List.take_length] at hf
        have e1:((news++cs.toList.drop news.length).toArray.toList.take (es.length*(k+1)))=news++(cs.toList.take (es.length*(k+1))).drop (ys.length*(k+1)):=by
         rw[List.take_append,List.take_of_length_le (by rw[oD];exact Nat.mul_le_mul_right _ Ni),oD,List.drop_take]
        rw[e1]
        exact(eJ.append hf).mono (fun _ h=>h) hkF
     |_=>rename_i hd;cases hd
    ·cases hs
   ·cases hs
  ·cases hs
 ·cases hs
theorem Kn {F:Nat->Prop} {w:World} {z:D} {zv:Value} {k l:Nat} (hz:aW F w zv z) (hl:z.cells.length=k):dW F w k (List.replicate l z) (Builtin.zeroCells zv.cells l).toList:=by
 obtain⟨c1,c2,c3⟩:=dP hz
 have hs:zv.cells.size=k:=by rw[<-hl,<-c1];simp
 have hE:=pD (l:=l) (n:=l*k) hz hl (Nat.le_refl _)
 have cJ:(madeCells zv.cells (l*k)).size=l*k:=by simp[size_madeCells]
 have hf:=dW.take (len:=l) hE (by simp) (by rw[List.length_replicate,cJ];exact Nat.le_refl _)
 have e1:(List.replicate l z).take l=List.replicate l z:=List.take_of_length_le (by simp)
 have e2:(Builtin.zeroCells zv.cells l).toList=(madeCells zv.cells (l*k)).toList.take (l*k):=by
  rw[List.take_of_length_le (by simp[size_madeCells])]
  unfold Builtin.zeroCells madeCells
  rw[hs]
 rw[e1] at hf
 rw[e2]
 exact hf
theorem Ko (h:aB Q T F G w a s) {dst:Option Nat} {t ty:TypeId} {p:P} {s':S} (hs:mG Q s dst t p=some s') {vx:Value} (hx:aD F w G s.rg vx p):
  ∃v w' G',(Builtin.clear_ #[t] ty #[vx]).run Q w= .ok v w'/\aB Q T F G' w' (a.put dst v) s'/\Ext (Own G s.rg) (Own G' s'.rg) F F w w':=by
 unfold mG at hs
 split at hs
 ·rename_i e n aU k0 off len het
  have ht:=dv het
  split at hs
  ·rename_i k z ty' es hk hz ho
   obtain⟨i,_,hi,_,e8⟩:=fU hk
   split at hs
   ·rename_i hc
    simp only[Bool.and_eq_true,decide_eq_true_eq] at hc
    obtain⟨⟨⟨Ba,jh⟩,zO⟩,Tp⟩:=hc
    have Ba:ty'=e:=Nat.eq_of_beq_eq_true Ba
    have jh:k0=k+1:=Nat.eq_of_beq_eq_true jh
    have zO:z.cells.length=k+1:=Nat.eq_of_beq_eq_true zO
    subst Ba jh
    obtain⟨en,jC,dI,bR⟩:=S.bF ho
    obtain⟨zv,zI,Ft⟩:=oz hz w
    rw[S.e9 jC] at hs
    generalize Y0:es.take off++List.replicate len z++es.drop (off+len)=fh at hs
    have r7:fh.length=es.length:=by rw[<-Y0];simp;omega
    have gF:qo G s.rg n ⟨en.aU,en.tag,.arr ty' false fh⟩ (G n):=fun e' cF=>by rw[jC] at cF;cases cF;exact .inr ⟨rfl,fun _=>⟨by rw[bR];rfl,rfl⟩⟩
    have fin: ∀(w':World),(Builtin.clear_ #[t] ty #[vx]).run Q w= .ok (.tuple #[]) w'->(∀b,b<w.heap.size-> ¬(∃e,lk s.rg n=some e/\bu (G n) e.obj=some b)->w'.heap[b]?=w.heap[b]?)->
      w.heap.size<=w'.heap.size->w'.os=w.os->w'.tape=w.tape->w'.output=w.output->nR Q F w' G (ins n ⟨en.aU,en.tag,.arr ty' false fh⟩ s.rg) n (.arr ty' false fh)->
      ∃v w' G',(Builtin.clear_ #[t] ty #[vx]).run Q w= .ok v w'/\aB Q T F G' w' (a.put dst v) s'/\Ext (Own G s.rg) (Own G' s'.rg) F F w w':=by
     intro w' bE eA cJ Nu htp cp DF
     obtain⟨d1,d2⟩:=h.mn (n:=n) (e1:=⟨en.aU,en.tag,.arr ty' false fh⟩) (g1:=G n) (w':=w') (hdr:=pC _ bE) gF eA cJ Nu htp cp
      (fun b hb=> .inr ⟨en,jC,by rw[bR];exact hb⟩) (by rw[bU];exact DF) (fun i sW _=>h.tag n en i jC sW (by rw[bR];rfl))
     obtain⟨c1,c2⟩:=ct d1 hs (v:= .tuple #[]) (cr.of (.bad _))
     refine⟨_,w',_,bE,c1,?_⟩
     rw[c2]
     exact d2
    have hO:=h.rg n en jC
    rw[bR] at hO
    cases hx with
    |kT _ _ _ _ _ _ h1 hr=>
     obtain⟨a0,N,cap,hG,hle,a1,pV,rfl,Nf,Tq⟩:=hr.at jC dI (by rw[bR];rfl)
     by_cases h0:len=0
     ·subst h0
      have e0:fh=es:=by rw[<-Y0];simp
      subst e0
      refine fin w ?_ (fun _ _ _=>rfl) (Nat.le_refl _) rfl rfl rfl ?_
      ·cases a1<;>simp[Builtin.clear_,run_underlying ht]
      ·exact hO
     obtain⟨b0,YO,Ng⟩: ∃b,a0=some ⟨b,0,none⟩/\a1=some ⟨b,off*(k+1),none⟩:=by
      rcases Tq with Tq |Tq
      ·exact absurd Tq h0
      ·exact Tq
     subst YO Ng
     rcases hO with⟨hg,rfl⟩| ⟨b,im,cs,k',hg,hh,lK,Tn,zL,yq,cJ,_,hE⟩
     ·rw[hG] at hg
      simp at hg
     ·rw[hk] at lK
      cases lK
      rw[hG] at hg
      simp at hg
      obtain⟨rfl,rfl,rfl⟩:=hg
      have yN:=Kn (l:=len) Ft zO
      have oD:(Builtin.zeroCells zv.cells len).toList.length=len*(k+1):=by have:=yN.1;simpa using this
      have hole:off*(k+1)+len*(k+1)<=es.length*(k+1):=by rw[<-Nat.add_mul];exact Nat.mul_le_mul_right _ Tp
      have qfR:es.length*(k+1)<=cs.size:=by rw[cJ];exact Nat.mul_le_mul_right _ zL
      have jj:=run_storeCells_at Q b0 (off*(k+1)) ty' (Builtin.zeroCells zv.cells len).toList 0 cs w hh (by rw[oD];omega) (yN.one (by omega))
      simp only[Nat.add_zero,oD] at jj
      have bE:(Builtin.clear_ #[t] ty #[.slice (some ⟨b0,off*(k+1),none⟩) len pV]).run Q w= .ok (.tuple #[]) (w.setRow b0 (cs.toList.take (off*(k+1))++(Builtin.zeroCells zv.cells len).toList++cs.toList.drop (off*(k+1)+len*(k+1))).toArray):=by
       obtain⟨m,rfl⟩: ∃m,len=m+1:=⟨len-1,by omega⟩
       simp[Builtin.clear_,run_underlying ht,zI,jj]
      have ep:bu (G n) en.obj=some b0:=by rw[bR,hG];simp[bu,aL]
      have Tm: ¬F b0:=h.lr n en b0 jC ep
      have hkF: ∀c,F c->(w.setRow b0 (cs.toList.take (off*(k+1))++(Builtin.zeroCells zv.cells len).toList++cs.toList.drop (off*(k+1)+len*(k+1))).toArray).heap[c]?=w.heap[c]?:=fun c hc=>setRow_other w b0 c _ (fun e=>Tm (e▸hc))
      refine fin _ bE (fun c _ b9=>setRow_other w b0 c _ (fun e'=>b9 ⟨en,jC,by rw[e'];exact ep⟩)) (by simp) rfl rfl rfl
       (.inr ⟨b0,cap,_,k+1,by rw[r7];exact hG,setRow_heap w b0 cs _ ty' _ hh,hk,by omega,by rw[r7];exact zL,yq,?_,by simp,?_⟩)
      ·have qdd:cs.size=cap*(k+1):=cJ
       simp only[List.size_toArray,List.length_append,List.length_take,List.length_drop,Array.length_toList,oD]
       rw[<-qdd]
       have hA:off*(k+1)+len*(k+1)<=cs.size:=Nat.le_trans hole qfR
       generalize off*(k+1)=A at hA⊢
       generalize len*(k+1)=B at hA⊢
       omega
      ·refine dW.toE ?_
       rw[r7,<-Y0]
       have f1:=dW.take (len:=off) hE (by omega) (by rw[cJ];exact Nat.mul_le_mul_right _ zL)
       have f3:=(dW.take hE (Nat.le_refl _) (by rw[cJ];exact Nat.mul_le_mul_right _ zL)).drop (off+len)
       rw[List.take_length] at f3
       have e1:((cs.toList.take (off*(k+1))++(Builtin.zeroCells zv.cells len).toList++cs.toList.drop (off*(k+1)+len*(k+1))).toArray.toList.take (es.length*(k+1)))=cs.toList.take (off*(k+1))++(Builtin.zeroCells zv.cells len).toList++(cs.toList.take (es.length*(k+1))).drop ((off+len)*(k+1)):=by
        have l1:(cs.toList.take (off*(k+1))).length=off*(k+1):=by simp;omega
        rw[List.take_append,List.take_of_length_le (by rw[List.length_append,l1,oD];exact hole),List.length_append,l1,oD,List.drop_take,Nat.add_mul]
       rw[e1]
       exact((f1.append yN).append f3).mono (fun _ h=>h) hkF
    |_=>rename_i hd;cases hd
   ·cases hs
  ·cases hs
 ·cases hs
end
end Pi
