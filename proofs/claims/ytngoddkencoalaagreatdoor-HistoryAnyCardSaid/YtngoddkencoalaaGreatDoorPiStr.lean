/- The text PiStr. -/
import Derived.Test.YtngoddkencoalaaGreatDoorPiMap
namespace Pi
open Go
section
variable {Q:Program} {F:Nat->Prop} {G:Nat->Value} {w:World}
theorem dP {v:Value} {x:D} (h:aW F w v x):v.cells.toList.length=x.cells.length/\(∀c∈x.cells,c.bC=true)/\(∀(i:Nat) (u:Value) (c:D),v.cells.toList[i]?=some u->x.cells[i]?=some c->aW F w u c):=by
 cases h with
 |agg vs cs hl bY hh=>exact⟨by simpa [Value.cells,D.cells] using hl,bY,fun i u c hu iQ=>hh i u c (by simpa [Value.cells] using hu) (by simpa [D.cells] using iQ)⟩
 |_=>
  refine⟨by simp[Value.cells,D.cells],fun c hc=>by simp[D.cells] at hc;subst hc;rfl,fun i u c hu iQ=> ?_⟩
  cases i with
  |zero=>simp[Value.cells] at hu;simp[D.cells] at iQ;subst hu;subst iQ;first | (constructor<;>assumption)|constructor
  |succ i=>simp[D.cells] at iQ
theorem j9 {v:Value} {x:D} (h:aW F w v x): ∀u∈v.cells.toList,u.oneCell'=true:=by
 obtain⟨h1,h2,h3⟩:=dP h
 intro u hu
 obtain⟨i,hi⟩:=List.getElem?_of_mem hu
 have bk:i<x.cells.length:=by have:=(List.getElem?_eq_some_iff.1 hi).1;omega
 exact(h3 i u _ hi (List.getElem?_eq_getElem bk)).mK (h2 _ (List.getElem_mem bk))
theorem oA (x:D):(P.d x).cells=x.cells.map P.d:=by cases x<;>rfl
theorem wg {R:List (Nat×En)} {v:Value} {p:P} (h:aD F w G R v p) (hc:p.mD=true):
  v.cells.toList.length=p.cells.length/\(∀(i:Nat) (u:Value) (c:P),v.cells.toList[i]?=some u->p.cells[i]?=some c->aD F w G R u c)/\ ∀u∈v.cells.toList,u.oneCell'=true:=by
 have single:p.cells=[p]->v.oneCell'=true->v.cells.toList.length=p.cells.length/\(∀(i:Nat) (u:Value) (c:P),v.cells.toList[i]?=some u->p.cells[i]?=some c->aD F w G R u c)/\ ∀u∈v.cells.toList,u.oneCell'=true:=fun hp h1=>by
  have e:v.cells= #[v]:=by cases v<;>simp_all [Value.oneCell',Value.cells]
  rw[hp,e]
  refine⟨rfl,fun i u c hu iQ=> ?_,fun u hu=>by simp at hu;rw[hu];exact h1⟩
  cases i with
  |zero=>simp at hu iQ;subst hu;subst iQ;exact h
  |succ i=>simp at iQ
 cases p with
 |agg ps=>
  cases h with
  |agg vs ps hl gm hh=>exact⟨by simpa [Value.cells,P.cells] using hl,fun i u c hu iQ=>hh i u c (by simpa [Value.cells] using hu) (by simpa [P.cells] using iQ),fun u hu=>gm u (by simpa [Value.cells] using hu)⟩
 |d x=>
  cases h with
  |d hd=>
   obtain⟨h1,h2,h3⟩:=dP hd
   refine⟨by rw[oA];simpa using h1,fun i u c hu iQ=> ?_,j9 hd⟩
   rw[oA,List.getElem?_map] at iQ
   simp only[Option.map_eq_some_iff] at iQ
   obtain⟨y,hy,rfl⟩:=iQ
   exact .d (h3 i u y hu hy)
 |da=>simp[P.mD,P.bC] at hc
 |when=>simp[P.mD,P.bC] at hc
 |bad=>simp[P.mD,P.bC] at hc
 |_=>exact single rfl (h.mK rfl)
theorem Bf (off:Nat): ∀(vs:List Value) (s0:Nat) (cs:Array Value),off+s0+vs.length<=cs.size->
  ((vs.zipIdx s0).foldl (fun(cs:Array Value) (x:Value×Nat)=>cs.setIfInBounds (off+x.2) x.1) cs).size=cs.size/\
  ∀m,((vs.zipIdx s0).foldl (fun(cs:Array Value) (x:Value×Nat)=>cs.setIfInBounds (off+x.2) x.1) cs).getD m undef=if off+s0<=m/\m<off+s0+vs.length then vs.getD (m-(off+s0)) undef else cs.getD m undef
 | [],s0,cs,_=>⟨rfl,fun m=>by simp;omega⟩
 |v::vs,s0,cs,hl=>by
  simp only[List.length_cons] at hl
  simp only[List.zipIdx_cons,List.foldl_cons]
  obtain⟨h1,h2⟩:=Bf off vs (s0+1) (cs.setIfInBounds (off+s0) v) (by simp;omega)
  refine⟨by rw[h1];simp,fun m=> ?_⟩
  rw[h2 m]
  by_cases hm:m=off+s0
  ·subst hm
   have bk:off+s0<cs.size:=by omega
   rw[if_neg (by omega),if_pos (by simp)]
   simp[Array.getD,bk]
  ·have e:(cs.setIfInBounds (off+s0) v).getD m undef=cs.getD m undef:=by
    simp only[Array.getD_eq_getD_getElem?]
    rw[Array.getElem?_setIfInBounds_ne (fun e=>hm e.symm)]
   rw[e]
   by_cases hr:off+(s0+1)<=m/\m<off+(s0+1)+vs.length
   ·rw[if_pos hr,if_pos (by simp;omega)]
    have e2:m-(off+s0)=(m-(off+(s0+1)))+1:=by omega
    rw[e2,List.getD_cons_succ]
   ·rw[if_neg hr,if_neg (by simp;omega)]
theorem kc {α:Type} (ps qs:List α) (off:Nat) (h:off+qs.length<=ps.length):(ps.take off++qs++ps.drop (off+qs.length)).length=ps.length:=by
 simp;omega
theorem iu {α:Type} (ps qs:List α) (off i:Nat) (h:off+qs.length<=ps.length):(ps.take off++qs++ps.drop (off+qs.length))[i]?=if off<=i/\i<off+qs.length then qs[i-off]? else ps[i]?:=by
 by_cases h1:i<off
 ·rw[List.append_assoc,List.getElem?_append_left (by simp;omega),List.getElem?_take,if_pos h1,if_neg (by omega)]
 ·by_cases h2:i<off+qs.length
  ·rw[List.append_assoc,List.getElem?_append_right (by simp;omega),if_pos ⟨by omega,h2⟩]
   have e:i-(List.take off ps).length=i-off:=by simp;omega
   rw[e,List.getElem?_append_left (by omega)]
  ·rw[List.getElem?_append_right (by simp;omega),if_neg (by omega),List.getElem?_drop]
   congr 1
   simp
   omega
theorem J9 {t:TypeId} {z:D} (hz:dY Q t=some z) (w:World): ∃zv,(zeroValue t).run Q w= .ok zv w/\aW F w zv z:=oz hz w
theorem Dy {R:List (Nat×En)} {pl:Array (Nat×Nat)}: ∀(parts:List (Nat×P)) (vals:List (Nat×Value)) (ps qs:List P) (cs:Array Value),Dm pl ps parts=some qs->vals.length=parts.length->
  (∀(i:Nat) x y,vals[i]?=some x->parts[i]?=some y->x.1=y.1/\aD F w G R x.2 y.2)->cs.size=ps.length->(∀v∈cs.toList,v.oneCell'=true)->(∀(i:Nat) (v:Value) (p:P),cs.toList[i]?=some v->ps[i]?=some p->aD F w G R v p)->
  ∃kO,Instr.fill (pl[·]?) cs vals=some kO/\kO.size=qs.length/\(∀v∈kO.toList,v.oneCell'=true)/\ ∀(i:Nat) (v:Value) (p:P),kO.toList[i]?=some v->qs[i]?=some p->aD F w G R v p
 | [],vals,ps,qs,cs,h,hl,_,cJ,h1,h2=>by
  simp[Dm] at h
  subst h
  have:vals=[]:=by simpa using hl
  subst this
  exact⟨cs,rfl,cJ,h1,h2⟩
 | (i,p)::r,[],ps,qs,cs,h,hl,_,cJ,h1,h2=>by simp at hl
 | (i,p)::r,(i0,v)::vals,ps,qs,cs,h,hl,hv,cJ,h1,h2=>by
  simp only[Dm] at h
  split at h
  ·rename_i off k Se
   split at h
   ·rename_i hc
    simp only[Bool.and_eq_true] at hc
    obtain⟨⟨hk,hle⟩,ml⟩:=hc
    have hk:=Nat.eq_of_beq_eq_true hk
    have hle:=Nat.le_of_ble_eq_true hle
    obtain⟨e0,hp⟩:=hv 0 (i0,v) (i,p) rfl rfl
    simp only at e0 hp
    subst e0
    obtain⟨c1,c2,c3⟩:=wg hp ml
    have Sf:v.cells.toList.length=k:=by rw[c1,hk]
    obtain⟨f1,f2⟩:=Bf off v.cells.toList 0 cs (by rw[Sf,cJ];omega)
    have dF:(decide (v.cells.size≠k)||decide (off+v.cells.size>cs.size))=false:=by
     have:v.cells.size=k:=by simpa using Sf
     rw[this,cJ];simp;omega
    let zK:=(v.cells.toList.zipIdx 0).foldl (fun(cs:Array Value) (x:Value×Nat)=>cs.setIfInBounds (off+x.2) x.1) cs
    have Bg:off+p.cells.length<=ps.length:=by rw[hk];exact hle
    have r4: ∀(j:Nat) (u:Value),zK.toList[j]?=some u->j<cs.size/\u=if off+0<=j/\j<off+0+v.cells.toList.length then v.cells.toList.getD (j-(off+0)) undef else cs.getD j undef:=fun j u hu=>by
     have hj:j<zK.size:=by simpa using(List.getElem?_eq_some_iff.1 hu).1
     rw[f1] at hj
     refine⟨hj,?_⟩
     rw[<-f2 j]
     rw[Array.getElem?_toList] at hu
     simp[Array.getD_eq_getD_getElem?,zK] at hu⊢
     rw[hu];rfl
    have key: ∀(j:Nat) (u:Value),zK.toList[j]?=some u->u.oneCell'=true/\ ∀q,(splice ps off p.cells)[j]?=some q->aD F w G R u q:=fun j u hu=>by
     obtain⟨hj,e⟩:=r4 j u hu
     by_cases bc:off+0<=j/\j<off+0+v.cells.toList.length
     ·rw[if_pos bc] at e
      have Fv:j-(off+0)<v.cells.toList.length:=by omega
      have hu2:v.cells.toList[j-off]?=some u:=by rw[e,List.getD_eq_getElem?_getD];simp only[Nat.add_zero] at Fv⊢;rw[List.getElem?_eq_getElem Fv];rfl
      refine⟨c3 u (List.mem_of_getElem? hu2),fun q hq=> ?_⟩
      unfold splice at hq
      rw[iu ps p.cells off j Bg,if_pos (by rw[c1] at bc;omega)] at hq
      exact c2 _ u q hu2 hq
     ·rw[if_neg bc] at e
      have hu2:cs.toList[j]?=some u:=by rw[e,Array.getElem?_toList,Array.getElem?_eq_getElem hj,Array.getD_eq_getD_getElem?,Array.getElem?_eq_getElem hj];rfl
      refine⟨h1 u (List.mem_of_getElem? hu2),fun q hq=> ?_⟩
      unfold splice at hq
      rw[iu ps p.cells off j Bg,if_neg (by rw[c1] at bc;omega)] at hq
      exact h2 j u q hu2 hq
    obtain⟨kO,g1,g2,g3,g4⟩:=Dy r vals _ qs zK h (by simpa using hl) (fun j x y hx hy=>hv (j+1) x y (by simpa using hx) (by simpa using hy)) (by show zK.size=_;unfold splice;rw[kc ps p.cells off Bg];rw[<-cJ];exact f1) (fun u hu=>by
     obtain⟨j,hj⟩:=List.getElem?_of_mem hu
     exact(key j u hj).1) (fun j u q hu hq=>(key j u hu).2 q hq)
    refine⟨kO,?_,g2,g3,g4⟩
    simp only[Instr.fill,Se,dF,Bool.false_eq_true,if_false]
    rw[<-g1]
    congr 1
    rw[<-Array.foldl_toList]
    simp[zK]
   ·cases h
  ·cases h
theorem Dz {R:List (Nat×En)} {t:TypeId} {parts:List (Nat×P)} {q:P} (h:vS Q t parts=some q) {vals:Array (Nat×Value)} (hl:vals.toList.length=parts.length)
  (hv: ∀(i:Nat) x y,vals.toList[i]?=some x->parts[i]?=some y->x.1=y.1/\aD F w G R x.2 y.2): ∃v,(Instr.build t vals).run Q w= .ok v w/\aD F w G R v q:=by
 unfold vS at h
 split at h
 ·rename_i fs z hu hz
  split at h
  ·rename_i pl Se
   split at h
   ·rename_i qs hq
    simp only[Option.some.injEq] at h
    subst h
    obtain⟨zv,Fs,zI⟩:=J9 (F:=F) hz w
    obtain⟨d1,d2,d3⟩:=dP zI
    obtain⟨kO,g1,g2,g3,g4⟩:=Dy parts vals.toList _ qs zv.cells hq hl hv (by simpa using d1) (j9 zI) (fun i v p hi hp=>by
     rw[List.getElem?_map] at hp
     simp only[Option.map_eq_some_iff] at hp
     obtain⟨c,hc,rfl⟩:=hp
     exact .d (d3 i v c hi hc))
    refine⟨.agg kO,?_,?_⟩
    ·have Sg:=du Se w
     unfold Ia at Sg
     simp only[Instr.build,Sem.run_bind,Fs,run_underlying hu,Result.andThen]
     rw[Sg]
     dsimp only
     rw[g1]
     rfl
    ·have:=Dq (F:=F) (w:=w) (G:=G) (R:=R) (vs:=kO.toList) (ps:=qs) (by simpa using g2) g3 g4
     simpa using this
   ·cases h
  ·cases h
 ·cases h
end
end Pi
