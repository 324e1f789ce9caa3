/- The text PiStr. -/
import Derived.Test.YtngoddkencoalaaGreatDoorPiMap
namespace Pi
open Go
section
variable {Q:Program} {F:Nat->Prop} {G:Nat->Value} {w:World}
theorem dW {v:Value} {x:D} (h:a7 F w v x):v.cells.toList.length=x.cells.length/\(∀c∈x.cells,c.bC=true)/\(∀(i:Nat) (u:Value) (c:D),v.cells.toList[i]?=some u->x.cells[i]?=some c->a7 F w u c):=by
 cases h with
 |agg vs cs hl ca hh=>exact⟨by simpa [Value.cells,D.cells] using hl,ca,fun i u c hu jG=>hh i u c (by simpa [Value.cells] using hu) (by simpa [D.cells] using jG)⟩
 |_=>
  refine⟨by simp[Value.cells,D.cells],fun c hc=>by simp[D.cells] at hc;subst hc;rfl,fun i u c hu jG=> ?_⟩
  cases i with
  |zero=>simp[Value.cells] at hu;simp[D.cells] at jG;subst hu;subst jG;first | (constructor<;>assumption)|constructor
  |succ i=>simp[D.cells] at jG
theorem kP {v:Value} {x:D} (h:a7 F w v x): ∀u∈v.cells.toList,u.oneCell'=true:=by
 obtain⟨h1,h2,h3⟩:=dW h
 intro u hu
 obtain⟨i,hi⟩:=zaP hu
 have bG:i<x.cells.length:=by have:=(zad.1 hi).1;omega
 exact(h3 i u _ hi (zae bG)).nw (h2 _ (zas bG))
theorem pb (x:D):(P.d x).cells=x.cells.map P.d:=by cases x<;>rfl
theorem w9 {R:List (Nat×En)} {v:Value} {p:P} (h:aF F w G R v p) (hc:p.nj=true):
  v.cells.toList.length=p.cells.length/\(∀(i:Nat) (u:Value) (c:P),v.cells.toList[i]?=some u->p.cells[i]?=some c->aF F w G R u c)/\ ∀u∈v.cells.toList,u.oneCell'=true:=by
 have single:p.cells=[p]->v.oneCell'=true->v.cells.toList.length=p.cells.length/\(∀(i:Nat) (u:Value) (c:P),v.cells.toList[i]?=some u->p.cells[i]?=some c->aF F w G R u c)/\ ∀u∈v.cells.toList,u.oneCell'=true:=fun hp h1=>by
  have e:v.cells= #[v]:=by cases v<;>simp_all [Value.oneCell',Value.cells]
  rw[hp,e]
  refine⟨rfl,fun i u c hu jG=> ?_,fun u hu=>by simp at hu;rw[hu];exact h1⟩
  cases i with
  |zero=>simp at hu jG;subst hu;subst jG;exact h
  |succ i=>simp at jG
 cases p with
 |agg ps=>
  cases h with
  |agg vs ps hl ij hh=>exact⟨by simpa [Value.cells,P.cells] using hl,fun i u c hu jG=>hh i u c (by simpa [Value.cells] using hu) (by simpa [P.cells] using jG),fun u hu=>ij u (by simpa [Value.cells] using hu)⟩
 |d x=>
  cases h with
  |d hd=>
   obtain⟨h1,h2,h3⟩:=dW hd
   refine⟨by rw[pb];simpa using h1,fun i u c hu jG=> ?_,kP hd⟩
   rw[pb,zaJ] at jG
   simp only[zaw] at jG
   obtain⟨y,hy,rfl⟩:=jG
   exact .d (h3 i u y hu hy)
 |cV=>simp[P.nj,P.bC] at hc
 |when=>simp[P.nj,P.bC] at hc
 |bad=>simp[P.nj,P.bC] at hc
 |_=>exact single rfl (h.nw rfl)
theorem Cd (off:Nat): ∀(vs:List Value) (s0:Nat) (cs:Array Value),off+s0+vs.length<=cs.size->
  ((vs.zipIdx s0).foldl (fun(cs:Array Value) (x:Value×Nat)=>cs.setIfInBounds (off+x.2) x.1) cs).size=cs.size/\
  ∀m,((vs.zipIdx s0).foldl (fun(cs:Array Value) (x:Value×Nat)=>cs.setIfInBounds (off+x.2) x.1) cs).getD m undef=if off+s0<=m/\m<off+s0+vs.length then vs.getD (m-(off+s0)) undef else cs.getD m undef
 | [],s0,cs,_=>⟨rfl,fun m=>by simp;omega⟩
 |v::vs,s0,cs,hl=>by
  simp only[zap] at hl
  simp only[List.zipIdx_cons,za8]
  obtain⟨h1,h2⟩:=Cd off vs (s0+1) (cs.setIfInBounds (off+s0) v) (by simp;omega)
  refine⟨by rw[h1];simp,fun m=> ?_⟩
  rw[h2 m]
  by_cases hm:m=off+s0
  ·subst hm
   have bG:off+s0<cs.size:=by omega
   rw[zam (by omega),zao (by simp)]
   simp[Array.getD,bG]
  ·have e:(cs.setIfInBounds (off+s0) v).getD m undef=cs.getD m undef:=by
    simp only[zaD]
    rw[zaX (fun e=>hm e.symm)]
   rw[e]
   by_cases hr:off+(s0+1)<=m/\m<off+(s0+1)+vs.length
   ·rw[zao hr,zao (by simp;omega)]
    have e2:m-(off+s0)=(m-(off+(s0+1)))+1:=by omega
    rw[e2,List.getD_cons_succ]
   ·rw[zam hr,zam (by simp;omega)]
theorem kQ {α:Type} (ps qs:List α) (off:Nat) (h:off+qs.length<=ps.length):(ps.take off++qs++ps.drop (off+qs.length)).length=ps.length:=by
 simp;omega
theorem iL {α:Type} (ps qs:List α) (off i:Nat) (h:off+qs.length<=ps.length):(ps.take off++qs++ps.drop (off+qs.length))[i]?=if off<=i/\i<off+qs.length then qs[i-off]? else ps[i]?:=by
 by_cases h1:i<off
 ·rw[zaY,zaM (by simp;omega),zbe,zao h1,zam (by omega)]
 ·by_cases h2:i<off+qs.length
  ·rw[zaY,zaZ (by simp;omega),zao ⟨by omega,h2⟩]
   have e:i-(List.take off ps).length=i-off:=by simp;omega
   rw[e,zaM (by omega)]
  ·rw[zaZ (by simp;omega),zam (by omega),zbw]
   congr 1
   simp
   omega
theorem LU {t:TypeId} {z:D} (hz:ey Q t=some z) (w:World): ∃zv,(zeroValue t).run Q w= .ok zv w/\a7 F w zv z:=o9 hz w
theorem Ew {R:List (Nat×En)} {pl:Array (Nat×Nat)}: ∀(parts:List (Nat×P)) (vals:List (Nat×Value)) (ps qs:List P) (cs:Array Value),Ei pl ps parts=some qs->vals.length=parts.length->
  (∀(i:Nat) x y,vals[i]?=some x->parts[i]?=some y->x.1=y.1/\aF F w G R x.2 y.2)->cs.size=ps.length->(∀v∈cs.toList,v.oneCell'=true)->(∀(i:Nat) (v:Value) (p:P),cs.toList[i]?=some v->ps[i]?=some p->aF F w G R v p)->
  ∃ly,Instr.fill (pl[·]?) cs vals=some ly/\ly.size=qs.length/\(∀v∈ly.toList,v.oneCell'=true)/\ ∀(i:Nat) (v:Value) (p:P),ly.toList[i]?=some v->qs[i]?=some p->aF F w G R v p
 | [],vals,ps,qs,cs,h,hl,_,dq,h1,h2=>by
  simp[Ei] at h
  subst h
  have:vals=[]:=by simpa using hl
  subst this
  exact⟨cs,rfl,dq,h1,h2⟩
 | (i,p)::r,[],ps,qs,cs,h,hl,_,dq,h1,h2=>by simp at hl
 | (i,p)::r,(i0,v)::vals,ps,qs,cs,h,hl,hv,dq,h1,h2=>by
  simp only[Ei] at h
  split at h
  ·rename_i off k LV
   split at h
   ·rename_i hc
    simp only[zab] at hc
    obtain⟨⟨hk,hle⟩,mX⟩:=hc
    have hk:=zaf hk
    have hle:=zbI hle
    obtain⟨e0,hp⟩:=hv 0 (i0,v) (i,p) rfl rfl
    simp only at e0 hp
    subst e0
    obtain⟨c1,c2,c3⟩:=w9 hp mX
    have hvl:v.cells.toList.length=k:=by rw[c1,hk]
    obtain⟨f1,f2⟩:=Cd off v.cells.toList 0 cs (by rw[hvl,dq];omega)
    have ff:(decide (v.cells.size≠k)||decide (off+v.cells.size>cs.size))=false:=by
     have:v.cells.size=k:=by simpa using hvl
     rw[this,dq];simp;omega
    let DR:=(v.cells.toList.zipIdx 0).foldl (fun(cs:Array Value) (x:Value×Nat)=>cs.setIfInBounds (off+x.2) x.1) cs
    have Ce:off+p.cells.length<=ps.length:=by rw[hk];exact hle
    have pc: ∀(j:Nat) (u:Value),DR.toList[j]?=some u->j<cs.size/\u=if off+0<=j/\j<off+0+v.cells.toList.length then v.cells.toList.getD (j-(off+0)) undef else cs.getD j undef:=fun j u hu=>by
     have hj:j<DR.size:=by simpa using(zad.1 hu).1
     rw[f1] at hj
     refine⟨hj,?_⟩
     rw[<-f2 j]
     rw[zcz] at hu
     simp[zaD,DR] at hu⊢
     rw[hu];rfl
    have key: ∀(j:Nat) (u:Value),DR.toList[j]?=some u->u.oneCell'=true/\ ∀q,(splice ps off p.cells)[j]?=some q->aF F w G R u q:=fun j u hu=>by
     obtain⟨hj,e⟩:=pc j u hu
     by_cases bg:off+0<=j/\j<off+0+v.cells.toList.length
     ·rw[zao bg] at e
      have Ex:j-(off+0)<v.cells.toList.length:=by omega
      have hu2:v.cells.toList[j-off]?=some u:=by rw[e,zac];simp only[zbQ] at Ex⊢;rw[zae Ex];rfl
      refine⟨c3 u (zaC hu2),fun q hq=> ?_⟩
      unfold splice at hq
      rw[iL ps p.cells off j Ce,zao (by rw[c1] at bg;omega)] at hq
      exact c2 _ u q hu2 hq
     ·rw[zam bg] at e
      have hu2:cs.toList[j]?=some u:=by rw[e,zcz,zbK hj,zaD,zbK hj];rfl
      refine⟨h1 u (zaC hu2),fun q hq=> ?_⟩
      unfold splice at hq
      rw[iL ps p.cells off j Ce,zam (by rw[c1] at bg;omega)] at hq
      exact h2 j u q hu2 hq
    obtain⟨ly,g1,g2,g3,g4⟩:=Ew r vals _ qs DR h (by simpa using hl) (fun j x y hx hy=>hv (j+1) x y (by simpa using hx) (by simpa using hy)) (by show DR.size=_;unfold splice;rw[kQ ps p.cells off Ce];rw[<-dq];exact f1) (fun u hu=>by
     obtain⟨j,hj⟩:=zaP hu
     exact(key j u hj).1) (fun j u q hu hq=>(key j u hu).2 q hq)
    refine⟨ly,?_,g2,g3,g4⟩
    simp only[Instr.fill,LV,ff,zaz,zbd]
    rw[<-g1]
    congr 1
    rw[<-zcM]
    simp[DR]
   ·cases h
  ·cases h
theorem Ey {R:List (Nat×En)} {t:TypeId} {parts:List (Nat×P)} {q:P} (h:wR Q t parts=some q) {vals:Array (Nat×Value)} (hl:vals.toList.length=parts.length)
  (hv: ∀(i:Nat) x y,vals.toList[i]?=some x->parts[i]?=some y->x.1=y.1/\aF F w G R x.2 y.2): ∃v,(Instr.build t vals).run Q w= .ok v w/\aF F w G R v q:=by
 unfold wR at h
 split at h
 ·rename_i fs z hu hz
  split at h
  ·rename_i pl LV
   split at h
   ·rename_i qs hq
    simp only[zal] at h
    subst h
    obtain⟨zv,J8,AI⟩:=LU (F:=F) hz w
    obtain⟨d1,d2,d3⟩:=dW AI
    obtain⟨ly,g1,g2,g3,g4⟩:=Ew parts vals.toList _ qs zv.cells hq hl hv (by simpa using d1) (kP AI) (fun i v p hi hp=>by
     rw[zaJ] at hp
     simp only[zaw] at hp
     obtain⟨c,hc,rfl⟩:=hp
     exact .d (d3 i v c hi hc))
    refine⟨.agg ly,?_,?_⟩
    ·have UY:=dB LV w
     unfold J0 at UY
     simp only[Instr.build,Sem.run_bind,J8,run_underlying hu,Result.andThen]
     rw[UY]
     dsimp only
     rw[g1]
     rfl
    ·have:=El (F:=F) (w:=w) (G:=G) (R:=R) (vs:=ly.toList) (ps:=qs) (by simpa using g2) g3 g4
     simpa using this
   ·cases h
  ·cases h
 ·cases h
end
end Pi
