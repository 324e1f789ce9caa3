/- The text PiStr. -/
import Derived.Test.YtfelfooeclnbiaaGreatDoorPiMap
namespace Pi
open Go
section
variable{Q:Program}{F:Nat->Prop}{G:Nat->Value}{w:World}
theorem dL{v:Value}{x:D}(h:aU F w v x):v.cells.toList.length=x.cells.length/\(∀c∈x.cells,c.bt=true)/\(∀(i:Nat) (u:Value) (c:D),v.cells.toList[i]?=some u->x.cells[i]?=some c->aU F w u c):=by
 cases h with
 |agg vs cs hl bU hh=>exact⟨by simpa [Value.cells,D.cells] using hl,bU,λi u c hu ln=>hh i u c (by simpa [Value.cells] using hu) (by simpa [D.cells] using ln)⟩
 |_=>
  refine⟨by simp[Value.cells,D.cells],λc hc=>by simp[D.cells] at hc;subst hc;rfl,λi u c hu ln=> ?_⟩;cases i with
  |zero=>simp[Value.cells] at hu;simp[D.cells] at ln;subst hu;subst ln;first | (constructor<;>assumption)|constructor
  |succ i=>simp[D.cells] at ln
theorem kL{v:Value}{x:D}(h:aU F w v x): ∀u∈v.cells.toList,u.oneCell'=true:=by
 obtain⟨h1,h2,h3⟩:=dL h;intro u hu;obtain⟨i,hi⟩:=zaP hu;have bz:i<x.cells.length:=by have:=(zae.1 hi).1;omega
 exact(h3 i u _ hi (zac bz)).nw (h2 _ (zar bz))
theorem pj(x:D):(P.d x).cells=x.cells.map P.d:=by cases x<;>rfl
theorem xi{R:List (Nat×En)}{v:Value}{p:P}(h:aF F w G R v p)(hc:p.nj=true):
  v.cells.toList.length=p.cells.length/\(∀(i:Nat) (u:Value) (c:P),v.cells.toList[i]?=some u->p.cells[i]?=some c->aF F w G R u c)/\ ∀u∈v.cells.toList,u.oneCell'=true:=by
 have single:p.cells=[p]->v.oneCell'=true->v.cells.toList.length=p.cells.length/\(∀(i:Nat) (u:Value) (c:P),v.cells.toList[i]?=some u->p.cells[i]?=some c->aF F w G R u c)/\ ∀u∈v.cells.toList,u.oneCell'=true:=λhp h1=>by
  have e:v.cells= #[v]:=by cases v<;>simp_all [Value.oneCell',Value.cells]
  rw[hp,e];refine⟨rfl,λi u c hu ln=> ?_,λu hu=>by simp at hu;rw[hu];exact h1⟩;cases i with
  |zero=>simp at hu ln;subst hu;subst ln;exact h
  |succ i=>simp at ln
 cases p with
 |agg ps=>
  cases h with
  |agg vs ps hl gb hh=>exact⟨by simpa [Value.cells,P.cells] using hl,λi u c hu ln=>hh i u c (by simpa [Value.cells] using hu) (by simpa [P.cells] using ln),λu hu=>gb u (by simpa [Value.cells] using hu)⟩
 |d x=>
  cases h with
  |d hd=>obtain⟨h1,h2,h3⟩:=dL hd;refine⟨by rw[pj];simpa using h1,λi u c hu ln=> ?_,kL hd⟩;rw[pj,zaD] at ln;simp only[zav] at ln;obtain⟨y,hy,rfl⟩:=ln;exact .d (h3 i u y hu hy)
 |bI=>simp[P.nj,P.bt] at hc
 |when=>simp[P.nj,P.bt] at hc
 |bad=>simp[P.nj,P.bt] at hc
 |_=>exact single rfl (h.nw rfl)
theorem Cb(off:Nat): ∀(vs:List Value) (s0:Nat) (cs:Array Value),off+s0+vs.length<=cs.size->
  ((vs.zipIdx s0).foldl (λ(cs:Array Value) (x:Value×Nat)=>cs.setIfInBounds (off+x.2) x.1) cs).size=cs.size/\
  ∀m,((vs.zipIdx s0).foldl (λ(cs:Array Value) (x:Value×Nat)=>cs.setIfInBounds (off+x.2) x.1) cs).getD m undef=if off+s0<=m/\m<off+s0+vs.length then vs.getD (m-(off+s0)) undef else cs.getD m undef
 | [],s0,cs,_=>⟨rfl,λm=>by simp;omega⟩
 |v::vs,s0,cs,hl=>by
  simp only[zam] at hl;simp only[List.zipIdx_cons,za4];obtain⟨h1,h2⟩:=Cb off vs (s0+1) (cs.setIfInBounds (off+s0) v) (by simp;omega);refine⟨by rw[h1];simp,λm=> ?_⟩;rw[h2 m];by_cases hm:m=off+s0
  ·subst hm;have bz:off+s0<cs.size:=by omega
   rw[zap (by omega),zaq (by simp)];simp[Array.getD,bz]
  have e:(cs.setIfInBounds (off+s0) v).getD m undef=cs.getD m undef:=by simp only[zaA];rw[zaV (λe=>hm e.symm)]
  rw[e];by_cases hr:off+(s0+1)<=m/\m<off+(s0+1)+vs.length
  ·rw[zaq hr,zaq (by simp;omega)];have e2:m-(off+s0)=(m-(off+(s0+1)))+1:=by omega
   rw[e2,zcn]
  rw[zap hr,zap (by simp;omega)]
theorem kM{α:Type}(ps qs:List α)(off:Nat)(h:off+qs.length<=ps.length):(ps.take off++qs++ps.drop (off+qs.length)).length=ps.length:=by simp;omega
theorem iG{α:Type}(ps qs:List α)(off i:Nat)(h:off+qs.length<=ps.length):(ps.take off++qs++ps.drop (off+qs.length))[i]?=if off<=i/\i<off+qs.length then qs[i-off]? else ps[i]?:=by
 by_cases h1:i<off
 ·rw[zaF,zaQ (by simp;omega),zbr,zaq h1,zap (by omega)]
 by_cases h2:i<off+qs.length
 ·rw[zaF,zaS (by simp;omega),zaq ⟨by omega,h2⟩];have e:i-(List.take off ps).length=i-off:=by simp;omega
  rw[e,zaQ (by omega)]
 rw[zaS (by simp;omega),zap (by omega),zca];congr 1;simp;omega
theorem L8{t:TypeId}{z:D}(hz:dX Q t=some z)(w:World): ∃zv,(zeroValue t).run Q w= .ok zv w/\aU F w zv z:=ph hz w
theorem Ey{R:List (Nat×En)}{pl:Array (Nat×Nat)}: ∀(parts:List (Nat×P)) (vals:List (Nat×Value)) (ps qs:List P) (cs:Array Value),Ej pl ps parts=some qs->vals.length=parts.length->
  (∀(i:Nat) x y,vals[i]?=some x->parts[i]?=some y->x.1=y.1/\aF F w G R x.2 y.2)->cs.size=ps.length->(∀v∈cs.toList,v.oneCell'=true)->(∀(i:Nat) (v:Value) (p:P),cs.toList[i]?=some v->ps[i]?=some p->aF F w G R v p)->
  ∃ll,Instr.fill (pl[·]?) cs vals=some ll/\ll.size=qs.length/\(∀v∈ll.toList,v.oneCell'=true)/\ ∀(i:Nat) (v:Value) (p:P),ll.toList[i]?=some v->qs[i]?=some p->aF F w G R v p
 | [],vals,ps,qs,cs,h,hl,_,cM,h1,h2=>by
  simp[Ej] at h;subst h;have:vals=[]:=by simpa using hl
  subst this;exact⟨cs,rfl,cM,h1,h2⟩
 | (i,p)::r,[],ps,qs,cs,h,hl,_,cM,h1,h2=>by simp at hl
 | (i,p)::r,(i0,v)::vals,ps,qs,cs,h,hl,hv,cM,h1,h2=>by
  simp only[Ej] at h;split at h
  next off k Hj=>
   split at h
   ·rename_i hc;simp only[zad] at hc;obtain⟨⟨hk,hle⟩,nx⟩:=hc;have hk:=zah hk;have hle:=zbJ hle;obtain⟨e0,hp⟩:=hv 0 (i0,v) (i,p) rfl rfl;simp only at e0 hp;subst e0;obtain⟨c1,c2,c3⟩:=xi hp nx;have hvl:v.cells.toList.length=k:=by rw[c1,hk]
    obtain⟨f1,f2⟩:=Cb off v.cells.toList 0 cs (by rw[hvl,cM];omega);have dZ:(decide (v.cells.size≠k)||decide (off+v.cells.size>cs.size))=false:=by
     have:v.cells.size=k:=by simpa using hvl
     rw[this,cM];simp;omega
    let DO:=(v.cells.toList.zipIdx 0).foldl (λ(cs:Array Value) (x:Value×Nat)=>cs.setIfInBounds (off+x.2) x.1) cs
    have ri:off+p.cells.length<=ps.length:=by rw[hk];exact hle
    have pk: ∀(j:Nat) (u:Value),DO.toList[j]?=some u->j<cs.size/\u=if off+0<=j/\j<off+0+v.cells.toList.length then v.cells.toList.getD (j-(off+0)) undef else cs.getD j undef:=λj u hu=>by
     have hj:j<DO.size:=by simpa using(zae.1 hu).1
     rw[f1] at hj;refine⟨hj,?_⟩;rw[<-f2 j];rw[zbU] at hu;simp[zaA,DO] at hu⊢;rw[hu];rfl
    have key: ∀(j:Nat) (u:Value),DO.toList[j]?=some u->u.oneCell'=true/\ ∀q,(splice ps off p.cells)[j]?=some q->aF F w G R u q:=λj u hu=>by
     obtain⟨hj,e⟩:=pk j u hu;by_cases bK:off+0<=j/\j<off+0+v.cells.toList.length
     ·rw[zaq bK] at e;have Ez:j-(off+0)<v.cells.toList.length:=by omega
      have hu2:v.cells.toList[j-off]?=some u:=by rw[e,zab];simp only[zbV] at Ez⊢;rw[zac Ez];rfl
      refine⟨c3 u (zaz hu2),λq hq=> ?_⟩;unfold splice at hq;rw[iG ps p.cells off j ri,zaq (by rw[c1] at bK;omega)] at hq;exact c2 _ u q hu2 hq
     rw[zap bK] at e;have hu2:cs.toList[j]?=some u:=by rw[e,zbU,zbN hj,zaA,zbN hj];rfl
     refine⟨h1 u (zaz hu2),λq hq=> ?_⟩;unfold splice at hq;rw[iG ps p.cells off j ri,zap (by rw[c1] at bK;omega)] at hq;exact h2 j u q hu2 hq
    obtain⟨ll,g1,g2,g3,g4⟩:=Ey r vals _ qs DO h (by simpa using hl) (λj x y hx hy=>hv (j+1) x y (by simpa using hx) (by simpa using hy)) (by show DO.size=_;unfold splice;rw[kM ps p.cells off ri];rw[<-cM];exact f1) (λu hu=>by obtain⟨j,hj⟩:=zaP hu;exact(key j u hj).1) (λj u q hu hq=>(key j u hu).2 q hq);refine⟨ll,?_,g2,g3,g4⟩;simp only[Instr.fill,Hj,dZ,zaC,zbq];rw[<-g1];congr 1;rw[<-zcT];simp[DO]
   cases h
  cases h
theorem EA{R:List (Nat×En)}{t:TypeId}{parts:List (Nat×P)}{q:P}(h:w5 Q t parts=some q){vals:Array (Nat×Value)}(hl:vals.toList.length=parts.length)
  (hv: ∀(i:Nat) x y,vals.toList[i]?=some x->parts[i]?=some y->x.1=y.1/\aF F w G R x.2 y.2): ∃v,(Instr.build t vals).run Q w= .ok v w/\aF F w G R v q:=by
 unfold w5 at h;split at h
 next fs z hu hz=>
  split at h
  next pl Hj=>
   split at h
   ·rename_i qs hq;simp only[zak] at h;subst h;obtain⟨zv,Kf,AH⟩:=L8 (F:=F) hz w;obtain⟨d1,d2,d3⟩:=dL AH;obtain⟨ll,g1,g2,g3,g4⟩:=Ey parts vals.toList _ qs zv.cells hq hl hv (by simpa using d1) (kL AH) (λi v p hi hp=>by rw[zaD] at hp;simp only[zav] at hp;obtain⟨c,hc,rfl⟩:=hp;exact .d (d3 i v c hi hc));refine⟨.agg ll,?_,?_⟩
    ·have Vo:=dn Hj w;unfold J7 at Vo;simp only[Instr.build,Sem.run_bind,Kf,run_underlying hu,Result.andThen];rw[Vo];dsimp only;rw[g1];rfl
    have:=Eo (F:=F) (w:=w) (G:=G) (R:=R) (vs:=ll.toList) (ps:=qs) (by simpa using g2) g3 g4;simpa using this
   cases h
  cases h
 cases h
end
end Pi
