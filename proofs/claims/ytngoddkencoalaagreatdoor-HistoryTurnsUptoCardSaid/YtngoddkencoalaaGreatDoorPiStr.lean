/- The text PiStr. -/
import Derived.Test.YtngoddkencoalaaGreatDoorPiMap
namespace Pi
open Go
section
variable{Q:Program}{F:Nat->Prop}{G:Nat->Value}{w:World}
theorem ec{v:Value}{x:D}(h:aS F w v x):v.cells.toList.length=x.cells.length/\(∀c∈x.cells,c.bA=true)/\(∀(i:Nat) (u:Value) (c:D),v.cells.toList[i]?=some u->x.cells[i]?=some c->aS F w u c):=by
 cases h with
 |agg vs cs hl bR hh=>exact⟨by simpa [Value.cells,D.cells] using hl,bR,λi u c hu l7=>hh i u c (by simpa [Value.cells] using hu) (by simpa [D.cells] using l7)⟩
 |_=>
  refine⟨by simp[Value.cells,D.cells],λc hc=>by simp[D.cells] at hc;subst hc;rfl,λi u c hu l7=> ?_⟩;cases i with
  |zero=>simp[Value.cells] at hu;simp[D.cells] at l7;subst hu;subst l7;first | (constructor<;>assumption)|constructor
  |succ i=>simp[D.cells] at l7
theorem ly{v:Value}{x:D}(h:aS F w v x): ∀u∈v.cells.toList,u.oneCell'=true:=by
 obtain⟨h1,h2,h3⟩:=ec h;intro u hu;obtain⟨i,hi⟩:=zaX hu;have bJ:i<x.cells.length:=by have:=(zaf.1 hi).1;omega
 exact(h3 i u _ hi (zac bJ)).oD (h2 _ (zaq bJ))
theorem ql(x:D):(P.d x).cells=x.cells.map P.d:=by cases x<;>rfl
theorem yK{R:List (Nat×En)}{v:Value}{p:P}(h:aH F w G R v p)(hc:p.ot=true):
  v.cells.toList.length=p.cells.length/\(∀(i:Nat) (u:Value) (c:P),v.cells.toList[i]?=some u->p.cells[i]?=some c->aH F w G R u c)/\ ∀u∈v.cells.toList,u.oneCell'=true:=by
 have single:p.cells=[p]->v.oneCell'=true->v.cells.toList.length=p.cells.length/\(∀(i:Nat) (u:Value) (c:P),v.cells.toList[i]?=some u->p.cells[i]?=some c->aH F w G R u c)/\ ∀u∈v.cells.toList,u.oneCell'=true:=λhp h1=>by
  have e:v.cells= #[v]:=by cases v<;>simp_all [Value.oneCell',Value.cells]
  rw[hp,e];refine⟨rfl,λi u c hu l7=> ?_,λu hu=>by simp at hu;rw[hu];exact h1⟩;cases i with
  |zero=>simp at hu l7;subst hu;subst l7;exact h
  |succ i=>simp at l7
 cases p with
 |agg ps=>
  cases h with
  |agg vs ps hl iF hh=>exact⟨by simpa [Value.cells,P.cells] using hl,λi u c hu l7=>hh i u c (by simpa [Value.cells] using hu) (by simpa [P.cells] using l7),λu hu=>iF u (by simpa [Value.cells] using hu)⟩
 |d x=>
  cases h with
  |d hd=>obtain⟨h1,h2,h3⟩:=ec hd;refine⟨by rw[ql];simpa using h1,λi u c hu l7=> ?_,ly hd⟩;rw[ql,zaD] at l7;simp only[zax] at l7;obtain⟨y,hy,rfl⟩:=l7;exact .d (h3 i u y hu hy)
 |cH=>simp[P.ot,P.bA] at hc
 |when=>simp[P.ot,P.bA] at hc
 |bad=>simp[P.ot,P.bA] at hc
 |_=>exact single rfl (h.oD rfl)
theorem DU(off:Nat): ∀(vs:List Value) (s0:Nat) (cs:Array Value),off+s0+vs.length<=cs.size->
  ((vs.zipIdx s0).foldl (λ(cs:Array Value) (x:Value×Nat)=>cs.setIfInBounds (off+x.2) x.1) cs).size=cs.size/\
  ∀m,((vs.zipIdx s0).foldl (λ(cs:Array Value) (x:Value×Nat)=>cs.setIfInBounds (off+x.2) x.1) cs).getD m undef=if off+s0<=m/\m<off+s0+vs.length then vs.getD (m-(off+s0)) undef else cs.getD m undef
 | [],s0,cs,_=>⟨rfl,λm=>by simp;omega⟩
 |v::vs,s0,cs,hl=>by
  simp only[zao] at hl;simp only[List.zipIdx_cons,zaU];obtain⟨h1,h2⟩:=DU off vs (s0+1) (cs.setIfInBounds (off+s0) v) (by simp;omega);refine⟨by rw[h1];simp,λm=> ?_⟩;rw[h2 m];by_cases hm:m=off+s0
  ·subst hm;have bJ:off+s0<cs.size:=by omega
   rw[zan (by omega),zap (by simp)];simp[Array.getD,bJ]
  have e:(cs.setIfInBounds (off+s0) v).getD m undef=cs.getD m undef:=by simp only[zaI];rw[za5 (λe=>hm e.symm)]
  rw[e];by_cases hr:off+(s0+1)<=m/\m<off+(s0+1)+vs.length
  ·rw[zap hr,zap (by simp;omega)];have e2:m-(off+s0)=(m-(off+(s0+1)))+1:=by omega
   rw[e2,List.getD_cons_succ]
  rw[zan hr,zan (by simp;omega)]
theorem lz{α:Type}(ps qs:List α)(off:Nat)(h:off+qs.length<=ps.length):(ps.take off++qs++ps.drop (off+qs.length)).length=ps.length:=by simp;omega
theorem iZ{α:Type}(ps qs:List α)(off i:Nat)(h:off+qs.length<=ps.length):(ps.take off++qs++ps.drop (off+qs.length))[i]?=if off<=i/\i<off+qs.length then qs[i-off]? else ps[i]?:=by
 by_cases h1:i<off
 ·rw[zaM,zaR (by simp;omega),zbD,zap h1,zan (by omega)]
 by_cases h2:i<off+qs.length
 ·rw[zaM,za2 (by simp;omega),zap ⟨by omega,h2⟩];have e:i-(List.take off ps).length=i-off:=by simp;omega
  rw[e,zaR (by omega)]
 rw[za2 (by simp;omega),zan (by omega),zbY];congr 1;simp;omega
theorem OA{t:TypeId}{z:D}(hz:ez Q t=some z)(w:World): ∃zv,(zeroValue t).run Q w= .ok zv w/\aS F w zv z:=qk hz w
theorem GF{R:List (Nat×En)}{pl:Array (Nat×Nat)}: ∀(parts:List (Nat×P)) (vals:List (Nat×Value)) (ps qs:List P) (cs:Array Value),Gt pl ps parts=some qs->vals.length=parts.length->
  (∀(i:Nat) x y,vals[i]?=some x->parts[i]?=some y->x.1=y.1/\aH F w G R x.2 y.2)->cs.size=ps.length->(∀v∈cs.toList,v.oneCell'=true)->(∀(i:Nat) (v:Value) (p:P),cs.toList[i]?=some v->ps[i]?=some p->aH F w G R v p)->
  ∃kV,Instr.fill (pl[·]?) cs vals=some kV/\kV.size=qs.length/\(∀v∈kV.toList,v.oneCell'=true)/\ ∀(i:Nat) (v:Value) (p:P),kV.toList[i]?=some v->qs[i]?=some p->aH F w G R v p
 | [],vals,ps,qs,cs,h,hl,_,dN,h1,h2=>by
  simp[Gt] at h;subst h;have:vals=[]:=by simpa using hl
  subst this;exact⟨cs,rfl,dN,h1,h2⟩
 | (i,p)::r,[],ps,qs,cs,h,hl,_,dN,h1,h2=>by simp at hl
 | (i,p)::r,(i0,v)::vals,ps,qs,cs,h,hl,hv,dN,h1,h2=>by
  simp only[Gt] at h;split at h
  next off k DV=>
   split at h
   ·rename_i hc;simp only[zab] at hc;obtain⟨⟨hk,hle⟩,my⟩:=hc;have hk:=zag hk;have hle:=zbO hle;obtain⟨e0,hp⟩:=hv 0 (i0,v) (i,p) rfl rfl;simp only at e0 hp;subst e0;obtain⟨c1,c2,c3⟩:=yK hp my;have hvl:v.cells.toList.length=k:=by rw[c1,hk]
    obtain⟨f1,f2⟩:=DU off v.cells.toList 0 cs (by rw[hvl,dN];omega);have eP:(decide (v.cells.size≠k)||decide (off+v.cells.size>cs.size))=false:=by
     have:v.cells.size=k:=by simpa using hvl
     rw[this,dN];simp;omega
    let FP:=(v.cells.toList.zipIdx 0).foldl (λ(cs:Array Value) (x:Value×Nat)=>cs.setIfInBounds (off+x.2) x.1) cs
    have DW:off+p.cells.length<=ps.length:=by rw[hk];exact hle
    have oE: ∀(j:Nat) (u:Value),FP.toList[j]?=some u->j<cs.size/\u=if off+0<=j/\j<off+0+v.cells.toList.length then v.cells.toList.getD (j-(off+0)) undef else cs.getD j undef:=λj u hu=>by
     have hj:j<FP.size:=by simpa using(zaf.1 hu).1
     rw[f1] at hj;refine⟨hj,?_⟩;rw[<-f2 j];rw[zcO] at hu;simp[zaI,FP] at hu⊢;rw[hu];rfl
    have key: ∀(j:Nat) (u:Value),FP.toList[j]?=some u->u.oneCell'=true/\ ∀q,(splice ps off p.cells)[j]?=some q->aH F w G R u q:=λj u hu=>by
     obtain⟨hj,e⟩:=oE j u hu;by_cases aQ:off+0<=j/\j<off+0+v.cells.toList.length
     ·rw[zap aQ] at e;have GG:j-(off+0)<v.cells.toList.length:=by omega
      have hu2:v.cells.toList[j-off]?=some u:=by rw[e,zad];simp only[zb0] at GG⊢;rw[zac GG];rfl
      refine⟨c3 u (zaC hu2),λq hq=> ?_⟩;unfold splice at hq;rw[iZ ps p.cells off j DW,zap (by rw[c1] at aQ;omega)] at hq;exact c2 _ u q hu2 hq
     rw[zan aQ] at e;have hu2:cs.toList[j]?=some u:=by rw[e,zcO,zbQ hj,zaI,zbQ hj];rfl
     refine⟨h1 u (zaC hu2),λq hq=> ?_⟩;unfold splice at hq;rw[iZ ps p.cells off j DW,zan (by rw[c1] at aQ;omega)] at hq;exact h2 j u q hu2 hq
    obtain⟨kV,g1,g2,g3,g4⟩:=GF r vals _ qs FP h (by simpa using hl) (λj x y hx hy=>hv (j+1) x y (by simpa using hx) (by simpa using hy)) (by show FP.size=_;unfold splice;rw[lz ps p.cells off DW];rw[<-dN];exact f1) (λu hu=>by obtain⟨j,hj⟩:=zaX hu;exact(key j u hj).1) (λj u q hu hq=>(key j u hu).2 q hq);refine⟨kV,?_,g2,g3,g4⟩;simp only[Instr.fill,DV,eP,zaK,zbt];rw[<-g1];congr 1;rw[<-zc2];simp[FP]
   cases h
  cases h
theorem GH{R:List (Nat×En)}{t:TypeId}{parts:List (Nat×P)}{q:P}(h:yw Q t parts=some q){vals:Array (Nat×Value)}(hl:vals.toList.length=parts.length)
  (hv: ∀(i:Nat) x y,vals.toList[i]?=some x->parts[i]?=some y->x.1=y.1/\aH F w G R x.2 y.2): ∃v,(Instr.build t vals).run Q w= .ok v w/\aH F w G R v q:=by
 unfold yw at h;split at h
 next fs z hu hz=>
  split at h
  next pl DV=>
   split at h
   ·rename_i qs hq;simp only[zam] at h;subst h;obtain⟨zv,Mn,Cr⟩:=OA (F:=F) hz w;obtain⟨d1,d2,d3⟩:=ec Cr;obtain⟨kV,g1,g2,g3,g4⟩:=GF parts vals.toList _ qs zv.cells hq hl hv (by simpa using d1) (ly Cr) (λi v p hi hp=>by rw[zaD] at hp;simp only[zax] at hp;obtain⟨c,hc,rfl⟩:=hp;exact .d (d3 i v c hi hc));refine⟨.agg kV,?_,?_⟩
    ·have Ya:=dH DV w;unfold Mf at Ya;simp only[Instr.build,Sem.run_bind,Mn,run_underlying hu,Result.andThen];rw[Ya];dsimp only;rw[g1];rfl
    have:=Gw (F:=F) (w:=w) (G:=G) (R:=R) (vs:=kV.toList) (ps:=qs) (by simpa using g2) g3 g4;simpa using this
   cases h
  cases h
 cases h
end
end Pi
