/- The text PiStr. -/
import Derived.Test.YtngoddkencoalaaGreatDoorPiMap
namespace Pi
open Go
section
variable{Q:Program}{F:Nat->Prop}{G:Nat->Value}{w:World}
theorem eu{v:Value}{x:D}(h:bc F w v x):v.cells.toList.length=x.cells.length/\(∀c∈x.cells,c.bJ=true)/\(∀(i:Nat) (u:Value) (c:D),v.cells.toList[i]?=some u->x.cells[i]?=some c->bc F w u c):=by
 cases h with
 |agg vs cs hl cj hh=>exact⟨by simpa [Value.cells,D.cells] using hl,cj,λi u c hu jU=>hh i u c (by simpa [Value.cells] using hu) (by simpa [D.cells] using jU)⟩
 |_=>
  refine⟨by simp[Value.cells,D.cells],λc hc=>by simp[D.cells] at hc;subst hc;rfl,λi u c hu jU=> ?_⟩;cases i with
  |zero=>simp[Value.cells] at hu;simp[D.cells] at jU;subst hu;subst jU;first | (constructor<;>assumption)|constructor
  |succ i=>simp[D.cells] at jU
theorem lq{v:Value}{x:D}(h:bc F w v x): ∀u∈v.cells.toList,u.oneCell'=true:=by
 obtain⟨h1,h2,h3⟩:=eu h;intro u hu;obtain⟨i,hi⟩:=zaQ hu;have bG:i<x.cells.length:=by have:=(zad.1 hi).1;omega
 exact(h3 i u _ hi (zae bG)).nY (h2 _ (zas bG))
theorem pJ(x:D):(P.d x).cells=x.cells.map P.d:=by cases x<;>rfl
theorem xY{R:List (Nat×En)}{v:Value}{p:P}(h:aH F w G R v p)(hc:p.nR=true):
  v.cells.toList.length=p.cells.length/\(∀(i:Nat) (u:Value) (c:P),v.cells.toList[i]?=some u->p.cells[i]?=some c->aH F w G R u c)/\ ∀u∈v.cells.toList,u.oneCell'=true:=by
 have single:p.cells=[p]->v.oneCell'=true->v.cells.toList.length=p.cells.length/\(∀(i:Nat) (u:Value) (c:P),v.cells.toList[i]?=some u->p.cells[i]?=some c->aH F w G R u c)/\ ∀u∈v.cells.toList,u.oneCell'=true:=λhp h1=>by
  have e:v.cells= #[v]:=by cases v<;>simp_all [Value.oneCell',Value.cells]
  rw[hp,e];refine⟨rfl,λi u c hu jU=> ?_,λu hu=>by simp at hu;rw[hu];exact h1⟩;cases i with
  |zero=>simp at hu jU;subst hu;subst jU;exact h
  |succ i=>simp at jU
 cases p with
 |agg ps=>
  cases h with
  |agg vs ps hl iC hh=>exact⟨by simpa [Value.cells,P.cells] using hl,λi u c hu jU=>hh i u c (by simpa [Value.cells] using hu) (by simpa [P.cells] using jU),λu hu=>iC u (by simpa [Value.cells] using hu)⟩
 |d x=>
  cases h with
  |d hd=>obtain⟨h1,h2,h3⟩:=eu hd;refine⟨by rw[pJ];simpa using h1,λi u c hu jU=> ?_,lq hd⟩;rw[pJ,zaK] at jU;simp only[zax] at jU;obtain⟨y,hy,rfl⟩:=jU;exact .d (h3 i u y hu hy)
 |cT=>simp[P.nR,P.bJ] at hc
 |when=>simp[P.nR,P.bJ] at hc
 |bad=>simp[P.nR,P.bJ] at hc
 |_=>exact single rfl (h.nY rfl)
theorem CS(off:Nat): ∀(vs:List Value) (s0:Nat) (cs:Array Value),off+s0+vs.length<=cs.size->
  ((vs.zipIdx s0).foldl (λ(cs:Array Value) (x:Value×Nat)=>cs.setIfInBounds (off+x.2) x.1) cs).size=cs.size/\
  ∀m,((vs.zipIdx s0).foldl (λ(cs:Array Value) (x:Value×Nat)=>cs.setIfInBounds (off+x.2) x.1) cs).getD m undef=if off+s0<=m/\m<off+s0+vs.length then vs.getD (m-(off+s0)) undef else cs.getD m undef
 | [],s0,cs,_=>⟨rfl,λm=>by simp;omega⟩
 |v::vs,s0,cs,hl=>by
  simp only[zap] at hl;simp only[List.zipIdx_cons,za8];obtain⟨h1,h2⟩:=CS off vs (s0+1) (cs.setIfInBounds (off+s0) v) (by simp;omega);refine⟨by rw[h1];simp,λm=> ?_⟩;rw[h2 m];by_cases hm:m=off+s0
  ·subst hm;have bG:off+s0<cs.size:=by omega
   rw[zal (by omega),zao (by simp)];simp[Array.getD,bG]
  have e:(cs.setIfInBounds (off+s0) v).getD m undef=cs.getD m undef:=by simp only[zaD];rw[zaZ (λe=>hm e.symm)]
  rw[e];by_cases hr:off+(s0+1)<=m/\m<off+(s0+1)+vs.length
  ·rw[zao hr,zao (by simp;omega)];have e2:m-(off+s0)=(m-(off+(s0+1)))+1:=by omega
   rw[e2,List.getD_cons_succ]
  rw[zal hr,zal (by simp;omega)]
theorem lr{α:Type}(ps qs:List α)(off:Nat)(h:off+qs.length<=ps.length):(ps.take off++qs++ps.drop (off+qs.length)).length=ps.length:=by simp;omega
theorem iX{α:Type}(ps qs:List α)(off i:Nat)(h:off+qs.length<=ps.length):(ps.take off++qs++ps.drop (off+qs.length))[i]?=if off<=i/\i<off+qs.length then qs[i-off]? else ps[i]?:=by
 by_cases h1:i<off
 ·rw[za0,zaO (by simp;omega),zbg,zao h1,zal (by omega)]
 by_cases h2:i<off+qs.length
 ·rw[za0,za1 (by simp;omega),zao ⟨by omega,h2⟩];have e:i-(List.take off ps).length=i-off:=by simp;omega
  rw[e,zaO (by omega)]
 rw[za1 (by simp;omega),zal (by omega),zbx];congr 1;simp;omega
theorem ME{t:TypeId}{z:D}(hz:eF Q t=some z)(w:World): ∃zv,(zeroValue t).run Q w= .ok zv w/\bc F w zv z:=pI hz w
theorem Fe{R:List (Nat×En)}{pl:Array (Nat×Nat)}: ∀(parts:List (Nat×P)) (vals:List (Nat×Value)) (ps qs:List P) (cs:Array Value),E2 pl ps parts=some qs->vals.length=parts.length->
  (∀(i:Nat) x y,vals[i]?=some x->parts[i]?=some y->x.1=y.1/\aH F w G R x.2 y.2)->cs.size=ps.length->(∀v∈cs.toList,v.oneCell'=true)->(∀(i:Nat) (v:Value) (p:P),cs.toList[i]?=some v->ps[i]?=some p->aH F w G R v p)->
  ∃lU,Instr.fill (pl[·]?) cs vals=some lU/\lU.size=qs.length/\(∀v∈lU.toList,v.oneCell'=true)/\ ∀(i:Nat) (v:Value) (p:P),lU.toList[i]?=some v->qs[i]?=some p->aH F w G R v p
 | [],vals,ps,qs,cs,h,hl,_,dB,h1,h2=>by
  simp[E2] at h;subst h;have:vals=[]:=by simpa using hl
  subst this;exact⟨cs,rfl,dB,h1,h2⟩
 | (i,p)::r,[],ps,qs,cs,h,hl,_,dB,h1,h2=>by simp at hl
 | (i,p)::r,(i0,v)::vals,ps,qs,cs,h,hl,hv,dB,h1,h2=>by
  simp only[E2] at h;split at h
  next off k MF=>
   split at h
   ·rename_i hc;simp only[zab] at hc;obtain⟨⟨hk,hle⟩,nK⟩:=hc;have hk:=zaf hk;have hle:=zbJ hle;obtain⟨e0,hp⟩:=hv 0 (i0,v) (i,p) rfl rfl;simp only at e0 hp;subst e0;obtain⟨c1,c2,c3⟩:=xY hp nK;have Qg:v.cells.toList.length=k:=by rw[c1,hk]
    obtain⟨f1,f2⟩:=CS off v.cells.toList 0 cs (by rw[Qg,dB];omega);have fq:(decide (v.cells.size≠k)||decide (off+v.cells.size>cs.size))=false:=by
     have:v.cells.size=k:=by simpa using Qg
     rw[this,dB];simp;omega
    let ED:=(v.cells.toList.zipIdx 0).foldl (λ(cs:Array Value) (x:Value×Nat)=>cs.setIfInBounds (off+x.2) x.1) cs
    have CT:off+p.cells.length<=ps.length:=by rw[hk];exact hle
    have pK: ∀(j:Nat) (u:Value),ED.toList[j]?=some u->j<cs.size/\u=if off+0<=j/\j<off+0+v.cells.toList.length then v.cells.toList.getD (j-(off+0)) undef else cs.getD j undef:=λj u hu=>by
     have hj:j<ED.size:=by simpa using(zad.1 hu).1
     rw[f1] at hj;refine⟨hj,?_⟩;rw[<-f2 j];rw[zcD] at hu;simp[zaD,ED] at hu⊢;rw[hu];rfl
    have key: ∀(j:Nat) (u:Value),ED.toList[j]?=some u->u.oneCell'=true/\ ∀q,(splice ps off p.cells)[j]?=some q->aH F w G R u q:=λj u hu=>by
     obtain⟨hj,e⟩:=pK j u hu;by_cases aY:off+0<=j/\j<off+0+v.cells.toList.length
     ·rw[zao aY] at e;have Ff:j-(off+0)<v.cells.toList.length:=by omega
      have hu2:v.cells.toList[j-off]?=some u:=by rw[e,zac];simp only[zbR] at Ff⊢;rw[zae Ff];rfl
      refine⟨c3 u (zaC hu2),λq hq=> ?_⟩;unfold splice at hq;rw[iX ps p.cells off j CT,zao (by rw[c1] at aY;omega)] at hq;exact c2 _ u q hu2 hq
     rw[zal aY] at e;have hu2:cs.toList[j]?=some u:=by rw[e,zcD,zbK hj,zaD,zbK hj];rfl
     refine⟨h1 u (zaC hu2),λq hq=> ?_⟩;unfold splice at hq;rw[iX ps p.cells off j CT,zal (by rw[c1] at aY;omega)] at hq;exact h2 j u q hu2 hq
    obtain⟨lU,g1,g2,g3,g4⟩:=Fe r vals _ qs ED h (by simpa using hl) (λj x y hx hy=>hv (j+1) x y (by simpa using hx) (by simpa using hy)) (by show ED.size=_;unfold splice;rw[lr ps p.cells off CT];rw[<-dB];exact f1) (λu hu=>by obtain⟨j,hj⟩:=zaQ hu;exact(key j u hj).1) (λj u q hu hq=>(key j u hu).2 q hq);refine⟨lU,?_,g2,g3,g4⟩;simp only[Instr.fill,MF,fq,zaz,zbk];rw[<-g1];congr 1;rw[<-zcP];simp[ED]
   cases h
  cases h
theorem Fg{R:List (Nat×En)}{t:TypeId}{parts:List (Nat×P)}{q:P}(h:xK Q t parts=some q){vals:Array (Nat×Value)}(hl:vals.toList.length=parts.length)
  (hv: ∀(i:Nat) x y,vals.toList[i]?=some x->parts[i]?=some y->x.1=y.1/\aH F w G R x.2 y.2): ∃v,(Instr.build t vals).run Q w= .ok v w/\aH F w G R v q:=by
 unfold xK at h;split at h
 next fs z hu hz=>
  split at h
  next pl MF=>
   split at h
   ·rename_i qs hq;simp only[zam] at h;subst h;obtain⟨zv,KM,Bu⟩:=ME (F:=F) hz w;obtain⟨d1,d2,d3⟩:=eu Bu;obtain⟨lU,g1,g2,g3,g4⟩:=Fe parts vals.toList _ qs zv.cells hq hl hv (by simpa using d1) (lq Bu) (λi v p hi hp=>by rw[zaK] at hp;simp only[zax] at hp;obtain⟨c,hc,rfl⟩:=hp;exact .d (d3 i v c hi hc));refine⟨.agg lU,?_,?_⟩
    ·have VP:=dK MF w;unfold KD at VP;simp only[Instr.build,Sem.run_bind,KM,run_underlying hu,Result.andThen];rw[VP];dsimp only;rw[g1];rfl
    have:=E5 (F:=F) (w:=w) (G:=G) (R:=R) (vs:=lU.toList) (ps:=qs) (by simpa using g2) g3 g4;simpa using this
   cases h
  cases h
 cases h
end
end Pi
