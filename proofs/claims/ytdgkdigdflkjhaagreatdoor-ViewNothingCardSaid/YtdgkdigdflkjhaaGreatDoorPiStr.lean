/- The text PiStr. -/
import Derived.Test.YtdgkdigdflkjhaaGreatDoorPiMap
namespace Pi
open Go
section
variable{Q:Program}{F:Nat->Prop}{G:Nat->Value}{w:World}
theorem eB{v x}(h:aY F w v x):v.cells.toList.length=x.cells.length/\(∀c∈x.cells,c.bL=true)/\(∀(i:Nat) (u:Value) (c:D),v.cells.toList[i]?=some u->x.cells[i]?=some c->aY F w u c):=by
 cases h with
 |agg vs cs hl cm hh=>exact⟨by simpa [Value.cells,D.cells] using hl,cm,λi u c hu lF=>hh i u c (by simpa [Value.cells] using hu) (by simpa [D.cells] using lF)⟩
 |_=>
  refine⟨by simp[Value.cells,D.cells],λc hc=>by simp[D.cells] at hc;subst hc;rfl,λi u c hu lF=> ?_⟩;cases i with
  |zero=>simp[Value.cells] at hu;simp[D.cells] at lF;subst hu;subst lF;first | (constructor<;>assumption)|constructor
  |succ i=>simp[D.cells] at lF
theorem lK{v x}(h:aY F w v x): ∀u∈v.cells.toList,u.oneCell'=true:=by
 obtain⟨h1,h2,h3⟩:=eB h;intro u hu;obtain⟨i,hi⟩:=zaV hu;have bK:i<x.cells.length:=by have:=(zae.1 hi).1;omega
 exact(h3 i u _ hi (zad bK)).o5 (h2 _ (zas bK))
theorem qD x:(P.d x).cells=x.cells.map P.d:=by cases x<;>rfl
theorem zI{R v p}(h:aH F w G R v p)(hc:p.oU=true):
  v.cells.toList.length=p.cells.length/\(∀(i:Nat) (u:Value) (c:P),v.cells.toList[i]?=some u->p.cells[i]?=some c->aH F w G R u c)/\ ∀u∈v.cells.toList,u.oneCell'=true:=by
 have single:p.cells=[p]->v.oneCell'=true->v.cells.toList.length=p.cells.length/\(∀(i:Nat) (u:Value) (c:P),v.cells.toList[i]?=some u->p.cells[i]?=some c->aH F w G R u c)/\ ∀u∈v.cells.toList,u.oneCell'=true:=λhp h1=>by
  have e:v.cells= #[v]:=by cases v<;>simp_all [Value.oneCell',Value.cells]
  rw[hp,e];refine⟨rfl,λi u c hu lF=> ?_,λu hu=>by simp at hu;rw[hu];exact h1⟩;cases i with
  |zero=>simp at hu lF;subst hu;subst lF;exact h
  |succ i=>simp at lF
 cases p with
 |agg ps=>
  cases h with
  |agg vs ps hl jk hh=>exact⟨by simpa [Value.cells,P.cells] using hl,λi u c hu lF=>hh i u c (by simpa [Value.cells] using hu) (by simpa [P.cells] using lF),λu hu=>jk u (by simpa [Value.cells] using hu)⟩
 |d x=>
  cases h with
  |d hd=>obtain⟨h1,h2,h3⟩:=eB hd;refine⟨by rw[qD];simpa using h1,λi u c hu lF=> ?_,lK hd⟩;rw[qD,zaN] at lF;simp only[zay] at lF;obtain⟨y,hy,rfl⟩:=lF;exact .d (h3 i u y hu hy)
 |dz=>simp[P.oU,P.bL] at hc
 |when=>simp[P.oU,P.bL] at hc
 |bad=>simp[P.oU,P.bL] at hc
 |_=>exact single rfl (h.o5 rfl)
theorem E7 off: ∀(vs:List Value) (s0:Nat) (cs:Array Value),off+s0+vs.length<=cs.size->
  ((vs.zipIdx s0).foldl (λcs x=>cs.setIfInBounds (off+x.2) x.1) cs).size=cs.size/\
  ∀m,((vs.zipIdx s0).foldl (λcs x=>cs.setIfInBounds (off+x.2) x.1) cs).getD m undef=if off+s0<=m/\m<off+s0+vs.length then vs.getD (m-(off+s0)) undef else cs.getD m undef
 | [],s0,cs,_=>⟨rfl,λm=>by simp;omega⟩
 |v::vs,s0,cs,hl=>by
  simp only[zao] at hl;simp only[List.zipIdx_cons,zaO];obtain⟨h1,h2⟩:=E7 off vs (s0+1) (cs.setIfInBounds (off+s0) v) (by simp;omega);refine⟨by rw[h1];simp,λm=> ?_⟩;rw[h2 m];by_cases hm:m=off+s0
  ·subst hm;have bK:off+s0<cs.size:=by omega
   rw[zan (by omega),zap (by simp)];simp[Array.getD,bK]
  have e:(cs.setIfInBounds (off+s0) v).getD m undef=cs.getD m undef:=by simp only[zaF];rw[zaX (λe=>hm e.symm)]
  rw[e];by_cases hr:off+(s0+1)<=m/\m<off+(s0+1)+vs.length
  ·rw[zap hr,zap (by simp;omega)];have e2:m-(off+s0)=(m-(off+(s0+1)))+1:=by omega
   rw[e2,List.getD_cons_succ]
  rw[zan hr,zan (by simp;omega)]
theorem lL{α:Type}(ps qs:List α) off (h:off+qs.length<=ps.length):(ps.take off++qs++ps.drop (off+qs.length)).length=ps.length:=by simp;omega
theorem jn{α:Type}(ps qs:List α) off i (h:off+qs.length<=ps.length):(ps.take off++qs++ps.drop (off+qs.length))[i]?=if off<=i/\i<off+qs.length then qs[i-off]? else ps[i]?:=by
 by_cases h1:i<off
 ·rw[zaK,zaT (by simp;omega),zbK,zap h1,zan (by omega)]
 by_cases h2:i<off+qs.length
 ·rw[zaK,za7 (by simp;omega),zap ⟨by omega,h2⟩];have e:i-(List.take off ps).length=i-off:=by simp;omega
  rw[e,zaT (by omega)]
 rw[za7 (by simp;omega),zan (by omega),zch];congr 1;simp;omega
theorem Ql{t z}(hz:eK Q t=some z) w: ∃zv,(zeroValue t).run Q w= .ok zv w/\aY F w zv z:=qC hz w
theorem H2{R pl}: ∀parts vals ps qs cs,HR pl ps parts=some qs->vals.length=parts.length->
  (∀(i:Nat) x y,vals[i]?=some x->parts[i]?=some y->x.1=y.1/\aH F w G R x.2 y.2)->cs.size=ps.length->(∀v∈cs.toList,v.oneCell'=true)->(∀(i:Nat) (v:Value) (p:P),cs.toList[i]?=some v->ps[i]?=some p->aH F w G R v p)->
  ∃mA,Instr.fill (pl[·]?) cs vals=some mA/\mA.size=qs.length/\(∀v∈mA.toList,v.oneCell'=true)/\ ∀(i:Nat) (v:Value) (p:P),mA.toList[i]?=some v->qs[i]?=some p->aH F w G R v p
 | [],vals,ps,qs,cs,h,hl,_,dS,h1,h2=>by
  simp[HR] at h;subst h;have:vals=[]:=by simpa using hl
  subst this;exact⟨cs,rfl,dS,h1,h2⟩
 | (i,p)::r,[],ps,qs,cs,h,hl,_,dS,h1,h2=>by simp at hl
 | (i,p)::r,(i0,v)::vals,ps,qs,cs,h,hl,hv,dS,h1,h2=>by
  simp only[HR] at h;split at h
  next off k Qm=>
   split at h
   ·rename_i hc;simp only[zac] at hc;obtain⟨⟨hk,hle⟩,oc⟩:=hc;have hk:=zag hk;have hle:=zbL hle;obtain⟨e0,hp⟩:=hv 0 (i0,v) (i,p) rfl rfl;simp only at e0 hp;subst e0;obtain⟨c1,c2,c3⟩:=zI hp oc;have hvl:v.cells.toList.length=k:=by rw[c1,hk]
    obtain⟨f1,f2⟩:=E7 off v.cells.toList 0 cs (by rw[hvl,dS];omega);have fy:(decide (v.cells.size≠k)||decide (off+v.cells.size>cs.size))=false:=by
     have:v.cells.size=k:=by simpa using hvl
     rw[this,dS];simp;omega
    let Hf:=(v.cells.toList.zipIdx 0).foldl (λ(cs:Array Value) (x:Value×Nat)=>cs.setIfInBounds (off+x.2) x.1) cs
    have E8:off+p.cells.length<=ps.length:=by rw[hk];exact hle
    have qE: ∀(j:Nat) (u:Value),Hf.toList[j]?=some u->j<cs.size/\u=if off+0<=j/\j<off+0+v.cells.toList.length then v.cells.toList.getD (j-(off+0)) undef else cs.getD j undef:=λj u hu=>by
     have hj:j<Hf.size:=by simpa using(zae.1 hu).1
     rw[f1] at hj;refine⟨hj,?_⟩;rw[<-f2 j];rw[zcn] at hu;simp[zaF,Hf] at hu⊢;rw[hu];rfl
    have key: ∀(j:Nat) (u:Value),Hf.toList[j]?=some u->u.oneCell'=true/\ ∀q,(splice ps off p.cells)[j]?=some q->aH F w G R u q:=λj u hu=>by
     obtain⟨hj,e⟩:=qE j u hu;by_cases bs:off+0<=j/\j<off+0+v.cells.toList.length
     ·rw[zap bs] at e;have E9:j-(off+0)<v.cells.toList.length:=by omega
      have hu2:v.cells.toList[j-off]?=some u:=by rw[e,zab];simp only[zb1] at E9⊢;rw[zad E9];rfl
      refine⟨c3 u (zaA hu2),λq hq=> ?_⟩;unfold splice at hq;rw[jn ps p.cells off j E8,zap (by rw[c1] at bs;omega)] at hq;exact c2 _ u q hu2 hq
     rw[zan bs] at e;have hu2:cs.toList[j]?=some u:=by rw[e,zcn,zbN hj,zaF,zbN hj];rfl
     refine⟨h1 u (zaA hu2),λq hq=> ?_⟩;unfold splice at hq;rw[jn ps p.cells off j E8,zan (by rw[c1] at bs;omega)] at hq;exact h2 j u q hu2 hq
    obtain⟨mA,g1,g2,g3,g4⟩:=H2 r vals _ qs Hf h (by simpa using hl) (λj x y hx hy=>hv (j+1) x y (by simpa using hx) (by simpa using hy)) (by show Hf.size=_;unfold splice;rw[lL ps p.cells off E8];rw[<-dS];exact f1) (λu hu=>by obtain⟨j,hj⟩:=zaV hu;exact(key j u hj).1) (λj u q hu hq=>(key j u hu).2 q hq);refine⟨mA,?_,g2,g3,g4⟩;simp only[Instr.fill,Qm,fy,zaE,zbn];rw[<-g1];congr 1;rw[<-zc7];simp[Hf]
   cases h
  cases h
theorem H3{R t parts q}(h:zr Q t parts=some q){vals}(hl:vals.toList.length=parts.length)
  (hv: ∀(i:Nat) x y,vals.toList[i]?=some x->parts[i]?=some y->x.1=y.1/\aH F w G R x.2 y.2): ∃v,(Instr.build t vals).run Q w= .ok v w/\aH F w G R v q:=by
 unfold zr at h;split at h
 next fs z hu hz=>
  split at h
  next pl Qm=>
   split at h
   ·rename_i qs hq;simp only[zam] at h;subst h;obtain⟨zv,NI,Dt⟩:=Ql (F:=F) hz w;obtain⟨d1,d2,d3⟩:=eB Dt;obtain⟨mA,g1,g2,g3,g4⟩:=H2 parts vals.toList _ qs zv.cells hq hl hv (by simpa using d1) (lK Dt) (λi v p hi hp=>by rw[zaN] at hp;simp only[zay] at hp;obtain⟨c,hc,rfl⟩:=hp;exact .d (d3 i v c hi hc));refine⟨.agg mA,?_,?_⟩
    ·have hpr:=db Qm w;unfold Nz at hpr;simp only[Instr.build,Sem.run_bind,NI,run_underlying hu,Result.andThen];rw[hpr];dsimp only;rw[g1];rfl
    have:=HU (F:=F) (w:=w) (G:=G) (R:=R) (vs:=mA.toList) (ps:=qs) (by simpa using g2) g3 g4;simpa using this
   cases h
  cases h
 cases h
end
end Pi
