/- The text PiStr. -/
import Derived.Test.YtpiohccneeblhaaPiMap
namespace Pi
open Go
section
variable{Q:Program}{F:Nat->Prop}{G:Nat->Value}{w:World}
theorem cH{v:Value}{x:D}(h:aA F w v x):v.cells.toList.length=x.cells.length/\(∀c∈x.cells,c.aI=true)/\(∀(i:Nat) (u:Value) (c:D),v.cells.toList[i]?=some u->x.cells[i]?=some c->aA F w u c):=by
 cases h with
 |agg vs cs hl aW hh=>exact⟨by simpa [Value.cells,D.cells] using hl,aW,λi u c hu fO=>hh i u c (by simpa [Value.cells] using hu) (by simpa [D.cells] using fO)⟩
 |unk _ h1=>
  have e:v.cells= #[v]:=by cases v<;>first |rfl |cases h1
  rw[e];refine⟨rfl,λc hc=>by simp[D.cells] at hc;subst hc;rfl,λi u c hu fO=> ?_⟩;cases i with
  |zero=>cases hu;cases fO;exact .unk _ h1
  |succ i=>simp[D.cells] at fO
 |_=>
  refine⟨by simp[Value.cells,D.cells],λc hc=>by simp[D.cells] at hc;subst hc;rfl,λi u c hu fO=> ?_⟩;cases i with
  |zero=>simp[Value.cells] at hu;simp[D.cells] at fO;subst hu;subst fO;first | (constructor<;>assumption)|constructor
  |succ i=>simp[D.cells] at fO
theorem gI{v:Value}{x:D}(h:aA F w v x): ∀u∈v.cells.toList,u.oneCell'=true:=by
 obtain⟨h1,h2,h3⟩:=cH h;intro u hu;obtain⟨i,hi⟩:=zao hu;have bj:i<x.cells.length:=by have:=(zaa.1 hi).1;omega
 exact(h3 i u _ hi (zac bj)).ie (h2 _ (zaX bj))
theorem kr(x:D):(P.d x).cells=x.cells.map P.d:=by cases x<;>rfl
theorem pL{R:List (Nat×En)}{v:Value}{p:P}(h:ao F w G R v p)(hc:p.ib=true):
  v.cells.toList.length=p.cells.length/\(∀(i:Nat) (u:Value) (c:P),v.cells.toList[i]?=some u->p.cells[i]?=some c->ao F w G R u c)/\ ∀u∈v.cells.toList,u.oneCell'=true:=by
 have single:p.cells=[p]->v.oneCell'=true->v.cells.toList.length=p.cells.length/\(∀(i:Nat) (u:Value) (c:P),v.cells.toList[i]?=some u->p.cells[i]?=some c->ao F w G R u c)/\ ∀u∈v.cells.toList,u.oneCell'=true:=λhp h1=>by
  have e:v.cells= #[v]:=by cases v<;>simp_all [Value.oneCell',Value.cells]
  rw[hp,e];refine⟨rfl,λi u c hu fO=> ?_,λu hu=>by simp at hu;rw[hu];exact h1⟩;cases i with
  |zero=>simp at hu fO;subst hu;subst fO;exact h
  |succ i=>simp at fO
 cases p with
 |agg ps=>
  cases h with
  |agg vs ps hl fc hh=>exact⟨by simpa [Value.cells,P.cells] using hl,λi u c hu fO=>hh i u c (by simpa [Value.cells] using hu) (by simpa [P.cells] using fO),λu hu=>fc u (by simpa [Value.cells] using hu)⟩
 |d x=>
  cases h with
  |d hd=>obtain⟨h1,h2,h3⟩:=cH hd;refine⟨by rw[kr];simpa using h1,λi u c hu fO=> ?_,gI hd⟩;rw[kr,zai] at fO;simp only[zaj] at fO;obtain⟨y,hy,rfl⟩:=fO;exact .d (h3 i u y hu hy)
 |fL=>simp[P.ib,P.aI] at hc
 |when=>simp[P.ib,P.aI] at hc
 |bad=>simp[P.ib,P.aI] at hc
 |raw=>simp[P.ib,P.aI] at hc
 |_=>exact single rfl (h.ie rfl)
theorem tJ(off:Nat): ∀(vs:List Value) (s0:Nat) (cs:Array Value),off+s0+vs.length<=cs.size->
  ((vs.zipIdx s0).foldl (λ(cs:Array Value) (x:Value×Nat)=>cs.setIfInBounds (off+x.2) x.1) cs).size=cs.size/\
  ∀m,((vs.zipIdx s0).foldl (λ(cs:Array Value) (x:Value×Nat)=>cs.setIfInBounds (off+x.2) x.1) cs).getD m undef=if off+s0<=m/\m<off+s0+vs.length then vs.getD (m-(off+s0)) undef else cs.getD m undef
 | [],s0,cs,_=>⟨rfl,λm=>by simp;omega⟩
 |v::vs,s0,cs,hl=>by
  simp only[zaF] at hl;simp only[List.zipIdx_cons,List.foldl_cons];obtain⟨h1,h2⟩:=tJ off vs (s0+1) (cs.setIfInBounds (off+s0) v) (by simp;omega);refine⟨by rw[h1];simp,λm=> ?_⟩;rw[h2 m];by_cases hm:m=off+s0
  ·subst hm;have bj:off+s0<cs.size:=by omega
   rw[zaB (by omega),zat (by simp)];simp[Array.getD,bj]
  have e:(cs.setIfInBounds (off+s0) v).getD m undef=cs.getD m undef:=by simp only[zav];rw[zaC (λe=>hm e.symm)]
  rw[e];by_cases hr:off+(s0+1)<=m/\m<off+(s0+1)+vs.length
  ·rw[zat hr,zat (by simp;omega)];have e2:m-(off+s0)=(m-(off+(s0+1)))+1:=by omega
   rw[e2,List.getD_cons_succ]
  rw[zaB hr,zaB (by simp;omega)]
theorem ff{α:Type}(ps qs:List α)(off:Nat)(h:off+qs.length<=ps.length):(ps.take off++qs++ps.drop (off+qs.length)).length=ps.length:=by simp;omega
theorem dX{α:Type}(ps qs:List α)(off i:Nat)(h:off+qs.length<=ps.length):(ps.take off++qs++ps.drop (off+qs.length))[i]?=if off<=i/\i<off+qs.length then qs[i-off]? else ps[i]?:=by
 by_cases h1:i<off
 ·rw[zbY,zaD (by simp;omega),zaS,zat h1,zaB (by omega)]
 by_cases h2:i<off+qs.length
 ·rw[zbY,zaG (by simp;omega),zat ⟨by omega,h2⟩];have e:i-(List.take off ps).length=i-off:=by simp;omega
  rw[e,zaD (by omega)]
 rw[zaG (by simp;omega),zaB (by omega),za4];congr 1;simp;omega
theorem Aa{t:TypeId}{z:D}(hz:cQ Q t=some z)(w:World): ∃zv,(zeroValue t).run Q w= .ok zv w/\aA F w zv z:=kq hz w
theorem vE{R:List (Nat×En)}{pl:Array (Nat×Nat)}: ∀(parts:List (Nat×P)) (vals:List (Nat×Value)) (ps qs:List P) (cs:Array Value),vj pl ps parts=some qs->vals.length=parts.length->
  (∀(i:Nat) x y,vals[i]?=some x->parts[i]?=some y->x.1=y.1/\ao F w G R x.2 y.2)->cs.size=ps.length->(∀v∈cs.toList,v.oneCell'=true)->(∀(i:Nat) (v:Value) (p:P),cs.toList[i]?=some v->ps[i]?=some p->ao F w G R v p)->
  ∃jd,Instr.fill (pl[·]?) cs vals=some jd/\jd.size=qs.length/\(∀v∈jd.toList,v.oneCell'=true)/\ ∀(i:Nat) (v:Value) (p:P),jd.toList[i]?=some v->qs[i]?=some p->ao F w G R v p
 | [],vals,ps,qs,cs,h,hl,_,cp,h1,h2=>by
  simp[vj] at h;subst h;have:vals=[]:=by simpa using hl
  subst this;exact⟨cs,rfl,cp,h1,h2⟩
 | (i,p)::r,[],ps,qs,cs,h,hl,_,cp,h1,h2=>by simp at hl
 | (i,p)::r,(i0,v)::vals,ps,qs,cs,h,hl,hv,cp,h1,h2=>by
  simp only[vj] at h;split at h
  next off k Is=>
   split at h
   ·rename_i hc;simp only[zad] at hc;obtain⟨⟨hk,hle⟩,fK⟩:=hc;have hk:=zab hk;have hle:=zbu hle;obtain⟨e0,hp⟩:=hv 0 (i0,v) (i,p) rfl rfl;simp only at e0 hp;subst e0;obtain⟨c1,c2,c3⟩:=pL hp fK;have Lf:v.cells.toList.length=k:=by rw[c1,hk]
    obtain⟨f1,f2⟩:=tJ off v.cells.toList 0 cs (by rw[Lf,cp];omega);have cv:(decide (v.cells.size≠k)||decide (off+v.cells.size>cs.size))=false:=by
     have:v.cells.size=k:=by simpa using Lf
     rw[this,cp];simp;omega
    let uV:=(v.cells.toList.zipIdx 0).foldl (λ(cs:Array Value) (x:Value×Nat)=>cs.setIfInBounds (off+x.2) x.1) cs
    have xK:off+p.cells.length<=ps.length:=by rw[hk];exact hle
    have lr: ∀(j:Nat) (u:Value),uV.toList[j]?=some u->j<cs.size/\u=if off+0<=j/\j<off+0+v.cells.toList.length then v.cells.toList.getD (j-(off+0)) undef else cs.getD j undef:=λj u hu=>by
     have hj:j<uV.size:=by simpa using(zaa.1 hu).1
     rw[f1] at hj;refine⟨hj,?_⟩;rw[<-f2 j];rw[zbI] at hu;simp[zav,uV] at hu⊢;rw[hu];rfl
    have key: ∀(j:Nat) (u:Value),uV.toList[j]?=some u->u.oneCell'=true/\ ∀q,(splice ps off p.cells)[j]?=some q->ao F w G R u q:=λj u hu=>by
     obtain⟨hj,e⟩:=lr j u hu;by_cases GZ:off+0<=j/\j<off+0+v.cells.toList.length
     ·rw[zat GZ] at e;have yY:j-(off+0)<v.cells.toList.length:=by omega
      have JB:v.cells.toList[j-off]?=some u:=by rw[e,zaq];simp only[zbJ] at yY⊢;rw[zac yY];rfl
      refine⟨c3 u (zak JB),λq hq=> ?_⟩;unfold splice at hq;rw[dX ps p.cells off j xK,zat (by rw[c1] at GZ;omega)] at hq;exact c2 _ u q JB hq
     rw[zaB GZ] at e;have JB:cs.toList[j]?=some u:=by rw[e,zbI,zba hj,zav,zba hj];rfl
     refine⟨h1 u (zak JB),λq hq=> ?_⟩;unfold splice at hq;rw[dX ps p.cells off j xK,zaB (by rw[c1] at GZ;omega)] at hq;exact h2 j u q JB hq
    obtain⟨jd,g1,g2,g3,g4⟩:=vE r vals _ qs uV h (by simpa using hl) (λj x y hx hy=>hv (j+1) x y (by simpa using hx) (by simpa using hy)) (by show uV.size=_;unfold splice;rw[ff ps p.cells off xK];rw[<-cp];exact f1) (λu hu=>by obtain⟨j,hj⟩:=zao hu;exact(key j u hj).1) (λj u q hu hq=>(key j u hu).2 q hq);refine⟨jd,?_,g2,g3,g4⟩;simp only[Instr.fill,Is,cv,zar,za3];rw[<-g1];congr 1;rw[<-zcl];simp[uV]
   cases h
  cases h
theorem vF{R:List (Nat×En)}{t:TypeId}{parts:List (Nat×P)}{q:P}(h:pw Q t parts=some q){vals:Array (Nat×Value)}(hl:vals.toList.length=parts.length)
  (hv: ∀(i:Nat) x y,vals.toList[i]?=some x->parts[i]?=some y->x.1=y.1/\ao F w G R x.2 y.2): ∃v,(Instr.build t vals).run Q w= .ok v w/\ao F w G R v q:=by
 unfold pw at h;split at h
 next fs z hu hz=>
  split at h
  next pl Is=>
   split at h
   ·rename_i qs hq;simp only[zaf] at h;subst h;obtain⟨zv,xI,qW⟩:=Aa (F:=F) hz w;obtain⟨d1,d2,d3⟩:=cH qW;obtain⟨jd,g1,g2,g3,g4⟩:=vE parts vals.toList _ qs zv.cells hq hl hv (by simpa using d1) (gI qW) (λi v p hi hp=>by rw[zai] at hp;simp only[zaj] at hp;obtain⟨c,hc,rfl⟩:=hp;exact .d (d3 i v c hi hc));refine⟨.agg jd,?_,?_⟩
    ·have yZ:=bn Is w;unfold yM at yZ;simp only[Instr.build,Sem.run_bind,xI,run_underlying hu,Result.andThen];rw[yZ];dsimp only;rw[g1];rfl
    have:=vq (F:=F) (w:=w) (G:=G) (R:=R) (vs:=jd.toList) (ps:=qs) (by simpa using g2) g3 g4;simpa using this
   cases h
  cases h
 cases h
end
end Pi
