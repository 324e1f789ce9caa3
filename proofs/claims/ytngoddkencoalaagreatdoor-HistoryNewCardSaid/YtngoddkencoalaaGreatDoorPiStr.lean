/- The text PiStr. -/
import Derived.Test.YtngoddkencoalaaGreatDoorPiMap
namespace Pi
open Go
section
variable{Q:Program}{F:Nat->Prop}{G:Nat->Value}{w:World}
theorem dY{v:Value}{x:D}(h:a8 F w v x):v.cells.toList.length=x.cells.length/\(∀c∈x.cells,c.bF=true)/\(∀(i:Nat) (u:Value) (c:D),v.cells.toList[i]?=some u->x.cells[i]?=some c->a8 F w u c):=by
 cases h with
 |agg vs cs hl cc hh=>exact⟨by simpa [Value.cells,D.cells] using hl,cc,λi u c hu jI=>hh i u c (by simpa [Value.cells] using hu) (by simpa [D.cells] using jI)⟩
 |_=>
  refine⟨by simp[Value.cells,D.cells],λc hc=>by simp[D.cells] at hc;subst hc;rfl,λi u c hu jI=> ?_⟩;cases i with
  |zero=>simp[Value.cells] at hu;simp[D.cells] at jI;subst hu;subst jI;first | (constructor<;>assumption)|constructor
  |succ i=>simp[D.cells] at jI
theorem kP{v:Value}{x:D}(h:a8 F w v x): ∀u∈v.cells.toList,u.oneCell'=true:=by
 obtain⟨h1,h2,h3⟩:=dY h;intro u hu;obtain⟨i,hi⟩:=zaS hu;have bI:i<x.cells.length:=by have:=(zad.1 hi).1;omega
 exact(h3 i u _ hi (zae bI)).nA (h2 _ (zas bI))
theorem o9(x:D):(P.d x).cells=x.cells.map P.d:=by cases x<;>rfl
theorem xh{R:List (Nat×En)}{v:Value}{p:P}(h:aF F w G R v p)(hc:p.nt=true):
  v.cells.toList.length=p.cells.length/\(∀(i:Nat) (u:Value) (c:P),v.cells.toList[i]?=some u->p.cells[i]?=some c->aF F w G R u c)/\ ∀u∈v.cells.toList,u.oneCell'=true:=by
 have single:p.cells=[p]->v.oneCell'=true->v.cells.toList.length=p.cells.length/\(∀(i:Nat) (u:Value) (c:P),v.cells.toList[i]?=some u->p.cells[i]?=some c->aF F w G R u c)/\ ∀u∈v.cells.toList,u.oneCell'=true:=λhp h1=>by
  have e:v.cells= #[v]:=by cases v<;>simp_all [Value.oneCell',Value.cells]
  rw[hp,e];refine⟨rfl,λi u c hu jI=> ?_,λu hu=>by simp at hu;rw[hu];exact h1⟩;cases i with
  |zero=>simp at hu jI;subst hu;subst jI;exact h
  |succ i=>simp at jI
 cases p with
 |agg ps=>
  cases h with
  |agg vs ps hl im hh=>exact⟨by simpa [Value.cells,P.cells] using hl,λi u c hu jI=>hh i u c (by simpa [Value.cells] using hu) (by simpa [P.cells] using jI),λu hu=>im u (by simpa [Value.cells] using hu)⟩
 |d x=>
  cases h with
  |d hd=>obtain⟨h1,h2,h3⟩:=dY hd;refine⟨by rw[o9];simpa using h1,λi u c hu jI=> ?_,kP hd⟩;rw[o9,zaJ] at jI;simp only[zaw] at jI;obtain⟨y,hy,rfl⟩:=jI;exact .d (h3 i u y hu hy)
 |cX=>simp[P.nt,P.bF] at hc
 |when=>simp[P.nt,P.bF] at hc
 |bad=>simp[P.nt,P.bF] at hc
 |_=>exact single rfl (h.nA rfl)
theorem Cg(off:Nat): ∀(vs:List Value) (s0:Nat) (cs:Array Value),off+s0+vs.length<=cs.size->
  ((vs.zipIdx s0).foldl (λ(cs:Array Value) (x:Value×Nat)=>cs.setIfInBounds (off+x.2) x.1) cs).size=cs.size/\
  ∀m,((vs.zipIdx s0).foldl (λ(cs:Array Value) (x:Value×Nat)=>cs.setIfInBounds (off+x.2) x.1) cs).getD m undef=if off+s0<=m/\m<off+s0+vs.length then vs.getD (m-(off+s0)) undef else cs.getD m undef
 | [],s0,cs,_=>⟨rfl,λm=>by simp;omega⟩
 |v::vs,s0,cs,hl=>by
  simp only[zap] at hl;simp only[List.zipIdx_cons,za9];obtain⟨h1,h2⟩:=Cg off vs (s0+1) (cs.setIfInBounds (off+s0) v) (by simp;omega);refine⟨by rw[h1];simp,λm=> ?_⟩;rw[h2 m];by_cases hm:m=off+s0
  ·subst hm;have bI:off+s0<cs.size:=by omega
   rw[zam (by omega),zao (by simp)];simp[Array.getD,bI]
  have e:(cs.setIfInBounds (off+s0) v).getD m undef=cs.getD m undef:=by simp only[zaD];rw[zaY (λe=>hm e.symm)]
  rw[e];by_cases hr:off+(s0+1)<=m/\m<off+(s0+1)+vs.length
  ·rw[zao hr,zao (by simp;omega)];have e2:m-(off+s0)=(m-(off+(s0+1)))+1:=by omega
   rw[e2,List.getD_cons_succ]
  rw[zam hr,zam (by simp;omega)]
theorem kQ{α:Type}(ps qs:List α)(off:Nat)(h:off+qs.length<=ps.length):(ps.take off++qs++ps.drop (off+qs.length)).length=ps.length:=by simp;omega
theorem iM{α:Type}(ps qs:List α)(off i:Nat)(h:off+qs.length<=ps.length):(ps.take off++qs++ps.drop (off+qs.length))[i]?=if off<=i/\i<off+qs.length then qs[i-off]? else ps[i]?:=by
 by_cases h1:i<off
 ·rw[zaZ,zaM (by simp;omega),zbe,zao h1,zam (by omega)]
 by_cases h2:i<off+qs.length
 ·rw[zaZ,za1 (by simp;omega),zao ⟨by omega,h2⟩];have e:i-(List.take off ps).length=i-off:=by simp;omega
  rw[e,zaM (by omega)]
 rw[za1 (by simp;omega),zam (by omega),zby];congr 1;simp;omega
theorem L5{t:TypeId}{z:D}(hz:ey Q t=some z)(w:World): ∃zv,(zeroValue t).run Q w= .ok zv w/\a8 F w zv z:=o8 hz w
theorem EB{R:List (Nat×En)}{pl:Array (Nat×Nat)}: ∀(parts:List (Nat×P)) (vals:List (Nat×Value)) (ps qs:List P) (cs:Array Value),Eo pl ps parts=some qs->vals.length=parts.length->
  (∀(i:Nat) x y,vals[i]?=some x->parts[i]?=some y->x.1=y.1/\aF F w G R x.2 y.2)->cs.size=ps.length->(∀v∈cs.toList,v.oneCell'=true)->(∀(i:Nat) (v:Value) (p:P),cs.toList[i]?=some v->ps[i]?=some p->aF F w G R v p)->
  ∃lC,Instr.fill (pl[·]?) cs vals=some lC/\lC.size=qs.length/\(∀v∈lC.toList,v.oneCell'=true)/\ ∀(i:Nat) (v:Value) (p:P),lC.toList[i]?=some v->qs[i]?=some p->aF F w G R v p
 | [],vals,ps,qs,cs,h,hl,_,dt,h1,h2=>by
  simp[Eo] at h;subst h;have:vals=[]:=by simpa using hl
  subst this;exact⟨cs,rfl,dt,h1,h2⟩
 | (i,p)::r,[],ps,qs,cs,h,hl,_,dt,h1,h2=>by simp at hl
 | (i,p)::r,(i0,v)::vals,ps,qs,cs,h,hl,hv,dt,h1,h2=>by
  simp only[Eo] at h;split at h
  next off k L6=>
   split at h
   ·rename_i hc;simp only[zab] at hc;obtain⟨⟨hk,hle⟩,nf⟩:=hc;have hk:=zaf hk;have hle:=zbI hle;obtain⟨e0,hp⟩:=hv 0 (i0,v) (i,p) rfl rfl;simp only at e0 hp;subst e0;obtain⟨c1,c2,c3⟩:=xh hp nf;have hvl:v.cells.toList.length=k:=by rw[c1,hk]
    obtain⟨f1,f2⟩:=Cg off v.cells.toList 0 cs (by rw[hvl,dt];omega);have fh:(decide (v.cells.size≠k)||decide (off+v.cells.size>cs.size))=false:=by
     have:v.cells.size=k:=by simpa using hvl
     rw[this,dt];simp;omega
    let DX:=(v.cells.toList.zipIdx 0).foldl (λ(cs:Array Value) (x:Value×Nat)=>cs.setIfInBounds (off+x.2) x.1) cs
    have Ch:off+p.cells.length<=ps.length:=by rw[hk];exact hle
    have pb: ∀(j:Nat) (u:Value),DX.toList[j]?=some u->j<cs.size/\u=if off+0<=j/\j<off+0+v.cells.toList.length then v.cells.toList.getD (j-(off+0)) undef else cs.getD j undef:=λj u hu=>by
     have hj:j<DX.size:=by simpa using(zad.1 hu).1
     rw[f1] at hj;refine⟨hj,?_⟩;rw[<-f2 j];rw[zcA] at hu;simp[zaD,DX] at hu⊢;rw[hu];rfl
    have key: ∀(j:Nat) (u:Value),DX.toList[j]?=some u->u.oneCell'=true/\ ∀q,(splice ps off p.cells)[j]?=some q->aF F w G R u q:=λj u hu=>by
     obtain⟨hj,e⟩:=pb j u hu;by_cases bj:off+0<=j/\j<off+0+v.cells.toList.length
     ·rw[zao bj] at e;have EC:j-(off+0)<v.cells.toList.length:=by omega
      have hu2:v.cells.toList[j-off]?=some u:=by rw[e,zac];simp only[zbQ] at EC⊢;rw[zae EC];rfl
      refine⟨c3 u (zaC hu2),λq hq=> ?_⟩;unfold splice at hq;rw[iM ps p.cells off j Ch,zao (by rw[c1] at bj;omega)] at hq;exact c2 _ u q hu2 hq
     rw[zam bj] at e;have hu2:cs.toList[j]?=some u:=by rw[e,zcA,zbK hj,zaD,zbK hj];rfl
     refine⟨h1 u (zaC hu2),λq hq=> ?_⟩;unfold splice at hq;rw[iM ps p.cells off j Ch,zam (by rw[c1] at bj;omega)] at hq;exact h2 j u q hu2 hq
    obtain⟨lC,g1,g2,g3,g4⟩:=EB r vals _ qs DX h (by simpa using hl) (λj x y hx hy=>hv (j+1) x y (by simpa using hx) (by simpa using hy)) (by show DX.size=_;unfold splice;rw[kQ ps p.cells off Ch];rw[<-dt];exact f1) (λu hu=>by obtain⟨j,hj⟩:=zaS hu;exact(key j u hj).1) (λj u q hu hq=>(key j u hu).2 q hq);refine⟨lC,?_,g2,g3,g4⟩;simp only[Instr.fill,L6,fh,zaB,zbj];rw[<-g1];congr 1;rw[<-zcP];simp[DX]
   cases h
  cases h
theorem ED{R:List (Nat×En)}{t:TypeId}{parts:List (Nat×P)}{q:P}(h:wZ Q t parts=some q){vals:Array (Nat×Value)}(hl:vals.toList.length=parts.length)
  (hv: ∀(i:Nat) x y,vals.toList[i]?=some x->parts[i]?=some y->x.1=y.1/\aF F w G R x.2 y.2): ∃v,(Instr.build t vals).run Q w= .ok v w/\aF F w G R v q:=by
 unfold wZ at h;split at h
 next fs z hu hz=>
  split at h
  next pl L6=>
   split at h
   ·rename_i qs hq;simp only[zal] at h;subst h;obtain⟨zv,Kd,AP⟩:=L5 (F:=F) hz w;obtain⟨d1,d2,d3⟩:=dY AP;obtain⟨lC,g1,g2,g3,g4⟩:=EB parts vals.toList _ qs zv.cells hq hl hv (by simpa using d1) (kP AP) (λi v p hi hp=>by rw[zaJ] at hp;simp only[zaw] at hp;obtain⟨c,hc,rfl⟩:=hp;exact .d (d3 i v c hi hc));refine⟨.agg lC,?_,?_⟩
    ·have Vc:=dD L6 w;unfold J5 at Vc;simp only[Instr.build,Sem.run_bind,Kd,run_underlying hu,Result.andThen];rw[Vc];dsimp only;rw[g1];rfl
    have:=Es (F:=F) (w:=w) (G:=G) (R:=R) (vs:=lC.toList) (ps:=qs) (by simpa using g2) g3 g4;simpa using this
   cases h
  cases h
 cases h
end
end Pi
