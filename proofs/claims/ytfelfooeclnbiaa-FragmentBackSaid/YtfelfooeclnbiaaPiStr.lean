/- The text PiStr. -/
import Derived.Test.YtfelfooeclnbiaaPiMap
namespace Pi
open Go
section
variable{Q:Program}{F:Nat->Prop}{G:Nat->Value}{w:World}
theorem bR{v:Value}{x:D}(h:az F w v x):v.cells.toList.length=x.cells.length/\(∀c∈x.cells,c.aF=true)/\(∀(i:Nat) (u:Value) (c:D),v.cells.toList[i]?=some u->x.cells[i]?=some c->az F w u c):=by
 cases h with
 |agg vs cs hl aP hh=>exact⟨by simpa [Value.cells,D.cells] using hl,aP,λi u c hu fQ=>hh i u c (by simpa [Value.cells] using hu) (by simpa [D.cells] using fQ)⟩
 |_=>
  refine⟨by simp[Value.cells,D.cells],λc hc=>by simp[D.cells] at hc;subst hc;rfl,λi u c hu fQ=> ?_⟩;cases i with
  |zero=>simp[Value.cells] at hu;simp[D.cells] at fQ;subst hu;subst fQ;first | (constructor<;>assumption)|constructor
  |succ i=>simp[D.cells] at fQ
theorem eN{v:Value}{x:D}(h:az F w v x): ∀u∈v.cells.toList,u.oneCell'=true:=by
 obtain⟨h1,h2,h3⟩:=bR h;intro u hu;obtain⟨i,hi⟩:=zas hu;have bA:i<x.cells.length:=by have:=(zaa.1 hi).1;omega
 exact(h3 i u _ hi (zad bA)).iB (h2 _ (zal bA))
theorem hI(x:D):(P.d x).cells=x.cells.map P.d:=by cases x<;>rfl
theorem ml{R:List (Nat×En)}{v:Value}{p:P}(h:ao F w G R v p)(hc:p.fS=true):
  v.cells.toList.length=p.cells.length/\(∀(i:Nat) (u:Value) (c:P),v.cells.toList[i]?=some u->p.cells[i]?=some c->ao F w G R u c)/\ ∀u∈v.cells.toList,u.oneCell'=true:=by
 have single:p.cells=[p]->v.oneCell'=true->v.cells.toList.length=p.cells.length/\(∀(i:Nat) (u:Value) (c:P),v.cells.toList[i]?=some u->p.cells[i]?=some c->ao F w G R u c)/\ ∀u∈v.cells.toList,u.oneCell'=true:=λhp h1=>by
  have e:v.cells= #[v]:=by cases v<;>simp_all [Value.oneCell',Value.cells]
  rw[hp,e];refine⟨rfl,λi u c hu fQ=> ?_,λu hu=>by simp at hu;rw[hu];exact h1⟩;cases i with
  |zero=>simp at hu fQ;subst hu;subst fQ;exact h
  |succ i=>simp at fQ
 cases p with
 |agg ps=>
  cases h with
  |agg vs ps hl cW hh=>exact⟨by simpa [Value.cells,P.cells] using hl,λi u c hu fQ=>hh i u c (by simpa [Value.cells] using hu) (by simpa [P.cells] using fQ),λu hu=>cW u (by simpa [Value.cells] using hu)⟩
 |d x=>
  cases h with
  |d hd=>obtain⟨h1,h2,h3⟩:=bR hd;refine⟨by rw[hI];simpa using h1,λi u c hu fQ=> ?_,eN hd⟩;rw[hI,zao] at fQ;simp only[zak] at fQ;obtain⟨y,hy,rfl⟩:=fQ;exact .d (h3 i u y hu hy)
 |dW=>simp[P.fS,P.aF] at hc
 |when=>simp[P.fS,P.aF] at hc
 |bad=>simp[P.fS,P.aF] at hc
 |_=>exact single rfl (h.iB rfl)
theorem pj(off:Nat): ∀(vs:List Value) (s0:Nat) (cs:Array Value),off+s0+vs.length<=cs.size->
  ((vs.zipIdx s0).foldl (λ(cs:Array Value) (x:Value×Nat)=>cs.setIfInBounds (off+x.2) x.1) cs).size=cs.size/\
  ∀m,((vs.zipIdx s0).foldl (λ(cs:Array Value) (x:Value×Nat)=>cs.setIfInBounds (off+x.2) x.1) cs).getD m undef=if off+s0<=m/\m<off+s0+vs.length then vs.getD (m-(off+s0)) undef else cs.getD m undef
 | [],s0,cs,_=>⟨rfl,λm=>by simp;omega⟩
 |v::vs,s0,cs,hl=>by
  simp only[zbF] at hl;simp only[List.zipIdx_cons,List.foldl_cons];obtain⟨h1,h2⟩:=pj off vs (s0+1) (cs.setIfInBounds (off+s0) v) (by simp;omega);refine⟨by rw[h1];simp,λm=> ?_⟩;rw[h2 m];by_cases hm:m=off+s0
  ·subst hm;have bA:off+s0<cs.size:=by omega
   rw[zay (by omega),zau (by simp)];simp[Array.getD,bA]
  have e:(cs.setIfInBounds (off+s0) v).getD m undef=cs.getD m undef:=by simp only[zam];rw[zax (λe=>hm e.symm)]
  rw[e];by_cases hr:off+(s0+1)<=m/\m<off+(s0+1)+vs.length
  ·rw[zau hr,zau (by simp;omega)];have e2:m-(off+s0)=(m-(off+(s0+1)))+1:=by omega
   rw[e2,List.getD_cons_succ]
  rw[zay hr,zay (by simp;omega)]
theorem eO{α:Type}(ps qs:List α)(off:Nat)(h:off+qs.length<=ps.length):(ps.take off++qs++ps.drop (off+qs.length)).length=ps.length:=by simp;omega
theorem dv{α:Type}(ps qs:List α)(off i:Nat)(h:off+qs.length<=ps.length):(ps.take off++qs++ps.drop (off+qs.length))[i]?=if off<=i/\i<off+qs.length then qs[i-off]? else ps[i]?:=by
 by_cases h1:i<off
 ·rw[zbp,zaH (by simp;omega),zaZ,zau h1,zay (by omega)]
 by_cases h2:i<off+qs.length
 ·rw[zbp,zaK (by simp;omega),zau ⟨by omega,h2⟩];have e:i-(List.take off ps).length=i-off:=by simp;omega
  rw[e,zaH (by omega)]
 rw[zaK (by simp;omega),zay (by omega),zbo];congr 1;simp;omega
theorem ux{t:TypeId}{z:D}(hz:bV Q t=some z)(w:World): ∃zv,(zeroValue t).run Q w= .ok zv w/\az F w zv z:=hD hz w
theorem qw{R:List (Nat×En)}{pl:Array (Nat×Nat)}: ∀(parts:List (Nat×P)) (vals:List (Nat×Value)) (ps qs:List P) (cs:Array Value),qh pl ps parts=some qs->vals.length=parts.length->
  (∀(i:Nat) x y,vals[i]?=some x->parts[i]?=some y->x.1=y.1/\ao F w G R x.2 y.2)->cs.size=ps.length->(∀v∈cs.toList,v.oneCell'=true)->(∀(i:Nat) (v:Value) (p:P),cs.toList[i]?=some v->ps[i]?=some p->ao F w G R v p)->
  ∃fP,Instr.fill (pl[·]?) cs vals=some fP/\fP.size=qs.length/\(∀v∈fP.toList,v.oneCell'=true)/\ ∀(i:Nat) (v:Value) (p:P),fP.toList[i]?=some v->qs[i]?=some p->ao F w G R v p
 | [],vals,ps,qs,cs,h,hl,_,bM,h1,h2=>by
  simp[qh] at h;subst h;have:vals=[]:=by simpa using hl
  subst this;exact⟨cs,rfl,bM,h1,h2⟩
 | (i,p)::r,[],ps,qs,cs,h,hl,_,bM,h1,h2=>by simp at hl
 | (i,p)::r,(i0,v)::vals,ps,qs,cs,h,hl,hv,bM,h1,h2=>by
  simp only[qh] at h;split at h
  next off k AH=>
   split at h
   ·rename_i hc;simp only[zac] at hc;obtain⟨⟨hk,hle⟩,iC⟩:=hc;have hk:=zab hk;have hle:=zbc hle;obtain⟨e0,hp⟩:=hv 0 (i0,v) (i,p) rfl rfl;simp only at e0 hp;subst e0;obtain⟨c1,c2,c3⟩:=ml hp iC;have DA:v.cells.toList.length=k:=by rw[c1,hk]
    obtain⟨f1,f2⟩:=pj off v.cells.toList 0 cs (by rw[DA,bM];omega);have cj:(decide (v.cells.size≠k)||decide (off+v.cells.size>cs.size))=false:=by
     have:v.cells.size=k:=by simpa using DA
     rw[this,bM];simp;omega
    let qe:=(v.cells.toList.zipIdx 0).foldl (λ(cs:Array Value) (x:Value×Nat)=>cs.setIfInBounds (off+x.2) x.1) cs
    have vJ:off+p.cells.length<=ps.length:=by rw[hk];exact hle
    have kA: ∀(j:Nat) (u:Value),qe.toList[j]?=some u->j<cs.size/\u=if off+0<=j/\j<off+0+v.cells.toList.length then v.cells.toList.getD (j-(off+0)) undef else cs.getD j undef:=λj u hu=>by
     have hj:j<qe.size:=by simpa using(zaa.1 hu).1
     rw[f1] at hj;refine⟨hj,?_⟩;rw[<-f2 j];rw[zbd] at hu;simp[zam,qe] at hu⊢;rw[hu];rfl
    have key: ∀(j:Nat) (u:Value),qe.toList[j]?=some u->u.oneCell'=true/\ ∀q,(splice ps off p.cells)[j]?=some q->ao F w G R u q:=λj u hu=>by
     obtain⟨hj,e⟩:=kA j u hu;by_cases AI:off+0<=j/\j<off+0+v.cells.toList.length
     ·rw[zau AI] at e;have Aa:j-(off+0)<v.cells.toList.length:=by omega
      have Cl:v.cells.toList[j-off]?=some u:=by rw[e,zah];simp only[zbj] at Aa⊢;rw[zad Aa];rfl
      refine⟨c3 u (zaq Cl),λq hq=> ?_⟩;unfold splice at hq;rw[dv ps p.cells off j vJ,zau (by rw[c1] at AI;omega)] at hq;exact c2 _ u q Cl hq
     rw[zay AI] at e;have Cl:cs.toList[j]?=some u:=by rw[e,zbd,zbf hj,zam,zbf hj];rfl
     refine⟨h1 u (zaq Cl),λq hq=> ?_⟩;unfold splice at hq;rw[dv ps p.cells off j vJ,zay (by rw[c1] at AI;omega)] at hq;exact h2 j u q Cl hq
    obtain⟨fP,g1,g2,g3,g4⟩:=qw r vals _ qs qe h (by simpa using hl) (λj x y hx hy=>hv (j+1) x y (by simpa using hx) (by simpa using hy)) (by show qe.size=_;unfold splice;rw[eO ps p.cells off vJ];rw[<-bM];exact f1) (λu hu=>by obtain⟨j,hj⟩:=zas hu;exact(key j u hj).1) (λj u q hu hq=>(key j u hu).2 q hq);refine⟨fP,?_,g2,g3,g4⟩;simp only[Instr.fill,AH,cj,zaz,zbe];rw[<-g1];congr 1;rw[<-Array.foldl_toList];simp[qe]
   cases h
  cases h
theorem qx{R:List (Nat×En)}{t:TypeId}{parts:List (Nat×P)}{q:P}(h:l9 Q t parts=some q){vals:Array (Nat×Value)}(hl:vals.toList.length=parts.length)
  (hv: ∀(i:Nat) x y,vals.toList[i]?=some x->parts[i]?=some y->x.1=y.1/\ao F w G R x.2 y.2): ∃v,(Instr.build t vals).run Q w= .ok v w/\ao F w G R v q:=by
 unfold l9 at h;split at h
 next fs z hu hz=>
  split at h
  next pl AH=>
   split at h
   ·rename_i qs hq;simp only[zae] at h;subst h;obtain⟨zv,tr,nw⟩:=ux (F:=F) hz w;obtain⟨d1,d2,d3⟩:=bR nw;obtain⟨fP,g1,g2,g3,g4⟩:=qw parts vals.toList _ qs zv.cells hq hl hv (by simpa using d1) (eN nw) (λi v p hi hp=>by rw[zao] at hp;simp only[zak] at hp;obtain⟨c,hc,rfl⟩:=hp;exact .d (d3 i v c hi hc));refine⟨.agg fP,?_,?_⟩
    ·have BP:=aU AH w;unfold s8 at BP;simp only[Instr.build,Sem.run_bind,tr,run_underlying hu,Result.andThen];rw[BP];dsimp only;rw[g1];rfl
    have:=qk (F:=F) (w:=w) (G:=G) (R:=R) (vs:=fP.toList) (ps:=qs) (by simpa using g2) g3 g4;simpa using this
   cases h
  cases h
 cases h
end
end Pi
