/- The text PiStr. -/
import Derived.Test.YtfelfooeclnbiaaPiMap
namespace Pi
open Go
section
variable{Q:Program}{F:Nat->Prop}{G:Nat->Value}{w:World}
theorem bG{v:Value}{x:D}(h:ay F w v x):v.cells.toList.length=x.cells.length/\(∀c∈x.cells,c.aG=true)/\(∀(i:Nat) (u:Value) (c:D),v.cells.toList[i]?=some u->x.cells[i]?=some c->ay F w u c):=by
 cases h with
 |agg vs cs hl aO hh=>exact⟨by simpa [Value.cells,D.cells] using hl,aO,λi u c hu fB=>hh i u c (by simpa [Value.cells] using hu) (by simpa [D.cells] using fB)⟩
 |_=>
  refine⟨by simp[Value.cells,D.cells],λc hc=>by simp[D.cells] at hc;subst hc;rfl,λi u c hu fB=> ?_⟩;cases i with
  |zero=>simp[Value.cells] at hu;simp[D.cells] at fB;subst hu;subst fB;first | (constructor<;>assumption)|constructor
  |succ i=>simp[D.cells] at fB
theorem ey{v:Value}{x:D}(h:ay F w v x): ∀u∈v.cells.toList,u.oneCell'=true:=by
 obtain⟨h1,h2,h3⟩:=bG h;intro u hu;obtain⟨i,hi⟩:=zar hu;have bm:i<x.cells.length:=by have:=(zaa.1 hi).1;omega
 exact(h3 i u _ hi (zab bm)).fK (h2 _ (za2 bm))
theorem gJ(x:D):(P.d x).cells=x.cells.map P.d:=by cases x<;>rfl
theorem lJ{R:List (Nat×En)}{v:Value}{p:P}(h:ao F w G R v p)(hc:p.fC=true):
  v.cells.toList.length=p.cells.length/\(∀(i:Nat) (u:Value) (c:P),v.cells.toList[i]?=some u->p.cells[i]?=some c->ao F w G R u c)/\ ∀u∈v.cells.toList,u.oneCell'=true:=by
 have single:p.cells=[p]->v.oneCell'=true->v.cells.toList.length=p.cells.length/\(∀(i:Nat) (u:Value) (c:P),v.cells.toList[i]?=some u->p.cells[i]?=some c->ao F w G R u c)/\ ∀u∈v.cells.toList,u.oneCell'=true:=λhp h1=>by
  have e:v.cells= #[v]:=by cases v<;>simp_all [Value.oneCell',Value.cells]
  rw[hp,e];refine⟨rfl,λi u c hu fB=> ?_,λu hu=>by simp at hu;rw[hu];exact h1⟩;cases i with
  |zero=>simp at hu fB;subst hu;subst fB;exact h
  |succ i=>simp at fB
 cases p with
 |agg ps=>
  cases h with
  |agg vs ps hl cK hh=>exact⟨by simpa [Value.cells,P.cells] using hl,λi u c hu fB=>hh i u c (by simpa [Value.cells] using hu) (by simpa [P.cells] using fB),λu hu=>cK u (by simpa [Value.cells] using hu)⟩
 |d x=>
  cases h with
  |d hd=>obtain⟨h1,h2,h3⟩:=bG hd;refine⟨by rw[gJ];simpa using h1,λi u c hu fB=> ?_,ey hd⟩;rw[gJ,zap] at fB;simp only[zaj] at fB;obtain⟨y,hy,rfl⟩:=fB;exact .d (h3 i u y hu hy)
 |dR=>simp[P.fC,P.aG] at hc
 |when=>simp[P.fC,P.aG] at hc
 |bad=>simp[P.fC,P.aG] at hc
 |_=>exact single rfl (h.fK rfl)
theorem ow(off:Nat): ∀(vs:List Value) (s0:Nat) (cs:Array Value),off+s0+vs.length<=cs.size->
  ((vs.zipIdx s0).foldl (λ(cs:Array Value) (x:Value×Nat)=>cs.setIfInBounds (off+x.2) x.1) cs).size=cs.size/\
  ∀m,((vs.zipIdx s0).foldl (λ(cs:Array Value) (x:Value×Nat)=>cs.setIfInBounds (off+x.2) x.1) cs).getD m undef=if off+s0<=m/\m<off+s0+vs.length then vs.getD (m-(off+s0)) undef else cs.getD m undef
 | [],s0,cs,_=>⟨rfl,λm=>by simp;omega⟩
 |v::vs,s0,cs,hl=>by
  simp only[zbv] at hl;simp only[List.zipIdx_cons,List.foldl_cons];obtain⟨h1,h2⟩:=ow off vs (s0+1) (cs.setIfInBounds (off+s0) v) (by simp;omega);refine⟨by rw[h1];simp,λm=> ?_⟩;rw[h2 m];by_cases hm:m=off+s0
  ·subst hm;have bm:off+s0<cs.size:=by omega
   rw[zaB (by omega),zax (by simp)];simp[Array.getD,bm]
  have e:(cs.setIfInBounds (off+s0) v).getD m undef=cs.getD m undef:=by simp only[zak];rw[zav (λe=>hm e.symm)]
  rw[e];by_cases hr:off+(s0+1)<=m/\m<off+(s0+1)+vs.length
  ·rw[zax hr,zax (by simp;omega)];have e2:m-(off+s0)=(m-(off+(s0+1)))+1:=by omega
   rw[e2,List.getD_cons_succ]
  rw[zaB hr,zaB (by simp;omega)]
theorem ez{α:Type}(ps qs:List α)(off:Nat)(h:off+qs.length<=ps.length):(ps.take off++qs++ps.drop (off+qs.length)).length=ps.length:=by simp;omega
theorem di{α:Type}(ps qs:List α)(off i:Nat)(h:off+qs.length<=ps.length):(ps.take off++qs++ps.drop (off+qs.length))[i]?=if off<=i/\i<off+qs.length then qs[i-off]? else ps[i]?:=by
 by_cases h1:i<off
 ·rw[zbh,zau (by simp;omega),zaO,zax h1,zaB (by omega)]
 by_cases h2:i<off+qs.length
 ·rw[zbh,zay (by simp;omega),zax ⟨by omega,h2⟩];have e:i-(List.take off ps).length=i-off:=by simp;omega
  rw[e,zau (by omega)]
 rw[zay (by simp;omega),zaB (by omega),zbf];congr 1;simp;omega
theorem sX{t:TypeId}{z:D}(hz:bK Q t=some z)(w:World): ∃zv,(zeroValue t).run Q w= .ok zv w/\ay F w zv z:=gI hz w
theorem pH{R:List (Nat×En)}{pl:Array (Nat×Nat)}: ∀(parts:List (Nat×P)) (vals:List (Nat×Value)) (ps qs:List P) (cs:Array Value),po pl ps parts=some qs->vals.length=parts.length->
  (∀(i:Nat) x y,vals[i]?=some x->parts[i]?=some y->x.1=y.1/\ao F w G R x.2 y.2)->cs.size=ps.length->(∀v∈cs.toList,v.oneCell'=true)->(∀(i:Nat) (v:Value) (p:P),cs.toList[i]?=some v->ps[i]?=some p->ao F w G R v p)->
  ∃eJ,Instr.fill (pl[·]?) cs vals=some eJ/\eJ.size=qs.length/\(∀v∈eJ.toList,v.oneCell'=true)/\ ∀(i:Nat) (v:Value) (p:P),eJ.toList[i]?=some v->qs[i]?=some p->ao F w G R v p
 | [],vals,ps,qs,cs,h,hl,_,bn,h1,h2=>by
  simp[po] at h;subst h;have:vals=[]:=by simpa using hl
  subst this;exact⟨cs,rfl,bn,h1,h2⟩
 | (i,p)::r,[],ps,qs,cs,h,hl,_,bn,h1,h2=>by simp at hl
 | (i,p)::r,(i0,v)::vals,ps,qs,cs,h,hl,hv,bn,h1,h2=>by
  simp only[po] at h;split at h
  next off k yE=>
   split at h
   ·rename_i hc;simp only[zad] at hc;obtain⟨⟨hk,hle⟩,hT⟩:=hc;have hk:=zac hk;have hle:=za3 hle;obtain⟨e0,hp⟩:=hv 0 (i0,v) (i,p) rfl rfl;simp only at e0 hp;subst e0;obtain⟨c1,c2,c3⟩:=lJ hp hT;have Bj:v.cells.toList.length=k:=by rw[c1,hk]
    obtain⟨f1,f2⟩:=ow off v.cells.toList 0 cs (by rw[Bj,bn];omega);have bR:(decide (v.cells.size≠k)||decide (off+v.cells.size>cs.size))=false:=by
     have:v.cells.size=k:=by simpa using Bj
     rw[this,bn];simp;omega
    let pj:=(v.cells.toList.zipIdx 0).foldl (λ(cs:Array Value) (x:Value×Nat)=>cs.setIfInBounds (off+x.2) x.1) cs
    have uj:off+p.cells.length<=ps.length:=by rw[hk];exact hle
    have jQ: ∀(j:Nat) (u:Value),pj.toList[j]?=some u->j<cs.size/\u=if off+0<=j/\j<off+0+v.cells.toList.length then v.cells.toList.getD (j-(off+0)) undef else cs.getD j undef:=λj u hu=>by
     have hj:j<pj.size:=by simpa using(zaa.1 hu).1
     rw[f1] at hj;refine⟨hj,?_⟩;rw[<-f2 j];rw[zaU] at hu;simp[zak,pj] at hu⊢;rw[hu];rfl
    have key: ∀(j:Nat) (u:Value),pj.toList[j]?=some u->u.oneCell'=true/\ ∀q,(splice ps off p.cells)[j]?=some q->ao F w G R u q:=λj u hu=>by
     obtain⟨hj,e⟩:=jQ j u hu;by_cases yF:off+0<=j/\j<off+0+v.cells.toList.length
     ·rw[zax yF] at e;have yb:j-(off+0)<v.cells.toList.length:=by omega
      have Ah:v.cells.toList[j-off]?=some u:=by rw[e,zah];simp only[zbb] at yb⊢;rw[zab yb];rfl
      refine⟨c3 u (zao Ah),λq hq=> ?_⟩;unfold splice at hq;rw[di ps p.cells off j uj,zax (by rw[c1] at yF;omega)] at hq;exact c2 _ u q Ah hq
     rw[zaB yF] at e;have Ah:cs.toList[j]?=some u:=by rw[e,zaU,zaW hj,zak,zaW hj];rfl
     refine⟨h1 u (zao Ah),λq hq=> ?_⟩;unfold splice at hq;rw[di ps p.cells off j uj,zaB (by rw[c1] at yF;omega)] at hq;exact h2 j u q Ah hq
    obtain⟨eJ,g1,g2,g3,g4⟩:=pH r vals _ qs pj h (by simpa using hl) (λj x y hx hy=>hv (j+1) x y (by simpa using hx) (by simpa using hy)) (by show pj.size=_;unfold splice;rw[ez ps p.cells off uj];rw[<-bn];exact f1) (λu hu=>by obtain⟨j,hj⟩:=zar hu;exact(key j u hj).1) (λj u q hu hq=>(key j u hu).2 q hq);refine⟨eJ,?_,g2,g3,g4⟩;simp only[Instr.fill,yE,bR,zaw,za6];rw[<-g1];congr 1;rw[<-Array.foldl_toList];simp[pj]
   cases h
  cases h
theorem pI{R:List (Nat×En)}{t:TypeId}{parts:List (Nat×P)}{q:P}(h:lA Q t parts=some q){vals:Array (Nat×Value)}(hl:vals.toList.length=parts.length)
  (hv: ∀(i:Nat) x y,vals.toList[i]?=some x->parts[i]?=some y->x.1=y.1/\ao F w G R x.2 y.2): ∃v,(Instr.build t vals).run Q w= .ok v w/\ao F w G R v q:=by
 unfold lA at h;split at h
 next fs z hu hz=>
  split at h
  next pl yE=>
   split at h
   ·rename_i qs hq;simp only[zae] at h;subst h;obtain⟨zv,sc,mI⟩:=sX (F:=F) hz w;obtain⟨d1,d2,d3⟩:=bG mI;obtain⟨eJ,g1,g2,g3,g4⟩:=pH parts vals.toList _ qs zv.cells hq hl hv (by simpa using d1) (ey mI) (λi v p hi hp=>by rw[zap] at hp;simp only[zaj] at hp;obtain⟨c,hc,rfl⟩:=hp;exact .d (d3 i v c hi hc));refine⟨.agg eJ,?_,?_⟩
    ·have zP:=aS yE w;unfold rX at zP;simp only[Instr.build,Sem.run_bind,sc,run_underlying hu,Result.andThen];rw[zP];dsimp only;rw[g1];rfl
    have:=pw (F:=F) (w:=w) (G:=G) (R:=R) (vs:=eJ.toList) (ps:=qs) (by simpa using g2) g3 g4;simpa using this
   cases h
  cases h
 cases h
end
end Pi
