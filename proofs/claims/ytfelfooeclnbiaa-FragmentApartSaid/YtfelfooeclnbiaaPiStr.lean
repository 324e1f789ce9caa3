/- The text PiStr. -/
import Derived.Test.YtfelfooeclnbiaaPiMap
namespace Pi
open Go
section
variable{Q:Program}{F:Nat->Prop}{G:Nat->Value}{w:World}
theorem bO{v:Value}{x:D}(h:ax F w v x):v.cells.toList.length=x.cells.length/\(∀c∈x.cells,c.aF=true)/\(∀(i:Nat) (u:Value) (c:D),v.cells.toList[i]?=some u->x.cells[i]?=some c->ax F w u c):=by
 cases h with
 |agg vs cs hl aQ hh=>exact⟨by simpa [Value.cells,D.cells] using hl,aQ,λi u c hu fT=>hh i u c (by simpa [Value.cells] using hu) (by simpa [D.cells] using fT)⟩
 |_=>
  refine⟨by simp[Value.cells,D.cells],λc hc=>by simp[D.cells] at hc;subst hc;rfl,λi u c hu fT=> ?_⟩;cases i with
  |zero=>simp[Value.cells] at hu;simp[D.cells] at fT;subst hu;subst fT;first | (constructor<;>assumption)|constructor
  |succ i=>simp[D.cells] at fT
theorem eM{v:Value}{x:D}(h:ax F w v x): ∀u∈v.cells.toList,u.oneCell'=true:=by
 obtain⟨h1,h2,h3⟩:=bO h;intro u hu;obtain⟨i,hi⟩:=zaq hu;have bu:i<x.cells.length:=by have:=(zaa.1 hi).1;omega
 exact(h3 i u _ hi (zad bu)).iM (h2 _ (zaH bu))
theorem ic(x:D):(P.d x).cells=x.cells.map P.d:=by cases x<;>rfl
theorem mA{R:List (Nat×En)}{v:Value}{p:P}(h:ak F w G R v p)(hc:p.fU=true):
  v.cells.toList.length=p.cells.length/\(∀(i:Nat) (u:Value) (c:P),v.cells.toList[i]?=some u->p.cells[i]?=some c->ak F w G R u c)/\ ∀u∈v.cells.toList,u.oneCell'=true:=by
 have single:p.cells=[p]->v.oneCell'=true->v.cells.toList.length=p.cells.length/\(∀(i:Nat) (u:Value) (c:P),v.cells.toList[i]?=some u->p.cells[i]?=some c->ak F w G R u c)/\ ∀u∈v.cells.toList,u.oneCell'=true:=λhp h1=>by
  have e:v.cells= #[v]:=by cases v<;>simp_all [Value.oneCell',Value.cells]
  rw[hp,e];refine⟨rfl,λi u c hu fT=> ?_,λu hu=>by simp at hu;rw[hu];exact h1⟩;cases i with
  |zero=>simp at hu fT;subst hu;subst fT;exact h
  |succ i=>simp at fT
 cases p with
 |agg ps=>
  cases h with
  |agg vs ps hl cS hh=>exact⟨by simpa [Value.cells,P.cells] using hl,λi u c hu fT=>hh i u c (by simpa [Value.cells] using hu) (by simpa [P.cells] using fT),λu hu=>cS u (by simpa [Value.cells] using hu)⟩
 |d x=>
  cases h with
  |d hd=>obtain⟨h1,h2,h3⟩:=bO hd;refine⟨by rw[ic];simpa using h1,λi u c hu fT=> ?_,eM hd⟩;rw[ic,zao] at fT;simp only[zaj] at fT;obtain⟨y,hy,rfl⟩:=fT;exact .d (h3 i u y hu hy)
 |dX=>simp[P.fU,P.aF] at hc
 |when=>simp[P.fU,P.aF] at hc
 |bad=>simp[P.fU,P.aF] at hc
 |_=>exact single rfl (h.iM rfl)
theorem pw(off:Nat): ∀(vs:List Value) (s0:Nat) (cs:Array Value),off+s0+vs.length<=cs.size->
  ((vs.zipIdx s0).foldl (λ(cs:Array Value) (x:Value×Nat)=>cs.setIfInBounds (off+x.2) x.1) cs).size=cs.size/\
  ∀m,((vs.zipIdx s0).foldl (λ(cs:Array Value) (x:Value×Nat)=>cs.setIfInBounds (off+x.2) x.1) cs).getD m undef=if off+s0<=m/\m<off+s0+vs.length then vs.getD (m-(off+s0)) undef else cs.getD m undef
 | [],s0,cs,_=>⟨rfl,λm=>by simp;omega⟩
 |v::vs,s0,cs,hl=>by
  simp only[zbx] at hl;simp only[List.zipIdx_cons,List.foldl_cons];obtain⟨h1,h2⟩:=pw off vs (s0+1) (cs.setIfInBounds (off+s0) v) (by simp;omega);refine⟨by rw[h1];simp,λm=> ?_⟩;rw[h2 m];by_cases hm:m=off+s0
  ·subst hm;have bu:off+s0<cs.size:=by omega
   rw[zav (by omega),zat (by simp)];simp[Array.getD,bu]
  have e:(cs.setIfInBounds (off+s0) v).getD m undef=cs.getD m undef:=by simp only[zak];rw[zay (λe=>hm e.symm)]
  rw[e];by_cases hr:off+(s0+1)<=m/\m<off+(s0+1)+vs.length
  ·rw[zat hr,zat (by simp;omega)];have e2:m-(off+s0)=(m-(off+(s0+1)))+1:=by omega
   rw[e2,List.getD_cons_succ]
  rw[zav hr,zav (by simp;omega)]
theorem eN{α:Type}(ps qs:List α)(off:Nat)(h:off+qs.length<=ps.length):(ps.take off++qs++ps.drop (off+qs.length)).length=ps.length:=by simp;omega
theorem dq{α:Type}(ps qs:List α)(off i:Nat)(h:off+qs.length<=ps.length):(ps.take off++qs++ps.drop (off+qs.length))[i]?=if off<=i/\i<off+qs.length then qs[i-off]? else ps[i]?:=by
 by_cases h1:i<off
 ·rw[za7,zaD (by simp;omega),zaQ,zat h1,zav (by omega)]
 by_cases h2:i<off+qs.length
 ·rw[za7,zaF (by simp;omega),zat ⟨by omega,h2⟩];have e:i-(List.take off ps).length=i-off:=by simp;omega
  rw[e,zaD (by omega)]
 rw[zaF (by simp;omega),zav (by omega),zbg];congr 1;simp;omega
theorem uz{t:TypeId}{z:D}(hz:bS Q t=some z)(w:World): ∃zv,(zeroValue t).run Q w= .ok zv w/\ax F w zv z:=ib hz w
theorem qN{R:List (Nat×En)}{pl:Array (Nat×Nat)}: ∀(parts:List (Nat×P)) (vals:List (Nat×Value)) (ps qs:List P) (cs:Array Value),qA pl ps parts=some qs->vals.length=parts.length->
  (∀(i:Nat) x y,vals[i]?=some x->parts[i]?=some y->x.1=y.1/\ak F w G R x.2 y.2)->cs.size=ps.length->(∀v∈cs.toList,v.oneCell'=true)->(∀(i:Nat) (v:Value) (p:P),cs.toList[i]?=some v->ps[i]?=some p->ak F w G R v p)->
  ∃fS,Instr.fill (pl[·]?) cs vals=some fS/\fS.size=qs.length/\(∀v∈fS.toList,v.oneCell'=true)/\ ∀(i:Nat) (v:Value) (p:P),fS.toList[i]?=some v->qs[i]?=some p->ak F w G R v p
 | [],vals,ps,qs,cs,h,hl,_,bK,h1,h2=>by
  simp[qA] at h;subst h;have:vals=[]:=by simpa using hl
  subst this;exact⟨cs,rfl,bK,h1,h2⟩
 | (i,p)::r,[],ps,qs,cs,h,hl,_,bK,h1,h2=>by simp at hl
 | (i,p)::r,(i0,v)::vals,ps,qs,cs,h,hl,hv,bK,h1,h2=>by
  simp only[qA] at h;split at h
  next off k A0=>
   split at h
   ·rename_i hc;simp only[zac] at hc;obtain⟨⟨hk,hle⟩,iN⟩:=hc;have hk:=zab hk;have hle:=za3 hle;obtain⟨e0,hp⟩:=hv 0 (i0,v) (i,p) rfl rfl;simp only at e0 hp;subst e0;obtain⟨c1,c2,c3⟩:=mA hp iN;have Ee:v.cells.toList.length=k:=by rw[c1,hk]
    obtain⟨f1,f2⟩:=pw off v.cells.toList 0 cs (by rw[Ee,bK];omega);have cc:(decide (v.cells.size≠k)||decide (off+v.cells.size>cs.size))=false:=by
     have:v.cells.size=k:=by simpa using Ee
     rw[this,bK];simp;omega
    let qm:=(v.cells.toList.zipIdx 0).foldl (λ(cs:Array Value) (x:Value×Nat)=>cs.setIfInBounds (off+x.2) x.1) cs
    have vH:off+p.cells.length<=ps.length:=by rw[hk];exact hle
    have kK: ∀(j:Nat) (u:Value),qm.toList[j]?=some u->j<cs.size/\u=if off+0<=j/\j<off+0+v.cells.toList.length then v.cells.toList.getD (j-(off+0)) undef else cs.getD j undef:=λj u hu=>by
     have hj:j<qm.size:=by simpa using(zaa.1 hu).1
     rw[f1] at hj;refine⟨hj,?_⟩;rw[<-f2 j];rw[za4] at hu;simp[zak,qm] at hu⊢;rw[hu];rfl
    have key: ∀(j:Nat) (u:Value),qm.toList[j]?=some u->u.oneCell'=true/\ ∀q,(splice ps off p.cells)[j]?=some q->ak F w G R u q:=λj u hu=>by
     obtain⟨hj,e⟩:=kK j u hu;by_cases A1:off+0<=j/\j<off+0+v.cells.toList.length
     ·rw[zat A1] at e;have Ah:j-(off+0)<v.cells.toList.length:=by omega
      have CQ:v.cells.toList[j-off]?=some u:=by rw[e,zai];simp only[zbb] at Ah⊢;rw[zad Ah];rfl
      refine⟨c3 u (zan CQ),λq hq=> ?_⟩;unfold splice at hq;rw[dq ps p.cells off j vH,zat (by rw[c1] at A1;omega)] at hq;exact c2 _ u q CQ hq
     rw[zav A1] at e;have CQ:cs.toList[j]?=some u:=by rw[e,za4,za8 hj,zak,za8 hj];rfl
     refine⟨h1 u (zan CQ),λq hq=> ?_⟩;unfold splice at hq;rw[dq ps p.cells off j vH,zav (by rw[c1] at A1;omega)] at hq;exact h2 j u q CQ hq
    obtain⟨fS,g1,g2,g3,g4⟩:=qN r vals _ qs qm h (by simpa using hl) (λj x y hx hy=>hv (j+1) x y (by simpa using hx) (by simpa using hy)) (by show qm.size=_;unfold splice;rw[eN ps p.cells off vH];rw[<-bK];exact f1) (λu hu=>by obtain⟨j,hj⟩:=zaq hu;exact(key j u hj).1) (λj u q hu hq=>(key j u hu).2 q hq);refine⟨fS,?_,g2,g3,g4⟩;simp only[Instr.fill,A0,cc,zaz,za6];rw[<-g1];congr 1;rw[<-Array.foldl_toList];simp[qm]
   cases h
  cases h
theorem qO{R:List (Nat×En)}{t:TypeId}{parts:List (Nat×P)}{q:P}(h:mj Q t parts=some q){vals:Array (Nat×Value)}(hl:vals.toList.length=parts.length)
  (hv: ∀(i:Nat) x y,vals.toList[i]?=some x->parts[i]?=some y->x.1=y.1/\ak F w G R x.2 y.2): ∃v,(Instr.build t vals).run Q w= .ok v w/\ak F w G R v q:=by
 unfold mj at h;split at h
 next fs z hu hz=>
  split at h
  next pl A0=>
   split at h
   ·rename_i qs hq;simp only[zae] at h;subst h;obtain⟨zv,tH,nH⟩:=uz (F:=F) hz w;obtain⟨d1,d2,d3⟩:=bO nH;obtain⟨fS,g1,g2,g3,g4⟩:=qN parts vals.toList _ qs zv.cells hq hl hv (by simpa using d1) (eM nH) (λi v p hi hp=>by rw[zao] at hp;simp only[zaj] at hp;obtain⟨c,hc,rfl⟩:=hp;exact .d (d3 i v c hi hc));refine⟨.agg fS,?_,?_⟩
    ·have Cd:=aT A0 w;unfold tn at Cd;simp only[Instr.build,Sem.run_bind,tH,run_underlying hu,Result.andThen];rw[Cd];dsimp only;rw[g1];rfl
    have:=qE (F:=F) (w:=w) (G:=G) (R:=R) (vs:=fS.toList) (ps:=qs) (by simpa using g2) g3 g4;simpa using this
   cases h
  cases h
 cases h
end
end Pi
