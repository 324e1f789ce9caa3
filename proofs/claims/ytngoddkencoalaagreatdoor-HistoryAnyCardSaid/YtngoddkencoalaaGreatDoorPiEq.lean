/- The text PiEq. -/
import Derived.Test.YtngoddkencoalaaGreatDoorPiPure
import Derived.Laws.Strings
namespace Pi
open Go
theorem au {α β:Type} (Q:Program): ∀(m:Sem α) (f:α->Sem β),av Q (m>>=f)=(av Q m).bind fun a=>av Q (f a)
 | .pure _,_=>rfl
 | .program k,f=>au Q (k Q) f
 | .mark _ k,f=>au Q k f
 | .load ..,_ | .store ..,_ | .new ..,_ | .shape ..,_ | .freeze ..,_ | .frozen ..,_ | .getObj ..,_ | .setObj ..,_ | .choose ..,_ | .sys ..,_ | .halt _,_=>rfl
theorem aG {Q:Program} {t:TypeId} {d:TypeDesc} (h:Q.underlying t=some d):av Q (underlying t)=some d:=by
 have:av Q (underlying t)=av Q (match Q.underlying t with |some d=>(pure d:Sem TypeDesc)|none=>stuck "no such type"):=rfl
 rw[this,h]
 rfl
theorem jv {Q:Program} {t:TypeId} (h:Q.underlying t=some .bool) (a b:Bool):av Q (Op.equal t (.bool a) (.bool b))=some (a==b):=by
 have e:Op.equal t (.bool a) (.bool b)=Op.equalIn (9999+1) t (.bool a) (.bool b):=rfl
 rw[e,Op.equalIn,au,aG h]
 rfl
theorem uO {Q:Program} {t:TypeId} {k:Nat} (h:sz Q t=some k):av Q (Go.sizeOf t)=some k:=by
 obtain⟨i,d,hi,_,rfl⟩:=fU h
 have e:av Q (typeInfo t)=some i:=by
  have:av Q (typeInfo t)=av Q (match Q.info? t with |some i=>(pure i:Sem TypeInfo)|none=>stuck "no such type"):=rfl
  rw[this,hi]
  rfl
 unfold Go.sizeOf
 rw[au,e]
 rfl
theorem vX {Q:Program} {t:TypeId} {d:TypeDesc} (h:Q.underlying t=some d):av Q (Go.isAgg t)=some (dp Q t):=by
 unfold Go.isAgg dp
 rw[au,aG h,h]
 cases d<;>rfl
theorem Dv: ∀{xs:List D} {vs:List Value},D.cR xs=some vs->vs.length=xs.length
 | [],vs,h=>by simp[D.cR] at h;subst h;rfl
 |x::r,vs,h=>by
  unfold D.cR at h
  split at h
  ·rename_i v us h1 h2
   simp at h;subst h
   simp[Dv h2]
  ·cases h
theorem vY: ∀{xs:List D} {vs:List Value} {i:Nat} {x:D},D.cR xs=some vs->xs[i]?=some x-> ∃v,vs[i]?=some v/\x.fW=some v
 | [],vs,i,x,h,hx=>by simp at hx
 |y::r,vs,i,x,h,hx=>by
  unfold D.cR at h
  split at h
  ·rename_i v us h1 h2
   simp at h;subst h
   cases i with
   |zero=>simp at hx;subst hx;exact⟨v,rfl,h1⟩
   |succ i=>simpa using vY h2 (by simpa using hx)
  ·cases h
theorem zD: ∀{xs:List D} {vs:List Value} (a:Nat),D.cR xs=some vs->D.cR (xs.drop a)=some (vs.drop a)
 |xs,vs,0,h=>h
 | [],vs,a+1,h=>by simp[D.cR] at h;subst h;rfl
 |y::r,vs,a+1,h=>by
  unfold D.cR at h
  split at h
  ·rename_i v us h1 h2
   simp at h;subst h
   exact zD a h2
  ·cases h
theorem zF: ∀{xs:List D} {vs:List Value} (a:Nat),D.cR xs=some vs->D.cR (xs.take a)=some (vs.take a)
 |xs,vs,0,h=>rfl
 | [],vs,a+1,h=>by simp[D.cR] at h;subst h;rfl
 |y::r,vs,a+1,h=>by
  unfold D.cR at h
  split at h
  ·rename_i v us h1 h2
   simp at h;subst h
   simp only[List.take_succ_cons]
   unfold D.cR
   rw[h1,zF a h2]
  ·cases h
theorem qm {Q:Program} {t:TypeId} {xs:List D} {vs:List Value} {off:Nat} {x:D} (hv:D.cR xs=some vs) (h:iN Q t xs off=some x):
  ∃v,av Q (Go.part t ⟨vs⟩ off)=some v/\x.cw=some v:=by
 unfold iN at h
 split at h
 ·cases h
 ·rename_i k hk
  obtain⟨_,d,_,hd,_⟩:=fU hk
  unfold Go.part
  rw[au,vX hd]
  cases vi:dp Q t with
  |true=>
   rw[vi] at h
   simp only[if_true] at h
   split at h
   ·rename_i hle
    simp only[Option.some.injEq] at h
    subst h
    refine⟨.agg ⟨(vs.drop off).take k⟩,?_,by simp[D.cw,zF k (zD off hv)]⟩
    simp only[Option.bind_some,if_true]
    rw[au,uO hk]
    simp only[Option.bind_some]
    show some (Value.agg ((⟨vs⟩:Array Value).extract off (off+k)))=_
    congr 2
    rw[<-Array.toList_inj]
    simp
   ·cases h
  |false=>
   rw[vi] at h
   simp only[Bool.false_eq_true,if_false] at h
   obtain⟨v,h1,h2⟩:=vY hv h
   refine⟨v,?_,?_⟩
   ·simp only[Option.bind_some,Bool.false_eq_true,if_false]
    have:(⟨vs⟩:Array Value)[off]?=some v:=by simpa using h1
    rw[this]
    rfl
   ·cases x<;>first |exact h2 |simp[D.fW] at h2
theorem dO (Q:Program):av Q program=some Q:=rfl
theorem qn {Q:Program} {go:TypeId->D->D->Option Bool} {ev:TypeId->Value->Value->Sem Bool} (lL: ∀t x y c u v,go t x y=some c->x.cw=some u->y.cw=some v->av Q (ev t u v)=some c)
  {xs ys:List D} {us vs:List Value} (hx:D.cR xs=some us) (hy:D.cR ys=some vs): ∀(fs:List Field) (c:Bool),Dj Q go fs xs ys=some c->
  av Q (do
   for f in fs do
    if f.name≠ "_" then
     if !(<-ev f.type (<-Go.part f.type ⟨us⟩ f.offset) (<-Go.part f.type ⟨vs⟩ f.offset)) then return false
   pure true)=some c
 | [],c,h=>by
  simp only[Dj,Option.some.injEq] at h
  subst h
  rfl
 |f::r,c,h=>by
  have ih:=qn lL hx hy r
  unfold Dj at h
  simp only[List.forIn_cons,bind_assoc] at ih⊢
  split at h
  ·rename_i hn
   have hn: ¬f.name≠ "_" :=by simpa using hn
   rw[if_neg hn]
   simp only[pure_bind]
   exact ih c h
  ·rename_i hn
   have hn:f.name≠ "_" :=by simpa using hn
   rw[if_pos hn]
   split at h
   ·rename_i x y WV hpy
    split at h
    ·rename_i a b ha hb
     simp only[Option.some.injEq] at h
     subst h
     obtain⟨u,e1,h1⟩:=qm hx WV
     obtain⟨v,e2,h2⟩:=qm hy hpy
     have e3:=lL _ _ _ _ _ _ ha h1 h2
     simp only[bind_assoc]
     rw[au,e1,Option.bind_some,au,e2,Option.bind_some,au,e3,Option.bind_some]
     cases a with
     |false=>rfl
     |true=>
      simp only[Bool.not_true,Bool.false_eq_true,if_false,pure_bind,Bool.true_and]
      exact ih b hb
    ·cases h
   ·cases h
theorem fk {Q:Program}: ∀(n d:Nat) (t:TypeId) (x y:D) (c:Bool) (u v:Value),n<=d->S1 Q n t x y=some c->x.cw=some u->y.cw=some v->av Q (Op.equalIn d t u v)=some c
 |0,_,_,_,_,_,_,_,_,h,_,_=>by simp[S1] at h
 |n+1,0,_,_,_,_,_,_,hd,_,_,_=>by omega
 |n+1,d+1,t,x,y,c,u,v,hd,h,hu,hv=>by
  unfold S1 at h
  split at h
  ·rename_i hq
   split at h
   ·rename_i a b
    simp[D.cw,D.fW] at hu hv
    subst hu hv
    rw[Op.equalIn,au,aG hq]
    exact h
   ·cases h
  ·rename_i k0 hq
   split at h
   ·rename_i k a k' b
    simp[D.cw,D.fW] at hu hv
    subst hu hv
    split at h
    ·rename_i hk
     have hk:k=k':=by simpa using hk
     subst hk
     rw[Op.equalIn,au,aG hq]
     simp only[Option.bind_some,if_true]
     exact h
    ·cases h
   ·cases h
  ·rename_i hq
   split at h
   ·rename_i a b
    simp[D.cw,D.fW] at hu hv
    subst hu hv
    rw[Op.equalIn,au,aG hq]
    simp only[Option.some.injEq] at h
    subst h
    show some _=some _
    congr 1
    rw[Bool.eq_iff_iff]
    show((⟨a⟩:Array UInt8)==⟨b⟩)=true↔(a==b)=true
    simp
   ·cases h
  ·rename_i fs hq
   split at h
   ·rename_i xs ys
    split at h
    ·cases h
    ·rename_i jj
     simp only[D.cw] at hu hv
     split at hu
     ·rename_i us hus
      simp only[Option.some.injEq] at hu
      subst hu
      split at hv
      ·rename_i vs Ii
       simp only[Option.some.injEq] at hv
       subst hv
       have key:=qn (ev:=Op.equalIn d) (fun t x y c u v h1 h2 h3=>fk n d t x y c u v (by omega) h1 h2 h3) hus Ii fs.toList c h
       rw[Op.equalIn,au,aG hq]
       simp only[Option.bind_some]
       rw[au,dO,Option.bind_some,jj]
       simp only[Bool.false_eq_true,if_false]
       rw[<-Array.forIn_toList]
       exact key
      ·cases hv
     ·cases hu
   ·cases h
  ·cases h
theorem ov {Q:Program} {op:BinOp} {t:TypeId} {x y:Operand} {us vs:Array Value} (h:Q.eqGuardType Q.depth t=false) (ho:op= .eql\/op= .neq):av Q (eqGuard op t x y (.agg us) (.agg vs))=some ():=by
 rcases ho with rfl |rfl
 ·show av Q (do
   if !(<-program).eqGuardType (<-program).depth t then return
   if<-Op.eqGuardIn Op.maxDepth t (.agg us) (.agg vs) then unsupported (.noEntry "binop/eql: two nil values of an interface type with methods, in a part of a struct or an array"))=_
  rw[au,dO,Option.bind_some,au,dO,Option.bind_some,h]
  rfl
 ·show av Q (do
   if !(<-program).eqGuardType (<-program).depth t then return
   if<-Op.eqGuardIn Op.maxDepth t (.agg us) (.agg vs) then unsupported (.noEntry "binop/eql: two nil values of an interface type with methods, in a part of a struct or an array"))=_
  rw[au,dO,Option.bind_some,au,dO,Option.bind_some,h]
  rfl
end Pi
