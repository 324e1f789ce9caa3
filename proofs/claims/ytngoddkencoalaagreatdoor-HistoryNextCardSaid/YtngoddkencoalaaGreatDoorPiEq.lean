/- The text PiEq. -/
import Derived.Test.YtngoddkencoalaaGreatDoorPiPure
import Derived.Laws.Strings
namespace Pi
open Go
theorem av {α β:Type} (Q:Program): ∀(m:Sem α) (f:α->Sem β),aw Q (m>>=f)=(aw Q m).bind fun a=>aw Q (f a)
 | .pure _,_=>rfl
 | .program k,f=>av Q (k Q) f
 | .mark _ k,f=>av Q k f
 | .load ..,_ | .store ..,_ | .new ..,_ | .shape ..,_ | .freeze ..,_ | .frozen ..,_ | .getObj ..,_ | .setObj ..,_ | .choose ..,_ | .sys ..,_ | .halt _,_=>rfl
theorem aK {Q:Program} {t:TypeId} {d:TypeDesc} (h:Q.underlying t=some d):aw Q (underlying t)=some d:=by
 have:aw Q (underlying t)=aw Q (match Q.underlying t with |some d=>(pure d:Sem TypeDesc)|none=>stuck "no such type"):=rfl
 rw[this,h]
 rfl
theorem jU {Q:Program} {t:TypeId} (h:Q.underlying t=some .bool) (a b:Bool):aw Q (Op.equal t (.bool a) (.bool b))=some (a==b):=by
 have e:Op.equal t (.bool a) (.bool b)=Op.equalIn (9999+1) t (.bool a) (.bool b):=rfl
 rw[e,Op.equalIn,av,aK h]
 rfl
theorem vv {Q:Program} {t:TypeId} {k:Nat} (h:sz Q t=some k):aw Q (Go.sizeOf t)=some k:=by
 obtain⟨i,d,hi,_,rfl⟩:=gl h
 have e:aw Q (typeInfo t)=some i:=by
  have:aw Q (typeInfo t)=aw Q (match Q.info? t with |some i=>(pure i:Sem TypeInfo)|none=>stuck "no such type"):=rfl
  rw[this,hi]
  rfl
 unfold Go.sizeOf
 rw[av,e]
 rfl
theorem wW {Q:Program} {t:TypeId} {d:TypeDesc} (h:Q.underlying t=some d):aw Q (Go.isAgg t)=some (dy Q t):=by
 unfold Go.isAgg dy
 rw[av,aK h,h]
 cases d<;>rfl
theorem Es: ∀{xs:List D} {vs:List Value},D.c7 xs=some vs->vs.length=xs.length
 | [],vs,h=>by simp[D.c7] at h;subst h;rfl
 |x::r,vs,h=>by
  unfold D.c7 at h
  split at h
  ·rename_i v us h1 h2
   simp at h;subst h
   simp[Es h2]
  ·cases h
theorem wX: ∀{xs:List D} {vs:List Value} {i:Nat} {x:D},D.c7 xs=some vs->xs[i]?=some x-> ∃v,vs[i]?=some v/\x.gu=some v
 | [],vs,i,x,h,hx=>by simp at hx
 |y::r,vs,i,x,h,hx=>by
  unfold D.c7 at h
  split at h
  ·rename_i v us h1 h2
   simp at h;subst h
   cases i with
   |zero=>simp at hx;subst hx;exact⟨v,rfl,h1⟩
   |succ i=>simpa using wX h2 (by simpa using hx)
  ·cases h
theorem AE: ∀{xs:List D} {vs:List Value} (a:Nat),D.c7 xs=some vs->D.c7 (xs.drop a)=some (vs.drop a)
 |xs,vs,0,h=>h
 | [],vs,a+1,h=>by simp[D.c7] at h;subst h;rfl
 |y::r,vs,a+1,h=>by
  unfold D.c7 at h
  split at h
  ·rename_i v us h1 h2
   simp at h;subst h
   exact AE a h2
  ·cases h
theorem AF: ∀{xs:List D} {vs:List Value} (a:Nat),D.c7 xs=some vs->D.c7 (xs.take a)=some (vs.take a)
 |xs,vs,0,h=>rfl
 | [],vs,a+1,h=>by simp[D.c7] at h;subst h;rfl
 |y::r,vs,a+1,h=>by
  unfold D.c7 at h
  split at h
  ·rename_i v us h1 h2
   simp at h;subst h
   simp only[List.take_succ_cons]
   unfold D.c7
   rw[h1,AF a h2]
  ·cases h
theorem qL {Q:Program} {t:TypeId} {xs:List D} {vs:List Value} {off:Nat} {x:D} (hv:D.c7 xs=some vs) (h:jj Q t xs off=some x):
  ∃v,aw Q (Go.part t ⟨vs⟩ off)=some v/\x.cy=some v:=by
 unfold jj at h
 split at h
 ·cases h
 ·rename_i k hk
  obtain⟨_,d,_,hd,_⟩:=gl hk
  unfold Go.part
  rw[av,wW hd]
  cases wa:dy Q t with
  |true=>
   rw[wa] at h
   simp only[zba] at h
   split at h
   ·rename_i hle
    simp only[zal] at h
    subst h
    refine⟨.agg ⟨(vs.drop off).take k⟩,?_,by simp[D.cy,AF k (AE off hv)]⟩
    simp only[zau,zba]
    rw[av,vv hk]
    simp only[zau]
    show some (Value.agg ((⟨vs⟩:Array Value).extract off (off+k)))=_
    congr 2
    rw[<-zbq]
    simp
   ·cases h
  |false=>
   rw[wa] at h
   simp only[zaz,zbd] at h
   obtain⟨v,h1,h2⟩:=wX hv h
   refine⟨v,?_,?_⟩
   ·simp only[zau,zaz,zbd]
    have:(⟨vs⟩:Array Value)[off]?=some v:=by simpa using h1
    rw[this]
    rfl
   ·cases x<;>first |exact h2 |simp[D.gu] at h2
theorem dV (Q:Program):aw Q program=some Q:=rfl
theorem qM {Q:Program} {go:TypeId->D->D->Option Bool} {ev:TypeId->Value->Value->Sem Bool} (mv: ∀t x y c u v,go t x y=some c->x.cy=some u->y.cy=some v->aw Q (ev t u v)=some c)
  {xs ys:List D} {us vs:List Value} (hx:D.c7 xs=some us) (hy:D.c7 ys=some vs): ∀(fs:List Field) (c:Bool),Ef Q go fs xs ys=some c->
  aw Q (do
   for f in fs do
    if f.name≠ "_" then
     if !(<-ev f.type (<-Go.part f.type ⟨us⟩ f.offset) (<-Go.part f.type ⟨vs⟩ f.offset)) then return false
   pure true)=some c
 | [],c,h=>by
  simp only[Ef,zal] at h
  subst h
  rfl
 |f::r,c,h=>by
  have ih:=qM mv hx hy r
  unfold Ef at h
  simp only[List.forIn_cons,bind_assoc] at ih⊢
  split at h
  ·rename_i hn
   have hn: ¬f.name≠ "_" :=by simpa using hn
   rw[zam hn]
   simp only[pure_bind]
   exact ih c h
  ·rename_i hn
   have hn:f.name≠ "_" :=by simpa using hn
   rw[zao hn]
   split at h
   ·rename_i x y hpx hpy
    split at h
    ·rename_i a b ha hb
     simp only[zal] at h
     subst h
     obtain⟨u,e1,h1⟩:=qL hx hpx
     obtain⟨v,e2,h2⟩:=qL hy hpy
     have e3:=mv _ _ _ _ _ _ ha h1 h2
     simp only[bind_assoc]
     rw[av,e1,zau,av,e2,zau,av,e3,zau]
     cases a with
     |false=>rfl
     |true=>
      simp only[zc8,zaz,zbd,pure_bind,zaQ]
      exact ih b hb
    ·cases h
   ·cases h
theorem fE {Q:Program}: ∀(n d:Nat) (t:TypeId) (x y:D) (c:Bool) (u v:Value),n<=d->VG Q n t x y=some c->x.cy=some u->y.cy=some v->aw Q (Op.equalIn d t u v)=some c
 |0,_,_,_,_,_,_,_,_,h,_,_=>by simp[VG] at h
 |n+1,0,_,_,_,_,_,_,hd,_,_,_=>by omega
 |n+1,d+1,t,x,y,c,u,v,hd,h,hu,hv=>by
  unfold VG at h
  split at h
  ·rename_i hq
   split at h
   ·rename_i a b
    simp[D.cy,D.gu] at hu hv
    subst hu hv
    rw[Op.equalIn,av,aK hq]
    exact h
   ·cases h
  ·rename_i k0 hq
   split at h
   ·rename_i k a k' b
    simp[D.cy,D.gu] at hu hv
    subst hu hv
    split at h
    ·rename_i hk
     have hk:k=k':=by simpa using hk
     subst hk
     rw[Op.equalIn,av,aK hq]
     simp only[zau,zba]
     exact h
    ·cases h
   ·cases h
  ·rename_i hq
   split at h
   ·rename_i a b
    simp[D.cy,D.gu] at hu hv
    subst hu hv
    rw[Op.equalIn,av,aK hq]
    simp only[zal] at h
    subst h
    show some _=some _
    congr 1
    rw[zaE]
    show((⟨a⟩:Array UInt8)==⟨b⟩)=true↔(a==b)=true
    simp
   ·cases h
  ·rename_i fs hq
   split at h
   ·rename_i xs ys
    split at h
    ·cases h
    ·rename_i kO
     simp only[D.cy] at hu hv
     split at hu
     ·rename_i us hus
      simp only[zal] at hu
      subst hu
      split at hv
      ·rename_i vs LQ
       simp only[zal] at hv
       subst hv
       have key:=qM (ev:=Op.equalIn d) (fun t x y c u v h1 h2 h3=>fE n d t x y c u v (by omega) h1 h2 h3) hus LQ fs.toList c h
       rw[Op.equalIn,av,aK hq]
       simp only[zau]
       rw[av,dV,zau,kO]
       simp only[zaz,zbd]
       rw[<-Array.forIn_toList]
       exact key
      ·cases hv
     ·cases hu
   ·cases h
  ·cases h
theorem o8 {Q:Program} {op:BinOp} {t:TypeId} {x y:Operand} {us vs:Array Value} (h:Q.eqGuardType Q.depth t=false) (ho:op= .eql\/op= .neq):aw Q (eqGuard op t x y (.agg us) (.agg vs))=some ():=by
 rcases ho with rfl |rfl
 ·show aw Q (do
   if !(<-program).eqGuardType (<-program).depth t then return
   if<-Op.eqGuardIn Op.maxDepth t (.agg us) (.agg vs) then unsupported (.noEntry "binop/eql: two nil values of an interface type with methods, in a part of a struct or an array"))=_
  rw[av,dV,zau,av,dV,zau,h]
  rfl
 ·show aw Q (do
   if !(<-program).eqGuardType (<-program).depth t then return
   if<-Op.eqGuardIn Op.maxDepth t (.agg us) (.agg vs) then unsupported (.noEntry "binop/eql: two nil values of an interface type with methods, in a part of a struct or an array"))=_
  rw[av,dV,zau,av,dV,zau,h]
  rfl
end Pi
