/- The text PiEq. -/
import Derived.Test.YtngoddkencoalaaGreatDoorPiPure
import Derived.Laws.Strings
namespace Pi
open Go
theorem aw{α β:Type}(Q:Program): ∀(m:Sem α) (f:α->Sem β),ax Q (m>>=f)=(ax Q m).bind λa=>ax Q (f a)
 | .pure _,_=>rfl
 | .program k,f=>aw Q (k Q) f
 | .mark _ k,f=>aw Q k f
 | .load ..,_ | .store ..,_ | .new ..,_ | .shape ..,_ | .freeze ..,_ | .frozen ..,_ | .getObj ..,_ | .setObj ..,_ | .choose ..,_ | .sys ..,_ | .halt _,_=>rfl
theorem aL{Q:Program}{t:TypeId}{d:TypeDesc}(h:Q.underlying t=some d):ax Q (underlying t)=some d:=by have:ax Q (underlying t)=ax Q (match Q.underlying t with |some d=>(pure d:Sem TypeDesc)|none=>stuck "no such type"):=rfl;rw[this,h];rfl
theorem jX{Q:Program}{t:TypeId}(h:Q.underlying t=some .bool)(a b:Bool):ax Q (Op.equal t (.bool a) (.bool b))=some (a==b):=by have e:Op.equal t (.bool a) (.bool b)=Op.equalIn (9999+1) t (.bool a) (.bool b):=rfl;rw[e,Op.equalIn,aw,aL h];rfl
theorem vI{Q:Program}{t:TypeId}{k:Nat}(h:sz Q t=some k):ax Q (Go.sizeOf t)=some k:=by
 obtain⟨i,d,hi,_,rfl⟩:=gm h;have e:ax Q (typeInfo t)=some i:=by have:ax Q (typeInfo t)=ax Q (match Q.info? t with |some i=>(pure i:Sem TypeInfo)|none=>stuck "no such type"):=rfl;rw[this,hi];rfl
 unfold Go.sizeOf;rw[aw,e];rfl
theorem w9{Q:Program}{t:TypeId}{d:TypeDesc}(h:Q.underlying t=some d):ax Q (Go.isAgg t)=some (dA Q t):=by unfold Go.isAgg dA;rw[aw,aL h,h];cases d<;>rfl
theorem Ey: ∀{xs:List D} {vs:List Value},D.c8 xs=some vs->vs.length=xs.length
 | [],vs,h=>by simp[D.c8] at h;subst h;rfl
 |x::r,vs,h=>by
  unfold D.c8 at h;split at h
  next v us h1 h2=>simp at h;subst h;simp[Ey h2]
  cases h
theorem xa: ∀{xs:List D} {vs:List Value} {i:Nat} {x:D},D.c8 xs=some vs->xs[i]?=some x-> ∃v,vs[i]?=some v/\x.gw=some v
 | [],vs,i,x,h,hx=>by simp at hx
 |y::r,vs,i,x,h,hx=>by
  unfold D.c8 at h;split at h
  next v us h1 h2=>
   simp at h;subst h;cases i with
   |zero=>simp at hx;subst hx;exact⟨v,rfl,h1⟩
   |succ i=>simpa using xa h2 (by simpa using hx)
  cases h
theorem AK: ∀{xs:List D} {vs:List Value} (a:Nat),D.c8 xs=some vs->D.c8 (xs.drop a)=some (vs.drop a)
 |xs,vs,0,h=>h
 | [],vs,a+1,h=>by simp[D.c8] at h;subst h;rfl
 |y::r,vs,a+1,h=>by
  unfold D.c8 at h;split at h
  next v us h1 h2=>simp at h;subst h;exact AK a h2
  cases h
theorem AL: ∀{xs:List D} {vs:List Value} (a:Nat),D.c8 xs=some vs->D.c8 (xs.take a)=some (vs.take a)
 |xs,vs,0,h=>rfl
 | [],vs,a+1,h=>by simp[D.c8] at h;subst h;rfl
 |y::r,vs,a+1,h=>by
  unfold D.c8 at h;split at h
  next v us h1 h2=>simp at h;subst h;simp only[List.take_succ_cons];unfold D.c8;rw[h1,AL a h2]
  cases h
theorem qR{Q:Program}{t:TypeId}{xs:List D}{vs:List Value}{off:Nat}{x:D}(hv:D.c8 xs=some vs)(h:jf Q t xs off=some x):
  ∃v,ax Q (Go.part t ⟨vs⟩ off)=some v/\x.cA=some v:=by
 unfold jf at h;split at h
 ·cases h
 rename_i k hk;obtain⟨_,d,_,hd,_⟩:=gm hk;unfold Go.part;rw[aw,w9 hd];cases wo:dA Q t with
 |true=>
  rw[wo] at h;simp only[zbb] at h;split at h
  next hle=>simp only[zal] at h;subst h;refine⟨.agg ⟨(vs.drop off).take k⟩,?_,by simp[D.cA,AL k (AK off hv)]⟩;simp only[zau,zbb];rw[aw,vI hk];simp only[zau];show some (Value.agg ((⟨vs⟩:Array Value).extract off (off+k)))=_;congr 2;rw[<-zbs];simp
  cases h
 |false=>
  rw[wo] at h;simp only[zaB,zbj] at h;obtain⟨v,h1,h2⟩:=xa hv h;refine⟨v,?_,?_⟩
  ·simp only[zau,zaB,zbj];have:(⟨vs⟩:Array Value)[off]?=some v:=by simpa using h1
   rw[this];rfl
  cases x<;>first |exact h2 |simp[D.gw] at h2
theorem dX(Q:Program):ax Q program=some Q:=rfl
theorem qS{Q:Program}{go:TypeId->D->D->Option Bool}{ev:TypeId->Value->Value->Sem Bool}(mA: ∀t x y c u v,go t x y=some c->x.cA=some u->y.cA=some v->ax Q (ev t u v)=some c)
  {xs ys:List D} {us vs:List Value} (hx:D.c8 xs=some us) (hy:D.c8 ys=some vs): ∀(fs:List Field) (c:Bool),Ek Q go fs xs ys=some c->
  ax Q (do
   for f in fs do
    if f.name≠ "_" then
     if !(<-ev f.type (<-Go.part f.type ⟨us⟩ f.offset) (<-Go.part f.type ⟨vs⟩ f.offset)) then return false
   pure true)=some c
 | [],c,h=>by simp only[Ek,zal] at h;subst h;rfl
 |f::r,c,h=>by
  have ih:=qS mA hx hy r;unfold Ek at h;simp only[List.forIn_cons,bind_assoc] at ih⊢;split at h
  next hn=>
   have hn: ¬f.name≠ "_" :=by simpa using hn
   rw[zam hn];simp only[pure_bind];exact ih c h
  rename_i hn;have hn:f.name≠ "_" :=by simpa using hn
  rw[zao hn];split at h
  next x y hpx hpy=>
   split at h
   ·rename_i a b ha hb;simp only[zal] at h;subst h;obtain⟨u,e1,h1⟩:=qR hx hpx;obtain⟨v,e2,h2⟩:=qR hy hpy;have e3:=mA _ _ _ _ _ _ ha h1 h2;simp only[bind_assoc];rw[aw,e1,zau,aw,e2,zau,aw,e3,zau];cases a with
    |false=>rfl
    |true=>simp only[zdc,zaB,zbj,pure_bind,zaQ];exact ih b hb
   cases h
  cases h
theorem fC{Q:Program}: ∀(n d:Nat) (t:TypeId) (x y:D) (c:Bool) (u v:Value),n<=d->VT Q n t x y=some c->x.cA=some u->y.cA=some v->ax Q (Op.equalIn d t u v)=some c
 |0,_,_,_,_,_,_,_,_,h,_,_=>by simp[VT] at h
 |n+1,0,_,_,_,_,_,_,hd,_,_,_=>by omega
 |n+1,d+1,t,x,y,c,u,v,hd,h,hu,hv=>by
  unfold VT at h;split at h
  next hq=>
   split at h
   next a b=>simp[D.cA,D.gw] at hu hv;subst hu hv;rw[Op.equalIn,aw,aL hq];exact h
   cases h
  next k0 hq=>
   split at h
   ·rename_i k a k' b;simp[D.cA,D.gw] at hu hv;subst hu hv;split at h
    ·rename_i hk;have hk:k=k':=by simpa using hk
     subst hk;rw[Op.equalIn,aw,aL hq];simp only[zau,zbb];exact h
    cases h
   cases h
  next hq=>
   split at h
   next a b=>simp[D.cA,D.gw] at hu hv;subst hu hv;rw[Op.equalIn,aw,aL hq];simp only[zal] at h;subst h;show some _=some _;congr 1;rw[zaF];show((⟨a⟩:Array UInt8)==⟨b⟩)=true↔(a==b)=true;simp
   cases h
  next fs hq=>
   split at h
   ·rename_i xs ys;split at h
    ·cases h
    rename_i kO;simp only[D.cA] at hu hv;split at hu
    ·rename_i us hus;simp only[zal] at hu;subst hu;split at hv
     next vs L2=>simp only[zal] at hv;subst hv;have key:=qS (ev:=Op.equalIn d) (λt x y c u v h1 h2 h3=>fC n d t x y c u v (by omega) h1 h2 h3) hus L2 fs.toList c h;rw[Op.equalIn,aw,aL hq];simp only[zau];rw[aw,dX,zau,kO];simp only[zaB,zbj];rw[<-Array.forIn_toList];exact key
     cases hv
    cases hu
   cases h
  cases h
theorem o7{Q:Program}{op:BinOp}{t:TypeId}{x y:Operand}{us vs:Array Value}(h:Q.eqGuardType Q.depth t=false)(ho:op= .eql\/op= .neq):ax Q (eqGuard op t x y (.agg us) (.agg vs))=some ():=by
 rcases ho with rfl |rfl
 ·show ax Q (do
   if !(<-program).eqGuardType (<-program).depth t then return
   if<-Op.eqGuardIn Op.maxDepth t (.agg us) (.agg vs) then unsupported (.noEntry "binop/eql: two nil values of an interface type with methods, in a part of a struct or an array"))=_
  rw[aw,dX,zau,aw,dX,zau,h];rfl
 show ax Q (do
  if !(<-program).eqGuardType (<-program).depth t then return
  if<-Op.eqGuardIn Op.maxDepth t (.agg us) (.agg vs) then unsupported (.noEntry "binop/eql: two nil values of an interface type with methods, in a part of a struct or an array"))=_
 rw[aw,dX,zau,aw,dX,zau,h];rfl
end Pi
