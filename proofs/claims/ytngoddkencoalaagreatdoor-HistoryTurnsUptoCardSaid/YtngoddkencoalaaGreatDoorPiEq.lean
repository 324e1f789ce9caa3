/- The text PiEq. -/
import Derived.Test.YtngoddkencoalaaGreatDoorPiPure
import Derived.Laws.Strings
namespace Pi
open Go
theorem az{α β:Type}(Q:Program): ∀(m:Sem α) (f:α->Sem β),aC Q (m>>=f)=(aC Q m).bind λa=>aC Q (f a)
 | .pure _,_=>rfl
 | .program k,f=>az Q (k Q) f
 | .mark _ k,f=>az Q k f
 | .load ..,_ | .store ..,_ | .new ..,_ | .shape ..,_ | .freeze ..,_ | .frozen ..,_ | .getObj ..,_ | .setObj ..,_ | .choose ..,_ | .sys ..,_ | .halt _,_=>rfl
theorem aL{Q:Program}{t:TypeId}{d:TypeDesc}(h:Q.underlying t=some d):aC Q (underlying t)=some d:=by have:aC Q (underlying t)=aC Q (match Q.underlying t with |some d=>(pure d:Sem TypeDesc)|none=>stuck "no such type"):=rfl;rw[this,h];rfl
theorem km{Q:Program}{t:TypeId}(h:Q.underlying t=some .bool)(a b:Bool):aC Q (Op.equal t (.bool a) (.bool b))=some (a==b):=by have e:Op.equal t (.bool a) (.bool b)=Op.equalIn (9999+1) t (.bool a) (.bool b):=rfl;rw[e,Op.equalIn,az,aL h];rfl
theorem xh{Q:Program}{t:TypeId}{k:Nat}(h:sz Q t=some k):aC Q (Go.sizeOf t)=some k:=by
 obtain⟨i,d,hi,_,rfl⟩:=gx h;have e:aC Q (typeInfo t)=some i:=by have:aC Q (typeInfo t)=aC Q (match Q.info? t with |some i=>(pure i:Sem TypeInfo)|none=>stuck "no such type"):=rfl;rw[this,hi];rfl
 unfold Go.sizeOf;rw[az,e];rfl
theorem yC{Q:Program}{t:TypeId}{d:TypeDesc}(h:Q.underlying t=some d):aC Q (Go.isAgg t)=some (dE Q t):=by unfold Go.isAgg dE;rw[az,aL h,h];cases d<;>rfl
theorem GB: ∀{xs:List D} {vs:List Value},D.df xs=some vs->vs.length=xs.length
 | [],vs,h=>by simp[D.df] at h;subst h;rfl
 |x::r,vs,h=>by
  unfold D.df at h;split at h
  next v us h1 h2=>simp at h;subst h;simp[GB h2]
  cases h
theorem yD: ∀{xs:List D} {vs:List Value} {i:Nat} {x:D},D.df xs=some vs->xs[i]?=some x-> ∃v,vs[i]?=some v/\x.gj=some v
 | [],vs,i,x,h,hx=>by simp at hx
 |y::r,vs,i,x,h,hx=>by
  unfold D.df at h;split at h
  next v us h1 h2=>
   simp at h;subst h;cases i with
   |zero=>simp at hx;subst hx;exact⟨v,rfl,h1⟩
   |succ i=>simpa using yD h2 (by simpa using hx)
  cases h
theorem Cn: ∀{xs:List D} {vs:List Value} (a:Nat),D.df xs=some vs->D.df (xs.drop a)=some (vs.drop a)
 |xs,vs,0,h=>h
 | [],vs,a+1,h=>by simp[D.df] at h;subst h;rfl
 |y::r,vs,a+1,h=>by
  unfold D.df at h;split at h
  next v us h1 h2=>simp at h;subst h;exact Cn a h2
  cases h
theorem Co: ∀{xs:List D} {vs:List Value} (a:Nat),D.df xs=some vs->D.df (xs.take a)=some (vs.take a)
 |xs,vs,0,h=>rfl
 | [],vs,a+1,h=>by simp[D.df] at h;subst h;rfl
 |y::r,vs,a+1,h=>by
  unfold D.df at h;split at h
  next v us h1 h2=>simp at h;subst h;simp only[List.take_succ_cons];unfold D.df;rw[h1,Co a h2]
  cases h
theorem rQ{Q:Program}{t:TypeId}{xs:List D}{vs:List Value}{off:Nat}{x:D}(hv:D.df xs=some vs)(h:jB Q t xs off=some x):
  ∃v,aC Q (Go.part t ⟨vs⟩ off)=some v/\x.cF=some v:=by
 unfold jB at h;split at h
 ·cases h
 rename_i k hk;obtain⟨_,d,_,hd,_⟩:=gx hk;unfold Go.part;rw[az,yC hd];cases FL:dE Q t with
 |true=>
  rw[FL] at h;simp only[zbr] at h;split at h
  next hle=>simp only[zam] at h;subst h;refine⟨.agg ⟨(vs.drop off).take k⟩,?_,by simp[D.cF,Co k (Cn off hv)]⟩;simp only[zaw,zbr];rw[az,xh hk];simp only[zaw];show some (Value.agg ((⟨vs⟩:Array Value).extract off (off+k)))=_;congr 2;rw[<-zby];simp
  cases h
 |false=>
  rw[FL] at h;simp only[zaK,zbt] at h;obtain⟨v,h1,h2⟩:=yD hv h;refine⟨v,?_,?_⟩
  ·simp only[zaw,zaK,zbt];have:(⟨vs⟩:Array Value)[off]?=some v:=by simpa using h1
   rw[this];rfl
  cases x<;>first |exact h2 |simp[D.gj] at h2
theorem eb(Q:Program):aC Q program=some Q:=rfl
theorem rR{Q:Program}{go:TypeId->D->D->Option Bool}{ev:TypeId->Value->Value->Sem Bool}(nk: ∀t x y c u v,go t x y=some c->x.cF=some u->y.cF=some v->aC Q (ev t u v)=some c)
  {xs ys:List D} {us vs:List Value} (hx:D.df xs=some us) (hy:D.df ys=some vs): ∀(fs:List Field) (c:Bool),Gq Q go fs xs ys=some c->
  aC Q (do
   for f in fs do
    if f.name≠ "_" then
     if !(<-ev f.type (<-Go.part f.type ⟨us⟩ f.offset) (<-Go.part f.type ⟨vs⟩ f.offset)) then return false
   pure true)=some c
 | [],c,h=>by simp only[Gq,zam] at h;subst h;rfl
 |f::r,c,h=>by
  have ih:=rR nk hx hy r;unfold Gq at h;simp only[List.forIn_cons,bind_assoc] at ih⊢;split at h
  next hn=>
   have hn: ¬f.name≠ "_" :=by simpa using hn
   rw[zan hn];simp only[pure_bind];exact ih c h
  rename_i hn;have hn:f.name≠ "_" :=by simpa using hn
  rw[zap hn];split at h
  next x y hpx hpy=>
   split at h
   ·rename_i a b ha hb;simp only[zam] at h;subst h;obtain⟨u,e1,h1⟩:=rQ hx hpx;obtain⟨v,e2,h2⟩:=rQ hy hpy;have e3:=nk _ _ _ _ _ _ ha h1 h2;simp only[bind_assoc];rw[az,e1,zaw,az,e2,zaw,az,e3,zaw];cases a with
    |false=>rfl
    |true=>simp only[zdr,zaK,zbt,pure_bind,zaS];exact ih b hb
   cases h
  cases h
theorem fK{Q:Program}: ∀(n d:Nat) (t:TypeId) (x y:D) (c:Bool) (u v:Value),n<=d->YQ Q n t x y=some c->x.cF=some u->y.cF=some v->aC Q (Op.equalIn d t u v)=some c
 |0,_,_,_,_,_,_,_,_,h,_,_=>by simp[YQ] at h
 |n+1,0,_,_,_,_,_,_,hd,_,_,_=>by omega
 |n+1,d+1,t,x,y,c,u,v,hd,h,hu,hv=>by
  unfold YQ at h;split at h
  next hq=>
   split at h
   next a b=>simp[D.cF,D.gj] at hu hv;subst hu hv;rw[Op.equalIn,az,aL hq];exact h
   cases h
  next k0 hq=>
   split at h
   ·rename_i k a k' b;simp[D.cF,D.gj] at hu hv;subst hu hv;split at h
    ·rename_i hk;have hk:k=k':=by simpa using hk
     subst hk;rw[Op.equalIn,az,aL hq];simp only[zaw,zbr];exact h
    cases h
   cases h
  next hq=>
   split at h
   next a b=>simp[D.cF,D.gj] at hu hv;subst hu hv;rw[Op.equalIn,az,aL hq];simp only[zam] at h;subst h;show some _=some _;congr 1;rw[zaH];show((⟨a⟩:Array UInt8)==⟨b⟩)=true↔(a==b)=true;simp
   cases h
  next fs hq=>
   split at h
   ·rename_i xs ys;split at h
    ·cases h
    rename_i jv;simp only[D.cF] at hu hv;split at hu
    ·rename_i us hus;simp only[zam] at hu;subst hu;split at hv
     next vs Ow=>simp only[zam] at hv;subst hv;have key:=rR (ev:=Op.equalIn d) (λt x y c u v h1 h2 h3=>fK n d t x y c u v (by omega) h1 h2 h3) hus Ow fs.toList c h;rw[Op.equalIn,az,aL hq];simp only[zaw];rw[az,eb,zaw,jv];simp only[zaK,zbt];rw[<-Array.forIn_toList];exact key
     cases hv
    cases hu
   cases h
  cases h
theorem qj{Q:Program}{op:BinOp}{t:TypeId}{x y:Operand}{us vs:Array Value}(h:Q.eqGuardType Q.depth t=false)(ho:op= .eql\/op= .neq):aC Q (eqGuard op t x y (.agg us) (.agg vs))=some ():=by
 rcases ho with rfl |rfl
 ·show aC Q (do
   if !(<-program).eqGuardType (<-program).depth t then return
   if<-Op.eqGuardIn Op.maxDepth t (.agg us) (.agg vs) then unsupported (.noEntry "binop/eql: two nil values of an interface type with methods, in a part of a struct or an array"))=_
  rw[az,eb,zaw,az,eb,zaw,h];rfl
 show aC Q (do
  if !(<-program).eqGuardType (<-program).depth t then return
  if<-Op.eqGuardIn Op.maxDepth t (.agg us) (.agg vs) then unsupported (.noEntry "binop/eql: two nil values of an interface type with methods, in a part of a struct or an array"))=_
 rw[az,eb,zaw,az,eb,zaw,h];rfl
end Pi
