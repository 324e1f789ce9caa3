/- The text PiEq. -/
import Derived.Test.YtngoddkencoalaaGreatDoorPiPure
import Derived.Laws.Strings
namespace Pi
open Go
theorem ax{α β:Type}(Q:Program): ∀(m:Sem α) (f:α->Sem β),aA Q (m>>=f)=(aA Q m).bind λa=>aA Q (f a)
 | .pure _,_=>rfl
 | .program k,f=>ax Q (k Q) f
 | .mark _ k,f=>ax Q k f
 | .load ..,_ | .store ..,_ | .new ..,_ | .shape ..,_ | .freeze ..,_ | .frozen ..,_ | .getObj ..,_ | .setObj ..,_ | .choose ..,_ | .sys ..,_ | .halt _,_=>rfl
theorem aM{Q:Program}{t:TypeId}{d:TypeDesc}(h:Q.underlying t=some d):aA Q (underlying t)=some d:=by have:aA Q (underlying t)=aA Q (match Q.underlying t with |some d=>(pure d:Sem TypeDesc)|none=>stuck "no such type"):=rfl;rw[this,h];rfl
theorem kr{Q:Program}{t:TypeId}(h:Q.underlying t=some .bool)(a b:Bool):aA Q (Op.equal t (.bool a) (.bool b))=some (a==b):=by have e:Op.equal t (.bool a) (.bool b)=Op.equalIn (9999+1) t (.bool a) (.bool b):=rfl;rw[e,Op.equalIn,ax,aM h];rfl
theorem wJ{Q:Program}{t:TypeId}{k:Nat}(h:sz Q t=some k):aA Q (Go.sizeOf t)=some k:=by
 obtain⟨i,d,hi,_,rfl⟩:=gA h;have e:aA Q (typeInfo t)=some i:=by have:aA Q (typeInfo t)=aA Q (match Q.info? t with |some i=>(pure i:Sem TypeInfo)|none=>stuck "no such type"):=rfl;rw[this,hi];rfl
 unfold Go.sizeOf;rw[ax,e];rfl
theorem xQ{Q:Program}{t:TypeId}{d:TypeDesc}(h:Q.underlying t=some d):aA Q (Go.isAgg t)=some (dH Q t):=by unfold Go.isAgg dH;rw[ax,aM h,h];cases d<;>rfl
theorem Fa: ∀{xs:List D} {vs:List Value},D.dj xs=some vs->vs.length=xs.length
 | [],vs,h=>by simp[D.dj] at h;subst h;rfl
 |x::r,vs,h=>by
  unfold D.dj at h;split at h
  next v us h1 h2=>simp at h;subst h;simp[Fa h2]
  cases h
theorem xR: ∀{xs:List D} {vs:List Value} {i:Nat} {x:D},D.dj xs=some vs->xs[i]?=some x-> ∃v,vs[i]?=some v/\x.gE=some v
 | [],vs,i,x,h,hx=>by simp at hx
 |y::r,vs,i,x,h,hx=>by
  unfold D.dj at h;split at h
  next v us h1 h2=>
   simp at h;subst h;cases i with
   |zero=>simp at hx;subst hx;exact⟨v,rfl,h1⟩
   |succ i=>simpa using xR h2 (by simpa using hx)
  cases h
theorem Bq: ∀{xs:List D} {vs:List Value} (a:Nat),D.dj xs=some vs->D.dj (xs.drop a)=some (vs.drop a)
 |xs,vs,0,h=>h
 | [],vs,a+1,h=>by simp[D.dj] at h;subst h;rfl
 |y::r,vs,a+1,h=>by
  unfold D.dj at h;split at h
  next v us h1 h2=>simp at h;subst h;exact Bq a h2
  cases h
theorem Br: ∀{xs:List D} {vs:List Value} (a:Nat),D.dj xs=some vs->D.dj (xs.take a)=some (vs.take a)
 |xs,vs,0,h=>rfl
 | [],vs,a+1,h=>by simp[D.dj] at h;subst h;rfl
 |y::r,vs,a+1,h=>by
  unfold D.dj at h;split at h
  next v us h1 h2=>simp at h;subst h;simp only[List.take_succ_cons];unfold D.dj;rw[h1,Br a h2]
  cases h
theorem rE{Q:Program}{t:TypeId}{xs:List D}{vs:List Value}{off:Nat}{x:D}(hv:D.dj xs=some vs)(h:jv Q t xs off=some x):
  ∃v,aA Q (Go.part t ⟨vs⟩ off)=some v/\x.cG=some v:=by
 unfold jv at h;split at h
 ·cases h
 rename_i k hk;obtain⟨_,d,_,hd,_⟩:=gA hk;unfold Go.part;rw[ax,xQ hd];cases xe:dH Q t with
 |true=>
  rw[xe] at h;simp only[zba] at h;split at h
  next hle=>simp only[zam] at h;subst h;refine⟨.agg ⟨(vs.drop off).take k⟩,?_,by simp[D.cG,Br k (Bq off hv)]⟩;simp only[zav,zba];rw[ax,wJ hk];simp only[zav];show some (Value.agg ((⟨vs⟩:Array Value).extract off (off+k)))=_;congr 2;rw[<-zbr];simp
  cases h
 |false=>
  rw[xe] at h;simp only[zaz,zbk] at h;obtain⟨v,h1,h2⟩:=xR hv h;refine⟨v,?_,?_⟩
  ·simp only[zav,zaz,zbk];have:(⟨vs⟩:Array Value)[off]?=some v:=by simpa using h1
   rw[this];rfl
  cases x<;>first |exact h2 |simp[D.gE] at h2
theorem er(Q:Program):aA Q program=some Q:=rfl
theorem rF{Q:Program}{go:TypeId->D->D->Option Bool}{ev:TypeId->Value->Value->Sem Bool}(mW: ∀t x y c u v,go t x y=some c->x.cG=some u->y.cG=some v->aA Q (ev t u v)=some c)
  {xs ys:List D} {us vs:List Value} (hx:D.dj xs=some us) (hy:D.dj ys=some vs): ∀(fs:List Field) (c:Bool),EZ Q go fs xs ys=some c->
  aA Q (do
   for f in fs do
    if f.name≠ "_" then
     if !(<-ev f.type (<-Go.part f.type ⟨us⟩ f.offset) (<-Go.part f.type ⟨vs⟩ f.offset)) then return false
   pure true)=some c
 | [],c,h=>by simp only[EZ,zam] at h;subst h;rfl
 |f::r,c,h=>by
  have ih:=rF mW hx hy r;unfold EZ at h;simp only[List.forIn_cons,bind_assoc] at ih⊢;split at h
  next hn=>
   have hn: ¬f.name≠ "_" :=by simpa using hn
   rw[zal hn];simp only[pure_bind];exact ih c h
  rename_i hn;have hn:f.name≠ "_" :=by simpa using hn
  rw[zao hn];split at h
  next x y hpx hpy=>
   split at h
   ·rename_i a b ha hb;simp only[zam] at h;subst h;obtain⟨u,e1,h1⟩:=rE hx hpx;obtain⟨v,e2,h2⟩:=rE hy hpy;have e3:=mW _ _ _ _ _ _ ha h1 h2;simp only[bind_assoc];rw[ax,e1,zav,ax,e2,zav,ax,e3,zav];cases a with
    |false=>rfl
    |true=>simp only[zdb,zaz,zbk,pure_bind,zaS];exact ih b hb
   cases h
  cases h
theorem fL{Q:Program}: ∀(n d:Nat) (t:TypeId) (x y:D) (c:Bool) (u v:Value),n<=d->WC Q n t x y=some c->x.cG=some u->y.cG=some v->aA Q (Op.equalIn d t u v)=some c
 |0,_,_,_,_,_,_,_,_,h,_,_=>by simp[WC] at h
 |n+1,0,_,_,_,_,_,_,hd,_,_,_=>by omega
 |n+1,d+1,t,x,y,c,u,v,hd,h,hu,hv=>by
  unfold WC at h;split at h
  next hq=>
   split at h
   next a b=>simp[D.cG,D.gE] at hu hv;subst hu hv;rw[Op.equalIn,ax,aM hq];exact h
   cases h
  next k0 hq=>
   split at h
   ·rename_i k a k' b;simp[D.cG,D.gE] at hu hv;subst hu hv;split at h
    ·rename_i hk;have hk:k=k':=by simpa using hk
     subst hk;rw[Op.equalIn,ax,aM hq];simp only[zav,zba];exact h
    cases h
   cases h
  next hq=>
   split at h
   next a b=>simp[D.cG,D.gE] at hu hv;subst hu hv;rw[Op.equalIn,ax,aM hq];simp only[zam] at h;subst h;show some _=some _;congr 1;rw[zaH];show((⟨a⟩:Array UInt8)==⟨b⟩)=true↔(a==b)=true;simp
   cases h
  next fs hq=>
   split at h
   ·rename_i xs ys;split at h
    ·cases h
    rename_i ln;simp only[D.cG] at hu hv;split at hu
    ·rename_i us hus;simp only[zam] at hu;subst hu;split at hv
     next vs MB=>simp only[zam] at hv;subst hv;have key:=rF (ev:=Op.equalIn d) (λt x y c u v h1 h2 h3=>fL n d t x y c u v (by omega) h1 h2 h3) hus MB fs.toList c h;rw[Op.equalIn,ax,aM hq];simp only[zav];rw[ax,er,zav,ln];simp only[zaz,zbk];rw[<-Array.forIn_toList];exact key
     cases hv
    cases hu
   cases h
  cases h
theorem pH{Q:Program}{op:BinOp}{t:TypeId}{x y:Operand}{us vs:Array Value}(h:Q.eqGuardType Q.depth t=false)(ho:op= .eql\/op= .neq):aA Q (eqGuard op t x y (.agg us) (.agg vs))=some ():=by
 rcases ho with rfl |rfl
 ·show aA Q (do
   if !(<-program).eqGuardType (<-program).depth t then return
   if<-Op.eqGuardIn Op.maxDepth t (.agg us) (.agg vs) then unsupported (.noEntry "binop/eql: two nil values of an interface type with methods, in a part of a struct or an array"))=_
  rw[ax,er,zav,ax,er,zav,h];rfl
 show aA Q (do
  if !(<-program).eqGuardType (<-program).depth t then return
  if<-Op.eqGuardIn Op.maxDepth t (.agg us) (.agg vs) then unsupported (.noEntry "binop/eql: two nil values of an interface type with methods, in a part of a struct or an array"))=_
 rw[ax,er,zav,ax,er,zav,h];rfl
end Pi
