/- The text PiEq. -/
import Derived.Test.YtdgkdigdflkjhaaGreatDoorPiPure
import Derived.Laws.Strings
namespace Pi
open Go
theorem aw{α β:Type} Q: ∀(m:Sem α) (f:α->Sem β),ax Q (m>>=f)=(ax Q m).bind λa=>ax Q (f a)
 | .pure _,_=>rfl
 | .program k,f=>aw Q (k Q) f
 | .mark _ k,f=>aw Q k f
 | .load ..,_ | .store ..,_ | .new ..,_ | .shape ..,_ | .freeze ..,_ | .frozen ..,_ | .getObj ..,_ | .setObj ..,_ | .choose ..,_ | .sys ..,_ | .halt _,_=>rfl
theorem aK{Q t d}(h:Q.underlying t=some d):ax Q (underlying t)=some d:=by have:ax Q (underlying t)=ax Q (match Q.underlying t with |some d=>(pure d:Sem TypeDesc)|none=>stuck "no such type"):=rfl;rw[this,h];rfl
theorem kG{Q t}(h:Q.underlying t=some .bool) a b:ax Q (Op.equal t (.bool a) (.bool b))=some (a==b):=by have e:Op.equal t (.bool a) (.bool b)=Op.equalIn (9999+1) t (.bool a) (.bool b):=rfl;rw[e,Op.equalIn,aw,aK h];rfl
theorem x6{Q t k}(h:sz Q t=some k):ax Q (Go.sizeOf t)=some k:=by
 obtain⟨i,d,hi,_,rfl⟩:=gN h;have e:ax Q (typeInfo t)=some i:=by have:ax Q (typeInfo t)=ax Q (match Q.info? t with |some i=>(pure i:Sem TypeInfo)|none=>stuck "no such type"):=rfl;rw[this,hi];rfl
 unfold Go.sizeOf;rw[aw,e];rfl
theorem zy{Q t d}(h:Q.underlying t=some d):ax Q (Go.isAgg t)=some (dT Q t):=by unfold Go.isAgg dT;rw[aw,aK h,h];cases d<;>rfl
theorem HZ: ∀{xs:List D} {vs:List Value},D.dt xs=some vs->vs.length=xs.length
 | [],vs,h=>by simp[D.dt] at h;subst h;rfl
 |x::r,vs,h=>by
  unfold D.dt at h;split at h
  next v us h1 h2=>simp at h;subst h;simp[HZ h2]
  cases h
theorem zz: ∀{xs:List D} {vs:List Value} {i:Nat} {x:D},D.dt xs=some vs->xs[i]?=some x-> ∃v,vs[i]?=some v/\x.gG=some v
 | [],vs,i,x,h,hx=>by simp at hx
 |y::r,vs,i,x,h,hx=>by
  unfold D.dt at h;split at h
  next v us h1 h2=>
   simp at h;subst h;cases i with
   |zero=>simp at hx;subst hx;exact⟨v,rfl,h1⟩
   |succ i=>simpa using zz h2 (by simpa using hx)
  cases h
theorem Dm: ∀{xs:List D} {vs:List Value} (a:Nat),D.dt xs=some vs->D.dt (xs.drop a)=some (vs.drop a)
 |xs,vs,0,h=>h
 | [],vs,a+1,h=>by simp[D.dt] at h;subst h;rfl
 |y::r,vs,a+1,h=>by
  unfold D.dt at h;split at h
  next v us h1 h2=>simp at h;subst h;exact Dm a h2
  cases h
theorem Dp: ∀{xs:List D} {vs:List Value} (a:Nat),D.dt xs=some vs->D.dt (xs.take a)=some (vs.take a)
 |xs,vs,0,h=>rfl
 | [],vs,a+1,h=>by simp[D.dt] at h;subst h;rfl
 |y::r,vs,a+1,h=>by
  unfold D.dt at h;split at h
  next v us h1 h2=>simp at h;subst h;simp only[List.take_succ_cons];unfold D.dt;rw[h1,Dp a h2]
  cases h
theorem sr{Q t xs vs}{off x}(hv:D.dt xs=some vs)(h:jI Q t xs off=some x):
  ∃v,ax Q (Go.part t ⟨vs⟩ off)=some v/\x.cD=some v:=by
 unfold jI at h;split at h
 ·cases h
 rename_i k hk;obtain⟨_,d,_,hd,_⟩:=gN hk;unfold Go.part;rw[aw,zy hd];cases KP:dT Q t with
 |true=>
  rw[KP] at h;simp only[zbo] at h;split at h
  next hle=>simp only[zam] at h;subst h;refine⟨.agg ⟨(vs.drop off).take k⟩,?_,by simp[D.cD,Dp k (Dm off hv)]⟩;simp only[zaw,zbo];rw[aw,x6 hk];simp only[zaw];show some (Value.agg ((⟨vs⟩:Array Value).extract off (off+k)))=_;congr 2;rw[<-zbs];simp
  cases h
 |false=>
  rw[KP] at h;simp only[zaE,zbn] at h;obtain⟨v,h1,h2⟩:=zz hv h;refine⟨v,?_,?_⟩
  ·simp only[zaw,zaE,zbn];have:(⟨vs⟩:Array Value)[off]?=some v:=by simpa using h1
   rw[this];rfl
  cases x<;>first |exact h2 |simp[D.gG] at h2
theorem eA Q:ax Q program=some Q:=rfl
theorem su{Q go}{ev:TypeId->Value->Value->Sem Bool}(lI: ∀t x y c u v,go t x y=some c->x.cD=some u->y.cD=some v->ax Q (ev t u v)=some c)
  {xs ys us vs} (hx:D.dt xs=some us) (hy:D.dt ys=some vs): ∀fs c,HO Q go fs xs ys=some c->
  ax Q (do
   for f in fs do
    if f.name≠ "_" then
     if !(<-ev f.type (<-Go.part f.type ⟨us⟩ f.offset) (<-Go.part f.type ⟨vs⟩ f.offset)) then return false
   pure true)=some c
 | [],c,h=>by simp only[HO,zam] at h;subst h;rfl
 |f::r,c,h=>by
  have ih:=su lI hx hy r;unfold HO at h;simp only[List.forIn_cons,bind_assoc] at ih⊢;split at h
  next hn=>
   have hn: ¬f.name≠ "_" :=by simpa using hn
   rw[zan hn];simp only[pure_bind];exact ih c h
  rename_i hn;have hn:f.name≠ "_" :=by simpa using hn
  rw[zap hn];split at h
  next x y He hpy=>
   split at h
   ·rename_i a b ha hb;simp only[zam] at h;subst h;obtain⟨u,e1,h1⟩:=sr hx He;obtain⟨v,e2,h2⟩:=sr hy hpy;have e3:=lI _ _ _ _ _ _ ha h1 h2;simp only[bind_assoc];rw[aw,e1,zaw,aw,e2,zaw,aw,e3,zaw];cases a with
    |false=>rfl
    |true=>simp only[zdB,zaE,zbn,pure_bind,zaW];exact ih b hb
   cases h
  cases h
theorem dN{Q}: ∀n d t x y c u v,n<=d->eqD Q n t x y=some c->x.cD=some u->y.cD=some v->ax Q (Op.equalIn d t u v)=some c
 |0,_,_,_,_,_,_,_,_,h,_,_=>by simp[eqD] at h
 |n+1,0,_,_,_,_,_,_,hd,_,_,_=>by omega
 |n+1,d+1,t,x,y,c,u,v,hd,h,hu,hv=>by
  unfold eqD at h;split at h
  next hq=>
   split at h
   next a b=>simp[D.cD,D.gG] at hu hv;subst hu hv;rw[Op.equalIn,aw,aK hq];exact h
   cases h
  next k0 hq=>
   split at h
   ·rename_i k a k' b;simp[D.cD,D.gG] at hu hv;subst hu hv;split at h
    ·rename_i hk;have hk:k=k':=by simpa using hk
     subst hk;rw[Op.equalIn,aw,aK hq];simp only[zaw,zbo];exact h
    cases h
   cases h
  next hq=>
   split at h
   next a b=>simp[D.cD,D.gG] at hu hv;subst hu hv;rw[Op.equalIn,aw,aK hq];simp only[zam] at h;subst h;show some _=some _;congr 1;rw[zaG];show((⟨a⟩:Array UInt8)==⟨b⟩)=true↔(a==b)=true;simp
   cases h
  next fs hq=>
   split at h
   ·rename_i xs ys;split at h
    ·cases h
    rename_i kH;simp only[D.cD] at hu hv;split at hu
    ·rename_i us hus;simp only[zam] at hu;subst hu;split at hv
     next vs Qj=>simp only[zam] at hv;subst hv;have key:=su (ev:=Op.equalIn d) (λt x y c u v h1 h2 h3=>dN n d t x y c u v (by omega) h1 h2 h3) hus Qj fs.toList c h;rw[Op.equalIn,aw,aK hq];simp only[zaw];rw[aw,eA,zaw,kH];simp only[zaE,zbn];rw[<-Array.forIn_toList];exact key
     cases hv
    cases hu
   cases h
  cases h
theorem qB{Q op t x y}{us vs}(h:Q.eqGuardType Q.depth t=false)(ho:op= .eql\/op= .neq):ax Q (eqGuard op t x y (.agg us) (.agg vs))=some ():=by
 rcases ho with rfl |rfl
 ·show ax Q (do
   if !(<-program).eqGuardType (<-program).depth t then return
   if<-Op.eqGuardIn Op.maxDepth t (.agg us) (.agg vs) then unsupported (.noEntry "binop/eql: two nil values of an interface type with methods, in a part of a struct or an array"))=_
  rw[aw,eA,zaw,aw,eA,zaw,h];rfl
 show ax Q (do
  if !(<-program).eqGuardType (<-program).depth t then return
  if<-Op.eqGuardIn Op.maxDepth t (.agg us) (.agg vs) then unsupported (.noEntry "binop/eql: two nil values of an interface type with methods, in a part of a struct or an array"))=_
 rw[aw,eA,zaw,aw,eA,zaw,h];rfl
end Pi
