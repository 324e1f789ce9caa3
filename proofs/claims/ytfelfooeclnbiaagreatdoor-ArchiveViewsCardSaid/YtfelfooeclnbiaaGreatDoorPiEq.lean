/- The text PiEq. -/
import Derived.Test.YtfelfooeclnbiaaGreatDoorPiPure
import Derived.Laws.Strings
namespace Pi
open Go
theorem aw{α β:Type}(Q:Program): ∀(m:Sem α) (f:α->Sem β),ay Q (m>>=f)=(ay Q m).bind λa=>ay Q (f a)
 | .pure _,_=>rfl
 | .program k,f=>aw Q (k Q) f
 | .mark _ k,f=>aw Q k f
 | .load ..,_ | .store ..,_ | .new ..,_ | .shape ..,_ | .freeze ..,_ | .frozen ..,_ | .getObj ..,_ | .setObj ..,_ | .choose ..,_ | .sys ..,_ | .halt _,_=>rfl
theorem aH{Q:Program}{t:TypeId}{d:TypeDesc}(h:Q.underlying t=some d):ay Q (underlying t)=some d:=by have:ay Q (underlying t)=ay Q (match Q.underlying t with |some d=>(pure d:Sem TypeDesc)|none=>stuck "no such type"):=rfl;rw[this,h];rfl
theorem jS{Q:Program}{t:TypeId}(h:Q.underlying t=some .bool)(a b:Bool):ay Q (Op.equal t (.bool a) (.bool b))=some (a==b):=by have e:Op.equal t (.bool a) (.bool b)=Op.equalIn (9999+1) t (.bool a) (.bool b):=rfl;rw[e,Op.equalIn,aw,aH h];rfl
theorem wc{Q:Program}{t:TypeId}{k:Nat}(h:sz Q t=some k):ay Q (Go.sizeOf t)=some k:=by
 obtain⟨i,d,hi,_,rfl⟩:=gn h;have e:ay Q (typeInfo t)=some i:=by have:ay Q (typeInfo t)=ay Q (match Q.info? t with |some i=>(pure i:Sem TypeInfo)|none=>stuck "no such type"):=rfl;rw[this,hi];rfl
 unfold Go.sizeOf;rw[aw,e];rfl
theorem xa{Q:Program}{t:TypeId}{d:TypeDesc}(h:Q.underlying t=some d):ay Q (Go.isAgg t)=some (dx Q t):=by unfold Go.isAgg dx;rw[aw,aH h,h];cases d<;>rfl
theorem Eu: ∀{xs:List D} {vs:List Value},D.cW xs=some vs->vs.length=xs.length
 | [],vs,h=>by simp[D.cW] at h;subst h;rfl
 |x::r,vs,h=>by
  unfold D.cW at h;split at h
  next v us h1 h2=>simp at h;subst h;simp[Eu h2]
  cases h
theorem xb: ∀{xs:List D} {vs:List Value} {i:Nat} {x:D},D.cW xs=some vs->xs[i]?=some x-> ∃v,vs[i]?=some v/\x.fE=some v
 | [],vs,i,x,h,hx=>by simp at hx
 |y::r,vs,i,x,h,hx=>by
  unfold D.cW at h;split at h
  next v us h1 h2=>
   simp at h;subst h;cases i with
   |zero=>simp at hx;subst hx;exact⟨v,rfl,h1⟩
   |succ i=>simpa using xb h2 (by simpa using hx)
  cases h
theorem AB: ∀{xs:List D} {vs:List Value} (a:Nat),D.cW xs=some vs->D.cW (xs.drop a)=some (vs.drop a)
 |xs,vs,0,h=>h
 | [],vs,a+1,h=>by simp[D.cW] at h;subst h;rfl
 |y::r,vs,a+1,h=>by
  unfold D.cW at h;split at h
  next v us h1 h2=>simp at h;subst h;exact AB a h2
  cases h
theorem AE: ∀{xs:List D} {vs:List Value} (a:Nat),D.cW xs=some vs->D.cW (xs.take a)=some (vs.take a)
 |xs,vs,0,h=>rfl
 | [],vs,a+1,h=>by simp[D.cW] at h;subst h;rfl
 |y::r,vs,a+1,h=>by
  unfold D.cW at h;split at h
  next v us h1 h2=>simp at h;subst h;simp only[List.take_succ_cons];unfold D.cW;rw[h1,AE a h2]
  cases h
theorem qI{Q:Program}{t:TypeId}{xs:List D}{vs:List Value}{off:Nat}{x:D}(hv:D.cW xs=some vs)(h:jf Q t xs off=some x):
  ∃v,ay Q (Go.part t ⟨vs⟩ off)=some v/\x.cp=some v:=by
 unfold jf at h;split at h
 ·cases h
 rename_i k hk;obtain⟨_,d,_,hd,_⟩:=gn hk;unfold Go.part;rw[aw,xa hd];cases Kd:dx Q t with
 |true=>
  rw[Kd] at h;simp only[zbg] at h;split at h
  next hle=>simp only[zak] at h;subst h;refine⟨.agg ⟨(vs.drop off).take k⟩,?_,by simp[D.cp,AE k (AB off hv)]⟩;simp only[zaw,zbg];rw[aw,wc hk];simp only[zaw];show some (Value.agg ((⟨vs⟩:Array Value).extract off (off+k)))=_;congr 2;rw[<-zbx];simp
  cases h
 |false=>
  rw[Kd] at h;simp only[zaC,zbq] at h;obtain⟨v,h1,h2⟩:=xb hv h;refine⟨v,?_,?_⟩
  ·simp only[zaw,zaC,zbq];have:(⟨vs⟩:Array Value)[off]?=some v:=by simpa using h1
   rw[this];rfl
  cases x<;>first |exact h2 |simp[D.fE] at h2
theorem dK(Q:Program):ay Q program=some Q:=rfl
theorem qJ{Q:Program}{go:TypeId->D->D->Option Bool}{ev:TypeId->Value->Value->Sem Bool}(uf: ∀t x y c u v,go t x y=some c->x.cp=some u->y.cp=some v->ay Q (ev t u v)=some c)
  {xs ys:List D} {us vs:List Value} (hx:D.cW xs=some us) (hy:D.cW ys=some vs): ∀(fs:List Field) (c:Bool),Eg Q go fs xs ys=some c->
  ay Q (do
   for f in fs do
    if f.name≠ "_" then
     if !(<-ev f.type (<-Go.part f.type ⟨us⟩ f.offset) (<-Go.part f.type ⟨vs⟩ f.offset)) then return false
   pure true)=some c
 | [],c,h=>by simp only[Eg,zak] at h;subst h;rfl
 |f::r,c,h=>by
  have ih:=qJ uf hx hy r;unfold Eg at h;simp only[List.forIn_cons,bind_assoc] at ih⊢;split at h
  next hn=>
   have hn: ¬f.name≠ "_" :=by simpa using hn
   rw[zap hn];simp only[pure_bind];exact ih c h
  rename_i hn;have hn:f.name≠ "_" :=by simpa using hn
  rw[zaq hn];split at h
  next x y hpx hpy=>
   split at h
   ·rename_i a b ha hb;simp only[zak] at h;subst h;obtain⟨u,e1,h1⟩:=qI hx hpx;obtain⟨v,e2,h2⟩:=qI hy hpy;have e3:=uf _ _ _ _ _ _ ha h1 h2;simp only[bind_assoc];rw[aw,e1,zaw,aw,e2,zaw,aw,e3,zaw];cases a with
    |false=>rfl
    |true=>simp only[zdj,zaC,zbq,pure_bind,zbf];exact ih b hb
   cases h
  cases h
theorem fH{Q:Program}: ∀(n d:Nat) (t:TypeId) (x y:D) (c:Bool) (u v:Value),n<=d->VW Q n t x y=some c->x.cp=some u->y.cp=some v->ay Q (Op.equalIn d t u v)=some c
 |0,_,_,_,_,_,_,_,_,h,_,_=>by simp[VW] at h
 |n+1,0,_,_,_,_,_,_,hd,_,_,_=>by omega
 |n+1,d+1,t,x,y,c,u,v,hd,h,hu,hv=>by
  unfold VW at h;split at h
  next hq=>
   split at h
   next a b=>simp[D.cp,D.fE] at hu hv;subst hu hv;rw[Op.equalIn,aw,aH hq];exact h
   cases h
  next k0 hq=>
   split at h
   ·rename_i k a k' b;simp[D.cp,D.fE] at hu hv;subst hu hv;split at h
    ·rename_i hk;have hk:k=k':=by simpa using hk
     subst hk;rw[Op.equalIn,aw,aH hq];simp only[zaw,zbg];exact h
    cases h
   cases h
  next hq=>
   split at h
   next a b=>simp[D.cp,D.fE] at hu hv;subst hu hv;rw[Op.equalIn,aw,aH hq];simp only[zak] at h;subst h;show some _=some _;congr 1;rw[zbh];show((⟨a⟩:Array UInt8)==⟨b⟩)=true↔(a==b)=true;simp
   cases h
  next fs hq=>
   split at h
   ·rename_i xs ys;split at h
    ·cases h
    rename_i jy;simp only[D.cp] at hu hv;split at hu
    ·rename_i us hus;simp only[zak] at hu;subst hu;split at hv
     next vs L5=>simp only[zak] at hv;subst hv;have key:=qJ (ev:=Op.equalIn d) (λt x y c u v h1 h2 h3=>fH n d t x y c u v (by omega) h1 h2 h3) hus L5 fs.toList c h;rw[Op.equalIn,aw,aH hq];simp only[zaw];rw[aw,dK,zaw,jy];simp only[zaC,zbq];rw[<-Array.forIn_toList];exact key
     cases hv
    cases hu
   cases h
  cases h
theorem pg{Q:Program}{op:BinOp}{t:TypeId}{x y:Operand}{us vs:Array Value}(h:Q.eqGuardType Q.depth t=false)(ho:op= .eql\/op= .neq):ay Q (eqGuard op t x y (.agg us) (.agg vs))=some ():=by
 rcases ho with rfl |rfl
 ·show ay Q (do
   if !(<-program).eqGuardType (<-program).depth t then return
   if<-Op.eqGuardIn Op.maxDepth t (.agg us) (.agg vs) then unsupported (.noEntry "binop/eql: two nil values of an interface type with methods, in a part of a struct or an array"))=_
  rw[aw,dK,zaw,aw,dK,zaw,h];rfl
 show ay Q (do
  if !(<-program).eqGuardType (<-program).depth t then return
  if<-Op.eqGuardIn Op.maxDepth t (.agg us) (.agg vs) then unsupported (.noEntry "binop/eql: two nil values of an interface type with methods, in a part of a struct or an array"))=_
 rw[aw,dK,zaw,aw,dK,zaw,h];rfl
end Pi
