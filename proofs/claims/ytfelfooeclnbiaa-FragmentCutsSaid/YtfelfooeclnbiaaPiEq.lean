/- The text PiEq. -/
import Derived.Test.YtfelfooeclnbiaaPiPure
import Derived.Laws.Strings
namespace Pi
open Go
theorem ah{α β:Type}(Q:Program): ∀(m:Sem α) (f:α->Sem β),ai Q (m>>=f)=(ai Q m).bind λa=>ai Q (f a)
 | .pure _,_=>rfl
 | .program k,f=>ah Q (k Q) f
 | .mark _ k,f=>ah Q k f
 | .load ..,_ | .store ..,_ | .new ..,_ | .shape ..,_ | .freeze ..,_ | .frozen ..,_ | .getObj ..,_ | .setObj ..,_ | .choose ..,_ | .sys ..,_ | .halt _,_=>rfl
theorem aq{Q:Program}{t:TypeId}{d:TypeDesc}(h:Q.underlying t=some d):ai Q (underlying t)=some d:=by have:ai Q (underlying t)=ai Q (match Q.underlying t with |some d=>(pure d:Sem TypeDesc)|none=>stuck "no such type"):=rfl;rw[this,h];rfl
theorem dP{Q:Program}{t:TypeId}(h:Q.underlying t=some .bool)(a b:Bool):ai Q (Op.equal t (.bool a) (.bool b))=some (a==b):=by have e:Op.equal t (.bool a) (.bool b)=Op.equalIn (9999+1) t (.bool a) (.bool b):=rfl;rw[e,Op.equalIn,ah,aq h];rfl
theorem fY{Q:Program}{t:TypeId}{k:Nat}(h:sz Q t=some k):ai Q (Go.sizeOf t)=some k:=by
 obtain⟨i,d,hi,_,rfl⟩:=cy h;have e:ai Q (typeInfo t)=some i:=by have:ai Q (typeInfo t)=ai Q (match Q.info? t with |some i=>(pure i:Sem TypeInfo)|none=>stuck "no such type"):=rfl;rw[this,hi];rfl
 unfold Go.sizeOf;rw[ah,e];rfl
theorem lE{Q:Program}{t:TypeId}{d:TypeDesc}(h:Q.underlying t=some d):ai Q (Go.isAgg t)=some (bt Q t):=by unfold Go.isAgg bt;rw[ah,aq h,h];cases d<;>rfl
theorem pC: ∀{xs:List D} {vs:List Value},D.bc xs=some vs->vs.length=xs.length
 | [],vs,h=>by simp[D.bc] at h;subst h;rfl
 |x::r,vs,h=>by
  unfold D.bc at h;split at h
  next v us h1 h2=>simp at h;subst h;simp[pC h2]
  cases h
theorem lF: ∀{xs:List D} {vs:List Value} {i:Nat} {x:D},D.bc xs=some vs->xs[i]?=some x-> ∃v,vs[i]?=some v/\x.bW=some v
 | [],vs,i,x,h,hx=>by simp at hx
 |y::r,vs,i,x,h,hx=>by
  unfold D.bc at h;split at h
  next v us h1 h2=>
   simp at h;subst h;cases i with
   |zero=>simp at hx;subst hx;exact⟨v,rfl,h1⟩
   |succ i=>simpa using lF h2 (by simpa using hx)
  cases h
theorem nx: ∀{xs:List D} {vs:List Value} (a:Nat),D.bc xs=some vs->D.bc (xs.drop a)=some (vs.drop a)
 |xs,vs,0,h=>h
 | [],vs,a+1,h=>by simp[D.bc] at h;subst h;rfl
 |y::r,vs,a+1,h=>by
  unfold D.bc at h;split at h
  next v us h1 h2=>simp at h;subst h;exact nx a h2
  cases h
theorem ny: ∀{xs:List D} {vs:List Value} (a:Nat),D.bc xs=some vs->D.bc (xs.take a)=some (vs.take a)
 |xs,vs,0,h=>rfl
 | [],vs,a+1,h=>by simp[D.bc] at h;subst h;rfl
 |y::r,vs,a+1,h=>by
  unfold D.bc at h;split at h
  next v us h1 h2=>simp at h;subst h;simp only[List.take_succ_cons];unfold D.bc;rw[h1,ny a h2]
  cases h
theorem iw{Q:Program}{t:TypeId}{xs:List D}{vs:List Value}{off:Nat}{x:D}(hv:D.bc xs=some vs)(h:c6 Q t xs off=some x):
  ∃v,ai Q (Go.part t ⟨vs⟩ off)=some v/\x.aV=some v:=by
 unfold c6 at h;split at h
 ·cases h
 rename_i k hk;obtain⟨_,d,_,hd,_⟩:=cy hk;unfold Go.part;rw[ah,lE hd];cases r8:bt Q t with
 |true=>
  rw[r8] at h;simp only[zaR] at h;split at h
  next hle=>simp only[zae] at h;subst h;refine⟨.agg ⟨(vs.drop off).take k⟩,?_,by simp[D.aV,ny k (nx off hv)]⟩;simp only[zai,zaR];rw[ah,fY hk];simp only[zai];show some (Value.agg ((⟨vs⟩:Array Value).extract off (off+k)))=_;congr 2;rw[<-zaJ];simp
  cases h
 |false=>
  rw[r8] at h;simp only[zaw,za6] at h;obtain⟨v,h1,h2⟩:=lF hv h;refine⟨v,?_,?_⟩
  ·simp only[zai,zaw,za6];have:(⟨vs⟩:Array Value)[off]?=some v:=by simpa using h1
   rw[this];rfl
  cases x<;>first |exact h2 |simp[D.bW] at h2
theorem bF(Q:Program):ai Q program=some Q:=rfl
theorem e9{Q:Program}{go:TypeId->D->D->Option Bool}{ev:TypeId->Value->Value->Sem Bool}(ya: ∀t x y c u v,go t x y=some c->x.aV=some u->y.aV=some v->ai Q (ev t u v)=some c)
  {xs ys:List D} {us vs:List Value} (hx:D.bc xs=some us) (hy:D.bc ys=some vs): ∀(fs:List Field) (c:Bool),mK Q go fs xs ys=some c->
  ai Q (do
   for f in fs do
    if f.name≠ "_" then
     if !(<-ev f.type (<-Go.part f.type ⟨us⟩ f.offset) (<-Go.part f.type ⟨vs⟩ f.offset)) then return false
   pure true)=some c
 | [],c,h=>by simp only[mK,zae] at h;subst h;rfl
 |f::r,c,h=>by
  have ih:=e9 ya hx hy r;unfold mK at h;simp only[List.forIn_cons,bind_assoc] at ih⊢;split at h
  next hn=>
   have hn: ¬f.name≠ "_" :=by simpa using hn
   rw[zaB hn];simp only[pure_bind];exact ih c h
  rename_i hn;have hn:f.name≠ "_" :=by simpa using hn
  rw[zax hn];split at h
  next x y Dw Dx=>
   split at h
   ·rename_i a b ha hb;simp only[zae] at h;subst h;obtain⟨u,e1,h1⟩:=iw hx Dw;obtain⟨v,e2,h2⟩:=iw hy Dx;have e3:=ya _ _ _ _ _ _ ha h1 h2;simp only[bind_assoc];rw[ah,e1,zai,ah,e2,zai,ah,e3,zai];cases a with
    |false=>rfl
    |true=>simp only[Bool.not_true,zaw,za6,pure_bind,Bool.true_and];exact ih b hb
   cases h
  cases h
theorem bO{Q:Program}: ∀(n d:Nat) (t:TypeId) (x y:D) (c:Bool) (u v:Value),n<=d->uh Q n t x y=some c->x.aV=some u->y.aV=some v->ai Q (Op.equalIn d t u v)=some c
 |0,_,_,_,_,_,_,_,_,h,_,_=>by simp[uh] at h
 |n+1,0,_,_,_,_,_,_,hd,_,_,_=>by omega
 |n+1,d+1,t,x,y,c,u,v,hd,h,hu,hv=>by
  unfold uh at h;split at h
  next hq=>
   split at h
   next a b=>simp[D.aV,D.bW] at hu hv;subst hu hv;rw[Op.equalIn,ah,aq hq];exact h
   cases h
  next k0 hq=>
   split at h
   ·rename_i k a k' b;simp[D.aV,D.bW] at hu hv;subst hu hv;split at h
    ·rename_i hk;have hk:k=k':=by simpa using hk
     subst hk;rw[Op.equalIn,ah,aq hq];simp only[zai,zaR];exact h
    cases h
   cases h
  next hq=>
   split at h
   next a b=>simp[D.aV,D.bW] at hu hv;subst hu hv;rw[Op.equalIn,ah,aq hq];simp only[zae] at h;subst h;show some _=some _;congr 1;rw[Bool.eq_iff_iff];show((⟨a⟩:Array UInt8)==⟨b⟩)=true↔(a==b)=true;simp
   cases h
  next fs hq=>
   split at h
   ·rename_i xs ys;split at h
    ·cases h
    rename_i gj;simp only[D.aV] at hu hv;split at hu
    ·rename_i us BN;simp only[zae] at hu;subst hu;split at hv
     next vs q5=>simp only[zae] at hv;subst hv;have key:=e9 (ev:=Op.equalIn d) (λt x y c u v h1 h2 h3=>bO n d t x y c u v (by omega) h1 h2 h3) BN q5 fs.toList c h;rw[Op.equalIn,ah,aq hq];simp only[zai];rw[ah,bF,zai,gj];simp only[zaw,za6];rw[<-Array.forIn_toList];exact key
     cases hv
    cases hu
   cases h
  next m e hq=>
   split at h
   ·rename_i xs ys;split at h
    ·rename_i k hk;simp only[D.aV] at hu hv;split at hu
     ·rename_i us BN;simp only[zae] at hu;subst hu;split at hv
      next vs q5=>simp only[zae] at hv;subst hv;have key:=e9 (ev:=Op.equalIn d) (λt x y c u v h1 h2 h3=>bO n d t x y c u v (by omega) h1 h2 h3) BN q5 (qJ m e k) c h;rw[Op.equalIn,ah,aq hq];simp only[zai];rw[ah,fY hk,zai];unfold qJ at key;rw[List.forIn_map] at key;rw[Std.Legacy.Range.forIn_eq_forIn_range',Std.Legacy.Range.size,Nat.sub_zero,Nat.add_sub_cancel,Nat.div_one,<-List.range_eq_range'];exact key
      cases hv
     cases hu
    cases h
   cases h
  cases h
theorem gH{Q:Program}{op:BinOp}{t:TypeId}{x y:Operand}{us vs:Array Value}(h:Q.eqGuardType Q.depth t=false)(ho:op= .eql\/op= .neq):ai Q (eqGuard op t x y (.agg us) (.agg vs))=some ():=by
 rcases ho with rfl |rfl
 ·show ai Q (do
   if !(<-program).eqGuardType (<-program).depth t then return
   if<-Op.eqGuardIn Op.maxDepth t (.agg us) (.agg vs) then unsupported (.noEntry "binop/eql: two nil values of an interface type with methods, in a part of a struct or an array"))=_
  rw[ah,bF,zai,ah,bF,zai,h];rfl
 show ai Q (do
  if !(<-program).eqGuardType (<-program).depth t then return
  if<-Op.eqGuardIn Op.maxDepth t (.agg us) (.agg vs) then unsupported (.noEntry "binop/eql: two nil values of an interface type with methods, in a part of a struct or an array"))=_
 rw[ah,bF,zai,ah,bF,zai,h];rfl
end Pi
