/- The text PiEq. -/
import Derived.Test.YtfelfooeclnbiaaPiPure
import Derived.Laws.Strings
namespace Pi
open Go
theorem ag{α β:Type}(Q:Program): ∀(m:Sem α) (f:α->Sem β),ai Q (m>>=f)=(ai Q m).bind λa=>ai Q (f a)
 | .pure _,_=>rfl
 | .program k,f=>ag Q (k Q) f
 | .mark _ k,f=>ag Q k f
 | .load ..,_ | .store ..,_ | .new ..,_ | .shape ..,_ | .freeze ..,_ | .frozen ..,_ | .getObj ..,_ | .setObj ..,_ | .choose ..,_ | .sys ..,_ | .halt _,_=>rfl
theorem aq{Q:Program}{t:TypeId}{d:TypeDesc}(h:Q.underlying t=some d):ai Q (underlying t)=some d:=by have:ai Q (underlying t)=ai Q (match Q.underlying t with |some d=>(pure d:Sem TypeDesc)|none=>stuck "no such type"):=rfl;rw[this,h];rfl
theorem dX{Q:Program}{t:TypeId}(h:Q.underlying t=some .bool)(a b:Bool):ai Q (Op.equal t (.bool a) (.bool b))=some (a==b):=by have e:Op.equal t (.bool a) (.bool b)=Op.equalIn (9999+1) t (.bool a) (.bool b):=rfl;rw[e,Op.equalIn,ag,aq h];rfl
theorem gv{Q:Program}{t:TypeId}{k:Nat}(h:sz Q t=some k):ai Q (Go.sizeOf t)=some k:=by
 obtain⟨i,d,hi,_,rfl⟩:=cL h;have e:ai Q (typeInfo t)=some i:=by have:ai Q (typeInfo t)=ai Q (match Q.info? t with |some i=>(pure i:Sem TypeInfo)|none=>stuck "no such type"):=rfl;rw[this,hi];rfl
 unfold Go.sizeOf;rw[ag,e];rfl
theorem me{Q:Program}{t:TypeId}{d:TypeDesc}(h:Q.underlying t=some d):ai Q (Go.isAgg t)=some (bB Q t):=by unfold Go.isAgg bB;rw[ag,aq h,h];cases d<;>rfl
theorem qp: ∀{xs:List D} {vs:List Value},D.bq xs=some vs->vs.length=xs.length
 | [],vs,h=>by simp[D.bq] at h;subst h;rfl
 |x::r,vs,h=>by
  unfold D.bq at h;split at h
  next v us h1 h2=>simp at h;subst h;simp[qp h2]
  cases h
theorem mf: ∀{xs:List D} {vs:List Value} {i:Nat} {x:D},D.bq xs=some vs->xs[i]?=some x-> ∃v,vs[i]?=some v/\x.cp=some v
 | [],vs,i,x,h,hx=>by simp at hx
 |y::r,vs,i,x,h,hx=>by
  unfold D.bq at h;split at h
  next v us h1 h2=>
   simp at h;subst h;cases i with
   |zero=>simp at hx;subst hx;exact⟨v,rfl,h1⟩
   |succ i=>simpa using mf h2 (by simpa using hx)
  cases h
theorem og: ∀{xs:List D} {vs:List Value} (a:Nat),D.bq xs=some vs->D.bq (xs.drop a)=some (vs.drop a)
 |xs,vs,0,h=>h
 | [],vs,a+1,h=>by simp[D.bq] at h;subst h;rfl
 |y::r,vs,a+1,h=>by
  unfold D.bq at h;split at h
  next v us h1 h2=>simp at h;subst h;exact og a h2
  cases h
theorem oh: ∀{xs:List D} {vs:List Value} (a:Nat),D.bq xs=some vs->D.bq (xs.take a)=some (vs.take a)
 |xs,vs,0,h=>rfl
 | [],vs,a+1,h=>by simp[D.bq] at h;subst h;rfl
 |y::r,vs,a+1,h=>by
  unfold D.bq at h;split at h
  next v us h1 h2=>simp at h;subst h;simp only[List.take_succ_cons];unfold D.bq;rw[h1,oh a h2]
  cases h
theorem ja{Q:Program}{t:TypeId}{xs:List D}{vs:List Value}{off:Nat}{x:D}(hv:D.bq xs=some vs)(h:dm Q t xs off=some x):
  ∃v,ai Q (Go.part t ⟨vs⟩ off)=some v/\x.aX=some v:=by
 unfold dm at h;split at h
 ·cases h
 rename_i k hk;obtain⟨_,d,_,hd,_⟩:=cL hk;unfold Go.part;rw[ag,me hd];cases tn:bB Q t with
 |true=>
  rw[tn] at h;simp only[za2] at h;split at h
  next hle=>simp only[zae] at h;subst h;refine⟨.agg ⟨(vs.drop off).take k⟩,?_,by simp[D.aX,oh k (og off hv)]⟩;simp only[zai,za2];rw[ag,gv hk];simp only[zai];show some (Value.agg ((⟨vs⟩:Array Value).extract off (off+k)))=_;congr 2;rw[<-zaR];simp
  cases h
 |false=>
  rw[tn] at h;simp only[zaz,zbe] at h;obtain⟨v,h1,h2⟩:=mf hv h;refine⟨v,?_,?_⟩
  ·simp only[zai,zaz,zbe];have:(⟨vs⟩:Array Value)[off]?=some v:=by simpa using h1
   rw[this];rfl
  cases x<;>first |exact h2 |simp[D.cp] at h2
theorem bQ(Q:Program):ai Q program=some Q:=rfl
theorem fp{Q:Program}{go:TypeId->D->D->Option Bool}{ev:TypeId->Value->Value->Sem Bool}(z8: ∀t x y c u v,go t x y=some c->x.aX=some u->y.aX=some v->ai Q (ev t u v)=some c)
  {xs ys:List D} {us vs:List Value} (hx:D.bq xs=some us) (hy:D.bq ys=some vs): ∀(fs:List Field) (c:Bool),nD Q go fs xs ys=some c->
  ai Q (do
   for f in fs do
    if f.name≠ "_" then
     if !(<-ev f.type (<-Go.part f.type ⟨us⟩ f.offset) (<-Go.part f.type ⟨vs⟩ f.offset)) then return false
   pure true)=some c
 | [],c,h=>by simp only[nD,zae] at h;subst h;rfl
 |f::r,c,h=>by
  have ih:=fp z8 hx hy r;unfold nD at h;simp only[List.forIn_cons,bind_assoc] at ih⊢;split at h
  next hn=>
   have hn: ¬f.name≠ "_" :=by simpa using hn
   rw[zay hn];simp only[pure_bind];exact ih c h
  rename_i hn;have hn:f.name≠ "_" :=by simpa using hn
  rw[zau hn];split at h
  next x y GG GH=>
   split at h
   ·rename_i a b ha hb;simp only[zae] at h;subst h;obtain⟨u,e1,h1⟩:=ja hx GG;obtain⟨v,e2,h2⟩:=ja hy GH;have e3:=z8 _ _ _ _ _ _ ha h1 h2;simp only[bind_assoc];rw[ag,e1,zai,ag,e2,zai,ag,e3,zai];cases a with
    |false=>rfl
    |true=>simp only[zaN,zaz,zbe,pure_bind,Bool.true_and];exact ih b hb
   cases h
  cases h
theorem bZ{Q:Program}: ∀(n d:Nat) (t:TypeId) (x y:D) (c:Bool) (u v:Value),n<=d->vH Q n t x y=some c->x.aX=some u->y.aX=some v->ai Q (Op.equalIn d t u v)=some c
 |0,_,_,_,_,_,_,_,_,h,_,_=>by simp[vH] at h
 |n+1,0,_,_,_,_,_,_,hd,_,_,_=>by omega
 |n+1,d+1,t,x,y,c,u,v,hd,h,hu,hv=>by
  unfold vH at h;split at h
  next hq=>
   split at h
   next a b=>simp[D.aX,D.cp] at hu hv;subst hu hv;rw[Op.equalIn,ag,aq hq];exact h
   cases h
  next k0 hq=>
   split at h
   ·rename_i k a k' b;simp[D.aX,D.cp] at hu hv;subst hu hv;split at h
    ·rename_i hk;have hk:k=k':=by simpa using hk
     subst hk;rw[Op.equalIn,ag,aq hq];simp only[zai,za2];exact h
    cases h
   cases h
  next hq=>
   split at h
   next a b=>simp[D.aX,D.cp] at hu hv;subst hu hv;rw[Op.equalIn,ag,aq hq];simp only[zae] at h;subst h;show some _=some _;congr 1;rw[Bool.eq_iff_iff];show((⟨a⟩:Array UInt8)==⟨b⟩)=true↔(a==b)=true;simp
   cases h
  next fs hq=>
   split at h
   ·rename_i xs ys;split at h
    ·cases h
    rename_i gH;simp only[D.aX] at hu hv;split at hu
    ·rename_i us Eo;simp only[zae] at hu;subst hu;split at hv
     next vs r8=>simp only[zae] at hv;subst hv;have key:=fp (ev:=Op.equalIn d) (λt x y c u v h1 h2 h3=>bZ n d t x y c u v (by omega) h1 h2 h3) Eo r8 fs.toList c h;rw[Op.equalIn,ag,aq hq];simp only[zai];rw[ag,bQ,zai,gH];simp only[zaz,zbe];rw[<-Array.forIn_toList];exact key
     cases hv
    cases hu
   cases h
  next m e hq=>
   split at h
   ·rename_i xs ys;split at h
    ·rename_i k hk;simp only[D.aX] at hu hv;split at hu
     ·rename_i us Eo;simp only[zae] at hu;subst hu;split at hv
      next vs r8=>simp only[zae] at hv;subst hv;have key:=fp (ev:=Op.equalIn d) (λt x y c u v h1 h2 h3=>bZ n d t x y c u v (by omega) h1 h2 h3) Eo r8 (rO m e k) c h;rw[Op.equalIn,ag,aq hq];simp only[zai];rw[ag,gv hk,zai];unfold rO at key;rw[List.forIn_map] at key;rw[Std.Legacy.Range.forIn_eq_forIn_range',Std.Legacy.Range.size,Nat.sub_zero,Nat.add_sub_cancel,Nat.div_one,<-List.range_eq_range'];exact key
      cases hv
     cases hu
    cases h
   cases h
  cases h
theorem hB{Q:Program}{op:BinOp}{t:TypeId}{x y:Operand}{us vs:Array Value}(h:Q.eqGuardType Q.depth t=false)(ho:op= .eql\/op= .neq):ai Q (eqGuard op t x y (.agg us) (.agg vs))=some ():=by
 rcases ho with rfl |rfl
 ·show ai Q (do
   if !(<-program).eqGuardType (<-program).depth t then return
   if<-Op.eqGuardIn Op.maxDepth t (.agg us) (.agg vs) then unsupported (.noEntry "binop/eql: two nil values of an interface type with methods, in a part of a struct or an array"))=_
  rw[ag,bQ,zai,ag,bQ,zai,h];rfl
 show ai Q (do
  if !(<-program).eqGuardType (<-program).depth t then return
  if<-Op.eqGuardIn Op.maxDepth t (.agg us) (.agg vs) then unsupported (.noEntry "binop/eql: two nil values of an interface type with methods, in a part of a struct or an array"))=_
 rw[ag,bQ,zai,ag,bQ,zai,h];rfl
end Pi
