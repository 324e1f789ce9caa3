/- The text PiEq. -/
import Derived.Test.YtpiohccneeblhaaPiPure
import Derived.Laws.Strings
namespace Pi
open Go
theorem ag{α β:Type}(Q:Program): ∀(m:Sem α) (f:α->Sem β),ah Q (m>>=f)=(ah Q m).bind λa=>ah Q (f a)
 | .pure _,_=>rfl
 | .program k,f=>ag Q (k Q) f
 | .mark _ k,f=>ag Q k f
 | .load ..,_ | .store ..,_ | .new ..,_ | .shape ..,_ | .freeze ..,_ | .frozen ..,_ | .getObj ..,_ | .setObj ..,_ | .choose ..,_ | .sys ..,_ | .halt _,_=>rfl
theorem au{Q:Program}{t:TypeId}{d:TypeDesc}(h:Q.underlying t=some d):ah Q (underlying t)=some d:=by have:ah Q (underlying t)=ah Q (match Q.underlying t with |some d=>(pure d:Sem TypeDesc)|none=>stuck "no such type"):=rfl;rw[this,h];rfl
theorem fW{Q:Program}{t:TypeId}(h:Q.underlying t=some .bool)(a b:Bool):ah Q (Op.equal t (.bool a) (.bool b))=some (a==b):=by have e:Op.equal t (.bool a) (.bool b)=Op.equalIn (9999+1) t (.bool a) (.bool b):=rfl;rw[e,Op.equalIn,ag,au h];rfl
theorem jI{Q:Program}{t:TypeId}{k:Nat}(h:sz Q t=some k):ah Q (Go.sizeOf t)=some k:=by
 obtain⟨i,d,hi,_,rfl⟩:=dQ h;have e:ah Q (typeInfo t)=some i:=by have:ah Q (typeInfo t)=ah Q (match Q.info? t with |some i=>(pure i:Sem TypeInfo)|none=>stuck "no such type"):=rfl;rw[this,hi];rfl
 unfold Go.sizeOf;rw[ag,e];rfl
theorem pF{Q:Program}{t:TypeId}{d:TypeDesc}(h:Q.underlying t=some d):ah Q (Go.isAgg t)=some (cd Q t):=by unfold Go.isAgg cd;rw[ag,au h,h];cases d<;>rfl
theorem vw: ∀{xs:List D} {vs:List Value},D.bU xs=some vs->vs.length=xs.length
 | [],vs,h=>by simp[D.bU] at h;subst h;rfl
 |x::r,vs,h=>by
  unfold D.bU at h;split at h
  next v us h1 h2=>simp at h;subst h;simp[vw h2]
  cases h
theorem pG: ∀{xs:List D} {vs:List Value} {i:Nat} {x:D},D.bU xs=some vs->xs[i]?=some x-> ∃v,vs[i]?=some v/\x.dK=some v
 | [],vs,i,x,h,hx=>by simp at hx
 |y::r,vs,i,x,h,hx=>by
  unfold D.bU at h;split at h
  next v us h1 h2=>
   simp at h;subst h;cases i with
   |zero=>simp at hx;subst hx;exact⟨v,rfl,h1⟩
   |succ i=>simpa using pG h2 (by simpa using hx)
  cases h
theorem sb: ∀{xs:List D} {vs:List Value} (a:Nat),D.bU xs=some vs->D.bU (xs.drop a)=some (vs.drop a)
 |xs,vs,0,h=>h
 | [],vs,a+1,h=>by simp[D.bU] at h;subst h;rfl
 |y::r,vs,a+1,h=>by
  unfold D.bU at h;split at h
  next v us h1 h2=>simp at h;subst h;exact sb a h2
  cases h
theorem sc: ∀{xs:List D} {vs:List Value} (a:Nat),D.bU xs=some vs->D.bU (xs.take a)=some (vs.take a)
 |xs,vs,0,h=>rfl
 | [],vs,a+1,h=>by simp[D.bU] at h;subst h;rfl
 |y::r,vs,a+1,h=>by
  unfold D.bU at h;split at h
  next v us h1 h2=>simp at h;subst h;simp only[List.take_succ_cons];unfold D.bU;rw[h1,sc a h2]
  cases h
theorem lE{Q:Program}{t:TypeId}{xs:List D}{vs:List Value}{off:Nat}{x:D}(hv:D.bU xs=some vs)(h:eX Q t xs off=some x):
  ∃v,ah Q (Go.part t ⟨vs⟩ off)=some v/\x.br=some v:=by
 unfold eX at h;split at h
 ·cases h
 rename_i k hk;obtain⟨_,d,_,hd,_⟩:=dQ hk;unfold Go.part;rw[ag,pF hd];cases yS:cd Q t with
 |true=>
  rw[yS] at h;simp only[zaT] at h;split at h
  next hle=>simp only[zaf] at h;subst h;refine⟨.agg ⟨(vs.drop off).take k⟩,?_,by simp[D.br,sc k (sb off hv)]⟩;simp only[zam,zaT];rw[ag,jI hk];simp only[zam];show some (Value.agg ((⟨vs⟩:Array Value).extract off (off+k)))=_;congr 2;rw[<-za1];simp
  cases h
 |false=>
  rw[yS] at h;simp only[zar,za3] at h;obtain⟨v,h1,h2⟩:=pG hv h;refine⟨v,?_,?_⟩
  ·simp only[zam,zar,za3];have:(⟨vs⟩:Array Value)[off]?=some v:=by simpa using h1
   rw[this];rfl
  cases x<;>first |exact h2 |simp[D.dK] at h2
theorem cG(Q:Program):ah Q program=some Q:=rfl
theorem iF{Q:Program}{go:TypeId->D->D->Option Bool}{ev:TypeId->Value->Value->Sem Bool}(Gd: ∀t x y c u v,go t x y=some c->x.br=some u->y.br=some v->ah Q (ev t u v)=some c)
  {xs ys:List D} {us vs:List Value} (hx:D.bU xs=some us) (hy:D.bU ys=some vs): ∀(fs:List Field) (c:Bool),rh Q go fs xs ys=some c->
  ah Q (do
   for f in fs do
    if f.name≠ "_" then
     if !(<-ev f.type (<-Go.part f.type ⟨us⟩ f.offset) (<-Go.part f.type ⟨vs⟩ f.offset)) then return false
   pure true)=some c
 | [],c,h=>by simp only[rh,zaf] at h;subst h;rfl
 |f::r,c,h=>by
  have ih:=iF Gd hx hy r;unfold rh at h;simp only[List.forIn_cons,bind_assoc] at ih⊢;split at h
  next hn=>
   have hn: ¬f.name≠ "_" :=by simpa using hn
   rw[zaB hn];simp only[pure_bind];exact ih c h
  rename_i hn;have hn:f.name≠ "_" :=by simpa using hn
  rw[zat hn];split at h
  next x y O3 O4=>
   split at h
   ·rename_i a b ha hb;simp only[zaf] at h;subst h;obtain⟨u,e1,h1⟩:=lE hx O3;obtain⟨v,e2,h2⟩:=lE hy O4;have e3:=Gd _ _ _ _ _ _ ha h1 h2;simp only[bind_assoc];rw[ag,e1,zam,ag,e2,zam,ag,e3,zam];cases a with
    |false=>rfl
    |true=>simp only[Bool.not_true,zar,za3,pure_bind,Bool.true_and];exact ih b hb
   cases h
  cases h
theorem cV{Q:Program}: ∀(n d:Nat) (t:TypeId) (x y:D) (c:Bool) (u v:Value),n<=d->Bo Q n t x y=some c->x.br=some u->y.br=some v->ah Q (Op.equalIn d t u v)=some c
 |0,_,_,_,_,_,_,_,_,h,_,_=>by simp[Bo] at h
 |n+1,0,_,_,_,_,_,_,hd,_,_,_=>by omega
 |n+1,d+1,t,x,y,c,u,v,hd,h,hu,hv=>by
  unfold Bo at h;split at h
  next hq=>
   split at h
   next a b=>simp[D.br,D.dK] at hu hv;subst hu hv;rw[Op.equalIn,ag,au hq];exact h
   cases h
  next k0 hq=>
   split at h
   ·rename_i k a k' b;simp[D.br,D.dK] at hu hv;subst hu hv;split at h
    ·rename_i hk;have hk:k=k':=by simpa using hk
     subst hk;rw[Op.equalIn,ag,au hq];simp only[zam,zaT];exact h
    cases h
   cases h
  next hq=>
   split at h
   next a b=>simp[D.br,D.dK] at hu hv;subst hu hv;rw[Op.equalIn,ag,au hq];simp only[zaf] at h;subst h;show some _=some _;congr 1;rw[zb9];show((⟨a⟩:Array UInt8)==⟨b⟩)=true↔(a==b)=true;simp
   cases h
  next fs hq=>
   split at h
   ·rename_i xs ys;split at h
    ·cases h
    rename_i iO;simp only[D.br] at hu hv;split at hu
    ·rename_i us Mb;simp only[zaf] at hu;subst hu;split at hv
     next vs xG=>simp only[zaf] at hv;subst hv;have key:=iF (ev:=Op.equalIn d) (λt x y c u v h1 h2 h3=>cV n d t x y c u v (by omega) h1 h2 h3) Mb xG fs.toList c h;rw[Op.equalIn,ag,au hq];simp only[zam];rw[ag,cG,zam,iO];simp only[zar,za3];rw[<-Array.forIn_toList];exact key
     cases hv
    cases hu
   cases h
  next m e hq=>
   split at h
   ·rename_i xs ys;split at h
    ·rename_i k hk;simp only[D.br] at hu hv;split at hu
     ·rename_i us Mb;simp only[zaf] at hu;subst hu;split at hv
      next vs xG=>simp only[zaf] at hv;subst hv;have key:=iF (ev:=Op.equalIn d) (λt x y c u v h1 h2 h3=>cV n d t x y c u v (by omega) h1 h2 h3) Mb xG (xp m e k) c h;rw[Op.equalIn,ag,au hq];simp only[zam];rw[ag,jI hk,zam];unfold xp at key;rw[List.forIn_map] at key;rw[Std.Legacy.Range.forIn_eq_forIn_range',Std.Legacy.Range.size,Nat.sub_zero,Nat.add_sub_cancel,Nat.div_one,<-List.range_eq_range'];exact key
      cases hv
     cases hu
    cases h
   cases h
  cases h
theorem ko{Q:Program}{op:BinOp}{t:TypeId}{x y:Operand}{us vs:Array Value}(h:Q.eqGuardType Q.depth t=false)(ho:op= .eql\/op= .neq):ah Q (eqGuard op t x y (.agg us) (.agg vs))=some ():=by
 rcases ho with rfl |rfl
 ·show ah Q (do
   if !(<-program).eqGuardType (<-program).depth t then return
   if<-Op.eqGuardIn Op.maxDepth t (.agg us) (.agg vs) then unsupported (.noEntry "binop/eql: two nil values of an interface type with methods, in a part of a struct or an array"))=_
  rw[ag,cG,zam,ag,cG,zam,h];rfl
 show ah Q (do
  if !(<-program).eqGuardType (<-program).depth t then return
  if<-Op.eqGuardIn Op.maxDepth t (.agg us) (.agg vs) then unsupported (.noEntry "binop/eql: two nil values of an interface type with methods, in a part of a struct or an array"))=_
 rw[ag,cG,zam,ag,cG,zam,h];rfl
end Pi
