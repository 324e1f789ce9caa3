/- The text PiKOk2. -/
import Derived.Test.YtngoddkencoalaaGreatDoorPiKOk
namespace Pi
open Go
def loB(h:Nat)(lo:Option P):Option (Nat×Nat):=
 match lo with
 |none=>some (0,h)
 |some (.d (.int _ j))=>if 0<=j/\j<=(h:Int) then some (j.toNat,h) else none
 |_=>none
theorem ly{len:Nat}{lo hi:Option P}:KW (nV len lo hi) (λx=>dI len lo hi=some x):=by
 unfold nV;refine KW.bind (p:=λh=> ∀r,loB h lo=some r->dI len lo hi=some r) ?_ λh hh=> ?_
 ·split
  ·exact KW.ret λr hr=>by unfold loB at hr;simp only[dI];exact hr
  ·exact KW.jT λhb r hr=>by simp only[zai] at hb;unfold loB at hr;simp only[dI,zao hb];exact hr
  exact KW.fail
 split
 ·exact KW.ret (hh _ rfl)
 ·exact KW.jT λhb=>hh _ (by simp only[zai] at hb;simp only[loB,zao hb])
 exact KW.fail
section
variable{Q:Program}{s:S}
theorem AA{t:TypeId}{p i:P}:KW (r8 Q s t p i) (λq=>fj Q s t p i=some q):=by
 unfold r8 fj;split
 next n e he=>simp only[he];exact KW.dW λa h=>h
 rename_i VQ;simp only[VQ];split
 next e k j he=>
  simp only[he];split
  next k' hk=>
   simp only[hk];split
   ·rename_i n v len;split
    ·rename_i ty fz es ho;simp only[ho];split
     next ht=>refine KW.jT λhb=> ?_;simp only[zai] at hb;simp only[zao hb]
     exact KW.fail
    exact KW.fail
   ·rename_i n v k2 off len;split
    ·rename_i ty fz es ho;simp only[ho];split
     next ht=>refine KW.jT λhb=> ?_;simp only[zai] at hb;simp only[zao hb]
     exact KW.fail
    exact KW.fail
   ·rename_i k2 es;split
    next sW=>refine KW.bind (p:=λ_=>0<=j/\j<(es.length:Int)) (KW.jT λhb=>by simpa using hb) λ_ hj=> ?_;refine KW.bind (n0 Q e _) λx hx=>KW.ret ?_;simp only[zao sW,zao hj.1,xZ (show j.toNat<es.length by omega),hx]
    exact KW.fail
   exact KW.fail
  exact KW.fail
 exact KW.fail
theorem MK{t:TypeId}{p:P}{lo hi:Option P}:KW (Iq Q s t p lo hi) (λq=>mD Q s t p lo hi=some q):=by
 unfold Iq mD;generalize oP Q s t p lo=p;unfold KJ xd;split
 ·exact KW.fail
 rename_i e he;split
 next k hk=>
  split
  next k' es=>
   split
   next sW=>refine KW.bind ly λx hx=>KW.ret ?_;simp only[he,hk,zao sW,hx]
   exact KW.fail
  next n v len=>
   split
   next ty fz es ho=>refine KW.bind ly λx hx=>KW.ret ?_;simp only[he,hk,ho,hx]
   ·rename_i ty fz es lo0 ho;split
    ·rename_i k' mV;split
     next jV=>refine KW.bind ly λx hx=>KW.ret ?_;simp only[he,hk,ho,mV,zao jV,hx]
     exact KW.fail
    exact KW.fail
   exact KW.fail
  next n v k' off len=>
   split
   ·rename_i ty fz es ho;split
    next jV=>refine KW.bind ly λx hx=>KW.ret ?_;simp only[he,hk,ho,zao jV,hx]
    exact KW.fail
   exact KW.fail
  exact KW.fail
 exact KW.fail
theorem Qk{t:TypeId}{p:P}:KW (PL Q s t p) (λq=>rz Q s t p=some q):=by
 unfold PL;split
 next n v i k off=>
  split
  next ty fz es ho=>
   split
   ·rename_i k' hk;split
    ·rename_i jV;refine KW.bind (p:=λ_=>i<es.length) (KW.jT λhb=>by simpa using hb) λ_ hi=> ?_;refine KW.bind (n0 Q ty _) λx hx=> ?_;split
     next y hy=>refine KW.ret ?_;simp only[rz,ho,hk,xZ hi];rw[zao jV,hx,hy]
     exact KW.fail
    exact KW.fail
   exact KW.fail
  exact KW.fail
 exact KW.dW λa h=>h
theorem uP{a b:TypeId}{x:D}{m:K D}(h:PO Q a b x=some m):KW m (λz=> ∃v,x.cG=some v/\eo Q (Go.convert a b v)=some (.d z)):=by
 unfold PO at h;split at h
 next k1 k k2 n ha hb=>
  simp only[zam] at h;subst h;have key:KW (if PN k1 then arith k n else K.ret (.int k (k.wrap n))) (λz=>z= .int k (k.wrap n)):=by
   split
   ·exact lx _ _
   exact KW.ret rfl
  refine key.mono λz hz=> ?_;subst hz;refine⟨.int k2 n,rfl,?_⟩;have:aA Q (Go.convert a b (.int k2 n))=some (.int k (k.wrap n)):=by unfold Go.convert;rw[ax,aM ha,zav,ax,aM hb,zav];rfl
  simp only[eo,this,D.uK,D.mC]
 next l ha hb=>
  simp only[zam] at h;subst h;refine KW.ret ⟨.string ⟨⟨l⟩⟩,rfl,?_⟩;have:aA Q (Go.convert a b (.string ⟨⟨l⟩⟩))=some (.string ⟨⟨l⟩⟩):=by unfold Go.convert;rw[ax,aM ha,zav,ax,aM hb,zav];rfl
  simp only[eo,this,D.uK,D.mC]
 cases h
theorem D.x7{c:Bool}{x y z:D}(h:D.merge c x y=some z):z=if c then x else y:=by
 unfold D.merge at h;split at h
 ·simp only[zam] at h;subst h;cases c<;>rfl
 ·split at h
  next hk=>have hk:=eq_of_beq hk;subst hk;simp only[zam] at h;subst h;cases c<;>rfl
  cases h
 ·simp only[zam] at h;subst h;cases c<;>rfl
 cases h
theorem P.x7{c:Bool}{p q r:P}(h:P.merge c p q=some r):r=if c then p else q:=by
 unfold P.merge at h;split at h
 ·split at h
  next hm=>simp only[zam] at h;subst h;rw[D.x7 hm];cases c<;>rfl
  cases h
 cases h
end
end Pi
