/- The text PiKOk2. -/
import Derived.Test.YtfelfooeclnbiaaGreatDoorPiKOk
namespace Pi
open Go
def loB(h:Nat)(lo:Option P):Option (Nat×Nat):=
 match lo with
 |none=>some (0,h)
 |some (.d (.int _ j))=>if 0<=j/\j<=(h:Int) then some (j.toNat,h) else none
 |_=>none
theorem kQ{len:Nat}{lo hi:Option P}:KW (nt len lo hi) (λx=>dm len lo hi=some x):=by
 unfold nt;refine KW.bind (p:=λh=> ∀r,loB h lo=some r->dm len lo hi=some r) ?_ λh hh=> ?_
 ·split
  ·exact KW.ret λr hr=>by unfold loB at hr;simp only[dm];exact hr
  ·exact KW.jF λhb r hr=>by simp only[zal] at hb;unfold loB at hr;simp only[dm,zaq hb];exact hr
  exact KW.fail
 split
 ·exact KW.ret (hh _ rfl)
 ·exact KW.jF λhb=>hh _ (by simp only[zal] at hb;simp only[loB,zaq hb])
 exact KW.fail
section
variable{Q:Program}{s:S}
theorem zJ{t:TypeId}{p i:P}:KW (rf Q s t p i) (λq=>fb Q s t p i=some q):=by
 unfold rf fb;split
 next n e he=>simp only[he];exact KW.dR λa h=>h
 rename_i Vp;simp only[Vp];split
 next e k j he=>
  simp only[he];split
  next k' hk=>
   simp only[hk];split
   ·rename_i n v len;split
    ·rename_i ty fz es ho;simp only[ho];split
     next ht=>refine KW.jF λhb=> ?_;simp only[zal] at hb;simp only[zaq hb]
     exact KW.fail
    exact KW.fail
   ·rename_i n v k2 off len;split
    ·rename_i ty fz es ho;simp only[ho];split
     next ht=>refine KW.jF λhb=> ?_;simp only[zal] at hb;simp only[zaq hb]
     exact KW.fail
    exact KW.fail
   ·rename_i k2 es;split
    next u7=>refine KW.bind (p:=λ_=>0<=j/\j<(es.length:Int)) (KW.jF λhb=>by simpa using hb) λ_ hj=> ?_;refine KW.bind (nz Q e _) λx hx=>KW.ret ?_;simp only[zaq u7,zaq hj.1,xj (show j.toNat<es.length by omega),hx]
    exact KW.fail
   exact KW.fail
  exact KW.fail
 exact KW.fail
theorem Md{t:TypeId}{p:P}{lo hi:Option P}:KW (HV Q s t p lo hi) (λq=>lU Q s t p lo hi=some q):=by
 unfold HV lU;generalize og Q s t p lo=p;unfold Kc wz;split
 ·exact KW.fail
 rename_i e he;split
 next k hk=>
  split
  next k' es=>
   split
   next u7=>refine KW.bind kQ λx hx=>KW.ret ?_;simp only[he,hk,zaq u7,hx]
   exact KW.fail
  next n v len=>
   split
   next ty fz es ho=>refine KW.bind kQ λx hx=>KW.ret ?_;simp only[he,hk,ho,hx]
   ·rename_i ty fz es lo0 ho;split
    ·rename_i k' mY;split
     next jG=>refine KW.bind kQ λx hx=>KW.ret ?_;simp only[he,hk,ho,mY,zaq jG,hx]
     exact KW.fail
    exact KW.fail
   exact KW.fail
  next n v k' off len=>
   split
   ·rename_i ty fz es ho;split
    next jG=>refine KW.bind kQ λx hx=>KW.ret ?_;simp only[he,hk,ho,zaq jG,hx]
    exact KW.fail
   exact KW.fail
  exact KW.fail
 exact KW.fail
theorem Pv{t:TypeId}{p:P}:KW (O8 Q s t p) (λq=>qE Q s t p=some q):=by
 unfold O8;split
 next n v i k off=>
  split
  next ty fz es ho=>
   split
   ·rename_i k' hk;split
    ·rename_i jG;refine KW.bind (p:=λ_=>i<es.length) (KW.jF λhb=>by simpa using hb) λ_ hi=> ?_;refine KW.bind (nz Q ty _) λx hx=> ?_;split
     next y hy=>refine KW.ret ?_;simp only[qE,ho,hk,xj hi];rw[zaq jG,hx,hy]
     exact KW.fail
    exact KW.fail
   exact KW.fail
  exact KW.fail
 exact KW.dR λa h=>h
theorem ug{a b:TypeId}{x:D}{m:K D}(h:Pa Q a b x=some m):KW m (λz=> ∃v,x.cp=some v/\dI Q (Go.convert a b v)=some (.d z)):=by
 unfold Pa at h;split at h
 next k1 k k2 n ha hb=>
  simp only[zak] at h;subst h;have key:KW (if O9 k1 then arith k n else K.ret (.int k (k.wrap n))) (λz=>z= .int k (k.wrap n)):=by
   split
   ·exact kP _ _
   exact KW.ret rfl
  refine key.mono λz hz=> ?_;subst hz;refine⟨.int k2 n,rfl,?_⟩;have:ay Q (Go.convert a b (.int k2 n))=some (.int k (k.wrap n)):=by unfold Go.convert;rw[aw,aH ha,zaw,aw,aH hb,zaw];rfl
  simp only[dI,this,D.tX,D.lT]
 next l ha hb=>
  simp only[zak] at h;subst h;refine KW.ret ⟨.string ⟨⟨l⟩⟩,rfl,?_⟩;have:ay Q (Go.convert a b (.string ⟨⟨l⟩⟩))=some (.string ⟨⟨l⟩⟩):=by unfold Go.convert;rw[aw,aH ha,zaw,aw,aH hb,zaw];rfl
  simp only[dI,this,D.tX,D.lT]
 cases h
theorem D.xn{c:Bool}{x y z:D}(h:D.merge c x y=some z):z=if c then x else y:=by
 unfold D.merge at h;split at h
 ·simp only[zak] at h;subst h;cases c<;>rfl
 ·split at h
  next hk=>have hk:=eq_of_beq hk;subst hk;simp only[zak] at h;subst h;cases c<;>rfl
  cases h
 ·simp only[zak] at h;subst h;cases c<;>rfl
 cases h
theorem P.xn{c:Bool}{p q r:P}(h:P.merge c p q=some r):r=if c then p else q:=by
 unfold P.merge at h;split at h
 ·split at h
  next hm=>simp only[zak] at h;subst h;rw[D.xn hm];cases c<;>rfl
  cases h
 cases h
end
end Pi
