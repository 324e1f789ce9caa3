/- The text PiKOk2. -/
import Derived.Test.YtngoddkencoalaaGreatDoorPiKOk
namespace Pi
open Go
def loB(h:Nat)(lo:Option P):Option (Nat×Nat):=
 match lo with
 |none=>some (0,h)
 |some (.d (.int _ j))=>if 0<=j/\j<=(h:Int) then some (j.toNat,h) else none
 |_=>none
theorem kU{len:Nat}{lo hi:Option P}:KW (nx len lo hi) (λx=>dB len lo hi=some x):=by
 unfold nx;refine KW.bind (p:=λh=> ∀r,loB h lo=some r->dB len lo hi=some r) ?_ λh hh=> ?_
 ·split
  ·exact KW.ret λr hr=>by unfold loB at hr;simp only[dB];exact hr
  ·exact KW.jH λhb r hr=>by simp only[zah] at hb;unfold loB at hr;simp only[dB,zao hb];exact hr
  exact KW.fail
 split
 ·exact KW.ret (hh _ rfl)
 ·exact KW.jH λhb=>hh _ (by simp only[zah] at hb;simp only[loB,zao hb])
 exact KW.fail
section
variable{Q:Program}{s:S}
theorem zQ{t:TypeId}{p i:P}:KW (rn Q s t p i) (λq=>fb Q s t p i=some q):=by
 unfold rn fb;split
 next n e he=>simp only[he];exact KW.dP λa h=>h
 rename_i Vd;simp only[Vd];split
 next e k j he=>
  simp only[he];split
  next k' hk=>
   simp only[hk];split
   ·rename_i n v len;split
    ·rename_i ty fz es ho;simp only[ho];split
     next ht=>refine KW.jH λhb=> ?_;simp only[zah] at hb;simp only[zao hb]
     exact KW.fail
    exact KW.fail
   ·rename_i n v k2 off len;split
    ·rename_i ty fz es ho;simp only[ho];split
     next ht=>refine KW.jH λhb=> ?_;simp only[zah] at hb;simp only[zao hb]
     exact KW.fail
    exact KW.fail
   ·rename_i k2 es;split
    next r6=>refine KW.bind (p:=λ_=>0<=j/\j<(es.length:Int)) (KW.jH λhb=>by simpa using hb) λ_ hj=> ?_;refine KW.bind (nC Q e _) λx hx=>KW.ret ?_;simp only[zao r6,zao hj.1,xi (show j.toNat<es.length by omega),hx]
    exact KW.fail
   exact KW.fail
  exact KW.fail
 exact KW.fail
theorem Mb{t:TypeId}{p:P}{lo hi:Option P}:KW (HM Q s t p lo hi) (λq=>l6 Q s t p lo hi=some q):=by
 unfold HM l6;generalize oc Q s t p lo=p;unfold Ka wm;split
 ·exact KW.fail
 rename_i e he;split
 next k hk=>
  split
  next k' es=>
   split
   next r6=>refine KW.bind kU λx hx=>KW.ret ?_;simp only[he,hk,zao r6,hx]
   exact KW.fail
  next n v len=>
   split
   next ty fz es ho=>refine KW.bind kU λx hx=>KW.ret ?_;simp only[he,hk,ho,hx]
   ·rename_i ty fz es lo0 ho;split
    ·rename_i k' mz;split
     next jJ=>refine KW.bind kU λx hx=>KW.ret ?_;simp only[he,hk,ho,mz,zao jJ,hx]
     exact KW.fail
    exact KW.fail
   exact KW.fail
  next n v k' off len=>
   split
   ·rename_i ty fz es ho;split
    next jJ=>refine KW.bind kU λx hx=>KW.ret ?_;simp only[he,hk,ho,zao jJ,hx]
    exact KW.fail
   exact KW.fail
  exact KW.fail
 exact KW.fail
theorem Po{t:TypeId}{p:P}:KW (O0 Q s t p) (λq=>qM Q s t p=some q):=by
 unfold O0;split
 next n v i k off=>
  split
  next ty fz es ho=>
   split
   ·rename_i k' hk;split
    ·rename_i jJ;refine KW.bind (p:=λ_=>i<es.length) (KW.jH λhb=>by simpa using hb) λ_ hi=> ?_;refine KW.bind (nC Q ty _) λx hx=> ?_;split
     next y hy=>refine KW.ret ?_;simp only[qM,ho,hk,xi hi];rw[zao jJ,hx,hy]
     exact KW.fail
    exact KW.fail
   exact KW.fail
  exact KW.fail
 exact KW.dP λa h=>h
theorem tR{a b:TypeId}{x:D}{m:K D}(h:O2 Q a b x=some m):KW m (λz=> ∃v,x.cA=some v/\dV Q (Go.convert a b v)=some (.d z)):=by
 unfold O2 at h;split at h
 next k1 k k2 n ha hb=>
  simp only[zal] at h;subst h;have key:KW (if O1 k1 then arith k n else K.ret (.int k (k.wrap n))) (λz=>z= .int k (k.wrap n)):=by
   split
   ·exact kT _ _
   exact KW.ret rfl
  refine key.mono λz hz=> ?_;subst hz;refine⟨.int k2 n,rfl,?_⟩;have:ax Q (Go.convert a b (.int k2 n))=some (.int k (k.wrap n)):=by unfold Go.convert;rw[aw,aL ha,zau,aw,aL hb,zau];rfl
  simp only[dV,this,D.tM,D.l5]
 next l ha hb=>
  simp only[zal] at h;subst h;refine KW.ret ⟨.string ⟨⟨l⟩⟩,rfl,?_⟩;have:ax Q (Go.convert a b (.string ⟨⟨l⟩⟩))=some (.string ⟨⟨l⟩⟩):=by unfold Go.convert;rw[aw,aL ha,zau,aw,aL hb,zau];rfl
  simp only[dV,this,D.tM,D.l5]
 cases h
theorem D.xl{c:Bool}{x y z:D}(h:D.merge c x y=some z):z=if c then x else y:=by
 unfold D.merge at h;split at h
 ·simp only[zal] at h;subst h;cases c<;>rfl
 ·split at h
  next hk=>have hk:=eq_of_beq hk;subst hk;simp only[zal] at h;subst h;cases c<;>rfl
  cases h
 ·simp only[zal] at h;subst h;cases c<;>rfl
 cases h
theorem P.xl{c:Bool}{p q r:P}(h:P.merge c p q=some r):r=if c then p else q:=by
 unfold P.merge at h;split at h
 ·split at h
  next hm=>simp only[zal] at h;subst h;rw[D.xl hm];cases c<;>rfl
  cases h
 cases h
end
end Pi
