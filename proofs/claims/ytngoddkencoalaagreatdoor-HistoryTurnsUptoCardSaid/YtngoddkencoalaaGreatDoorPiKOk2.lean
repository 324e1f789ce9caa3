/- The text PiKOk2. -/
import Derived.Test.YtngoddkencoalaaGreatDoorPiKOk
namespace Pi
open Go
def loB(h:Nat)(lo:Option P):Option (Nat×Nat):=
 match lo with
 |none=>some (0,h)
 |some (.d (.int _ j))=>if 0<=j/\j<=(h:Int) then some (j.toNat,h) else none
 |_=>none
theorem lD{len:Nat}{lo hi:Option P}:KW (oA len lo hi) (λx=>dF len lo hi=some x):=by
 unfold oA;refine KW.bind (p:=λh=> ∀r,loB h lo=some r->dF len lo hi=some r) ?_ λh hh=> ?_
 ·split
  ·exact KW.ret λr hr=>by unfold loB at hr;simp only[dF];exact hr
  ·exact KW.jY λhb r hr=>by simp only[zai] at hb;unfold loB at hr;simp only[dF,zap hb];exact hr
  exact KW.fail
 split
 ·exact KW.ret (hh _ rfl)
 ·exact KW.jY λhb=>hh _ (by simp only[zai] at hb;simp only[loB,zap hb])
 exact KW.fail
section
variable{Q:Program}{s:S}
theorem BA{t:TypeId}{p i:P}:KW (sf Q s t p i) (λq=>fm Q s t p i=some q):=by
 unfold sf fm;split
 next n e he=>simp only[he];exact KW.dR λa h=>h
 rename_i Yb;simp only[Yb];split
 next e k j he=>
  simp only[he];split
  next k' hk=>
   simp only[hk];split
   ·rename_i n v len;split
    ·rename_i ty fz es ho;simp only[ho];split
     next ht=>refine KW.jY λhb=> ?_;simp only[zai] at hb;simp only[zap hb]
     exact KW.fail
    exact KW.fail
   ·rename_i n v k2 off len;split
    ·rename_i ty fz es ho;simp only[ho];split
     next ht=>refine KW.jY λhb=> ?_;simp only[zai] at hb;simp only[zap hb]
     exact KW.fail
    exact KW.fail
   ·rename_i k2 es;split
    next qY=>refine KW.bind (p:=λ_=>0<=j/\j<(es.length:Int)) (KW.jY λhb=>by simpa using hb) λ_ hj=> ?_;refine KW.bind (oG Q e _) λx hx=>KW.ret ?_;simp only[zap qY,zap hj.1,yM (show j.toNat<es.length by omega),hx]
    exact KW.fail
   exact KW.fail
  exact KW.fail
 exact KW.fail
theorem OG{t:TypeId}{p:P}{lo hi:Option P}:KW (JZ Q s t p lo hi) (λq=>mP Q s t p lo hi=some q):=by
 unfold JZ mP;generalize ph Q s t p lo=p;unfold Mk xJ;split
 ·exact KW.fail
 rename_i e he;split
 next k hk=>
  split
  next k' es=>
   split
   next qY=>refine KW.bind lD λx hx=>KW.ret ?_;simp only[he,hk,zap qY,hx]
   exact KW.fail
  next n v len=>
   split
   next ty fz es ho=>refine KW.bind lD λx hx=>KW.ret ?_;simp only[he,hk,ho,hx]
   ·rename_i ty fz es lo0 ho;split
    ·rename_i k' nj;split
     next ju=>refine KW.bind lD λx hx=>KW.ret ?_;simp only[he,hk,ho,nj,zap ju,hx]
     exact KW.fail
    exact KW.fail
   exact KW.fail
  next n v k' off len=>
   split
   ·rename_i ty fz es ho;split
    next ju=>refine KW.bind lD λx hx=>KW.ret ?_;simp only[he,hk,ho,zap ju,hx]
    exact KW.fail
   exact KW.fail
  exact KW.fail
 exact KW.fail
theorem R5{t:TypeId}{p:P}:KW (RD Q s t p) (λq=>rL Q s t p=some q):=by
 unfold RD;split
 next n v i k off=>
  split
  next ty fz es ho=>
   split
   ·rename_i k' hk;split
    ·rename_i ju;refine KW.bind (p:=λ_=>i<es.length) (KW.jY λhb=>by simpa using hb) λ_ hi=> ?_;refine KW.bind (oG Q ty _) λx hx=> ?_;split
     next y hy=>refine KW.ret ?_;simp only[rL,ho,hk,yM hi];rw[zap ju,hx,hy]
     exact KW.fail
    exact KW.fail
   exact KW.fail
  exact KW.fail
 exact KW.dR λa h=>h
theorem vq{a b:TypeId}{x:D}{m:K D}(h:RG Q a b x=some m):KW m (λz=> ∃v,x.cF=some v/\dY Q (Go.convert a b v)=some (.d z)):=by
 unfold RG at h;split at h
 next k1 k k2 n ha hb=>
  simp only[zam] at h;subst h;have key:KW (if RE k1 then arith k n else K.ret (.int k (k.wrap n))) (λz=>z= .int k (k.wrap n)):=by
   split
   ·exact lC _ _
   exact KW.ret rfl
  refine key.mono λz hz=> ?_;subst hz;refine⟨.int k2 n,rfl,?_⟩;have:aC Q (Go.convert a b (.int k2 n))=some (.int k (k.wrap n)):=by unfold Go.convert;rw[az,aL ha,zaw,az,aL hb,zaw];rfl
  simp only[dY,this,D.vi,D.mO]
 next l ha hb=>
  simp only[zam] at h;subst h;refine KW.ret ⟨.string ⟨⟨l⟩⟩,rfl,?_⟩;have:aC Q (Go.convert a b (.string ⟨⟨l⟩⟩))=some (.string ⟨⟨l⟩⟩):=by unfold Go.convert;rw[az,aL ha,zaw,az,aL hb,zaw];rfl
  simp only[dY,this,D.vi,D.mO]
 cases h
theorem D.yO{c:Bool}{x y z:D}(h:D.merge c x y=some z):z=if c then x else y:=by
 unfold D.merge at h;split at h
 ·simp only[zam] at h;subst h;cases c<;>rfl
 ·split at h
  next hk=>have hk:=eq_of_beq hk;subst hk;simp only[zam] at h;subst h;cases c<;>rfl
  cases h
 ·simp only[zam] at h;subst h;cases c<;>rfl
 cases h
theorem P.yO{c:Bool}{p q r:P}(h:P.merge c p q=some r):r=if c then p else q:=by
 unfold P.merge at h;split at h
 ·split at h
  next hm=>simp only[zam] at h;subst h;rw[D.yO hm];cases c<;>rfl
  cases h
 cases h
end
end Pi
