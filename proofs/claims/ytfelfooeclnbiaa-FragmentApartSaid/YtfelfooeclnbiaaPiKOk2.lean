/- The text PiKOk2. -/
import Derived.Test.YtfelfooeclnbiaaPiKOk
namespace Pi
open Go
def Ef(h:Nat)(lo:Option P):Option (Nat×Nat):=
 match lo with
 |none=>some (0,h)
 |some (.d (.int _ j))=>if 0<=j/\j<=(h:Int) then some (j.toNat,h) else none
 |_=>none
theorem eQ{len:Nat}{lo hi:Option P}:KW (fZ len lo hi) (λx=>bH len lo hi=some x):=by
 unfold fZ;refine KW.bind (p:=λh=> ∀r,Ef h lo=some r->bH len lo hi=some r) ?_ λh hh=> ?_
 ·split
  ·exact KW.ret λr hr=>by unfold Ef at hr;simp only[bH];exact hr
  ·exact KW.df λhb r hr=>by simp only[zaE] at hb;unfold Ef at hr;simp only[bH,zat hb];exact hr
  exact KW.fail
 split
 ·exact KW.ret (hh _ rfl)
 ·exact KW.df λhb=>hh _ (by simp only[zaE] at hb;simp only[Ef,zat hb])
 exact KW.fail
section
variable{Q:Program}{s:S}
theorem nS{t:TypeId}{p i:P}:KW (jz Q s t p i) (λq=>cn Q s t p i=some q):=by
 unfold jz cn;split
 next n e he=>simp only[he];exact KW.cg λa h=>h
 rename_i yj;simp only[yj];split
 next e k j he=>
  simp only[he];split
  next k' hk=>
   simp only[hk];split
   ·rename_i n v len;split
    ·rename_i ty fz es ho;simp only[ho];split
     next ht=>refine KW.df λhb=> ?_;simp only[zaE] at hb;simp only[zat hb]
     exact KW.fail
    exact KW.fail
   ·rename_i n v k2 off len;split
    ·rename_i ty fz es ho;simp only[ho];split
     next ht=>refine KW.df λhb=> ?_;simp only[zaE] at hb;simp only[zat hb]
     exact KW.fail
    exact KW.fail
   ·rename_i k2 es;split
    next wD=>refine KW.bind (p:=λ_=>0<=j/\j<(es.length:Int)) (KW.df λhb=>by simpa using hb) λ_ hj=> ?_;refine KW.bind (kh Q e _) λx hx=>KW.ret ?_;simp only[zat wD,zat hj.1,mB (show j.toNat<es.length by omega),hx]
    exact KW.fail
   exact KW.fail
  exact KW.fail
 exact KW.fail
theorem uF{t:TypeId}{p:P}{lo hi:Option P}:KW (sc Q s t p lo hi) (λq=>fj Q s t p lo hi=some q):=by
 unfold sc fj;generalize gw Q s t p lo=p;unfold tA lZ;split
 ·exact KW.fail
 rename_i e he;split
 next k hk=>
  split
  next k' es=>
   split
   next wD=>refine KW.bind eQ λx hx=>KW.ret ?_;simp only[he,hk,zat wD,hx]
   exact KW.fail
  next n v len=>
   split
   next ty fz es ho=>refine KW.bind eQ λx hx=>KW.ret ?_;simp only[he,hk,ho,hx]
   ·rename_i ty fz es Hs ho;split
    ·rename_i k' gf;split
     next dS=>refine KW.bind eQ λx hx=>KW.ret ?_;simp only[he,hk,ho,gf,zat dS,hx]
     exact KW.fail
    exact KW.fail
   exact KW.fail
  next n v k' off len=>
   split
   ·rename_i ty fz es ho;split
    next dS=>refine KW.bind eQ λx hx=>KW.ret ?_;simp only[he,hk,ho,zat dS,hx]
    exact KW.fail
   exact KW.fail
  exact KW.fail
 exact KW.fail
theorem wL{t:TypeId}{p:P}:KW (wi Q s t p) (λq=>ji Q s t p=some q):=by
 unfold wi;split
 next n v i k off=>
  split
  next ty fz es ho=>
   split
   ·rename_i k' hk;split
    ·rename_i dS;refine KW.bind (p:=λ_=>i<es.length) (KW.df λhb=>by simpa using hb) λ_ hi=> ?_;refine KW.bind (kh Q ty _) λx hx=> ?_;split
     next y hy=>refine KW.ret ?_;simp only[ji,ho,hk,mB hi];rw[zat dS,hx,hy]
     exact KW.fail
    exact KW.fail
   exact KW.fail
  exact KW.fail
 exact KW.cg λa h=>h
theorem kL{a b:TypeId}{x:D}{m:K D}(h:wk Q a b x=some m):KW m (λz=> ∃v,x.aW=some v/\bL Q (Go.convert a b v)=some (.d z)):=by
 unfold wk at h;split at h
 next k1 k k2 n ha hb=>
  simp only[zae] at h;subst h;have key:KW (if wj k1 then arith k n else K.ret (.int k (k.wrap n))) (λz=>z= .int k (k.wrap n)):=by
   split
   ·exact eP _ _
   exact KW.ret rfl
  refine key.mono λz hz=> ?_;subst hz;refine⟨.int k2 n,rfl,?_⟩;have:ah Q (Go.convert a b (.int k2 n))=some (.int k (k.wrap n)):=by unfold Go.convert;rw[ag,ao ha,zah,ag,ao hb,zah];rfl
  simp only[bL,this,D.kD,D.fi]
 next l ha hb=>
  simp only[zae] at h;subst h;refine KW.ret ⟨.string ⟨⟨l⟩⟩,rfl,?_⟩;have:ah Q (Go.convert a b (.string ⟨⟨l⟩⟩))=some (.string ⟨⟨l⟩⟩):=by unfold Go.convert;rw[ag,ao ha,zah,ag,ao hb,zah];rfl
  simp only[bL,this,D.kD,D.fi]
 cases h
theorem D.mD{c:Bool}{x y z:D}(h:D.merge c x y=some z):z=if c then x else y:=by
 unfold D.merge at h;split at h
 ·simp only[zae] at h;subst h;cases c<;>rfl
 ·split at h
  next hk=>have hk:=eq_of_beq hk;subst hk;simp only[zae] at h;subst h;cases c<;>rfl
  cases h
 ·simp only[zae] at h;subst h;cases c<;>rfl
 cases h
theorem P.mD{c:Bool}{p q r:P}(h:P.merge c p q=some r):r=if c then p else q:=by
 unfold P.merge at h;split at h
 ·split at h
  next hm=>simp only[zae] at h;subst h;rw[D.mD hm];cases c<;>rfl
  cases h
 cases h
end
end Pi
