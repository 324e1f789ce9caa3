/- The text PiKOk2. -/
import Derived.Test.YtfelfooeclnbiaaPiKOk
namespace Pi
open Go
def DB(h:Nat)(lo:Option P):Option (Nat×Nat):=
 match lo with
 |none=>some (0,h)
 |some (.d (.int _ j))=>if 0<=j/\j<=(h:Int) then some (j.toNat,h) else none
 |_=>none
theorem eR{len:Nat}{lo hi:Option P}:KW (fX len lo hi) (λx=>bI len lo hi=some x):=by
 unfold fX;refine KW.bind (p:=λh=> ∀r,DB h lo=some r->bI len lo hi=some r) ?_ λh hh=> ?_
 ·split
  ·exact KW.ret λr hr=>by unfold DB at hr;simp only[bI];exact hr
  ·exact KW.dj λhb r hr=>by simp only[zaI] at hb;unfold DB at hr;simp only[bI,zau hb];exact hr
  exact KW.fail
 split
 ·exact KW.ret (hh _ rfl)
 ·exact KW.dj λhb=>hh _ (by simp only[zaI] at hb;simp only[DB,zau hb])
 exact KW.fail
section
variable{Q:Program}{s:S}
theorem nL{t:TypeId}{p i:P}:KW (jm Q s t p i) (λq=>cq Q s t p i=some q):=by
 unfold jm cq;split
 next n e he=>simp only[he];exact KW.cm λa h=>h
 rename_i yj;simp only[yj];split
 next e k j he=>
  simp only[he];split
  next k' hk=>
   simp only[hk];split
   ·rename_i n v len;split
    ·rename_i ty fz es ho;simp only[ho];split
     next ht=>refine KW.dj λhb=> ?_;simp only[zaI] at hb;simp only[zau hb]
     exact KW.fail
    exact KW.fail
   ·rename_i n v k2 off len;split
    ·rename_i ty fz es ho;simp only[ho];split
     next ht=>refine KW.dj λhb=> ?_;simp only[zaI] at hb;simp only[zau hb]
     exact KW.fail
    exact KW.fail
   ·rename_i k2 es;split
    next rE=>refine KW.bind (p:=λ_=>0<=j/\j<(es.length:Int)) (KW.dj λhb=>by simpa using hb) λ_ hj=> ?_;refine KW.bind (jY Q e _) λx hx=>KW.ret ?_;simp only[zau rE,zau hj.1,mn (show j.toNat<es.length by omega),hx]
    exact KW.fail
   exact KW.fail
  exact KW.fail
 exact KW.fail
theorem uD{t:TypeId}{p:P}{lo hi:Option P}:KW (rY Q s t p lo hi) (λq=>fh Q s t p lo hi=some q):=by
 unfold rY fh;generalize gu Q s t p lo=p;unfold ti lT;split
 ·exact KW.fail
 rename_i e he;split
 next k hk=>
  split
  next k' es=>
   split
   next rE=>refine KW.bind eR λx hx=>KW.ret ?_;simp only[he,hk,zau rE,hx]
   exact KW.fail
  next n v len=>
   split
   next ty fz es ho=>refine KW.bind eR λx hx=>KW.ret ?_;simp only[he,hk,ho,hx]
   ·rename_i ty fz es GM ho;split
    ·rename_i k' ga;split
     next dT=>refine KW.bind eR λx hx=>KW.ret ?_;simp only[he,hk,ho,ga,zau dT,hx]
     exact KW.fail
    exact KW.fail
   exact KW.fail
  next n v k' off len=>
   split
   ·rename_i ty fz es ho;split
    next dT=>refine KW.bind eR λx hx=>KW.ret ?_;simp only[he,hk,ho,zau dT,hx]
    exact KW.fail
   exact KW.fail
  exact KW.fail
 exact KW.fail
theorem wK{t:TypeId}{p:P}:KW (wh Q s t p) (λq=>iY Q s t p=some q):=by
 unfold wh;split
 next n v i k off=>
  split
  next ty fz es ho=>
   split
   ·rename_i k' hk;split
    ·rename_i dT;refine KW.bind (p:=λ_=>i<es.length) (KW.dj λhb=>by simpa using hb) λ_ hi=> ?_;refine KW.bind (jY Q ty _) λx hx=> ?_;split
     next y hy=>refine KW.ret ?_;simp only[iY,ho,hk,mn hi];rw[zau dT,hx,hy]
     exact KW.fail
    exact KW.fail
   exact KW.fail
  exact KW.fail
 exact KW.cm λa h=>h
theorem kB{a b:TypeId}{x:D}{m:K D}(h:wj Q a b x=some m):KW m (λz=> ∃v,x.aX=some v/\bO Q (Go.convert a b v)=some (.d z)):=by
 unfold wj at h;split at h
 next k1 k k2 n ha hb=>
  simp only[zae] at h;subst h;have key:KW (if wi k1 then arith k n else K.ret (.int k (k.wrap n))) (λz=>z= .int k (k.wrap n)):=by
   split
   ·exact eQ _ _
   exact KW.ret rfl
  refine key.mono λz hz=> ?_;subst hz;refine⟨.int k2 n,rfl,?_⟩;have:ai Q (Go.convert a b (.int k2 n))=some (.int k (k.wrap n)):=by unfold Go.convert;rw[ag,aq ha,zai,ag,aq hb,zai];rfl
  simp only[bO,this,D.kq,D.fg]
 next l ha hb=>
  simp only[zae] at h;subst h;refine KW.ret ⟨.string ⟨⟨l⟩⟩,rfl,?_⟩;have:ai Q (Go.convert a b (.string ⟨⟨l⟩⟩))=some (.string ⟨⟨l⟩⟩):=by unfold Go.convert;rw[ag,aq ha,zai,ag,aq hb,zai];rfl
  simp only[bO,this,D.kq,D.fg]
 cases h
theorem D.mr{c:Bool}{x y z:D}(h:D.merge c x y=some z):z=if c then x else y:=by
 unfold D.merge at h;split at h
 ·simp only[zae] at h;subst h;cases c<;>rfl
 ·split at h
  next hk=>have hk:=eq_of_beq hk;subst hk;simp only[zae] at h;subst h;cases c<;>rfl
  cases h
 ·simp only[zae] at h;subst h;cases c<;>rfl
 cases h
theorem P.mr{c:Bool}{p q r:P}(h:P.merge c p q=some r):r=if c then p else q:=by
 unfold P.merge at h;split at h
 ·split at h
  next hm=>simp only[zae] at h;subst h;rw[D.mr hm];cases c<;>rfl
  cases h
 cases h
end
end Pi
