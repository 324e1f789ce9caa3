/- The text PiKOk2. -/
import Derived.Test.YtdgkdigdflkjhaaGreatDoorPiKOk
namespace Pi
open Go
def loB(h:Nat)(lo:Option P):=
 match lo with
 |none=>some (0,h)
 |some (.d (.int _ j))=>if 0<=j/\j<=(h:Int) then some (j.toNat,h) else none
 |_=>none
theorem lO{len lo hi}:KW (oY len lo hi) (λx=>dK len lo hi=some x):=by
 unfold oY;refine KW.bind (p:=λh=> ∀r,loB h lo=some r->dK len lo hi=some r) ?_ λh hh=> ?_
 ·split
  ·exact KW.ret λr hr=>by unfold loB at hr;simp only[dK];exact hr
  ·exact KW.ki λhb r hr=>by simp only[zah] at hb;unfold loB at hr;simp only[dK,zap hb];exact hr
  exact KW.fail
 split
 ·exact KW.ret (hh _ rfl)
 ·exact KW.ki λhb=>hh _ (by simp only[zah] at hb;simp only[loB,zap hb])
 exact KW.fail
section
variable{Q:Program}{s:S}
theorem Cq{t p i}:KW (s6 Q s t p i) (λq=>fq Q s t p i=some q):=by
 unfold s6 fq;split
 next n e he=>simp only[he];exact KW.dU λa h=>h
 rename_i hna;simp only[hna];split
 next e k j he=>
  simp only[he];split
  next k' hk=>
   simp only[hk];split
   ·rename_i n v len;split
    ·rename_i ty fz es ho;simp only[ho];split
     next ht=>refine KW.ki λhb=> ?_;simp only[zah] at hb;simp only[zap hb]
     exact KW.fail
    exact KW.fail
   ·rename_i n v k2 off len;split
    ·rename_i ty fz es ho;simp only[ho];split
     next ht=>refine KW.ki λhb=> ?_;simp only[zah] at hb;simp only[zap hb]
     exact KW.fail
    exact KW.fail
   ·rename_i k2 es;split
    next qj=>refine KW.bind (p:=λ_=>0<=j/\j<(es.length:Int)) (KW.ki λhb=>by simpa using hb) λ_ hj=> ?_;refine KW.bind (o7 Q e _) λx hx=>KW.ret ?_;simp only[zap qj,zap hj.1,zJ (show j.toNat<es.length by omega),hx]
    exact KW.fail
   exact KW.fail
  exact KW.fail
 exact KW.fail
theorem Qr{t p lo hi}:KW (Lq Q s t p lo hi) (λq=>nt Q s t p lo hi=some q):=by
 unfold Lq nt;generalize pP Q s t p lo=p;unfold NG yB;split
 ·exact KW.fail
 rename_i e he;split
 next k hk=>
  split
  next k' es=>
   split
   next qj=>refine KW.bind lO λx hx=>KW.ret ?_;simp only[he,hk,zap qj,hx]
   exact KW.fail
  next n v len=>
   split
   next ty fz es ho=>refine KW.bind lO λx hx=>KW.ret ?_;simp only[he,hk,ho,hx]
   ·rename_i ty fz es lo0 ho;split
    ·rename_i k' iB;split
     next kj=>refine KW.bind lO λx hx=>KW.ret ?_;simp only[he,hk,ho,iB,zap kj,hx]
     exact KW.fail
    exact KW.fail
   exact KW.fail
  next n v k' off len=>
   split
   ·rename_i ty fz es ho;split
    next kj=>refine KW.bind lO λx hx=>KW.ret ?_;simp only[he,hk,ho,zap kj,hx]
    exact KW.fail
   exact KW.fail
  exact KW.fail
 exact KW.fail
theorem TY{t p}:KW (TB Q s t p) (λq=>sf Q s t p=some q):=by
 unfold TB;split
 next n v i k off=>
  split
  next ty fz es ho=>
   split
   ·rename_i k' hk;split
    ·rename_i kj;refine KW.bind (p:=λ_=>i<es.length) (KW.ki λhb=>by simpa using hb) λ_ hi=> ?_;refine KW.bind (o7 Q ty _) λx hx=> ?_;split
     next y hy=>refine KW.ret ?_;simp only[sf,ho,hk,zJ hi];rw[zap kj,hx,hy]
     exact KW.fail
    exact KW.fail
   exact KW.fail
  exact KW.fail
 exact KW.dU λa h=>h
theorem vX{a b x m}(h:TD Q a b x=some m):KW m (λz=> ∃v,x.cD=some v/\ey Q (Go.convert a b v)=some (.d z)):=by
 unfold TD at h;split at h
 next k1 k k2 n ha hb=>
  simp only[zam] at h;subst h;have key:KW (if TC k1 then arith k n else K.ret (.int k (k.wrap n))) (λz=>z= .int k (k.wrap n)):=by
   split
   ·exact lN _ _
   exact KW.ret rfl
  refine key.mono λz hz=> ?_;subst hz;refine⟨.int k2 n,rfl,?_⟩;have:ax Q (Go.convert a b (.int k2 n))=some (.int k (k.wrap n)):=by unfold Go.convert;rw[aw,aK ha,zaw,aw,aK hb,zaw];rfl
  simp only[ey,this,D.vQ,D.nr]
 next l ha hb=>
  simp only[zam] at h;subst h;refine KW.ret ⟨.string ⟨⟨l⟩⟩,rfl,?_⟩;have:ax Q (Go.convert a b (.string ⟨⟨l⟩⟩))=some (.string ⟨⟨l⟩⟩):=by unfold Go.convert;rw[aw,aK ha,zaw,aw,aK hb,zaw];rfl
  simp only[ey,this,D.vQ,D.nr]
 cases h
theorem D.zL{c x y z}(h:D.merge c x y=some z):z=if c then x else y:=by
 unfold D.merge at h;split at h
 ·simp only[zam] at h;subst h;cases c<;>rfl
 ·split at h
  next hk=>have hk:=eq_of_beq hk;subst hk;simp only[zam] at h;subst h;cases c<;>rfl
  cases h
 ·simp only[zam] at h;subst h;cases c<;>rfl
 cases h
theorem P.zL{c p q r}(h:P.merge c p q=some r):r=if c then p else q:=by
 unfold P.merge at h;split at h
 ·split at h
  next hm=>simp only[zam] at h;subst h;rw[D.zL hm];cases c<;>rfl
  cases h
 cases h
end
end Pi
