/- The text PiKOk2. -/
import Derived.Test.YtfelfooeclnbiaaPiKOk
namespace Pi
open Go
def Bk(h:Nat)(lo:Option P):Option (Nat×Nat):=
 match lo with
 |none=>some (0,h)
 |some (.d (.int _ j))=>if 0<=j/\j<=(h:Int) then some (j.toNat,h) else none
 |_=>none
theorem eC{len:Nat}{lo hi:Option P}:KW (fH len lo hi) (λx=>bw len lo hi=some x):=by
 unfold fH;refine KW.bind (p:=λh=> ∀r,Bk h lo=some r->bw len lo hi=some r) ?_ λh hh=> ?_
 ·split
  ·exact KW.ret λr hr=>by unfold Bk at hr;simp only[bw];exact hr
  ·exact KW.cW λhb r hr=>by simp only[zaH] at hb;unfold Bk at hr;simp only[bw,zax hb];exact hr
  exact KW.fail
 split
 ·exact KW.ret (hh _ rfl)
 ·exact KW.cW λhb=>hh _ (by simp only[zaH] at hb;simp only[Bk,zax hb])
 exact KW.fail
section
variable{Q:Program}{s:S}
theorem mS{t:TypeId}{p i:P}:KW (iM Q s t p i) (λq=>bX Q s t p i=some q):=by
 unfold iM bX;split
 next n e he=>simp only[he];exact KW.bU λa h=>h
 rename_i wM;simp only[wM];split
 next e k j he=>
  simp only[he];split
  next k' hk=>
   simp only[hk];split
   ·rename_i n v len;split
    ·rename_i ty fz es ho;simp only[ho];split
     next ht=>refine KW.cW λhb=> ?_;simp only[zaH] at hb;simp only[zax hb]
     exact KW.fail
    exact KW.fail
   ·rename_i n v k2 off len;split
    ·rename_i ty fz es ho;simp only[ho];split
     next ht=>refine KW.cW λhb=> ?_;simp only[zaH] at hb;simp only[zax hb]
     exact KW.fail
    exact KW.fail
   ·rename_i k2 es;split
    next r9=>refine KW.bind (p:=λ_=>0<=j/\j<(es.length:Int)) (KW.cW λhb=>by simpa using hb) λ_ hj=> ?_;refine KW.bind (jx Q e _) λx hx=>KW.ret ?_;simp only[zax r9,zax hj.1,lK (show j.toNat<es.length by omega),hx]
    exact KW.fail
   exact KW.fail
  exact KW.fail
 exact KW.fail
theorem s7{t:TypeId}{p:P}{lo hi:Option P}:KW (qS Q s t p lo hi) (λq=>eV Q s t p lo hi=some q):=by
 unfold qS eV;generalize fX Q s t p lo=p;unfold r4 lg;split
 ·exact KW.fail
 rename_i e he;split
 next k hk=>
  split
  next k' es=>
   split
   next r9=>refine KW.bind eC λx hx=>KW.ret ?_;simp only[he,hk,zax r9,hx]
   exact KW.fail
  next n v len=>
   split
   next ty fz es ho=>refine KW.bind eC λx hx=>KW.ret ?_;simp only[he,hk,ho,hx]
   ·rename_i ty fz es DC ho;split
    ·rename_i k' eO;split
     next dK=>refine KW.bind eC λx hx=>KW.ret ?_;simp only[he,hk,ho,eO,zax dK,hx]
     exact KW.fail
    exact KW.fail
   exact KW.fail
  next n v k' off len=>
   split
   ·rename_i ty fz es ho;split
    next dK=>refine KW.bind eC λx hx=>KW.ret ?_;simp only[he,hk,ho,zax dK,hx]
    exact KW.fail
   exact KW.fail
  exact KW.fail
 exact KW.fail
theorem vd{t:TypeId}{p:P}:KW (uI Q s t p) (λq=>iu Q s t p=some q):=by
 unfold uI;split
 next n v i k off=>
  split
  next ty fz es ho=>
   split
   ·rename_i k' hk;split
    ·rename_i dK;refine KW.bind (p:=λ_=>i<es.length) (KW.cW λhb=>by simpa using hb) λ_ hi=> ?_;refine KW.bind (jx Q ty _) λx hx=> ?_;split
     next y hy=>refine KW.ret ?_;simp only[iu,ho,hk,lK hi];rw[zax dK,hx,hy]
     exact KW.fail
    exact KW.fail
   exact KW.fail
  exact KW.fail
 exact KW.bU λa h=>h
theorem jR{a b:TypeId}{x:D}{m:K D}(h:uK Q a b x=some m):KW m (λz=> ∃v,x.aV=some v/\bC Q (Go.convert a b v)=some (.d z)):=by
 unfold uK at h;split at h
 next k1 k k2 n ha hb=>
  simp only[zae] at h;subst h;have key:KW (if uJ k1 then arith k n else K.ret (.int k (k.wrap n))) (λz=>z= .int k (k.wrap n)):=by
   split
   ·exact eB _ _
   exact KW.ret rfl
  refine key.mono λz hz=> ?_;subst hz;refine⟨.int k2 n,rfl,?_⟩;have:ai Q (Go.convert a b (.int k2 n))=some (.int k (k.wrap n)):=by unfold Go.convert;rw[ah,aq ha,zai,ah,aq hb,zai];rfl
  simp only[bC,this,D.jK,D.eU]
 next l ha hb=>
  simp only[zae] at h;subst h;refine KW.ret ⟨.string ⟨⟨l⟩⟩,rfl,?_⟩;have:ai Q (Go.convert a b (.string ⟨⟨l⟩⟩))=some (.string ⟨⟨l⟩⟩):=by unfold Go.convert;rw[ah,aq ha,zai,ah,aq hb,zai];rfl
  simp only[bC,this,D.jK,D.eU]
 cases h
theorem D.lM{c:Bool}{x y z:D}(h:D.merge c x y=some z):z=if c then x else y:=by
 unfold D.merge at h;split at h
 ·simp only[zae] at h;subst h;cases c<;>rfl
 ·split at h
  next hk=>have hk:=eq_of_beq hk;subst hk;simp only[zae] at h;subst h;cases c<;>rfl
  cases h
 ·simp only[zae] at h;subst h;cases c<;>rfl
 cases h
theorem P.lM{c:Bool}{p q r:P}(h:P.merge c p q=some r):r=if c then p else q:=by
 unfold P.merge at h;split at h
 ·split at h
  next hm=>simp only[zae] at h;subst h;rw[D.lM hm];cases c<;>rfl
  cases h
 cases h
end
end Pi
