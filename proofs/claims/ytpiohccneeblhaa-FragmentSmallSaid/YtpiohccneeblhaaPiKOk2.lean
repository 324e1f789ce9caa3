/- The text PiKOk2. -/
import Derived.Test.YtpiohccneeblhaaPiKOk
namespace Pi
open Go
def Lh(h:Nat)(lo:Option P):Option (Nat×Nat):=
 match lo with
 |none=>some (0,h)
 |some (.d (.int _ j))=>if 0<=j/\j<=(h:Int) then some (j.toNat,h) else none
 |_=>none
theorem gN{len:Nat}{lo hi:Option P}:KW (jj len lo hi) (λx=>cr len lo hi=some x):=by
 unfold jj;refine KW.bind (p:=λh=> ∀r,Lh h lo=some r->cr len lo hi=some r) ?_ λh hh=> ?_
 ·split
  ·exact KW.ret λr hr=>by unfold Lh at hr;simp only[cr];exact hr
  ·exact KW.cZ λhb r hr=>by simp only[zaI] at hb;unfold Lh at hr;simp only[cr,zat hb];exact hr
  exact KW.fail
 split
 ·exact KW.ret (hh _ rfl)
 ·exact KW.cZ λhb=>hh _ (by simp only[zaI] at hb;simp only[Lh,zat hb])
 exact KW.fail
section
variable{Q:Program}{s:S}
theorem rz{t:TypeId}{p i:P}:KW (lO Q s t p i) (λq=>dk Q s t p i=some q):=by
 unfold lO dk;split
 next n e he=>simp only[he];exact KW.cg λa h=>h
 rename_i Ec;simp only[Ec];split
 next e k j he=>
  simp only[he];split
  next k' hk=>
   simp only[hk];split
   ·rename_i n v len;split
    ·rename_i ty fz es ho;simp only[ho];split
     next ht=>refine KW.cZ λhb=> ?_;simp only[zaI] at hb;simp only[zat hb]
     exact KW.fail
    ·rename_i ty es hd ho;simp only[ho];split
     next ht=>refine KW.cZ λhb=> ?_;simp only[zaI] at hb;simp only[zat hb]
     exact KW.fail
    exact KW.fail
   ·rename_i n v k2 off len;split
    ·rename_i ty fz es ho;simp only[ho];split
     next ht=>refine KW.cZ λhb=> ?_;simp only[zaI] at hb;simp only[zat hb]
     exact KW.fail
    exact KW.fail
   ·rename_i k2 es;split
    next rn=>refine KW.bind (p:=λ_=>0<=j/\j<(es.length:Int)) (KW.cZ λhb=>by simpa using hb) λ_ hj=> ?_;refine KW.bind (ik Q e _) λx hx=>KW.ret ?_;simp only[zat rn,zat hj.1,iR (show j.toNat<es.length by omega),hx]
    exact KW.fail
   exact KW.fail
  exact KW.fail
 exact KW.fail
theorem Af{t:TypeId}{p:P}{lo hi:Option P}:KW (xy Q s t p lo hi) (λq=>ix Q s t p lo hi=some q):=by
 unfold xy ix;generalize jH Q s t p lo=p;unfold yR oS;split
 ·exact KW.fail
 rename_i e he;split
 next k hk=>
  split
  next k' es=>
   split
   next rn=>refine KW.bind gN λx hx=>KW.ret ?_;simp only[he,hk,zat rn,hx]
   exact KW.fail
  next n v len=>
   split
   next ty fz es ho=>refine KW.bind gN λx hx=>KW.ret ?_;simp only[he,hk,ho,hx]
   ·rename_i ty fz es O8 ho;split
    ·rename_i k' ij;split
     next dW=>refine KW.bind gN λx hx=>KW.ret ?_;simp only[he,hk,ho,ij,zat dW,hx]
     exact KW.fail
    exact KW.fail
   exact KW.fail
  next n v k' off len=>
   split
   ·rename_i ty fz es ho;split
    next dW=>refine KW.bind gN λx hx=>KW.ret ?_;simp only[he,hk,ho,zat dW,hx]
    exact KW.fail
   exact KW.fail
  exact KW.fail
 exact KW.fail
theorem Ag{Q:Program}{t:TypeId}{m:Nat}(hm:sz Q t=some (m+1)){ps:List P}{j off:Nat}{p:P}(h:off+(m+1)<=j\/j<off):gw Q t (ps.set j p) off=gw Q t ps off:=by
 unfold gw;rw[hm];simp only[zas];split
 ·congr 3;apply za7;intro i;rw[zaS,zaS,za4,za4];split
  ·rw[zau (by omega)]
  rfl
 by_cases Pa:j=off
 ·omega
 rw[zau Pa]
theorem Cn{t:TypeId}{p:P}:KW (BX Q s t p) (λq=>iJ Q s t p=some q):=by
 unfold BX;split
 next n v i k off=>
  split
  next ty fz es ho=>
   split
   ·rename_i k' hk;split
    ·rename_i dW;refine KW.bind (p:=λ_=>i<es.length) (KW.cZ λhb=>by simpa using hb) λ_ hi=> ?_;refine KW.bind (ik Q ty _) λx hx=> ?_;split
     next y hy=>refine KW.ret ?_;simp only[iJ,ho,hk,iR hi];rw[zat dW,hx,hy]
     exact KW.fail
    exact KW.fail
   exact KW.fail
  next ty es hd ho=>
   split
   ·rename_i k' hk;split
    ·rename_i dW;refine KW.bind (p:=λ_=>i<es.length) (KW.cZ λhb=>by simpa using hb) λ_ hi=> ?_;refine KW.bind (ik Q ty _) λx hx=> ?_;split
     ·refine KW.cg λa h=> ?_;simp only[iJ,ho,hk,iR hi];rw[zat dW,hx];exact h
     rename_i i1 zb hp;split
     ·rename_i m hm;have hm:sz Q t=some (m+1):=hm;split
      ·rename_i iG;refine KW.cg λa h=> ?_;simp only[iJ,ho,hk,iR hi];rw[zat dW,hx];show gw Q t (if i1=i then(x.cells.map P.d).set zb hp else x.cells.map P.d) off=some a;split
       ·rw[Ag hm (by simpa [zbd,Nat.blt_eq] using iG)];exact h
       exact h
      refine KW.bind (p:=λ_=>i1=i) (KW.cZ λhb=>by simpa using hb) λ_ JD=>KW.cg λa h=> ?_;simp only[iJ,ho,hk,iR hi];rw[zat dW,hx];show gw Q t (if i1=i then(x.cells.map P.d).set zb hp else x.cells.map P.d) off=some a;rw[zat JD];exact h
     exact KW.fail
    exact KW.fail
   exact KW.fail
  exact KW.fail
 exact KW.cg λa h=>h
theorem nt{a b:TypeId}{x:D}{m:K D}(h:BZ Q a b x=some m):KW m (λz=> ∃v,x.br=some v/\cD Q (Go.convert a b v)=some (.d z)):=by
 unfold BZ at h;split at h
 next k1 k k2 n ha hb=>
  simp only[zaf] at h;subst h;have key:KW (if BY k1 then arith k n else K.ret (.int k (k.wrap n))) (λz=>z= .int k (k.wrap n)):=by
   split
   ·exact gM _ _
   exact KW.ret rfl
  refine key.mono λz hz=> ?_;subst hz;refine⟨.int k2 n,rfl,?_⟩;have:ah Q (Go.convert a b (.int k2 n))=some (.int k (k.wrap n)):=by unfold Go.convert;rw[ag,au ha,zam,ag,au hb,zam];rfl
  simp only[cD,this,D.nh,D.iw]
 next l ha hb=>
  simp only[zaf] at h;subst h;refine KW.ret ⟨.string ⟨⟨l⟩⟩,rfl,?_⟩;have:ah Q (Go.convert a b (.string ⟨⟨l⟩⟩))=some (.string ⟨⟨l⟩⟩):=by unfold Go.convert;rw[ag,au ha,zam,ag,au hb,zam];rfl
  simp only[cD,this,D.nh,D.iw]
 cases h
theorem D.pN{c:Bool}{x y z:D}(h:D.merge c x y=some z):z=if c then x else y:=by
 unfold D.merge at h;split at h
 ·simp only[zaf] at h;subst h;cases c<;>rfl
 ·split at h
  next hk=>have hk:=eq_of_beq hk;subst hk;simp only[zaf] at h;subst h;cases c<;>rfl
  cases h
 ·simp only[zaf] at h;subst h;cases c<;>rfl
 cases h
theorem P.pN{c:Bool}{p q r:P}(h:P.merge c p q=some r):r=if c then p else q:=by
 unfold P.merge at h;split at h
 ·split at h
  next hm=>simp only[zaf] at h;subst h;rw[D.pN hm];cases c<;>rfl
  cases h
 cases h
end
end Pi
