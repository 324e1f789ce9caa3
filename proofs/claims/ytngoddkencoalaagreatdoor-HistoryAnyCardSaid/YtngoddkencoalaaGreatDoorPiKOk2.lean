/- The text PiKOk2. -/
import Derived.Test.YtngoddkencoalaaGreatDoorPiKOk
namespace Pi
open Go
def loB (h:Nat) (lo:Option P):Option (Nat×Nat):=
 match lo with
 |none=>some (0,h)
 |some (.d (.int _ j))=>if 0<=j/\j<=(h:Int) then some (j.toNat,h) else none
 |_=>none
theorem kh {len:Nat} {lo hi:Option P}:KW (mH len lo hi) (fun x=>dq len lo hi=some x):=by
 unfold mH
 refine KW.bind (p:=fun h=> ∀r,loB h lo=some r->dq len lo hi=some r) ?_ fun h hh=> ?_
 ·split
  ·exact KW.ret fun r hr=>by unfold loB at hr;simp only[dq];exact hr
  ·exact KW.jg fun hb r hr=>by
    simp only[decide_eq_true_eq] at hb
    unfold loB at hr
    simp only[dq,if_pos hb]
    exact hr
  ·exact KW.fail
 ·split
  ·exact KW.ret (hh _ rfl)
  ·exact KW.jg fun hb=>hh _ (by simp only[decide_eq_true_eq] at hb;simp only[loB,if_pos hb])
  ·exact KW.fail
section
variable {Q:Program} {s:S}
theorem yK {t:TypeId} {p i:P}:KW (qU Q s t p i) (fun q=>eW Q s t p i=some q):=by
 unfold qU eW
 split
 ·rename_i n e he
  simp only[he]
  exact KW.dH fun a h=>h
 rename_i Mn
 simp only[Mn]
 split
 ·rename_i e k j he
  simp only[he]
  split
  ·rename_i k' hk
   simp only[hk]
   split
   ·rename_i n v len
    split
    ·rename_i ty fz es ho
     simp only[ho]
     split
     ·rename_i ht
      refine KW.jg fun hb=> ?_
      simp only[decide_eq_true_eq] at hb
      simp only[if_pos hb]
     ·exact KW.fail
    ·exact KW.fail
   ·rename_i n v k2 off len
    split
    ·rename_i ty fz es ho
     simp only[ho]
     split
     ·rename_i ht
      refine KW.jg fun hb=> ?_
      simp only[decide_eq_true_eq] at hb
      simp only[if_pos hb]
     ·exact KW.fail
    ·exact KW.fail
   ·rename_i k2 es
    split
    ·rename_i qX
     refine KW.bind (p:=fun _=>0<=j/\j<(es.length:Int)) (KW.jg fun hb=>by simpa using hb) fun _ hj=> ?_
     refine KW.bind (mM Q e _) fun x hx=>KW.ret ?_
     simp only[if_pos qX,if_pos hj.1,wj (show j.toNat<es.length by omega),hx]
    ·exact KW.fail
   ·exact KW.fail
  ·exact KW.fail
 ·exact KW.fail
theorem Kd {t:TypeId} {p:P} {lo hi:Option P}:KW (F5 Q s t p lo hi) (fun q=>lj Q s t p lo hi=some q):=by
 unfold F5 lj
 generalize nE Q s t p lo=p
 unfold Ih vg
 split
 ·exact KW.fail
 ·rename_i e he
  split
  ·rename_i k hk
   split
   ·rename_i k' es
    split
    ·rename_i qX
     refine KW.bind kh fun x hx=>KW.ret ?_
     simp only[he,hk,if_pos qX,hx]
    ·exact KW.fail
   ·rename_i n v len
    split
    ·rename_i ty fz es ho
     refine KW.bind kh fun x hx=>KW.ret ?_
     simp only[he,hk,ho,hx]
    ·rename_i ty fz es lo0 ho
     split
     ·rename_i k' lK
      split
      ·rename_i jh
       refine KW.bind kh fun x hx=>KW.ret ?_
       simp only[he,hk,ho,lK,if_pos jh,hx]
      ·exact KW.fail
     ·exact KW.fail
    ·exact KW.fail
   ·rename_i n v k' off len
    split
    ·rename_i ty fz es ho
     split
     ·rename_i jh
      refine KW.bind kh fun x hx=>KW.ret ?_
      simp only[he,hk,ho,if_pos jh,hx]
     ·exact KW.fail
    ·exact KW.fail
   ·exact KW.fail
  ·exact KW.fail
theorem Nt {t:TypeId} {p:P}:KW (M1 Q s t p) (fun q=>qi Q s t p=some q):=by
 unfold M1
 split
 ·rename_i n v i k off
  split
  ·rename_i ty fz es ho
   split
   ·rename_i k' hk
    split
    ·rename_i jh
     refine KW.bind (p:=fun _=>i<es.length) (KW.jg fun hb=>by simpa using hb) fun _ hi=> ?_
     refine KW.bind (mM Q ty _) fun x hx=> ?_
     split
     ·rename_i y hy
      refine KW.ret ?_
      simp only[qi,ho,hk,wj hi]
      rw[if_pos jh,hx,hy]
     ·exact KW.fail
    ·exact KW.fail
   ·exact KW.fail
  ·exact KW.fail
 ·exact KW.dH fun a h=>h
theorem sU {a b:TypeId} {x:D} {m:K D} (h:M4 Q a b x=some m):KW m (fun z=> ∃v,x.cw=some v/\dM Q (Go.convert a b v)=some (.d z)):=by
 unfold M4 at h
 split at h
 ·rename_i k1 k k2 n ha hb
  simp only[Option.some.injEq] at h
  subst h
  have key:KW (if M3 k1 then arith k n else K.ret (.int k (k.wrap n))) (fun z=>z= .int k (k.wrap n)):=by
   split
   ·exact kg _ _
   ·exact KW.ret rfl
  refine key.mono fun z hz=> ?_
  subst hz
  refine⟨.int k2 n,rfl,?_⟩
  have:av Q (Go.convert a b (.int k2 n))=some (.int k (k.wrap n)):=by
   unfold Go.convert
   rw[au,aG ha,Option.bind_some,au,aG hb,Option.bind_some]
   rfl
  simp only[dM,this,D.sQ,D.lh]
 ·rename_i l ha hb
  simp only[Option.some.injEq] at h
  subst h
  refine KW.ret ⟨.string ⟨⟨l⟩⟩,rfl,?_⟩
  have:av Q (Go.convert a b (.string ⟨⟨l⟩⟩))=some (.string ⟨⟨l⟩⟩):=by
   unfold Go.convert
   rw[au,aG ha,Option.bind_some,au,aG hb,Option.bind_some]
   rfl
  simp only[dM,this,D.sQ,D.lh]
 ·cases h
theorem D.wm {c:Bool} {x y z:D} (h:D.merge c x y=some z):z=if c then x else y:=by
 unfold D.merge at h
 split at h
 ·simp only[Option.some.injEq] at h;subst h;cases c<;>rfl
 ·split at h
  ·rename_i hk
   have hk:=eq_of_beq hk
   subst hk
   simp only[Option.some.injEq] at h;subst h;cases c<;>rfl
  ·cases h
 ·simp only[Option.some.injEq] at h;subst h;cases c<;>rfl
 ·cases h
theorem P.wm {c:Bool} {p q r:P} (h:P.merge c p q=some r):r=if c then p else q:=by
 unfold P.merge at h
 split at h
 ·split at h
  ·rename_i hm
   simp only[Option.some.injEq] at h
   subst h
   rw[D.wm hm]
   cases c<;>rfl
  ·cases h
 ·cases h
end
end Pi
