/- The text PiKOk2. -/
import Derived.Test.YtngoddkencoalaaGreatDoorPiKOk
namespace Pi
open Go
def loB (h:Nat) (lo:Option P):Option (Nat×Nat):=
 match lo with
 |none=>some (0,h)
 |some (.d (.int _ j))=>if 0<=j/\j<=(h:Int) then some (j.toNat,h) else none
 |_=>none
theorem kU {len:Nat} {lo hi:Option P}:KW (nt len lo hi) (fun x=>dz len lo hi=some x):=by
 unfold nt
 refine KW.bind (p:=fun h=> ∀r,loB h lo=some r->dz len lo hi=some r) ?_ fun h hh=> ?_
 ·split
  ·exact KW.ret fun r hr=>by unfold loB at hr;simp only[dz];exact hr
  ·exact KW.jF fun hb r hr=>by
    simp only[zah] at hb
    unfold loB at hr
    simp only[dz,zao hb]
    exact hr
  ·exact KW.fail
 ·split
  ·exact KW.ret (hh _ rfl)
  ·exact KW.jF fun hb=>hh _ (by simp only[zah] at hb;simp only[loB,zao hb])
  ·exact KW.fail
section
variable {Q:Program} {s:S}
theorem zH {t:TypeId} {p i:P}:KW (re Q s t p i) (fun q=>e9 Q s t p i=some q):=by
 unfold re e9
 split
 ·rename_i n e he
  simp only[he]
  exact KW.dN fun a h=>h
 rename_i UZ
 simp only[UZ]
 split
 ·rename_i e k j he
  simp only[he]
  split
  ·rename_i k' hk
   simp only[hk]
   split
   ·rename_i n v len
    split
    ·rename_i ty fz es ho
     simp only[ho]
     split
     ·rename_i ht
      refine KW.jF fun hb=> ?_
      simp only[zah] at hb
      simp only[zao hb]
     ·exact KW.fail
    ·exact KW.fail
   ·rename_i n v k2 off len
    split
    ·rename_i ty fz es ho
     simp only[ho]
     split
     ·rename_i ht
      refine KW.jF fun hb=> ?_
      simp only[zah] at hb
      simp only[zao hb]
     ·exact KW.fail
    ·exact KW.fail
   ·rename_i k2 es
    split
    ·rename_i rY
     refine KW.bind (p:=fun _=>0<=j/\j<(es.length:Int)) (KW.jF fun hb=>by simpa using hb) fun _ hj=> ?_
     refine KW.bind (ny Q e _) fun x hx=>KW.ret ?_
     simp only[zao rY,zao hj.1,xa (show j.toNat<es.length by omega),hx]
    ·exact KW.fail
   ·exact KW.fail
  ·exact KW.fail
 ·exact KW.fail
theorem L1 {t:TypeId} {p:P} {lo hi:Option P}:KW (HA Q s t p lo hi) (fun q=>l5 Q s t p lo hi=some q):=by
 unfold HA l5
 generalize n0 Q s t p lo=p
 unfold J5 v8
 split
 ·exact KW.fail
 ·rename_i e he
  split
  ·rename_i k hk
   split
   ·rename_i k' es
    split
    ·rename_i rY
     refine KW.bind kU fun x hx=>KW.ret ?_
     simp only[he,hk,zao rY,hx]
    ·exact KW.fail
   ·rename_i n v len
    split
    ·rename_i ty fz es ho
     refine KW.bind kU fun x hx=>KW.ret ?_
     simp only[he,hk,ho,hx]
    ·rename_i ty fz es lo0 ho
     split
     ·rename_i k' mr
      split
      ·rename_i jH
       refine KW.bind kU fun x hx=>KW.ret ?_
       simp only[he,hk,ho,mr,zao jH,hx]
      ·exact KW.fail
     ·exact KW.fail
    ·exact KW.fail
   ·rename_i n v k' off len
    split
    ·rename_i ty fz es ho
     split
     ·rename_i jH
      refine KW.bind kU fun x hx=>KW.ret ?_
      simp only[he,hk,ho,zao jH,hx]
     ·exact KW.fail
    ·exact KW.fail
   ·exact KW.fail
  ·exact KW.fail
theorem Pe {t:TypeId} {p:P}:KW (OS Q s t p) (fun q=>qG Q s t p=some q):=by
 unfold OS
 split
 ·rename_i n v i k off
  split
  ·rename_i ty fz es ho
   split
   ·rename_i k' hk
    split
    ·rename_i jH
     refine KW.bind (p:=fun _=>i<es.length) (KW.jF fun hb=>by simpa using hb) fun _ hi=> ?_
     refine KW.bind (ny Q ty _) fun x hx=> ?_
     split
     ·rename_i y hy
      refine KW.ret ?_
      simp only[qG,ho,hk,xa hi]
      rw[zao jH,hx,hy]
     ·exact KW.fail
    ·exact KW.fail
   ·exact KW.fail
  ·exact KW.fail
 ·exact KW.dN fun a h=>h
theorem tK {a b:TypeId} {x:D} {m:K D} (h:OU Q a b x=some m):KW m (fun z=> ∃v,x.cy=some v/\dT Q (Go.convert a b v)=some (.d z)):=by
 unfold OU at h
 split at h
 ·rename_i k1 k k2 n ha hb
  simp only[zal] at h
  subst h
  have key:KW (if OT k1 then arith k n else K.ret (.int k (k.wrap n))) (fun z=>z= .int k (k.wrap n)):=by
   split
   ·exact kT _ _
   ·exact KW.ret rfl
  refine key.mono fun z hz=> ?_
  subst hz
  refine⟨.int k2 n,rfl,?_⟩
  have:aw Q (Go.convert a b (.int k2 n))=some (.int k (k.wrap n)):=by
   unfold Go.convert
   rw[av,aK ha,zau,av,aK hb,zau]
   rfl
  simp only[dT,this,D.tF,D.l4]
 ·rename_i l ha hb
  simp only[zal] at h
  subst h
  refine KW.ret ⟨.string ⟨⟨l⟩⟩,rfl,?_⟩
  have:aw Q (Go.convert a b (.string ⟨⟨l⟩⟩))=some (.string ⟨⟨l⟩⟩):=by
   unfold Go.convert
   rw[av,aK ha,zau,av,aK hb,zau]
   rfl
  simp only[dT,this,D.tF,D.l4]
 ·cases h
theorem D.xc {c:Bool} {x y z:D} (h:D.merge c x y=some z):z=if c then x else y:=by
 unfold D.merge at h
 split at h
 ·simp only[zal] at h;subst h;cases c<;>rfl
 ·split at h
  ·rename_i hk
   have hk:=eq_of_beq hk
   subst hk
   simp only[zal] at h;subst h;cases c<;>rfl
  ·cases h
 ·simp only[zal] at h;subst h;cases c<;>rfl
 ·cases h
theorem P.xc {c:Bool} {p q r:P} (h:P.merge c p q=some r):r=if c then p else q:=by
 unfold P.merge at h
 split at h
 ·split at h
  ·rename_i hm
   simp only[zal] at h
   subst h
   rw[D.xc hm]
   cases c<;>rfl
  ·cases h
 ·cases h
end
end Pi
