/- The text PiRegion. -/
import Derived.Test.YtngoddkencoalaaGreatDoorPiWd
import Derived.WalkMore
namespace Pi
open Go
section
variable {Q:Program} {T:Tg} {F:Nat->Prop} {G:Nat->Value} {w:World} {a:Act} {s:S} {cf:CF} {r:Option Nat}
def iM (Q:Program) (T:Tg) (F:Nat->Prop) (G:Nat->Value) (w:World) (s s':S) (a':Act) (w':World):Prop:=
 ∃F' G',aC Q T F' G' w' a' s'/\Ext (Own G s.rg) (Own G' s'.rg) F F' w w'
theorem Ct {g:Option (Nat×Bool)} {o:Oper} {s':S} (hs:exec Q s o g=some s'): ∀c,o.op≠ .defer c:=by
 intro c hc
 unfold exec jk rb cZ at hs
 simp only[hc] at hs
 simp[pv,ef,hc] at hs
theorem tO {o:Oper} {v:Value} {w':World} (hd: ∀c,o.op≠ .defer c) (h:Ran Q o a w v w') {K:Act->World->Prop} {Q':Exit->Act->World->Prop} (hK:K (a.put o.dst v) w'):o.wpIn (wd r) 0 Q a w K Q':=by
 refine sA hd ?_
 rcases h with h | ⟨h,rfl⟩
 ·rw[h];exact hK
 ·rw[h];exact hK
theorem EN (jq:dt Q T.w0 cf) (h:aC Q T F G w a s) {g:Option (Nat×Bool)} (hg:lO a g) {o:Oper} {s':S} (hs:fY Q cf s o g=some s') {K:Act->World->Prop} {Q':Exit->Act->World->Prop}
  (hK: ∀a' w',iM Q T F G w s s' a' w'->K a' w'):o.wpIn (wd r) 0 Q a w K Q':=by
 unfold fY at hs
 split at hs
 ·rename_i f xs hc
  unfold gx at hc
  split at hc
  ·rename_i c ho
   split at hc
   ·rename_i f' kS
    simp at hc
    obtain⟨rfl,rfl⟩:=hc
    obtain⟨ku,cs,hfv,br⟩:=Me jq h hs (aY h hg f') (vs:=c.args.toList.map a.eval) (by simp) (fun i v p hv hp=>by
     rw[zaJ] at hv hp
     simp only[zaw] at hv hp
     obtain⟨x,hx,rfl⟩:=hv
     obtain⟨y,hy,rfl⟩:=hp
     rw[hx] at hy
     cases hy
     exact aY h hg x)
    have bX:(execOp a.eval o).run Q w=(callFunc ku ⟨c.args.toList.map a.eval++cs⟩).run Q w:=by
     have e:(c.args.map a.eval)++(⟨cs⟩:Array Value)=⟨c.args.toList.map a.eval++cs⟩:=by apply zbq.1;simp
     simp[execOp,ho,resolve,kS,hfv,Deferred.ofValue,invoke,e]
    refine sA (fun c' qP=>by rw[ho] at qP;cases qP) ?_
    rw[bX]
    rcases br with⟨h1,h2⟩| ⟨v,w',h1,F',G',h2,h3⟩
    ·rw[h1]
     refine⟨fun h=>(by cases h),(xq h2).mono fun e w' ⟨v,he,F',G',h3,h4⟩=> ?_⟩
     subst he
     exact hK _ _ ⟨F',G',h3,h4⟩
    ·rw[h1]
     exact hK _ _ ⟨F',G',h2,h3⟩
   ·cases hc
  ·cases hc
 ·obtain⟨v,w',F',G',h1,h2,h3⟩:=V5 h hg hs
  exact tO (Ct hs) h1 (hK _ _ ⟨F',G',h2,h3⟩)
theorem EO {ops:List Oper} {j t:Nat} {oj:Oper} (hj:ops[j]?=some oj) (ht:oj.dst=some t) (tmps:Array Value) (b:Bool):yielded ops.toArray tmps j=some b↔tmps[t]?=some (.bool b):=by
 unfold yielded
 simp only[List.getElem?_toArray,hj,zau,ht]
 cases tmps[t]? with
 |none=>simp
 |some v=>cases v<;>simp
theorem kz (jq:dt Q T.w0 cf) (h:aC Q T F G w a s) {ops:List Oper} {o:Oper} {s':S} (hs:bu Q cf ops s o=some s') {K:Act->World->Prop} {Q':Exit->Act->World->Prop}
  (hK: ∀a' w',iM Q T F G w s s' a' w'->K a' w'):if Region.wanted o (yielded ops.toArray a.tmps) then o.wpIn (wd r) 0 Q a w K Q' else K (a.put o.dst undef) w:=by
 unfold bu at hs
 unfold bn at hs
 cases Kl:o.guard with
 |none=>
  simp only[Kl] at hs
  simp only[Region.wanted,Kl,zba]
  exact EN jq h (g:=none) trivial hs hK
 |some jw=>
  obtain⟨j,want⟩:=jw
  simp only[Kl] at hs
  simp only[Region.wanted,Kl]
  cases hj:ops[j]? with
  |none=>simp[hj] at hs
  |some oj=>
   cases ht:oj.dst with
   |none=>simp[hj,ht] at hs
   |some t=>
    simp only[hj,ht] at hs
    have hy:=fun b=>EO hj ht a.tmps b
    ·split at hs
     ·rename_i b hb
      have hval:a.tmps.getD t undef= .bool b:=by
       have:=h.tm t _ hb
       exact aF.cy (p:= .d (.bool b)) this rfl
      have bG:=VL (a:=a) hval (by simp[undef])
      have hv:a.tmps[t]?=some (.bool b):=by
       simp[Array.getD,bG] at hval
       simp[bG,hval]
      split at hs
      ·rename_i hbw
       have hbw:b=want:=by simpa using hbw
       subst hbw
       have hyw:(yielded ops.toArray a.tmps j==some b)=true:=by rw[(hy b).2 hv];simp
       simp only[hyw,zba]
       exact EN jq h (g:=some (t,b)) hv hs hK
      ·rename_i hbw
       have hbw:b≠want:=by simpa using hbw
       have hyw:(yielded ops.toArray a.tmps j==some want)=false:=by
        rw[(hy b).2 hv]
        simp[hbw]
       simp only[hyw,zaz,zbd]
       obtain⟨c1,c2⟩:=cv (p:= .skip) h hs (v:=undef) rfl
       exact hK _ _ ⟨F,G,c1,by rw[c2];exact Ext.refl _ _ _⟩
     ·rename_i t' b' q hb
      have hval:a.tmps.getD t undef=undef:=h.tm t _ hb
      have bZ:a.tmps[t]?≠some (.bool want):=fun e=>by
       have:a.tmps.getD t undef= .bool want:=by simp[zaD,e]
       rw[hval] at this
       cases this
      have hyw:(yielded ops.toArray a.tmps j==some want)=false:=by
       cases hyy:yielded ops.toArray a.tmps j==some want with
       |false=>rfl
       |true=>exact absurd ((hy want).1 (by simpa using hyy)) bZ
      simp only[hyw,zaz,zbd]
      obtain⟨c1,c2⟩:=cv (p:= .skip) h hs (v:=undef) rfl
      exact hK _ _ ⟨F,G,c1,by rw[c2];exact Ext.refl _ _ _⟩
     ·cases hs
theorem iM.trans {s1 s2:S} {F1:Nat->Prop} {G1:Nat->Value} {w1:World} (hx:Ext (Own G s.rg) (Own G1 s1.rg) F F1 w w1) {a':Act} {w':World} (hp:iM Q T F1 G1 w1 s1 s2 a' w'):iM Q T F G w s s2 a' w':=by
 obtain⟨F',G',h1,h2⟩:=hp
 exact⟨F',G',h1,hx.trans h2⟩
theorem sB (jq:dt Q T.w0 cf) {ops:List Oper} {Q':Exit->Act->World->Prop}: ∀(l:List Oper) (F:Nat->Prop) (G:Nat->Value) (w:World) (a:Act) (s s':S),aC Q T F G w a s->dv Q cf ops l s=some s'->
  (∀a' w',iM Q T F G w s s' a' w'->Q' .normal a' w')->wpListIn (wd r) 0 Q ops.toArray Q' l a w
 | [],F,G,w,a,s,s',h,hs,hK=>by
  simp[dv] at hs
  subst hs
  exact hK a w ⟨F,G,h,Ext.refl _ _ _⟩
 |o::l,F,G,w,a,s,s',h,hs,hK=>by
  simp only[dv] at hs
  split at hs
  ·rename_i s1 h1
   have kO:=kz jq h h1 (r:=r) (K:=wpListIn (wd r) 0 Q ops.toArray Q' l) (Q':=Q') (fun a' w' ⟨F',G',g1,g2⟩=>
    sB jq l F' G' w' a' s1 s' g1 hs (fun a2 w2 hp=>hK a2 w2 (hp.trans g2)))
   exact fk kO
  ·cases hs
end
end Pi
