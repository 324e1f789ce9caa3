/- The text PiRegion. -/
import Derived.Test.YtngoddkencoalaaGreatDoorPiWd
import Derived.WalkMore
namespace Pi
open Go
section
variable {Q:Program} {T:Tg} {F:Nat->Prop} {G:Nat->Value} {w:World} {a:Act} {s:S} {cf:CF} {r:Option Nat}
def iv (Q:Program) (T:Tg) (F:Nat->Prop) (G:Nat->Value) (w:World) (s s':S) (a':Act) (w':World):Prop:=
 ∃F' G',aB Q T F' G' w' a' s'/\Ext (Own G s.rg) (Own G' s'.rg) F F' w w'
theorem Bw {g:Option (Nat×Bool)} {o:Oper} {s':S} (hs:exec Q s o g=some s'): ∀c,o.op≠ .defer c:=by
 intro c hc
 unfold exec iO qS cP at hs
 simp only[hc] at hs
 simp[pv,ef,hc] at hs
theorem s5 {o:Oper} {v:Value} {w':World} (hd: ∀c,o.op≠ .defer c) (h:Ran Q o a w v w') {K:Act->World->Prop} {Q':Exit->Act->World->Prop} (hK:K (a.put o.dst v) w'):o.wpIn (wd r) 0 Q a w K Q':=by
 refine r9 hd ?_
 rcases h with h | ⟨h,rfl⟩
 ·rw[h];exact hK
 ·rw[h];exact hK
theorem DK (iV:db Q T.w0 cf) (h:aB Q T F G w a s) {g:Option (Nat×Bool)} (hg:kZ a g) {o:Oper} {s':S} (hs:fH Q cf s o g=some s') {K:Act->World->Prop} {Q':Exit->Act->World->Prop}
  (hK: ∀a' w',iv Q T F G w s s' a' w'->K a' w'):o.wpIn (wd r) 0 Q a w K Q':=by
 unfold fH at hs
 split at hs
 ·rename_i f xs hc
  unfold fY at hc
  split at hc
  ·rename_i c ho
   split at hc
   ·rename_i f' gD
    simp at hc
    obtain⟨rfl,rfl⟩:=hc
    obtain⟨ju,cs,hfv,cp⟩:=Kt iV h hs (aV h hg f') (vs:=c.args.toList.map a.eval) (by simp) (fun i v p hv hp=>by
     rw[List.getElem?_map] at hv hp
     simp only[Option.map_eq_some_iff] at hv hp
     obtain⟨x,hx,rfl⟩:=hv
     obtain⟨y,hy,rfl⟩:=hp
     rw[hx] at hy
     cases hy
     exact aV h hg x)
    have bE:(execOp a.eval o).run Q w=(callFunc ju ⟨c.args.toList.map a.eval++cs⟩).run Q w:=by
     have e:(c.args.map a.eval)++(⟨cs⟩:Array Value)=⟨c.args.toList.map a.eval++cs⟩:=by apply Array.toList_inj.1;simp
     simp[execOp,ho,resolve,gD,hfv,Deferred.ofValue,invoke,e]
    refine r9 (fun c' qt=>by rw[ho] at qt;cases qt) ?_
    rw[bE]
    rcases cp with⟨h1,h2⟩| ⟨v,w',h1,F',G',h2,h3⟩
    ·rw[h1]
     refine⟨fun h=>(by cases h),(wF h2).mono fun e w' ⟨v,he,F',G',h3,h4⟩=> ?_⟩
     subst he
     exact hK _ _ ⟨F',G',h3,h4⟩
    ·rw[h1]
     exact hK _ _ ⟨F',G',h2,h3⟩
   ·cases hc
  ·cases hc
 ·obtain⟨v,w',F',G',h1,h2,h3⟩:=Tv h hg hs
  exact s5 (Bw hs) h1 (hK _ _ ⟨F',G',h2,h3⟩)
theorem DL {ops:List Oper} {j t:Nat} {oj:Oper} (hj:ops[j]?=some oj) (ht:oj.dst=some t) (tmps:Array Value) (b:Bool):yielded ops.toArray tmps j=some b↔tmps[t]?=some (.bool b):=by
 unfold yielded
 simp only[List.getElem?_toArray,hj,Option.bind_some,ht]
 cases tmps[t]? with
 |none=>simp
 |some v=>cases v<;>simp
theorem jN (iV:db Q T.w0 cf) (h:aB Q T F G w a s) {ops:List Oper} {o:Oper} {s':S} (hs:br Q cf ops s o=some s') {K:Act->World->Prop} {Q':Exit->Act->World->Prop}
  (hK: ∀a' w',iv Q T F G w s s' a' w'->K a' w'):if Region.wanted o (yielded ops.toArray a.tmps) then o.wpIn (wd r) 0 Q a w K Q' else K (a.put o.dst undef) w:=by
 unfold br at hs
 unfold bj at hs
 cases Gt:o.guard with
 |none=>
  simp only[Gt] at hs
  simp only[Region.wanted,Gt,if_true]
  exact DK iV h (g:=none) trivial hs hK
 |some jw=>
  obtain⟨j,want⟩:=jw
  simp only[Gt] at hs
  simp only[Region.wanted,Gt]
  cases hj:ops[j]? with
  |none=>simp[hj] at hs
  |some oj=>
   cases ht:oj.dst with
   |none=>simp[hj,ht] at hs
   |some t=>
    simp only[hj,ht] at hs
    have hy:=fun b=>DL hj ht a.tmps b
    ·split at hs
     ·rename_i b hb
      have hval:a.tmps.getD t undef= .bool b:=by
       have:=h.tm t _ hb
       exact aD.cw (p:= .d (.bool b)) this rfl
      have bk:=S5 (a:=a) hval (by simp[undef])
      have hv:a.tmps[t]?=some (.bool b):=by
       simp[Array.getD,bk] at hval
       simp[bk,hval]
      split at hs
      ·rename_i Y4
       have Y4:b=want:=by simpa using Y4
       subst Y4
       have hyw:(yielded ops.toArray a.tmps j==some b)=true:=by rw[(hy b).2 hv];simp
       simp only[hyw,if_true]
       exact DK iV h (g:=some (t,b)) hv hs hK
      ·rename_i Y4
       have Y4:b≠want:=by simpa using Y4
       have hyw:(yielded ops.toArray a.tmps j==some want)=false:=by
        rw[(hy b).2 hv]
        simp[Y4]
       simp only[hyw,Bool.false_eq_true,if_false]
       obtain⟨c1,c2⟩:=ct (p:= .skip) h hs (v:=undef) rfl
       exact hK _ _ ⟨F,G,c1,by rw[c2];exact Ext.refl _ _ _⟩
     ·rename_i t' b' q hb
      have hval:a.tmps.getD t undef=undef:=h.tm t _ hb
      have b9:a.tmps[t]?≠some (.bool want):=fun e=>by
       have:a.tmps.getD t undef= .bool want:=by simp[Array.getD_eq_getD_getElem?,e]
       rw[hval] at this
       cases this
      have hyw:(yielded ops.toArray a.tmps j==some want)=false:=by
       cases hyy:yielded ops.toArray a.tmps j==some want with
       |false=>rfl
       |true=>exact absurd ((hy want).1 (by simpa using hyy)) b9
      simp only[hyw,Bool.false_eq_true,if_false]
      obtain⟨c1,c2⟩:=ct (p:= .skip) h hs (v:=undef) rfl
      exact hK _ _ ⟨F,G,c1,by rw[c2];exact Ext.refl _ _ _⟩
     ·cases hs
theorem iv.trans {s1 s2:S} {F1:Nat->Prop} {G1:Nat->Value} {w1:World} (hx:Ext (Own G s.rg) (Own G1 s1.rg) F F1 w w1) {a':Act} {w':World} (hp:iv Q T F1 G1 w1 s1 s2 a' w'):iv Q T F G w s s2 a' w':=by
 obtain⟨F',G',h1,h2⟩:=hp
 exact⟨F',G',h1,hx.trans h2⟩
theorem sa (iV:db Q T.w0 cf) {ops:List Oper} {Q':Exit->Act->World->Prop}: ∀(l:List Oper) (F:Nat->Prop) (G:Nat->Value) (w:World) (a:Act) (s s':S),aB Q T F G w a s->dh Q cf ops l s=some s'->
  (∀a' w',iv Q T F G w s s' a' w'->Q' .normal a' w')->wpListIn (wd r) 0 Q ops.toArray Q' l a w
 | [],F,G,w,a,s,s',h,hs,hK=>by
  simp[dh] at hs
  subst hs
  exact hK a w ⟨F,G,h,Ext.refl _ _ _⟩
 |o::l,F,G,w,a,s,s',h,hs,hK=>by
  simp only[dh] at hs
  split at hs
  ·rename_i s1 h1
   have jj:=jN iV h h1 (r:=r) (K:=wpListIn (wd r) 0 Q ops.toArray Q' l) (Q':=Q') (fun a' w' ⟨F',G',g1,g2⟩=>
    sa iV l F' G' w' a' s1 s' g1 hs (fun a2 w2 hp=>hK a2 w2 (hp.trans g2)))
   exact fb jj
  ·cases hs
end
end Pi
