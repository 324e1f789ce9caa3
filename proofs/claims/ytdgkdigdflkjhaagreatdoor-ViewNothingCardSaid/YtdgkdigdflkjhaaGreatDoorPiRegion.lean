/- The text PiRegion. -/
import Derived.Test.YtdgkdigdflkjhaaGreatDoorPiWd
import Derived.WalkMore
namespace Pi
open Go
section
variable{Q:Program}{T:Tg}{F:Nat->Prop}{G:Nat->Value}{w:World}{a:Act}{s:S}{cf:CF}{r:Option Nat}
def jo Q T F G w (s s':S) a' w':=
 ∃F' G',aC Q T F' G' w' a' s'/\Ext (Own G s.rg) (Own G' s'.rg) F F' w w'
theorem Fl{g o s'}(hs:exec Q s o g=some s'): ∀c,o.op≠ .defer c:=by intro c hc;unfold exec jK sZ dn at hs;simp only[hc] at hs;simp[pv,ef,hc] at hs
theorem wa{o v w'}(hd: ∀c,o.op≠ .defer c)(h:Ran Q o a w v w'){K Q'}(hK:K (a.put o.dst v) w'):o.wpIn (wd r) 0 Q a w K Q':=by
 refine uF hd ?_;rcases h with h | ⟨h,rfl⟩
 ·rw[h];exact hK
 rw[h];exact hK
theorem Ii(jO:cz Q T.w0 cf)(h:aC Q T F G w a s){g}(hg:mR a g){o s'}(hs:gI Q cf s o g=some s'){K Q'}
  (hK: ∀a' w',jo Q T F G w s s' a' w'->K a' w'):o.wpIn (wd r) 0 Q a w K Q':=by
 unfold gI at hs;split at hs
 next f xs hc=>
  unfold gV at hc;split at hc
  next c ho=>
   split at hc
   ·rename_i f' ko;simp at hc;obtain⟨rfl,rfl⟩:=hc;obtain⟨jZ,cs,hfv,bw⟩:=QC jO h hs (aU h hg f') (vs:=c.args.toList.map a.eval) (by simp) (λi v p hv hp=>by rw[zaN] at hv hp;simp only[zay] at hv hp;obtain⟨x,hx,rfl⟩:=hv;obtain⟨y,hy,rfl⟩:=hp;rw[hx] at hy;cases hy;exact aU h hg x);have ca:(execOp a.eval o).run Q w=(callFunc jZ ⟨c.args.toList.map a.eval++cs⟩).run Q w:=by
     have e:(c.args.map a.eval)++(⟨cs⟩:Array Value)=⟨c.args.toList.map a.eval++cs⟩:=by apply zbs.1;simp
     simp[execOp,ho,resolve,ko,hfv,Deferred.ofValue,invoke,e]
    refine uF (λc' oN=>by rw[ho] at oN;cases oN) ?_;rw[ca];rcases bw with⟨h1,h2⟩| ⟨v,w',h1,F',G',h2,h3⟩
    ·rw[h1];refine⟨λh=>(by cases h),(zZ h2).mono λe w' ⟨v,he,F',G',h3,h4⟩=> ?_⟩;subst he;exact hK _ _ ⟨F',G',h3,h4⟩
    rw[h1];exact hK _ _ ⟨F',G',h2,h3⟩
   cases hc
  cases hc
 obtain⟨v,w',F',G',h1,h2,h3⟩:=qar h hg hs;exact wa (Fl hs) h1 (hK _ _ ⟨F',G',h2,h3⟩)
theorem Ij{ops:List Oper}{j t:Nat}{oj}(hj:ops[j]?=some oj)(ht:oj.dst=some t) tmps b:yielded ops.toArray tmps j=some b↔tmps[t]?=some (.bool b):=by
 unfold yielded;simp only[List.getElem?_toArray,hj,zaw,ht];cases tmps[t]? with
 |none=>simp
 |some v=>cases v<;>simp
theorem lg(jO:cz Q T.w0 cf)(h:aC Q T F G w a s){ops o s'}(hs:bu Q cf ops s o=some s'){K Q'}
  (hK: ∀a' w',jo Q T F G w s s' a' w'->K a' w'):if Region.wanted o (yielded ops.toArray a.tmps) then o.wpIn (wd r) 0 Q a w K Q' else K (a.put o.dst undef) w:=by
 unfold bu at hs;unfold br at hs;cases Sy:o.guard with
 |none=>simp only[Sy] at hs;simp only[Region.wanted,Sy,zbo];exact Ii jO h (g:=none) trivial hs hK
 |some jw=>
  obtain⟨j,want⟩:=jw;simp only[Sy] at hs;simp only[Region.wanted,Sy];cases hj:ops[j]? with
  |none=>simp[hj] at hs
  |some oj=>
   cases ht:oj.dst with
   |none=>simp[hj,ht] at hs
   |some t=>
    simp only[hj,ht] at hs;have hy:=λb=>Ij hj ht a.tmps b;split at hs
    ·rename_i b hb;have hval:a.tmps.getD t undef= .bool b:=by have:=h.tm t _ hb;exact aH.cD (p:= .d (.bool b)) this rfl
     have bK:=qaf (a:=a) hval (by simp[undef]);have hv:a.tmps[t]?=some (.bool b):=by simp[Array.getD,bK] at hval;simp[bK,hval]
     split at hs
     ·rename_i hbw;have hbw:b=want:=by simpa using hbw
      subst hbw;have hyw:(yielded ops.toArray a.tmps j==some b)=true:=by rw[(hy b).2 hv];simp
      simp only[hyw,zbo];exact Ii jO h (g:=some (t,b)) hv hs hK
     rename_i hbw;have hbw:b≠want:=by simpa using hbw
     have hyw:(yielded ops.toArray a.tmps j==some want)=false:=by rw[(hy b).2 hv];simp[hbw]
     simp only[hyw,zaE,zbn];obtain⟨c1,c2⟩:=cy (p:= .skip) h hs (v:=undef) rfl;exact hK _ _ ⟨F,G,c1,by rw[c2];exact Ext.refl _ _ _⟩
    ·rename_i t' b' q hb;have hval:a.tmps.getD t undef=undef:=h.tm t _ hb;have bI:a.tmps[t]?≠some (.bool want):=λe=>by
      have:a.tmps.getD t undef= .bool want:=by simp[zaF,e]
      rw[hval] at this;cases this
     have hyw:(yielded ops.toArray a.tmps j==some want)=false:=by
      cases hyy:yielded ops.toArray a.tmps j==some want with
      |false=>rfl
      |true=>exact absurd ((hy want).1 (by simpa using hyy)) bI
     simp only[hyw,zaE,zbn];obtain⟨c1,c2⟩:=cy (p:= .skip) h hs (v:=undef) rfl;exact hK _ _ ⟨F,G,c1,by rw[c2];exact Ext.refl _ _ _⟩
    cases hs
theorem jo.trans{s1 s2 F1 G1 w1}(hx:Ext (Own G s.rg) (Own G1 s1.rg) F F1 w w1){a' w'}(hp:jo Q T F1 G1 w1 s1 s2 a' w'):jo Q T F G w s s2 a' w':=by obtain⟨F',G',h1,h2⟩:=hp;exact⟨F',G',h1,hx.trans h2⟩
theorem uH(jO:cz Q T.w0 cf){ops Q'}: ∀l F G w a s s',aC Q T F G w a s->dF Q cf ops l s=some s'->
  (∀a' w',jo Q T F G w s s' a' w'->Q' .normal a' w')->wpListIn (wd r) 0 Q ops.toArray Q' l a w
 | [],F,G,w,a,s,s',h,hs,hK=>by simp[dF] at hs;subst hs;exact hK a w ⟨F,G,h,Ext.refl _ _ _⟩
 |o::l,F,G,w,a,s,s',h,hs,hK=>by
  simp only[dF] at hs;split at hs
  next s1 h1=>have kH:=lg jO h h1 (r:=r) (K:=wpListIn (wd r) 0 Q ops.toArray Q' l) (Q':=Q') (λa' w' ⟨F',G',g1,g2⟩=>uH jO l F' G' w' a' s1 s' g1 hs (λa2 w2 hp=>hK a2 w2 (hp.trans g2)));exact fE kH
  cases hs
end
end Pi
