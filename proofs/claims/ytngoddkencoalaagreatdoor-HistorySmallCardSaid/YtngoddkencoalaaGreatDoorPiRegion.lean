/- The text PiRegion. -/
import Derived.Test.YtngoddkencoalaaGreatDoorPiWd
import Derived.WalkMore
namespace Pi
open Go
section
variable{Q:Program}{T:Tg}{F:Nat->Prop}{G:Nat->Value}{w:World}{a:Act}{s:S}{cf:CF}{r:Option Nat}
def iY(Q:Program)(T:Tg)(F:Nat->Prop)(G:Nat->Value)(w:World)(s s':S)(a':Act)(w':World):Prop:=
 ∃F' G',aG Q T F' G' w' a' s'/\Ext (Own G s.rg) (Own G' s'.rg) F F' w w'
theorem C6{g:Option (Nat×Bool)}{o:Oper}{s':S}(hs:exec Q s o g=some s'): ∀c,o.op≠ .defer c:=by intro c hc;unfold exec jx r7 dh at hs;simp only[hc] at hs;simp[pv,ef,hc] at hs
theorem uT{o:Oper}{v:Value}{w':World}(hd: ∀c,o.op≠ .defer c)(h:Ran Q o a w v w'){K:Act->World->Prop}{Q':Exit->Act->World->Prop}(hK:K (a.put o.dst v) w'):o.wpIn (wd r) 0 Q a w K Q':=by
 refine tJ hd ?_;rcases h with h | ⟨h,rfl⟩
 ·rw[h];exact hK
 rw[h];exact hK
theorem Fy(jC:dC Q T.w0 cf)(h:aG Q T F G w a s){g:Option (Nat×Bool)}(hg:mf a g){o:Oper}{s':S}(hs:gk Q cf s o g=some s'){K:Act->World->Prop}{Q':Exit->Act->World->Prop}
  (hK: ∀a' w',iY Q T F G w s s' a' w'->K a' w'):o.wpIn (wd r) 0 Q a w K Q':=by
 unfold gk at hs;split at hs
 next f xs hc=>
  unfold gG at hc;split at hc
  next c ho=>
   split at hc
   ·rename_i f' lv;simp at hc;obtain⟨rfl,rfl⟩:=hc;obtain⟨kP,cs,hfv,bt⟩:=MY jC h hs (a7 h hg f') (vs:=c.args.toList.map a.eval) (by simp) (λi v p hv hp=>by rw[zaK] at hv hp;simp only[zax] at hv hp;obtain⟨x,hx,rfl⟩:=hv;obtain⟨y,hy,rfl⟩:=hp;rw[hx] at hy;cases hy;exact a7 h hg x);have cc:(execOp a.eval o).run Q w=(callFunc kP ⟨c.args.toList.map a.eval++cs⟩).run Q w:=by
     have e:(c.args.map a.eval)++(⟨cs⟩:Array Value)=⟨c.args.toList.map a.eval++cs⟩:=by apply zbr.1;simp
     simp[execOp,ho,resolve,lv,hfv,Deferred.ofValue,invoke,e]
    refine tJ (λc' rJ=>by rw[ho] at rJ;cases rJ) ?_;rw[cc];rcases bt with⟨h1,h2⟩| ⟨v,w',h1,F',G',h2,h3⟩
    ·rw[h1];refine⟨λh=>(by cases h),(yj h2).mono λe w' ⟨v,he,F',G',h3,h4⟩=> ?_⟩;subst he;exact hK _ _ ⟨F',G',h3,h4⟩
    rw[h1];exact hK _ _ ⟨F',G',h2,h3⟩
   cases hc
  cases hc
 obtain⟨v,w',F',G',h1,h2,h3⟩:=W3 h hg hs;exact uT (C6 hs) h1 (hK _ _ ⟨F',G',h2,h3⟩)
theorem Fz{ops:List Oper}{j t:Nat}{oj:Oper}(hj:ops[j]?=some oj)(ht:oj.dst=some t)(tmps:Array Value)(b:Bool):yielded ops.toArray tmps j=some b↔tmps[t]?=some (.bool b):=by
 unfold yielded;simp only[List.getElem?_toArray,hj,zav,ht];cases tmps[t]? with
 |none=>simp
 |some v=>cases v<;>simp
theorem kT(jC:dC Q T.w0 cf)(h:aG Q T F G w a s){ops:List Oper}{o:Oper}{s':S}(hs:bx Q cf ops s o=some s'){K:Act->World->Prop}{Q':Exit->Act->World->Prop}
  (hK: ∀a' w',iY Q T F G w s s' a' w'->K a' w'):if Region.wanted o (yielded ops.toArray a.tmps) then o.wpIn (wd r) 0 Q a w K Q' else K (a.put o.dst undef) w:=by
 unfold bx at hs;unfold br at hs;cases K0:o.guard with
 |none=>simp only[K0] at hs;simp only[Region.wanted,K0,zba];exact Fy jC h (g:=none) trivial hs hK
 |some jw=>
  obtain⟨j,want⟩:=jw;simp only[K0] at hs;simp only[Region.wanted,K0];cases hj:ops[j]? with
  |none=>simp[hj] at hs
  |some oj=>
   cases ht:oj.dst with
   |none=>simp[hj,ht] at hs
   |some t=>
    simp only[hj,ht] at hs;have hy:=λb=>Fz hj ht a.tmps b;split at hs
    ·rename_i b hb;have hval:a.tmps.getD t undef= .bool b:=by have:=h.tm t _ hb;exact aH.cG (p:= .d (.bool b)) this rfl
     have bG:=WI (a:=a) hval (by simp[undef]);have hv:a.tmps[t]?=some (.bool b):=by simp[Array.getD,bG] at hval;simp[bG,hval]
     split at hs
     ·rename_i hbw;have hbw:b=want:=by simpa using hbw
      subst hbw;have hyw:(yielded ops.toArray a.tmps j==some b)=true:=by rw[(hy b).2 hv];simp
      simp only[hyw,zba];exact Fy jC h (g:=some (t,b)) hv hs hK
     rename_i hbw;have hbw:b≠want:=by simpa using hbw
     have hyw:(yielded ops.toArray a.tmps j==some want)=false:=by rw[(hy b).2 hv];simp[hbw]
     simp only[hyw,zaz,zbk];obtain⟨c1,c2⟩:=cD (p:= .skip) h hs (v:=undef) rfl;exact hK _ _ ⟨F,G,c1,by rw[c2];exact Ext.refl _ _ _⟩
    ·rename_i t' b' q hb;have hval:a.tmps.getD t undef=undef:=h.tm t _ hb;have bX:a.tmps[t]?≠some (.bool want):=λe=>by
      have:a.tmps.getD t undef= .bool want:=by simp[zaD,e]
      rw[hval] at this;cases this
     have hyw:(yielded ops.toArray a.tmps j==some want)=false:=by
      cases hyy:yielded ops.toArray a.tmps j==some want with
      |false=>rfl
      |true=>exact absurd ((hy want).1 (by simpa using hyy)) bX
     simp only[hyw,zaz,zbk];obtain⟨c1,c2⟩:=cD (p:= .skip) h hs (v:=undef) rfl;exact hK _ _ ⟨F,G,c1,by rw[c2];exact Ext.refl _ _ _⟩
    cases hs
theorem iY.trans{s1 s2:S}{F1:Nat->Prop}{G1:Nat->Value}{w1:World}(hx:Ext (Own G s.rg) (Own G1 s1.rg) F F1 w w1){a':Act}{w':World}(hp:iY Q T F1 G1 w1 s1 s2 a' w'):iY Q T F G w s s2 a' w':=by obtain⟨F',G',h1,h2⟩:=hp;exact⟨F',G',h1,hx.trans h2⟩
theorem tK(jC:dC Q T.w0 cf){ops:List Oper}{Q':Exit->Act->World->Prop}: ∀(l:List Oper) (F:Nat->Prop) (G:Nat->Value) (w:World) (a:Act) (s s':S),aG Q T F G w a s->dE Q cf ops l s=some s'->
  (∀a' w',iY Q T F G w s s' a' w'->Q' .normal a' w')->wpListIn (wd r) 0 Q ops.toArray Q' l a w
 | [],F,G,w,a,s,s',h,hs,hK=>by simp[dE] at hs;subst hs;exact hK a w ⟨F,G,h,Ext.refl _ _ _⟩
 |o::l,F,G,w,a,s,s',h,hs,hK=>by
  simp only[dE] at hs;split at hs
  next s1 h1=>have ln:=kT jC h h1 (r:=r) (K:=wpListIn (wd r) 0 Q ops.toArray Q' l) (Q':=Q') (λa' w' ⟨F',G',g1,g2⟩=>tK jC l F' G' w' a' s1 s' g1 hs (λa2 w2 hp=>hK a2 w2 (hp.trans g2)));exact fy ln
  cases hs
end
end Pi
