/- The text PiRegion. -/
import Derived.Test.YtngoddkencoalaaGreatDoorPiWd
import Derived.WalkMore
namespace Pi
open Go
section
variable{Q:Program}{T:Tg}{F:Nat->Prop}{G:Nat->Value}{w:World}{a:Act}{s:S}{cf:CF}{r:Option Nat}
def ja(Q:Program)(T:Tg)(F:Nat->Prop)(G:Nat->Value)(w:World)(s s':S)(a':Act)(w':World):Prop:=
 ∃F' G',aG Q T F' G' w' a' s'/\Ext (Own G s.rg) (Own G' s'.rg) F F' w w'
theorem Eb{g:Option (Nat×Bool)}{o:Oper}{s':S}(hs:exec Q s o g=some s'): ∀c,o.op≠ .defer c:=by intro c hc;unfold exec jC se db at hs;simp only[hc] at hs;simp[pv,ef,hc] at hs
theorem vw{o:Oper}{v:Value}{w':World}(hd: ∀c,o.op≠ .defer c)(h:Ran Q o a w v w'){K:Act->World->Prop}{Q':Exit->Act->World->Prop}(hK:K (a.put o.dst v) w'):o.wpIn (wd r) 0 Q a w K Q':=by
 refine tO hd ?_;rcases h with h | ⟨h,rfl⟩
 ·rw[h];exact hK
 rw[h];exact hK
theorem GY(jH:dw Q T.w0 cf)(h:aG Q T F G w a s){g:Option (Nat×Bool)}(hg:mx a g){o:Oper}{s':S}(hs:gk Q cf s o g=some s'){K:Act->World->Prop}{Q':Exit->Act->World->Prop}
  (hK: ∀a' w',ja Q T F G w s s' a' w'->K a' w'):o.wpIn (wd r) 0 Q a w K Q':=by
 unfold gk at hs;split at hs
 next f xs hc=>
  unfold gC at hc;split at hc
  next c ho=>
   split at hc
   ·rename_i f' lB;simp at hc;obtain⟨rfl,rfl⟩:=hc;obtain⟨kW,cs,hfv,aT⟩:=OT jH h hs (aW h hg f') (vs:=c.args.toList.map a.eval) (by simp) (λi v p hv hp=>by rw[zaD] at hv hp;simp only[zax] at hv hp;obtain⟨x,hx,rfl⟩:=hv;obtain⟨y,hy,rfl⟩:=hp;rw[hx] at hy;cases hy;exact aW h hg x);have cb:(execOp a.eval o).run Q w=(callFunc kW ⟨c.args.toList.map a.eval++cs⟩).run Q w:=by
     have e:(c.args.map a.eval)++(⟨cs⟩:Array Value)=⟨c.args.toList.map a.eval++cs⟩:=by apply zby.1;simp
     simp[execOp,ho,resolve,lB,hfv,Deferred.ofValue,invoke,e]
    refine tO (λc' rU=>by rw[ho] at rU;cases rU) ?_;rw[cb];rcases aT with⟨h1,h2⟩| ⟨v,w',h1,F',G',h2,h3⟩
    ·rw[h1];refine⟨λh=>(by cases h),(y5 h2).mono λe w' ⟨v,he,F',G',h3,h4⟩=> ?_⟩;subst he;exact hK _ _ ⟨F',G',h3,h4⟩
    rw[h1];exact hK _ _ ⟨F',G',h2,h3⟩
   cases hc
  cases hc
 obtain⟨v,w',F',G',h1,h2,h3⟩:=Z5 h hg hs;exact vw (Eb hs) h1 (hK _ _ ⟨F',G',h2,h3⟩)
theorem GZ{ops:List Oper}{j t:Nat}{oj:Oper}(hj:ops[j]?=some oj)(ht:oj.dst=some t)(tmps:Array Value)(b:Bool):yielded ops.toArray tmps j=some b↔tmps[t]?=some (.bool b):=by
 unfold yielded;simp only[List.getElem?_toArray,hj,zaw,ht];cases tmps[t]? with
 |none=>simp
 |some v=>cases v<;>simp
theorem kZ(jH:dw Q T.w0 cf)(h:aG Q T F G w a s){ops:List Oper}{o:Oper}{s':S}(hs:br Q cf ops s o=some s'){K:Act->World->Prop}{Q':Exit->Act->World->Prop}
  (hK: ∀a' w',ja Q T F G w s s' a' w'->K a' w'):if Region.wanted o (yielded ops.toArray a.tmps) then o.wpIn (wd r) 0 Q a w K Q' else K (a.put o.dst undef) w:=by
 unfold br at hs;unfold bj at hs;cases MB:o.guard with
 |none=>simp only[MB] at hs;simp only[Region.wanted,MB,zbr];exact GY jH h (g:=none) trivial hs hK
 |some jw=>
  obtain⟨j,want⟩:=jw;simp only[MB] at hs;simp only[Region.wanted,MB];cases hj:ops[j]? with
  |none=>simp[hj] at hs
  |some oj=>
   cases ht:oj.dst with
   |none=>simp[hj,ht] at hs
   |some t=>
    simp only[hj,ht] at hs;have hy:=λb=>GZ hj ht a.tmps b;split at hs
    ·rename_i b hb;have hval:a.tmps.getD t undef= .bool b:=by have:=h.tm t _ hb;exact aH.cF (p:= .d (.bool b)) this rfl
     have bJ:=YV (a:=a) hval (by simp[undef]);have hv:a.tmps[t]?=some (.bool b):=by simp[Array.getD,bJ] at hval;simp[bJ,hval]
     split at hs
     ·rename_i hbw;have hbw:b=want:=by simpa using hbw
      subst hbw;have hyw:(yielded ops.toArray a.tmps j==some b)=true:=by rw[(hy b).2 hv];simp
      simp only[hyw,zbr];exact GY jH h (g:=some (t,b)) hv hs hK
     rename_i hbw;have hbw:b≠want:=by simpa using hbw
     have hyw:(yielded ops.toArray a.tmps j==some want)=false:=by rw[(hy b).2 hv];simp[hbw]
     simp only[hyw,zaK,zbt];obtain⟨c1,c2⟩:=cC (p:= .skip) h hs (v:=undef) rfl;exact hK _ _ ⟨F,G,c1,by rw[c2];exact Ext.refl _ _ _⟩
    ·rename_i t' b' q hb;have hval:a.tmps.getD t undef=undef:=h.tm t _ hb;have bS:a.tmps[t]?≠some (.bool want):=λe=>by
      have:a.tmps.getD t undef= .bool want:=by simp[zaI,e]
      rw[hval] at this;cases this
     have hyw:(yielded ops.toArray a.tmps j==some want)=false:=by
      cases hyy:yielded ops.toArray a.tmps j==some want with
      |false=>rfl
      |true=>exact absurd ((hy want).1 (by simpa using hyy)) bS
     simp only[hyw,zaK,zbt];obtain⟨c1,c2⟩:=cC (p:= .skip) h hs (v:=undef) rfl;exact hK _ _ ⟨F,G,c1,by rw[c2];exact Ext.refl _ _ _⟩
    cases hs
theorem ja.trans{s1 s2:S}{F1:Nat->Prop}{G1:Nat->Value}{w1:World}(hx:Ext (Own G s.rg) (Own G1 s1.rg) F F1 w w1){a':Act}{w':World}(hp:ja Q T F1 G1 w1 s1 s2 a' w'):ja Q T F G w s s2 a' w':=by obtain⟨F',G',h1,h2⟩:=hp;exact⟨F',G',h1,hx.trans h2⟩
theorem tP(jH:dw Q T.w0 cf){ops:List Oper}{Q':Exit->Act->World->Prop}: ∀(l:List Oper) (F:Nat->Prop) (G:Nat->Value) (w:World) (a:Act) (s s':S),aG Q T F G w a s->dz Q cf ops l s=some s'->
  (∀a' w',ja Q T F G w s s' a' w'->Q' .normal a' w')->wpListIn (wd r) 0 Q ops.toArray Q' l a w
 | [],F,G,w,a,s,s',h,hs,hK=>by simp[dz] at hs;subst hs;exact hK a w ⟨F,G,h,Ext.refl _ _ _⟩
 |o::l,F,G,w,a,s,s',h,hs,hK=>by
  simp only[dz] at hs;split at hs
  next s1 h1=>have jv:=kZ jH h h1 (r:=r) (K:=wpListIn (wd r) 0 Q ops.toArray Q' l) (Q':=Q') (λa' w' ⟨F',G',g1,g2⟩=>tP jH l F' G' w' a' s1 s' g1 hs (λa2 w2 hp=>hK a2 w2 (hp.trans g2)));exact fA jv
  cases hs
end
end Pi
