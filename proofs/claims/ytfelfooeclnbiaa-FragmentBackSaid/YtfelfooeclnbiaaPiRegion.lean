/- The text PiRegion. -/
import Derived.Test.YtfelfooeclnbiaaPiWd
import Derived.WalkMore
namespace Pi
open Go
section
variable{Q:Program}{T:Tg}{F:Nat->Prop}{G:Nat->Value}{w:World}{a:Act}{s:S}{cf:CF}{r:Option Nat}
def gi(Q:Program)(T:Tg)(F:Nat->Prop)(G:Nat->Value)(w:World)(s s':S)(a':Act)(w':World):Prop:=
 ∃F' G',ar Q T F' G' w' a' s'/\Ext (Own G s.rg) (Own G' s'.rg) F F' w w'
theorem pC{g:Option (Nat×Bool)}{o:Oper}{s':S}(hs:exec Q s o g=some s'): ∀c,o.op≠ .defer c:=by intro c hc;unfold exec dL jl bm at hs;simp only[hc] at hs;simp[pv,ef,hc] at hs
theorem uR{o:Oper}{v:Value}{w':World}(hd: ∀c,o.op≠ .defer c)(h:Cx Q o a w v w'){K:Act->World->Prop}{Q':Exit->Act->World->Prop}(hK:K (a.put o.dst v) w'):o.wpIn (wd r) 0 Q a w K Q':=by
 refine pB hd ?_;rcases h with h | ⟨h,rfl⟩
 ·rw[h];exact hK
 rw[h];exact hK
theorem qM(iG:iR Q T.w0 cf)(h:ar Q T F G w a s){g:Option (Nat×Bool)}(hg:e9 a g){o:Oper}{s':S}(hs:cG Q cf s o g=some s'){K:Act->World->Prop}{Q':Exit->Act->World->Prop}
  (hK: ∀a' w',gi Q T F G w s s' a' w'->K a' w'):o.wpIn (wd r) 0 Q a w K Q':=by
 unfold cG at hs;split at hs
 next f xs hc=>
  unfold eJ at hc;split at hc
  next c ho=>
   split at hc
   ·rename_i f' ft;simp at hc;obtain⟨rfl,rfl⟩:=hc;obtain⟨gS,cs,Hn,mv⟩:=uP iG h hs (aw h hg f') (vs:=c.args.toList.map a.eval) (by simp) (λi v p hv hp=>by rw[zao] at hv hp;simp only[zak] at hv hp;obtain⟨x,hx,rfl⟩:=hv;obtain⟨y,hy,rfl⟩:=hp;rw[hx] at hy;cases hy;exact aw h hg x);have a8:(execOp a.eval o).run Q w=(callFunc gS ⟨c.args.toList.map a.eval++cs⟩).run Q w:=by
     have e:(c.args.map a.eval)++(⟨cs⟩:Array Value)=⟨c.args.toList.map a.eval++cs⟩:=by apply zaR.1;simp
     simp[execOp,ho,resolve,ft,Hn,Deferred.ofValue,invoke,e]
    refine pB (λc' Ad=>by rw[ho] at Ad;cases Ad) ?_;rw[a8];rcases mv with⟨h1,h2⟩| ⟨v,w',h1,F',G',h2,h3⟩
    ·rw[h1];refine⟨λh=>(by cases h),(xf h2).mono λe w' ⟨v,he,F',G',h3,h4⟩=> ?_⟩;subst he;exact hK _ _ ⟨F',G',h3,h4⟩
    rw[h1];exact hK _ _ ⟨F',G',h2,h3⟩
   cases hc
  cases hc
 obtain⟨v,w',F',G',h1,h2,h3⟩:=y9 h hg hs;exact uR (pC hs) h1 (hK _ _ ⟨F',G',h2,h3⟩)
theorem qN{ops:List Oper}{j t:Nat}{oj:Oper}(hj:ops[j]?=some oj)(ht:oj.dst=some t)(tmps:Array Value)(b:Bool):yielded ops.toArray tmps j=some b↔tmps[t]?=some (.bool b):=by
 unfold yielded;simp only[List.getElem?_toArray,hj,zai,ht];cases tmps[t]? with
 |none=>simp
 |some v=>cases v<;>simp
theorem iH(iG:iR Q T.w0 cf)(h:ar Q T F G w a s){ops:List Oper}{o:Oper}{s':S}(hs:aE Q cf ops s o=some s'){K:Act->World->Prop}{Q':Exit->Act->World->Prop}
  (hK: ∀a' w',gi Q T F G w s s' a' w'->K a' w'):if Region.wanted o (yielded ops.toArray a.tmps) then o.wpIn (wd r) 0 Q a w K Q' else K (a.put o.dst undef) w:=by
 unfold aE at hs;unfold aA at hs;cases BY:o.guard with
 |none=>simp only[BY] at hs;simp only[Region.wanted,BY,za2];exact qM iG h (g:=none) trivial hs hK
 |some jw=>
  obtain⟨j,want⟩:=jw;simp only[BY] at hs;simp only[Region.wanted,BY];cases hj:ops[j]? with
  |none=>simp[hj] at hs
  |some oj=>
   cases ht:oj.dst with
   |none=>simp[hj,ht] at hs
   |some t=>
    simp only[hj,ht] at hs;have hy:=λb=>qN hj ht a.tmps b;split at hs
    ·rename_i b hb;have hval:a.tmps.getD t undef= .bool b:=by have:=h.tm t _ hb;exact ao.aX (p:= .d (.bool b)) this rfl
     have bA:=yG (a:=a) hval (by simp[undef]);have hv:a.tmps[t]?=some (.bool b):=by simp[Array.getD,bA] at hval;simp[bA,hval]
     split at hs
     ·rename_i AZ;have AZ:b=want:=by simpa using AZ
      subst AZ;have CH:(yielded ops.toArray a.tmps j==some b)=true:=by rw[(hy b).2 hv];simp
      simp only[CH,za2];exact qM iG h (g:=some (t,b)) hv hs hK
     rename_i AZ;have AZ:b≠want:=by simpa using AZ
     have CH:(yielded ops.toArray a.tmps j==some want)=false:=by rw[(hy b).2 hv];simp[AZ]
     simp only[CH,zaz,zbe];obtain⟨c1,c2⟩:=bh (p:= .skip) h hs (v:=undef) rfl;exact hK _ _ ⟨F,G,c1,by rw[c2];exact Ext.refl _ _ _⟩
    ·rename_i t' b' q hb;have hval:a.tmps.getD t undef=undef:=h.tm t _ hb;have dY:a.tmps[t]?≠some (.bool want):=λe=>by
      have:a.tmps.getD t undef= .bool want:=by simp[zam,e]
      rw[hval] at this;cases this
     have CH:(yielded ops.toArray a.tmps j==some want)=false:=by
      cases ES:yielded ops.toArray a.tmps j==some want with
      |false=>rfl
      |true=>exact absurd ((hy want).1 (by simpa using ES)) dY
     simp only[CH,zaz,zbe];obtain⟨c1,c2⟩:=bh (p:= .skip) h hs (v:=undef) rfl;exact hK _ _ ⟨F,G,c1,by rw[c2];exact Ext.refl _ _ _⟩
    cases hs
theorem gi.trans{s1 s2:S}{F1:Nat->Prop}{G1:Nat->Value}{w1:World}(hx:Ext (Own G s.rg) (Own G1 s1.rg) F F1 w w1){a':Act}{w':World}(hp:gi Q T F1 G1 w1 s1 s2 a' w'):gi Q T F G w s s2 a' w':=by obtain⟨F',G',h1,h2⟩:=hp;exact⟨F',G',h1,hx.trans h2⟩
theorem kc(iG:iR Q T.w0 cf){ops:List Oper}{Q':Exit->Act->World->Prop}: ∀(l:List Oper) (F:Nat->Prop) (G:Nat->Value) (w:World) (a:Act) (s s':S),ar Q T F G w a s->bC Q cf ops l s=some s'->
  (∀a' w',gi Q T F G w s s' a' w'->Q' .normal a' w')->wpListIn (wd r) 0 Q ops.toArray Q' l a w
 | [],F,G,w,a,s,s',h,hs,hK=>by simp[bC] at hs;subst hs;exact hK a w ⟨F,G,h,Ext.refl _ _ _⟩
 |o::l,F,G,w,a,s,s',h,hs,hK=>by
  simp only[bC] at hs;split at hs
  next s1 h1=>have gH:=iH iG h h1 (r:=r) (K:=wpListIn (wd r) 0 Q ops.toArray Q' l) (Q':=Q') (λa' w' ⟨F',G',g1,g2⟩=>kc iG l F' G' w' a' s1 s' g1 hs (λa2 w2 hp=>hK a2 w2 (hp.trans g2)));exact qL gH
  cases hs
end
end Pi
