/- The text PiRegion. -/
import Derived.Test.YtngoddkencoalaaGreatDoorPiWd
import Derived.WalkMore
namespace Pi
open Go
section
variable{Q:Program}{T:Tg}{F:Nat->Prop}{G:Nat->Value}{w:World}{a:Act}{s:S}{cf:CF}{r:Option Nat}
def iN(Q:Program)(T:Tg)(F:Nat->Prop)(G:Nat->Value)(w:World)(s s':S)(a':Act)(w':World):Prop:=
 ∃F' G',aD Q T F' G' w' a' s'/\Ext (Own G s.rg) (Own G' s'.rg) F F' w w'
theorem Cw{g:Option (Nat×Bool)}{o:Oper}{s':S}(hs:exec Q s o g=some s'): ∀c,o.op≠ .defer c:=by intro c hc;unfold exec jg rl c7 at hs;simp only[hc] at hs;simp[pv,ef,hc] at hs
theorem tV{o:Oper}{v:Value}{w':World}(hd: ∀c,o.op≠ .defer c)(h:Ran Q o a w v w'){K:Act->World->Prop}{Q':Exit->Act->World->Prop}(hK:K (a.put o.dst v) w'):o.wpIn (wd r) 0 Q a w K Q':=by
 refine sH hd ?_;rcases h with h | ⟨h,rfl⟩
 ·rw[h];exact hK
 rw[h];exact hK
theorem ET(jl:du Q T.w0 cf)(h:aD Q T F G w a s){g:Option (Nat×Bool)}(hg:lP a g){o:Oper}{s':S}(hs:fX Q cf s o g=some s'){K:Act->World->Prop}{Q':Exit->Act->World->Prop}
  (hK: ∀a' w',iN Q T F G w s s' a' w'->K a' w'):o.wpIn (wd r) 0 Q a w K Q':=by
 unfold fX at hs;split at hs
 next f xs hc=>
  unfold gy at hc;split at hc
  next c ho=>
   split at hc
   ·rename_i f' kS;simp at hc;obtain⟨rfl,rfl⟩:=hc;obtain⟨ku,cs,hfv,bw⟩:=Mp jl h hs (a7 h hg f') (vs:=c.args.toList.map a.eval) (by simp) (λi v p hv hp=>by rw[zaJ] at hv hp;simp only[zaw] at hv hp;obtain⟨x,hx,rfl⟩:=hv;obtain⟨y,hy,rfl⟩:=hp;rw[hx] at hy;cases hy;exact a7 h hg x);have bX:(execOp a.eval o).run Q w=(callFunc ku ⟨c.args.toList.map a.eval++cs⟩).run Q w:=by
     have e:(c.args.map a.eval)++(⟨cs⟩:Array Value)=⟨c.args.toList.map a.eval++cs⟩:=by apply zbs.1;simp
     simp[execOp,ho,resolve,kS,hfv,Deferred.ofValue,invoke,e]
    refine sH (λc' qV=>by rw[ho] at qV;cases qV) ?_;rw[bX];rcases bw with⟨h1,h2⟩| ⟨v,w',h1,F',G',h2,h3⟩
    ·rw[h1];refine⟨λh=>(by cases h),(xA h2).mono λe w' ⟨v,he,F',G',h3,h4⟩=> ?_⟩;subst he;exact hK _ _ ⟨F',G',h3,h4⟩
    rw[h1];exact hK _ _ ⟨F',G',h2,h3⟩
   cases hc
  cases hc
 obtain⟨v,w',F',G',h1,h2,h3⟩:=Wj h hg hs;exact tV (Cw hs) h1 (hK _ _ ⟨F',G',h2,h3⟩)
theorem EU{ops:List Oper}{j t:Nat}{oj:Oper}(hj:ops[j]?=some oj)(ht:oj.dst=some t)(tmps:Array Value)(b:Bool):yielded ops.toArray tmps j=some b↔tmps[t]?=some (.bool b):=by
 unfold yielded;simp only[List.getElem?_toArray,hj,zau,ht];cases tmps[t]? with
 |none=>simp
 |some v=>cases v<;>simp
theorem kz(jl:du Q T.w0 cf)(h:aD Q T F G w a s){ops:List Oper}{o:Oper}{s':S}(hs:bu Q cf ops s o=some s'){K:Act->World->Prop}{Q':Exit->Act->World->Prop}
  (hK: ∀a' w',iN Q T F G w s s' a' w'->K a' w'):if Region.wanted o (yielded ops.toArray a.tmps) then o.wpIn (wd r) 0 Q a w K Q' else K (a.put o.dst undef) w:=by
 unfold bu at hs;unfold bp at hs;cases Kq:o.guard with
 |none=>simp only[Kq] at hs;simp only[Region.wanted,Kq,zbb];exact ET jl h (g:=none) trivial hs hK
 |some jw=>
  obtain⟨j,want⟩:=jw;simp only[Kq] at hs;simp only[Region.wanted,Kq];cases hj:ops[j]? with
  |none=>simp[hj] at hs
  |some oj=>
   cases ht:oj.dst with
   |none=>simp[hj,ht] at hs
   |some t=>
    simp only[hj,ht] at hs;have hy:=λb=>EU hj ht a.tmps b;split at hs
    ·rename_i b hb;have hval:a.tmps.getD t undef= .bool b:=by have:=h.tm t _ hb;exact aF.cA (p:= .d (.bool b)) this rfl
     have bI:=VZ (a:=a) hval (by simp[undef]);have hv:a.tmps[t]?=some (.bool b):=by simp[Array.getD,bI] at hval;simp[bI,hval]
     split at hs
     ·rename_i hbw;have hbw:b=want:=by simpa using hbw
      subst hbw;have hyw:(yielded ops.toArray a.tmps j==some b)=true:=by rw[(hy b).2 hv];simp
      simp only[hyw,zbb];exact ET jl h (g:=some (t,b)) hv hs hK
     rename_i hbw;have hbw:b≠want:=by simpa using hbw
     have hyw:(yielded ops.toArray a.tmps j==some want)=false:=by rw[(hy b).2 hv];simp[hbw]
     simp only[hyw,zaB,zbj];obtain⟨c1,c2⟩:=cz (p:= .skip) h hs (v:=undef) rfl;exact hK _ _ ⟨F,G,c1,by rw[c2];exact Ext.refl _ _ _⟩
    ·rename_i t' b' q hb;have hval:a.tmps.getD t undef=undef:=h.tm t _ hb;have b7:a.tmps[t]?≠some (.bool want):=λe=>by
      have:a.tmps.getD t undef= .bool want:=by simp[zaD,e]
      rw[hval] at this;cases this
     have hyw:(yielded ops.toArray a.tmps j==some want)=false:=by
      cases hyy:yielded ops.toArray a.tmps j==some want with
      |false=>rfl
      |true=>exact absurd ((hy want).1 (by simpa using hyy)) b7
     simp only[hyw,zaB,zbj];obtain⟨c1,c2⟩:=cz (p:= .skip) h hs (v:=undef) rfl;exact hK _ _ ⟨F,G,c1,by rw[c2];exact Ext.refl _ _ _⟩
    cases hs
theorem iN.trans{s1 s2:S}{F1:Nat->Prop}{G1:Nat->Value}{w1:World}(hx:Ext (Own G s.rg) (Own G1 s1.rg) F F1 w w1){a':Act}{w':World}(hp:iN Q T F1 G1 w1 s1 s2 a' w'):iN Q T F G w s s2 a' w':=by obtain⟨F',G',h1,h2⟩:=hp;exact⟨F',G',h1,hx.trans h2⟩
theorem sI(jl:du Q T.w0 cf){ops:List Oper}{Q':Exit->Act->World->Prop}: ∀(l:List Oper) (F:Nat->Prop) (G:Nat->Value) (w:World) (a:Act) (s s':S),aD Q T F G w a s->dx Q cf ops l s=some s'->
  (∀a' w',iN Q T F G w s s' a' w'->Q' .normal a' w')->wpListIn (wd r) 0 Q ops.toArray Q' l a w
 | [],F,G,w,a,s,s',h,hs,hK=>by simp[dx] at hs;subst hs;exact hK a w ⟨F,G,h,Ext.refl _ _ _⟩
 |o::l,F,G,w,a,s,s',h,hs,hK=>by
  simp only[dx] at hs;split at hs
  next s1 h1=>have kO:=kz jl h h1 (r:=r) (K:=wpListIn (wd r) 0 Q ops.toArray Q' l) (Q':=Q') (λa' w' ⟨F',G',g1,g2⟩=>sI jl l F' G' w' a' s1 s' g1 hs (λa2 w2 hp=>hK a2 w2 (hp.trans g2)));exact fo kO
  cases hs
end
end Pi
