/- The text PiRegion. -/
import Derived.Test.YtfelfooeclnbiaaPiWd
import Derived.WalkMore
namespace Pi
open Go
section
variable{Q:Program}{T:Tg}{F:Nat->Prop}{G:Nat->Value}{w:World}{a:Act}{s:S}{cf:CF}{r:Option Nat}
def gk(Q:Program)(T:Tg)(F:Nat->Prop)(G:Nat->Value)(w:World)(s s':S)(a':Act)(w':World):Prop:=
 ∃F' G',aq Q T F' G' w' a' s'/\Ext (Own G s.rg) (Own G' s'.rg) F F' w w'
theorem pI{g:Option (Nat×Bool)}{o:Oper}{s':S}(hs:exec Q s o g=some s'): ∀c,o.op≠ .defer c:=by intro c hc;unfold exec dI jy bj at hs;simp only[hc] at hs;simp[pv,ef,hc] at hs
theorem uT{o:Oper}{v:Value}{w':World}(hd: ∀c,o.op≠ .defer c)(h:C1 Q o a w v w'){K:Act->World->Prop}{Q':Exit->Act->World->Prop}(hK:K (a.put o.dst v) w'):o.wpIn (wd r) 0 Q a w K Q':=by
 refine pH hd ?_;rcases h with h | ⟨h,rfl⟩
 ·rw[h];exact hK
 rw[h];exact hK
theorem q6(iQ:jc Q T.w0 cf)(h:aq Q T F G w a s){g:Option (Nat×Bool)}(hg:fc a g){o:Oper}{s':S}(hs:cC Q cf s o g=some s'){K:Act->World->Prop}{Q':Exit->Act->World->Prop}
  (hK: ∀a' w',gk Q T F G w s s' a' w'->K a' w'):o.wpIn (wd r) 0 Q a w K Q':=by
 unfold cC at hs;split at hs
 next f xs hc=>
  unfold eI at hc;split at hc
  next c ho=>
   split at hc
   ·rename_i f' fx;simp at hc;obtain⟨rfl,rfl⟩:=hc;obtain⟨gZ,cs,H2,mE⟩:=uR iQ h hs (au h hg f') (vs:=c.args.toList.map a.eval) (by simp) (λi v p hv hp=>by rw[zao] at hv hp;simp only[zaj] at hv hp;obtain⟨x,hx,rfl⟩:=hv;obtain⟨y,hy,rfl⟩:=hp;rw[hx] at hy;cases hy;exact au h hg x);have aY:(execOp a.eval o).run Q w=(callFunc gZ ⟨c.args.toList.map a.eval++cs⟩).run Q w:=by
     have e:(c.args.map a.eval)++(⟨cs⟩:Array Value)=⟨c.args.toList.map a.eval++cs⟩:=by apply zaL.1;simp
     simp[execOp,ho,resolve,fx,H2,Deferred.ofValue,invoke,e]
    refine pH (λc' Al=>by rw[ho] at Al;cases Al) ?_;rw[aY];rcases mE with⟨h1,h2⟩| ⟨v,w',h1,F',G',h2,h3⟩
    ·rw[h1];refine⟨λh=>(by cases h),(xf h2).mono λe w' ⟨v,he,F',G',h3,h4⟩=> ?_⟩;subst he;exact hK _ _ ⟨F',G',h3,h4⟩
    rw[h1];exact hK _ _ ⟨F',G',h2,h3⟩
   cases hc
  cases hc
 obtain⟨v,w',F',G',h1,h2,h3⟩:=zi h hg hs;exact uT (pI hs) h1 (hK _ _ ⟨F',G',h2,h3⟩)
theorem q7{ops:List Oper}{j t:Nat}{oj:Oper}(hj:ops[j]?=some oj)(ht:oj.dst=some t)(tmps:Array Value)(b:Bool):yielded ops.toArray tmps j=some b↔tmps[t]?=some (.bool b):=by
 unfold yielded;simp only[List.getElem?_toArray,hj,zah,ht];cases tmps[t]? with
 |none=>simp
 |some v=>cases v<;>simp
theorem iR(iQ:jc Q T.w0 cf)(h:aq Q T F G w a s){ops:List Oper}{o:Oper}{s':S}(hs:aC Q cf ops s o=some s'){K:Act->World->Prop}{Q':Exit->Act->World->Prop}
  (hK: ∀a' w',gk Q T F G w s s' a' w'->K a' w'):if Region.wanted o (yielded ops.toArray a.tmps) then o.wpIn (wd r) 0 Q a w K Q' else K (a.put o.dst undef) w:=by
 unfold aC at hs;unfold ay at hs;cases Cm:o.guard with
 |none=>simp only[Cm] at hs;simp only[Region.wanted,Cm,zaT];exact q6 iQ h (g:=none) trivial hs hK
 |some jw=>
  obtain⟨j,want⟩:=jw;simp only[Cm] at hs;simp only[Region.wanted,Cm];cases hj:ops[j]? with
  |none=>simp[hj] at hs
  |some oj=>
   cases ht:oj.dst with
   |none=>simp[hj,ht] at hs
   |some t=>
    simp only[hj,ht] at hs;have hy:=λb=>q7 hj ht a.tmps b;split at hs
    ·rename_i b hb;have hval:a.tmps.getD t undef= .bool b:=by have:=h.tm t _ hb;exact ak.aW (p:= .d (.bool b)) this rfl
     have bu:=yN (a:=a) hval (by simp[undef]);have hv:a.tmps[t]?=some (.bool b):=by simp[Array.getD,bu] at hval;simp[bu,hval]
     split at hs
     ·rename_i Bg;have Bg:b=want:=by simpa using Bg
      subst Bg;have C9:(yielded ops.toArray a.tmps j==some b)=true:=by rw[(hy b).2 hv];simp
      simp only[C9,zaT];exact q6 iQ h (g:=some (t,b)) hv hs hK
     rename_i Bg;have Bg:b≠want:=by simpa using Bg
     have C9:(yielded ops.toArray a.tmps j==some want)=false:=by rw[(hy b).2 hv];simp[Bg]
     simp only[C9,zaz,za6];obtain⟨c1,c2⟩:=bg (p:= .skip) h hs (v:=undef) rfl;exact hK _ _ ⟨F,G,c1,by rw[c2];exact Ext.refl _ _ _⟩
    ·rename_i t' b' q hb;have hval:a.tmps.getD t undef=undef:=h.tm t _ hb;have eb:a.tmps[t]?≠some (.bool want):=λe=>by
      have:a.tmps.getD t undef= .bool want:=by simp[zak,e]
      rw[hval] at this;cases this
     have C9:(yielded ops.toArray a.tmps j==some want)=false:=by
      cases Fy:yielded ops.toArray a.tmps j==some want with
      |false=>rfl
      |true=>exact absurd ((hy want).1 (by simpa using Fy)) eb
     simp only[C9,zaz,za6];obtain⟨c1,c2⟩:=bg (p:= .skip) h hs (v:=undef) rfl;exact hK _ _ ⟨F,G,c1,by rw[c2];exact Ext.refl _ _ _⟩
    cases hs
theorem gk.trans{s1 s2:S}{F1:Nat->Prop}{G1:Nat->Value}{w1:World}(hx:Ext (Own G s.rg) (Own G1 s1.rg) F F1 w w1){a':Act}{w':World}(hp:gk Q T F1 G1 w1 s1 s2 a' w'):gk Q T F G w s s2 a' w':=by obtain⟨F',G',h1,h2⟩:=hp;exact⟨F',G',h1,hx.trans h2⟩
theorem ko(iQ:jc Q T.w0 cf){ops:List Oper}{Q':Exit->Act->World->Prop}: ∀(l:List Oper) (F:Nat->Prop) (G:Nat->Value) (w:World) (a:Act) (s s':S),aq Q T F G w a s->bA Q cf ops l s=some s'->
  (∀a' w',gk Q T F G w s s' a' w'->Q' .normal a' w')->wpListIn (wd r) 0 Q ops.toArray Q' l a w
 | [],F,G,w,a,s,s',h,hs,hK=>by simp[bA] at hs;subst hs;exact hK a w ⟨F,G,h,Ext.refl _ _ _⟩
 |o::l,F,G,w,a,s,s',h,hs,hK=>by
  simp only[bA] at hs;split at hs
  next s1 h1=>have gH:=iR iQ h h1 (r:=r) (K:=wpListIn (wd r) 0 Q ops.toArray Q' l) (Q':=Q') (λa' w' ⟨F',G',g1,g2⟩=>ko iQ l F' G' w' a' s1 s' g1 hs (λa2 w2 hp=>hK a2 w2 (hp.trans g2)));exact q5 gH
  cases hs
end
end Pi
