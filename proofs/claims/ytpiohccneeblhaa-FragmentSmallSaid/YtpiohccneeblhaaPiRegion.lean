/- The text PiRegion. -/
import Derived.Test.YtpiohccneeblhaaPiWd
import Derived.WalkMore
namespace Pi
open Go
section
variable{Q:Program}{T:Tg}{F:Nat->Prop}{G:Nat->Value}{w:World}{a:Act}{s:S}{cf:CF}{r:Option Nat}
def fh(Q:Program)(T:Tg)(F:Nat->Prop)(G:Nat->Value)(w:World)(s s':S)(a':Act)(w':World):Prop:=
 ∃F' G',aq Q T F' G' w' a' s'/\Ext (Own G s.rg) (Own G' s'.rg) F F' w w'
theorem tX{g:Option (Nat×Bool)}{o:Oper}{s':S}(hs:exec Q s o g=some s'): ∀c,o.op≠ .defer c:=by intro c hc;unfold exec fA lN bT at hs;simp only[hc] at hs;simp[pv,ef,hc] at hs
theorem ny{o:Oper}{v:Value}{w':World}(hd: ∀c,o.op≠ .defer c)(h:JR Q o a w v w'){K:Act->World->Prop}{Q':Exit->Act->World->Prop}(hK:K (a.put o.dst v) w'):o.wpIn (wd r) 0 Q a w K Q':=by
 refine mJ hd ?_;rcases h with h | ⟨h,rfl⟩
 ·rw[h];exact hK
 rw[h];exact hK
theorem vV(fG:cL Q T.w0 cf)(h:aq Q T F G w a s){g:Option (Nat×Bool)}(hg:ig a g){o:Oper}{s':S}(hs:dL Q cf s o g=some s'){K:Act->World->Prop}{Q':Exit->Act->World->Prop}
  (hK: ∀a' w',fh Q T F G w s s' a' w'->K a' w'):o.wpIn (wd r) 0 Q a w K Q':=by
 unfold dL at hs;split at hs
 next f xs hc=>
  unfold dU at hc;split at hc
  next c ho=>
   split at hc
   ·rename_i f' fR;simp at hc;obtain⟨rfl,rfl⟩:=hc;obtain⟨fN,cs,MF,iG⟩:=Ay fG h hs (aB h hg f') (vs:=c.args.toList.map a.eval) (by simp) (λi v p hv hp=>by rw[zai] at hv hp;simp only[zaj] at hv hp;obtain⟨x,hx,rfl⟩:=hv;obtain⟨y,hy,rfl⟩:=hp;rw[hx] at hy;cases hy;exact aB h hg x);have aX:(execOp a.eval o).run Q w=(callFunc fN ⟨c.args.toList.map a.eval++cs⟩).run Q w:=by
     have e:(c.args.map a.eval)++(⟨cs⟩:Array Value)=⟨c.args.toList.map a.eval++cs⟩:=by apply za1.1;simp
     simp[execOp,ho,resolve,fR,MF,Deferred.ofValue,invoke,e]
    refine mJ (λc' tU=>by rw[ho] at tU;cases tU) ?_;rw[aX];rcases iG with⟨h1,h2⟩| ⟨v,w',h1,F',G',h2,h3⟩
    ·rw[h1];refine⟨λh=>(by cases h),(qb h2).mono λe w' ⟨v,he,F',G',h3,h4⟩=> ?_⟩;subst he;exact hK _ _ ⟨F',G',h3,h4⟩
    rw[h1];exact hK _ _ ⟨F',G',h2,h3⟩
   cases hc
  cases hc
 obtain⟨v,w',F',G',h1,h2,h3⟩:=E0 h hg hs;exact ny (tX hs) h1 (hK _ _ ⟨F',G',h2,h3⟩)
theorem vW{ops:List Oper}{j t:Nat}{oj:Oper}(hj:ops[j]?=some oj)(ht:oj.dst=some t)(tmps:Array Value)(b:Bool):yielded ops.toArray tmps j=some b↔tmps[t]?=some (.bool b):=by
 unfold yielded;simp only[List.getElem?_toArray,hj,zam,ht];cases tmps[t]? with
 |none=>simp
 |some v=>cases v<;>simp
theorem gq(fG:cL Q T.w0 cf)(h:aq Q T F G w a s){ops:List Oper}{o:Oper}{s':S}(hs:aM Q cf ops s o=some s'){K:Act->World->Prop}{Q':Exit->Act->World->Prop}
  (hK: ∀a' w',fh Q T F G w s s' a' w'->K a' w'):if Region.wanted o (yielded ops.toArray a.tmps) then o.wpIn (wd r) 0 Q a w K Q' else K (a.put o.dst undef) w:=by
 unfold aM at hs;unfold aG at hs;cases Bx:o.guard with
 |none=>simp only[Bx] at hs;simp only[Region.wanted,Bx,zaT];exact vV fG h (g:=none) trivial hs hK
 |some jw=>
  obtain⟨j,want⟩:=jw;simp only[Bx] at hs;simp only[Region.wanted,Bx];cases hj:ops[j]? with
  |none=>simp[hj] at hs
  |some oj=>
   cases ht:oj.dst with
   |none=>simp[hj,ht] at hs
   |some t=>
    simp only[hj,ht] at hs;have hy:=λb=>vW hj ht a.tmps b;split at hs
    ·rename_i b hb;have hval:a.tmps.getD t undef= .bool b:=by have:=h.tm t _ hb;exact ao.br (p:= .d (.bool b)) this rfl
     have bj:=ED (a:=a) hval (by simp[undef]);have hv:a.tmps[t]?=some (.bool b):=by simp[Array.getD,bj] at hval;simp[bj,hval]
     split at hs
     ·rename_i Hm;have Hm:b=want:=by simpa using Hm
      subst Hm;have JZ:(yielded ops.toArray a.tmps j==some b)=true:=by rw[(hy b).2 hv];simp
      simp only[JZ,zaT];exact vV fG h (g:=some (t,b)) hv hs hK
     rename_i Hm;have Hm:b≠want:=by simpa using Hm
     have JZ:(yielded ops.toArray a.tmps j==some want)=false:=by rw[(hy b).2 hv];simp[Hm]
     simp only[JZ,zar,za3];obtain⟨c1,c2⟩:=bc (p:= .skip) h hs (v:=undef) rfl;exact hK _ _ ⟨F,G,c1,by rw[c2];exact Ext.refl _ _ _⟩
    ·rename_i t' b' q hb;have hval:a.tmps.getD t undef=undef:=h.tm t _ hb;have bg:a.tmps[t]?≠some (.bool want):=λe=>by
      have:a.tmps.getD t undef= .bool want:=by simp[zav,e]
      rw[hval] at this;cases this
     have JZ:(yielded ops.toArray a.tmps j==some want)=false:=by
      cases MG:yielded ops.toArray a.tmps j==some want with
      |false=>rfl
      |true=>exact absurd ((hy want).1 (by simpa using MG)) bg
     simp only[JZ,zar,za3];obtain⟨c1,c2⟩:=bc (p:= .skip) h hs (v:=undef) rfl;exact hK _ _ ⟨F,G,c1,by rw[c2];exact Ext.refl _ _ _⟩
    cases hs
theorem fh.trans{s1 s2:S}{F1:Nat->Prop}{G1:Nat->Value}{w1:World}(hx:Ext (Own G s.rg) (Own G1 s1.rg) F F1 w w1){a':Act}{w':World}(hp:fh Q T F1 G1 w1 s1 s2 a' w'):fh Q T F G w s s2 a' w':=by obtain⟨F',G',h1,h2⟩:=hp;exact⟨F',G',h1,hx.trans h2⟩
theorem mK(fG:cL Q T.w0 cf){ops:List Oper}{Q':Exit->Act->World->Prop}: ∀(l:List Oper) (F:Nat->Prop) (G:Nat->Value) (w:World) (a:Act) (s s':S),aq Q T F G w a s->cn Q cf ops l s=some s'->
  (∀a' w',fh Q T F G w s s' a' w'->Q' .normal a' w')->wpListIn (wd r) 0 Q ops.toArray Q' l a w
 | [],F,G,w,a,s,s',h,hs,hK=>by simp[cn] at hs;subst hs;exact hK a w ⟨F,G,h,Ext.refl _ _ _⟩
 |o::l,F,G,w,a,s,s',h,hs,hK=>by
  simp only[cn] at hs;split at hs
  next s1 h1=>have iO:=gq fG h h1 (r:=r) (K:=wpListIn (wd r) 0 Q ops.toArray Q' l) (Q':=Q') (λa' w' ⟨F',G',g1,g2⟩=>mK fG l F' G' w' a' s1 s' g1 hs (λa2 w2 hp=>hK a2 w2 (hp.trans g2)));exact du iO
  cases hs
end
end Pi
