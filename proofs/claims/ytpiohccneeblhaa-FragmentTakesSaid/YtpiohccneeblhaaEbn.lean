/- The texts PiLaw PiX. -/
import Derived.Test.YtpiohccneeblhaaPiTop
namespace Pi
open Go Go.ChangeShapes Go.WideShapes Go.RowKit
def ye(Q:Program)(m:Nat)(t:TypeId)(x:D):Prop:=Fit Q m t x.cells/\((cn Q t=true/\ ∃cs,x= .agg cs)\/(cn Q t=false/\x.aK=true))
def l0(Q:Program)(m:Nat):List TypeId->List D->Prop
 | [],[]=>True
 |t::ts,x::xs=>ye Q m t x/\l0 Q m ts xs
 |_,_=>False
section
variable{Q:Program}{m:Nat}{t:TypeId}{x:D}
theorem yf{e:TypeId}{k:Nat}(hu:Q.underlying t=some (.slice e))(hk:Q.cellsOf e=k)(h:ye Q (m+1) t x): ∃es,x= .sl k es/\es.length<=maxLen/\ ∀y∈es,ye Q m e y:=by
 obtain⟨h1,h2⟩:=h;unfold Fit at h1;rw[hu] at h1;obtain⟨es,hb,hw,hy⟩:=h1;subst hk;rcases h2 with⟨ha,cs,rfl⟩| ⟨_,hc⟩
 ·simp[cn,hu] at ha
 refine⟨es,?_,hw,hy⟩;cases x<;>simp_all [D.cells,D.aK]
theorem wj{fs:Array Field}{k:Nat}(hu:Q.underlying t=some (.struct fs))(hk:Q.cellsOf t=k)(h:ye Q (m+1) t x): ∃cs,x= .agg cs/\cs.length=k/\ ∀f∈fs.toList,Fit Q m f.type ((cs.drop f.offset).take (Q.cellsOf f.type)):=by
 obtain⟨h1,h2⟩:=h;unfold Fit at h1;rw[hu] at h1;subst hk;rcases h2 with⟨ha,cs,rfl⟩| ⟨ha,hc⟩
 ·exact⟨cs,rfl,h1.1,h1.2⟩
 simp[cn,hu] at ha
theorem o7{k:IntKind}{c:D}(hu:Q.underlying t=some (.int k))(h:Fit Q (m+1) t [c]): ∃n,c= .int k n/\(Lit.int k n).wf=true:=by unfold Fit at h;rw[hu] at h;obtain⟨b,hb,hw⟩:=h;exact⟨b,by simpa using hb,hw⟩
theorem E3{c:D}(hu:Q.underlying t=some .string)(h:Fit Q (m+1) t [c]): ∃l,c= .str l/\l.length<=maxLen:=by unfold Fit at h;rw[hu] at h;obtain⟨b,hb,hw⟩:=h;exact⟨b,by simpa using hb,hw⟩
end
section
variable{H:Type}{enc:TypeId×Value->H}{Q:Program}{w:World}
theorem AI{v c:Value}(h:v.cells.toList=[c])(hv: ∀cs,v≠ .agg cs):v=c:=by cases v<;>first |exact absurd rfl (hv _)| (simp[Value.cells] at h;exact h)
theorem E4{m:Nat}{t:TypeId}{v:Value}{d:DataW H}{ps:List MemPlace}{base:Nat}(hp:gW Q m t=true)(fK:Value.okWide Q w .any base t v)(h:DataW.Trod enc Q w 0 (λ_=>true) true t v d ps):
  ∃x,az (· <w.heap.size) w v x/\ye Q m t x:=by
 obtain⟨n,hn⟩:=h;obtain⟨xs,hr,hf⟩:=CV m n t _ _ hn hp;cases ha:cn Q t with
 |true=>
  have hv: ∃cs,v= .agg cs:=by
   rw[uj] at ha;unfold Value.okWide at fK;split at ha
   next hu=>rw[hu] at fK;obtain⟨cs,rfl,_⟩:=fK;exact⟨cs,rfl⟩
   next hu=>rw[hu] at fK;obtain⟨cs,rfl,_⟩:=fK;exact⟨cs,rfl⟩
   cases ha
  obtain⟨⟨cs⟩,rfl⟩:=hv;exact⟨.agg xs,.agg cs xs hr.1.symm hr.2.1 hr.2.2,hf,.inl ⟨ha,_,rfl⟩⟩
 |false=>
  obtain⟨c,rfl⟩:=wi hf ha;have hv: ∀cs,v≠ .agg cs:=by
   intro cs e;subst e;cases m with
   |zero=>exact hf.elim
   |succ m=>
    unfold gW at hp;unfold Value.okWide at fK;split at hp
    next hu=>simp[hu,Cell.okWide,Cell.ok] at fK
    next hu=>simp[hu,Cell.okWide,Cell.ok] at fK
    next hu=>simp[hu,Cell.okWide,Cell.ok] at fK
    next hu=>simp[hu,Cell.okWide,Cell.ok] at fK
    next hu=>rw[uj,hu] at ha;cases ha
    cases hp
  have hl:=hr.1;obtain⟨u,hu⟩: ∃u,v.cells.toList=[u]:=by
   cases hc:v.cells.toList with
   |nil=>rw[hc] at hl;simp at hl
   |cons u r=>rw[hc] at hl;simp at hl;subst hl;exact⟨u,rfl⟩
  have e:=AI hu hv;subst e;have hc:=hr.2.1 c (by simp);have fO:c.cells=[c]:=by cases c<;>first |rfl |simp[D.aK] at hc
  exact⟨c,hr.2.2 0 v c (by rw[hu];rfl) rfl,by rw[fO];exact hf,.inr ⟨ha,hc⟩⟩
theorem wk{m base:Nat}: ∀(ts:List TypeId) (vs:List Value) (ds:List (DataW H)) (ps:List MemPlace),(∀t∈ts,gW Q m t=true)->(∀(j:Nat) t v,ts[j]?=some t->vs[j]?=some v->Value.okWide Q w .any base t v)->
  DataW.TrodAll enc Q w 0 (λ_=>true) true ts vs ds ps-> ∃xs,xs.length=vs.length/\(∀(i:Nat) v x,vs[i]?=some v->xs[i]?=some x->az (· <w.heap.size) w v x)/\l0 Q m ts xs
 | [],vs,ds,ps,_,_,h=>by obtain⟨rfl,_,_⟩:=trodAll_nil h;exact⟨[],rfl,λi v x h1=>by simp at h1,trivial⟩
 |t::ts,vs,ds,ps,hp,fK,h=>by
  obtain⟨v,JE,d,JF,p,q,rfl,rfl,rfl,h1,h2⟩:=trodAll_cons h;obtain⟨x,g1,g2⟩:=E4 (hp t (by simp)) (fK 0 t v rfl rfl) h1;obtain⟨xs,k1,k2,k3⟩:=wk ts JE JF q (λu hu=>hp u (by simp[hu])) (λj u v' hu hv=>fK (j+1) u v' (by simpa using hu) (by simpa using hv)) h2;refine⟨x::xs,by simp[k1],λi v' y hv hy=> ?_,g2,k3⟩;cases i with
  |zero=>simp at hv hy;subst hv;subst hy;exact g1
  |succ i=>exact k2 i v' y (by simpa using hv) (by simpa using hy)
theorem sL{W W':World}(hl:laidOutB Q=true)(hb:Below W.heap.size W W'){sp:Nat->Bool}: ∀(ts:List TypeId) (vs:List Value) (ds:List (DataW H)) (ps:List MemPlace),(∀t∈ts,Q.readableRec t=true/\t<Q.types.size)->
  DataW.TrodAll enc Q W 0 (λ_=>true) true ts vs ds ps->(∀p∈ps,p.block<W.heap.size)->(∀p∈ps,sp p.block=true)->DataW.TrodAll enc Q W' 0 sp true ts vs ds ps
 | [],vs,ds,ps,_,h,_,_=>by obtain⟨rfl,rfl,rfl⟩:=trodAll_nil h;exact trodAll_mk0
 |t::ts,vs,ds,ps,hr,h,bj,xy=>by obtain⟨v,JE,d,JF,p,q,rfl,rfl,rfl,h1,h2⟩:=trodAll_cons h;refine⟨p,q,WideElems.Trod_stays hl (hr t (by simp)).1 (hr t (by simp)).2 h1 (λx hx=>hb.same (bj x (by simp[hx]))) (λx hx=>xy x (by simp[hx])),?_,rfl⟩;exact sL hl hb ts JE JF q (λu hu=>hr u (by simp[hu])) h2 (λx hx=>bj x (by simp[hx])) (λx hx=>xy x (by simp[hx]))
theorem CX{f:Func}{s:ChangeSpec}{apart fresh handsOn again:Bool}{W W':World}{args:Array Value}{ds gs:List (DataW H)}{before:List MemPlace}{tb:TypeId}(hl:laidOutB Q=true)(hb:Below W.heap.size W W')
  (CY: ∀t∈f.params.toList,Q.readableRec t=true/\t<Q.types.size) (wm:s.vars=[]) (wo:f.resultTypes= #[tb]) (K3:Q.underlying tb=some .bool)
  (pJ:s.fn H ds={results:=[.lit (.bool true)],args:=ds})
  (hW:DataW.Whole enc Q f.params.toList s.vars apart W args.toList ds gs before):s.post enc Q f apart fresh handsOn again W args (.bool true) W':=by
 have N6:=hW;obtain⟨p,q,hA,hV,rfl,hz,hn⟩:=hW;rw[wm] at hV;obtain⟨rfl,rfl⟩:=trodVars_none hV;have bj: ∀x∈p,x.block<W.heap.size:=λx hx=>by simpa using N6.lt x (by simpa using hx)
 have xy:s.fn H (ds++[])={results:=[.lit (.bool true)],args:=ds}:=by rw[zcs];exact pJ
 have res: ∀(b:Nat) (sp:Nat->Bool) (hd:Bool),DataW.TrodAll enc Q W' b sp hd f.resultTypes.toList ((Value.bool true).resultList f.resultTypes.size) [.lit (.bool true)] []:=λb sp hd=>by rw[wo];exact⟨[],[],shut_bool K3 true,rfl,rfl⟩
 have keep: ∀sp:Nat->Bool,(∀x∈p,sp x.block=true)->DataW.TrodAll enc Q W' 0 sp true f.params.toList args.toList ds p:=λsp hs=>sL hl hb _ _ _ _ CY hA bj hs;refine⟨ds,[],p++[],[],p,[],N6,?_,?_,?_,hb.frame _,λ_=>⟨?_,?_⟩⟩
 ·rw[xy];exact res _ _ _
 ·rw[xy];exact keep _ (λx hx=>by simpa using bj x hx)
 ·rw[xy,wm];rfl
 ·exact ok_one wo rfl (okWide_bool_mk K3 true)
 refine⟨_,[],p++[],⟨[]++p,[],trodAll_append (keep _ (λ_ _=>rfl)) (res _ _ _),by rw[wm];rfl,by simp,?_,?_⟩,λx hx _=>hx⟩
 ·intro b off hp;have KS:MemPlace.cell b off∈p:=by simpa using hp
  rw[hb.frozen (p:=⟨b,off,none⟩) (bj _ KS)];exact hz b off (by simpa using KS)
 intro ha;simpa using hn ha
end
theorem uk{Q:Program}{kp:tf}(hm:Q.follows .mixedOrders=true){lf k:Nat}{f:FuncId}{fn:Func}(fg:Q.funcs[f]?=some fn)(bX:fn.body.isSome=true)(iY:(fn.name== "runtime.NumGoroutine")=false)
  {xs:List D} {p:P} {R1:List (Nat×En)} (aX:dh Q kp lf k f (xs.map P.d) []=some (p,R1)) {w:World} (hX:cL Q {w with drawn:=0} kp.X) {vs:List Value} (hlen:xs.length=vs.length) (tA: ∀(i:Nat) v x,vs[i]?=some v->xs[i]?=some x->az (· <w.heap.size) w v x):
  Calls Q f ⟨vs⟩ w (λe w'=> ∃v F' G',e= .returned v/\ao F' w' G' R1 v p/\Below w.heap.size w w'):=by
 have hH:aL Q ⟨λ_=>undef,{w with drawn:=0},0,false⟩ (· <w.heap.size) (λ_=>undef) w []:=
  ⟨.nil,za1 _,λt p hp=>by simp[lk] at hp,λn e he=>by simp[lk] at he,λn m e e' b he=>by simp[lk] at he,λn e b he=>by simp[lk] at he,λb hb=>hb,λn e i he=>by simp[lk] at he,λb hb=>⟨hb,rfl⟩,za1 _,za1 _⟩
 have iF:=mM hX hm k f (xs.map P.d) [] p R1 aX (· <w.heap.size) (λ_=>undef) w vs hH (by simp[hlen]) (λi v c hv hc=>by
  rw[zah] at hc;cases hx:xs[i]? with
  |none=>rw[hx] at hc;cases hc
  |some x=>rw[hx] at hc;cases hc;exact .d (tA i v x hv hx))
 have nL:(callFunc f ⟨vs⟩).run Q w= .ok (.enter f ⟨vs⟩) w:=by
  simp[callFunc,fg];rw[zaC (by simpa using iY)];cases hb:fn.body with
  |none=>rw[hb] at bX;cases bX
  |some c=>simp
 rcases iF with⟨_,h⟩| ⟨v,w',h,_⟩
 ·refine h.mono λe w' ⟨v,he,F',G',h1,h2,h3⟩=>⟨v,F',G',he,h2,h3.os,h3.tape,h3.output,h3.size,λb hb=>h3.keep b hb (λ⟨n,e,he,_⟩=>by simp[lk] at he)⟩
 rw[nL] at h;cases h
theorem n0{H:Type}{enc:TypeId×Value->H}{Q:Program}{w:World}: ∀(ts:List TypeId) (vs:List Value) (ds:List (DataW H)) (ps:List MemPlace),DataW.TrodAll enc Q w 0 (λ_=>true) true ts vs ds ps->ds.length=ts.length
 | [],vs,ds,ps,h=>by obtain⟨_,rfl,_⟩:=trodAll_nil h;rfl
 |t::ts,vs,ds,ps,h=>by obtain⟨v,JE,d,JF,p,q,rfl,rfl,rfl,h1,h2⟩:=trodAll_cons h;simp[n0 ts JE JF q h2]
theorem um{Q:Program}{kp:tf}(hm:Q.follows .mixedOrders=true){m:Nat}{f:FuncId}{fn:Func}(fg:Q.funcs[f]?=some fn)(bX:fn.body.isSome=true)(iY:(fn.name== "runtime.NumGoroutine")=false)
  {H:Type} {enc:TypeId×Value->H} {s:ChangeSpec} {apart fresh handsOn again:Bool} {tb:TypeId} (hl:laidOutB Q=true) (CY: ∀t∈fn.params.toList,Q.readableRec t=true/\t<Q.types.size) (Hm: ∀t∈fn.params.toList,gW Q m t=true) (wm:s.vars=[]) (wo:fn.resultTypes= #[tb]) (K3:Q.underlying tb=some .bool)
  {W:World} (hX:cL Q {W with drawn:=0} kp.X) {base:Nat} {args:Array Value} {ds gs:List (DataW H)} {before:List MemPlace} (hval: ∀(j:Nat) t v,fn.params[j]?=some t->args[j]?=some v->Value.okWide Q W .any base t v)
  (hW:DataW.Whole enc Q fn.params.toList s.vars apart W args.toList ds gs before) (pJ: ∀ds:List (DataW H),ds.length=fn.params.toList.length->s.fn H ds={results:=[.lit (.bool true)],args:=ds})
  (aX: ∀xs,l0 Q m fn.params.toList xs-> ∃lf k R,dh Q kp lf k f (xs.map P.d) []=some (.d (.bool true),R)):
  Calls Q f args W λe W'=> ∃v,e= .returned v/\s.post enc Q fn apart fresh handsOn again W args v W':=by
 obtain⟨p,q,hA,hV,_⟩:=id hW;obtain⟨xs,h1,h2,h3⟩:=wk (Q:=Q) (w:=W) (base:=base) fn.params.toList args.toList ds p Hm (λj t v ht hv=>hval j t v (by simpa using ht) (by simpa using hv)) hA;obtain⟨lf,k,R,hR⟩:=aX xs h3;have hc:=uk hm fg bX iY hR hX (vs:=args.toList) h1 h2;refine hc.mono λe W' ⟨v,F',G',he,hp,hb⟩=>⟨v,he,?_⟩
 have:v= .bool true:=ao.bq (p:= .d (.bool true)) hp rfl;subst this;exact CX hl hb CY wm wo K3 (pJ ds (n0 _ _ _ _ hA)) hW
end Pi
namespace Pi
open Go Go.RowKit
section
variable{Q:Program}{w0 w:World}{F:Nat->Prop}{G:Nat->Value}{f:FuncId}{vs:List Value}
theorem aL.later{T:Tg}(h:aL Q T F G w []){w':World}(h0:T.w0.drawn=0)(hb:Below w.heap.size w w'):aL Q T F G w' []:=
 ⟨.nil,za1 _,λt p hp=>by simp[lk] at hp,λn e he=>by simp[lk] at he,λn m e e' b he=>by simp[lk] at he,λn e b he=>by simp[lk] at he,
  λb hf=>zaK (h.fw b hf) hb.size,λn e i he=>by simp[lk] at he,λb hz=>⟨(h.z b hz).1,(hb.block b (h.fw b (h.z b hz).1)).trans (h.z b hz).2⟩,by rw[h0];exact za1 _,zaN h.sz hb.size⟩
theorem E5(G:Nat->Value)(b:Nat): ¬Own G [] b:=λ⟨n,e,he,_⟩=>by simp[lk] at he
theorem AJ{T:Tg}(h0:T.w0.drawn=0)(hH:aL Q T F G w [])(hc:(callFunc f ⟨vs⟩).run Q w= .ok (.enter f ⟨vs⟩) w){p:P}
  (h:Calls Q f ⟨vs⟩ w λe w'=> ∃v,e= .returned v/\Below w.heap.size w w'/\ ∀F G,ao F w' G [] v p):
  bC Q f ⟨vs⟩ w (λv w'=> ∃F' G',aL Q T F' G' w' []/\ao F' w' G' [] v p/\Ext (Own G []) (Own G' []) F F' w w'):=by
 refine .inl ⟨hc,h.mono λe w' ⟨v,he,hb,hp⟩=>⟨v,he,F,G,hH.later h0 hb,hp F G,⟨λ_ h=>h,λ_ h=> .inl h,λb h=>absurd h (E5 G b),λb bj _=>hb.block b bj,hb.size,hb.os,hb.tape,hb.output⟩⟩⟩
end
end Pi
