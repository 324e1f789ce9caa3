/- The texts PiLaw PiX. -/
import Derived.Test.YtfelfooeclnbiaaPiTop
namespace Pi
open Go Go.ChangeShapes Go.WideShapes Go.RowKit
def ri(Q:Program)(m:Nat)(t:TypeId)(x:D):Prop:=Fit Q m t x.cells/\((bB Q t=true/\ ∃cs,x= .agg cs)\/(bB Q t=false/\x.aF=true))
def jG(Q:Program)(m:Nat):List TypeId->List D->Prop
 | [],[]=>True
 |t::ts,x::xs=>ri Q m t x/\jG Q m ts xs
 |_,_=>False
section
variable{Q:Program}{m:Nat}{t:TypeId}{x:D}
theorem rj{k:IntKind}(hu:Q.underlying t=some (.int k))(h:ri Q (m+1) t x): ∃n,x= .int k n/\(Lit.int k n).wf=true:=by
 obtain⟨h1,h2⟩:=h;unfold Fit at h1;rw[hu] at h1;obtain⟨b,hb,hw⟩:=h1;rcases h2 with⟨ha,cs,rfl⟩| ⟨_,hc⟩
 ·simp[bB,hu] at ha
 refine⟨b,?_,hw⟩;cases x<;>simp_all [D.cells,D.aF]
theorem xJ(hu:Q.underlying t=some .string)(h:ri Q (m+1) t x): ∃l,x= .str l/\l.length<=maxLen:=by
 obtain⟨h1,h2⟩:=h;unfold Fit at h1;rw[hu] at h1;obtain⟨b,hb,hw⟩:=h1;rcases h2 with⟨ha,cs,rfl⟩| ⟨_,hc⟩
 ·simp[bB,hu] at ha
 refine⟨b,?_,hw⟩;cases x<;>simp_all [D.cells,D.aF]
theorem sV{e:TypeId}{k:Nat}(hu:Q.underlying t=some (.slice e))(hk:Q.cellsOf e=k)(h:ri Q (m+1) t x): ∃es,x= .sl k es/\es.length<=maxLen/\ ∀y∈es,ri Q m e y:=by
 obtain⟨h1,h2⟩:=h;unfold Fit at h1;rw[hu] at h1;obtain⟨es,hb,hw,hy⟩:=h1;subst hk;rcases h2 with⟨ha,cs,rfl⟩| ⟨_,hc⟩
 ·simp[bB,hu] at ha
 refine⟨es,?_,hw,hy⟩;cases x<;>simp_all [D.cells,D.aF]
end
section
variable{H:Type}{enc:TypeId×Value->H}{Q:Program}{w:World}
theorem vq{v c:Value}(h:v.cells.toList=[c])(hv: ∀cs,v≠ .agg cs):v=c:=by cases v<;>first |exact absurd rfl (hv _)| (simp[Value.cells] at h;exact h)
theorem zr{m:Nat}{t:TypeId}{v:Value}{d:DataW H}{ps:List MemPlace}{base:Nat}(hp:eW Q m t=true)(iC:Value.okWide Q w .any base t v)(h:DataW.Trod enc Q w 0 (λ_=>true) true t v d ps):
  ∃x,az (· <w.heap.size) w v x/\ri Q m t x:=by
 obtain⟨n,hn⟩:=h;obtain⟨xs,hr,hf⟩:=xI m n t _ _ hn hp;cases ha:bB Q t with
 |true=>
  have hv: ∃cs,v= .agg cs:=by
   rw[pX] at ha;unfold Value.okWide at iC;split at ha
   next hu=>rw[hu] at iC;obtain⟨cs,rfl,_⟩:=iC;exact⟨cs,rfl⟩
   next hu=>rw[hu] at iC;obtain⟨cs,rfl,_⟩:=iC;exact⟨cs,rfl⟩
   cases ha
  obtain⟨⟨cs⟩,rfl⟩:=hv;exact⟨.agg xs,.agg cs xs hr.1.symm hr.2.1 hr.2.2,hf,.inl ⟨ha,_,rfl⟩⟩
 |false=>
  obtain⟨c,rfl⟩:=rh hf ha;have hv: ∀cs,v≠ .agg cs:=by
   intro cs e;subst e;cases m with
   |zero=>exact hf.elim
   |succ m=>
    unfold eW at hp;unfold Value.okWide at iC;split at hp
    next hu=>simp[hu,Cell.okWide,Cell.ok] at iC
    next hu=>simp[hu,Cell.okWide,Cell.ok] at iC
    next hu=>simp[hu,Cell.okWide,Cell.ok] at iC
    next hu=>simp[hu,Cell.okWide,Cell.ok] at iC
    next hu=>rw[pX,hu] at ha;cases ha
    cases hp
  have hl:=hr.1;obtain⟨u,hu⟩: ∃u,v.cells.toList=[u]:=by
   cases hc:v.cells.toList with
   |nil=>rw[hc] at hl;simp at hl
   |cons u r=>rw[hc] at hl;simp at hl;subst hl;exact⟨u,rfl⟩
  have e:=vq hu hv;subst e;have hc:=hr.2.1 c (by simp);have fQ:c.cells=[c]:=by cases c<;>first |rfl |simp[D.aF] at hc
  exact⟨c,hr.2.2 0 v c (by rw[hu];rfl) rfl,by rw[fQ];exact hf,.inr ⟨ha,hc⟩⟩
theorem rk{m base:Nat}: ∀(ts:List TypeId) (vs:List Value) (ds:List (DataW H)) (ps:List MemPlace),(∀t∈ts,eW Q m t=true)->(∀(j:Nat) t v,ts[j]?=some t->vs[j]?=some v->Value.okWide Q w .any base t v)->
  DataW.TrodAll enc Q w 0 (λ_=>true) true ts vs ds ps-> ∃xs,xs.length=vs.length/\(∀(i:Nat) v x,vs[i]?=some v->xs[i]?=some x->az (· <w.heap.size) w v x)/\jG Q m ts xs
 | [],vs,ds,ps,_,_,h=>by obtain⟨rfl,_,_⟩:=trodAll_nil h;exact⟨[],rfl,λi v x h1=>by simp at h1,trivial⟩
 |t::ts,vs,ds,ps,hp,iC,h=>by
  obtain⟨v,CU,d,CV,p,q,rfl,rfl,rfl,h1,h2⟩:=trodAll_cons h;obtain⟨x,g1,g2⟩:=zr (hp t (by simp)) (iC 0 t v rfl rfl) h1;obtain⟨xs,k1,k2,k3⟩:=rk ts CU CV q (λu hu=>hp u (by simp[hu])) (λj u v' hu hv=>iC (j+1) u v' (by simpa using hu) (by simpa using hv)) h2;refine⟨x::xs,by simp[k1],λi v' y hv hy=> ?_,g2,k3⟩;cases i with
  |zero=>simp at hv hy;subst hv;subst hy;exact g1
  |succ i=>exact k2 i v' y (by simpa using hv) (by simpa using hy)
theorem oQ{W W':World}(hl:laidOutB Q=true)(hb:Below W.heap.size W W'){sp:Nat->Bool}: ∀(ts:List TypeId) (vs:List Value) (ds:List (DataW H)) (ps:List MemPlace),(∀t∈ts,Q.readableRec t=true/\t<Q.types.size)->
  DataW.TrodAll enc Q W 0 (λ_=>true) true ts vs ds ps->(∀p∈ps,p.block<W.heap.size)->(∀p∈ps,sp p.block=true)->DataW.TrodAll enc Q W' 0 sp true ts vs ds ps
 | [],vs,ds,ps,_,h,_,_=>by obtain⟨rfl,rfl,rfl⟩:=trodAll_nil h;exact trodAll_mk0
 |t::ts,vs,ds,ps,hr,h,bA,vJ=>by obtain⟨v,CU,d,CV,p,q,rfl,rfl,rfl,h1,h2⟩:=trodAll_cons h;refine⟨p,q,WideElems.Trod_stays hl (hr t (by simp)).1 (hr t (by simp)).2 h1 (λx hx=>hb.same (bA x (by simp[hx]))) (λx hx=>vJ x (by simp[hx])),?_,rfl⟩;exact oQ hl hb ts CU CV q (λu hu=>hr u (by simp[hu])) h2 (λx hx=>bA x (by simp[hx])) (λx hx=>vJ x (by simp[hx]))
theorem xK{f:Func}{s:ChangeSpec}{apart fresh handsOn again:Bool}{W W':World}{args:Array Value}{ds gs:List (DataW H)}{before:List MemPlace}{tb:TypeId}(hl:laidOutB Q=true)(hb:Below W.heap.size W W')
  (Bh: ∀t∈f.params.toList,Q.readableRec t=true/\t<Q.types.size) (rl:s.vars=[]) (zs:f.resultTypes= #[tb]) (DP:Q.underlying tb=some .bool)
  (mw:s.fn H ds={results:=[.lit (.bool true)],args:=ds})
  (hW:DataW.Whole enc Q f.params.toList s.vars apart W args.toList ds gs before):s.post enc Q f apart fresh handsOn again W args (.bool true) W':=by
 have Gr:=hW;obtain⟨p,q,hA,hV,rfl,hz,hn⟩:=hW;rw[rl] at hV;obtain⟨rfl,rfl⟩:=trodVars_none hV;have bA: ∀x∈p,x.block<W.heap.size:=λx hx=>by simpa using Gr.lt x (by simpa using hx)
 have vJ:s.fn H (ds++[])={results:=[.lit (.bool true)],args:=ds}:=by rw[zca];exact mw
 have res: ∀(b:Nat) (sp:Nat->Bool) (hd:Bool),DataW.TrodAll enc Q W' b sp hd f.resultTypes.toList ((Value.bool true).resultList f.resultTypes.size) [.lit (.bool true)] []:=λb sp hd=>by rw[zs];exact⟨[],[],shut_bool DP true,rfl,rfl⟩
 have keep: ∀sp:Nat->Bool,(∀x∈p,sp x.block=true)->DataW.TrodAll enc Q W' 0 sp true f.params.toList args.toList ds p:=λsp hs=>oQ hl hb _ _ _ _ Bh hA bA hs;refine⟨ds,[],p++[],[],p,[],Gr,?_,?_,?_,hb.frame _,λ_=>⟨?_,?_⟩⟩
 ·rw[vJ];exact res _ _ _
 ·rw[vJ];exact keep _ (λx hx=>by simpa using bA x hx)
 ·rw[vJ,rl];rfl
 ·exact ok_one zs rfl (okWide_bool_mk DP true)
 refine⟨_,[],p++[],⟨[]++p,[],trodAll_append (keep _ (λ_ _=>rfl)) (res _ _ _),by rw[rl];rfl,by simp,?_,?_⟩,λx hx _=>hx⟩
 ·intro b off hp;have Gs:MemPlace.cell b off∈p:=by simpa using hp
  rw[hb.frozen (p:=⟨b,off,none⟩) (bA _ Gs)];exact hz b off (by simpa using Gs)
 intro ha;simpa using hn ha
end
theorem pY{Q:Program}{kp:rT}(hm:Q.follows .mixedOrders=true){lf k:Nat}{f:FuncId}{fn:Func}(jt:Q.funcs[f]?=some fn)(gA:fn.body.isSome=true)(lx:(fn.name== "runtime.NumGoroutine")=false)
  {xs:List D} {p:P} {R1:List (Nat×En)} (a8:dN Q kp lf k f (xs.map P.d) []=some (p,R1)) {w:World} (hX:iR Q {w with drawn:=0} kp.X) {vs:List Value} (hlen:xs.length=vs.length) (r5: ∀(i:Nat) v x,vs[i]?=some v->xs[i]?=some x->az (· <w.heap.size) w v x):
  Calls Q f ⟨vs⟩ w (λe w'=> ∃v F' G',e= .returned v/\ao F' w' G' R1 v p/\Below w.heap.size w w'):=by
 have hH:dO Q ⟨λ_=>undef,{w with drawn:=0},0,false⟩ (· <w.heap.size) (λ_=>undef) w []:=
  ⟨.nil,za0 _,λt p hp=>by simp[lk] at hp,λn e he=>by simp[lk] at he,λn m e e' b he=>by simp[lk] at he,λn e b he=>by simp[lk] at he,λb hb=>hb,λn e i he=>by simp[lk] at he,λb hb=>⟨hb,rfl⟩,za0 _,za0 _⟩
 have mv:=tR hX hm k f (xs.map P.d) [] p R1 a8 (· <w.heap.size) (λ_=>undef) w vs hH (by simp[hlen]) (λi v c hv hc=>by
  rw[zao] at hc;cases hx:xs[i]? with
  |none=>rw[hx] at hc;cases hc
  |some x=>rw[hx] at hc;cases hc;exact .d (r5 i v x hv hx))
 have mI:(callFunc f ⟨vs⟩).run Q w= .ok (.enter f ⟨vs⟩) w:=by
  simp[callFunc,jt];rw[zay (by simpa using lx)];cases hb:fn.body with
  |none=>rw[hb] at gA;cases gA
  |some c=>simp
 rcases mv with⟨_,h⟩| ⟨v,w',h,_⟩
 ·refine h.mono λe w' ⟨v,he,F',G',h1,h2,h3⟩=>⟨v,F',G',he,h2,h3.os,h3.tape,h3.output,h3.size,λb hb=>h3.keep b hb (λ⟨n,e,he,_⟩=>by simp[lk] at he)⟩
 rw[mI] at h;cases h
theorem lD{H:Type}{enc:TypeId×Value->H}{Q:Program}{w:World}: ∀(ts:List TypeId) (vs:List Value) (ds:List (DataW H)) (ps:List MemPlace),DataW.TrodAll enc Q w 0 (λ_=>true) true ts vs ds ps->ds.length=ts.length
 | [],vs,ds,ps,h=>by obtain⟨_,rfl,_⟩:=trodAll_nil h;rfl
 |t::ts,vs,ds,ps,h=>by obtain⟨v,CU,d,CV,p,q,rfl,rfl,rfl,h1,h2⟩:=trodAll_cons h;simp[lD ts CU CV q h2]
theorem pZ{Q:Program}{kp:rT}(hm:Q.follows .mixedOrders=true){m:Nat}{f:FuncId}{fn:Func}(jt:Q.funcs[f]?=some fn)(gA:fn.body.isSome=true)(lx:(fn.name== "runtime.NumGoroutine")=false)
  {H:Type} {enc:TypeId×Value->H} {s:ChangeSpec} {apart fresh handsOn again:Bool} {tb:TypeId} (hl:laidOutB Q=true) (Bh: ∀t∈fn.params.toList,Q.readableRec t=true/\t<Q.types.size) (Bi: ∀t∈fn.params.toList,eW Q m t=true) (rl:s.vars=[]) (zs:fn.resultTypes= #[tb]) (DP:Q.underlying tb=some .bool)
  {W:World} (hX:iR Q {W with drawn:=0} kp.X) {base:Nat} {args:Array Value} {ds gs:List (DataW H)} {before:List MemPlace} (hval: ∀(j:Nat) t v,fn.params[j]?=some t->args[j]?=some v->Value.okWide Q W .any base t v)
  (hW:DataW.Whole enc Q fn.params.toList s.vars apart W args.toList ds gs before) (mw: ∀ds:List (DataW H),ds.length=fn.params.toList.length->s.fn H ds={results:=[.lit (.bool true)],args:=ds})
  (a8: ∀xs,jG Q m fn.params.toList xs-> ∃lf k R,dN Q kp lf k f (xs.map P.d) []=some (.d (.bool true),R)):
  Calls Q f args W λe W'=> ∃v,e= .returned v/\s.post enc Q fn apart fresh handsOn again W args v W':=by
 obtain⟨p,q,hA,hV,_⟩:=id hW;obtain⟨xs,h1,h2,h3⟩:=rk (Q:=Q) (w:=W) (base:=base) fn.params.toList args.toList ds p Bi (λj t v ht hv=>hval j t v (by simpa using ht) (by simpa using hv)) hA;obtain⟨lf,k,R,hR⟩:=a8 xs h3;have hc:=pY hm jt gA lx hR hX (vs:=args.toList) h1 h2;refine hc.mono λe W' ⟨v,F',G',he,hp,hb⟩=>⟨v,he,?_⟩
 have:v= .bool true:=ao.aX (p:= .d (.bool true)) hp rfl;subst this;exact xK hl hb Bh rl zs DP (mw ds (lD _ _ _ _ hA)) hW
end Pi
namespace Pi
open Go Go.RowKit
section
variable{Q:Program}{w0 w:World}{F:Nat->Prop}{G:Nat->Value}{f:FuncId}{vs:List Value}
theorem dO.later{T:Tg}(h:dO Q T F G w []){w':World}(h0:T.w0.drawn=0)(hb:Below w.heap.size w w'):dO Q T F G w' []:=
 ⟨.nil,za0 _,λt p hp=>by simp[lk] at hp,λn e he=>by simp[lk] at he,λn m e e' b he=>by simp[lk] at he,λn e b he=>by simp[lk] at he,
  λb hf=>zbm (h.gK b hf) hb.size,λn e i he=>by simp[lk] at he,λb hz=>⟨(h.z b hz).1,(hb.block b (h.gK b (h.z b hz).1)).trans (h.z b hz).2⟩,by rw[h0];exact za0 _,zaB h.sz hb.size⟩
theorem zt(G:Nat->Value)(b:Nat): ¬Own G [] b:=λ⟨n,e,he,_⟩=>by simp[lk] at he
theorem vr{T:Tg}(h0:T.w0.drawn=0)(hH:dO Q T F G w [])(hc:(callFunc f ⟨vs⟩).run Q w= .ok (.enter f ⟨vs⟩) w){p:P}
  (h:Calls Q f ⟨vs⟩ w λe w'=> ∃v,e= .returned v/\Below w.heap.size w w'/\ ∀F G,ao F w' G [] v p):
  gh Q f ⟨vs⟩ w (λv w'=> ∃F' G',dO Q T F' G' w' []/\ao F' w' G' [] v p/\Ext (Own G []) (Own G' []) F F' w w'):=by
 refine .inl ⟨hc,h.mono λe w' ⟨v,he,hb,hp⟩=>⟨v,he,F,G,hH.later h0 hb,hp F G,⟨λ_ h=>h,λ_ h=> .inl h,λb h=>absurd h (zt G b),λb bA _=>hb.block b bA,hb.size,hb.os,hb.tape,hb.output⟩⟩⟩
end
end Pi
