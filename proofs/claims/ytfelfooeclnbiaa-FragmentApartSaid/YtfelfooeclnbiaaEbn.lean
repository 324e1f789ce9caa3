/- The texts PiLaw PiX. -/
import Derived.Test.YtfelfooeclnbiaaPiTop
namespace Pi
open Go Go.ChangeShapes Go.WideShapes Go.RowKit
def xK(Q:Program)(m:Nat)(t:TypeId)(x:D):Prop:=Fit Q m t x.cells/\((bF Q t=true/\ ∃cs,x= .agg cs)\/(bF Q t=false/\x.aF=true))
def jP(Q:Program)(m:Nat):List TypeId->List D->Prop
 | [],[]=>True
 |t::ts,x::xs=>xK Q m t x/\jP Q m ts xs
 |_,_=>False
section
variable{Q:Program}{m:Nat}{t:TypeId}{x:D}
theorem xM{k:IntKind}(hu:Q.underlying t=some (.int k))(h:xK Q (m+1) t x): ∃n,x= .int k n/\(Lit.int k n).wf=true:=by
 obtain⟨h1,h2⟩:=h;unfold Fit at h1;rw[hu] at h1;obtain⟨b,hb,hw⟩:=h1;rcases h2 with⟨ha,cs,rfl⟩| ⟨_,hc⟩
 ·simp[bF,hu] at ha
 refine⟨b,?_,hw⟩;cases x<;>simp_all [D.cells,D.aF]
theorem rD(hu:Q.underlying t=some .string)(h:xK Q (m+1) t x): ∃l,x= .str l/\l.length<=maxLen:=by
 obtain⟨h1,h2⟩:=h;unfold Fit at h1;rw[hu] at h1;obtain⟨b,hb,hw⟩:=h1;rcases h2 with⟨ha,cs,rfl⟩| ⟨_,hc⟩
 ·simp[bF,hu] at ha
 refine⟨b,?_,hw⟩;cases x<;>simp_all [D.cells,D.aF]
end
section
variable{H:Type}{enc:TypeId×Value->H}{Q:Program}{w:World}
theorem vq{v c:Value}(h:v.cells.toList=[c])(hv: ∀cs,v≠ .agg cs):v=c:=by cases v<;>first |exact absurd rfl (hv _)| (simp[Value.cells] at h;exact h)
theorem zz{m:Nat}{t:TypeId}{v:Value}{d:DataW H}{ps:List MemPlace}{base:Nat}(hp:eV Q m t=true)(iN:Value.okWide Q w .any base t v)(h:DataW.Trod enc Q w 0 (λ_=>true) true t v d ps):
  ∃x,ax (· <w.heap.size) w v x/\xK Q m t x:=by
 obtain⟨n,hn⟩:=h;obtain⟨xs,hr,hf⟩:=xJ m n t _ _ hn hp;cases ha:bF Q t with
 |true=>
  have hv: ∃cs,v= .agg cs:=by
   rw[p5] at ha;unfold Value.okWide at iN;split at ha
   next hu=>rw[hu] at iN;obtain⟨cs,rfl,_⟩:=iN;exact⟨cs,rfl⟩
   next hu=>rw[hu] at iN;obtain⟨cs,rfl,_⟩:=iN;exact⟨cs,rfl⟩
   cases ha
  obtain⟨⟨cs⟩,rfl⟩:=hv;exact⟨.agg xs,.agg cs xs hr.1.symm hr.2.1 hr.2.2,hf,.inl ⟨ha,_,rfl⟩⟩
 |false=>
  obtain⟨c,rfl⟩:=rC hf ha;have hv: ∀cs,v≠ .agg cs:=by
   intro cs e;subst e;cases m with
   |zero=>exact hf.elim
   |succ m=>
    unfold eV at hp;unfold Value.okWide at iN;split at hp
    next hu=>simp[hu,Cell.okWide,Cell.ok] at iN
    next hu=>simp[hu,Cell.okWide,Cell.ok] at iN
    next hu=>simp[hu,Cell.okWide,Cell.ok] at iN
    next hu=>simp[hu,Cell.okWide,Cell.ok] at iN
    next hu=>rw[p5,hu] at ha;cases ha
    cases hp
  have hl:=hr.1;obtain⟨u,hu⟩: ∃u,v.cells.toList=[u]:=by
   cases hc:v.cells.toList with
   |nil=>rw[hc] at hl;simp at hl
   |cons u r=>rw[hc] at hl;simp at hl;subst hl;exact⟨u,rfl⟩
  have e:=vq hu hv;subst e;have hc:=hr.2.1 c (by simp);have fT:c.cells=[c]:=by cases c<;>first |rfl |simp[D.aF] at hc
  exact⟨c,hr.2.2 0 v c (by rw[hu];rfl) rfl,by rw[fT];exact hf,.inr ⟨ha,hc⟩⟩
theorem rE{m base:Nat}: ∀(ts:List TypeId) (vs:List Value) (ds:List (DataW H)) (ps:List MemPlace),(∀t∈ts,eV Q m t=true)->(∀(j:Nat) t v,ts[j]?=some t->vs[j]?=some v->Value.okWide Q w .any base t v)->
  DataW.TrodAll enc Q w 0 (λ_=>true) true ts vs ds ps-> ∃xs,xs.length=vs.length/\(∀(i:Nat) v x,vs[i]?=some v->xs[i]?=some x->ax (· <w.heap.size) w v x)/\jP Q m ts xs
 | [],vs,ds,ps,_,_,h=>by obtain⟨rfl,_,_⟩:=trodAll_nil h;exact⟨[],rfl,λi v x h1=>by simp at h1,trivial⟩
 |t::ts,vs,ds,ps,hp,iN,h=>by
  obtain⟨v,Dn,d,Dp,p,q,rfl,rfl,rfl,h1,h2⟩:=trodAll_cons h;obtain⟨x,g1,g2⟩:=zz (hp t (by simp)) (iN 0 t v rfl rfl) h1;obtain⟨xs,k1,k2,k3⟩:=rE ts Dn Dp q (λu hu=>hp u (by simp[hu])) (λj u v' hu hv=>iN (j+1) u v' (by simpa using hu) (by simpa using hv)) h2;refine⟨x::xs,by simp[k1],λi v' y hv hy=> ?_,g2,k3⟩;cases i with
  |zero=>simp at hv hy;subst hv;subst hy;exact g1
  |succ i=>exact k2 i v' y (by simpa using hv) (by simpa using hy)
theorem oW{W W':World}(hl:laidOutB Q=true)(hb:Below W.heap.size W W'){sp:Nat->Bool}: ∀(ts:List TypeId) (vs:List Value) (ds:List (DataW H)) (ps:List MemPlace),(∀t∈ts,Q.readableRec t=true/\t<Q.types.size)->
  DataW.TrodAll enc Q W 0 (λ_=>true) true ts vs ds ps->(∀p∈ps,p.block<W.heap.size)->(∀p∈ps,sp p.block=true)->DataW.TrodAll enc Q W' 0 sp true ts vs ds ps
 | [],vs,ds,ps,_,h,_,_=>by obtain⟨rfl,rfl,rfl⟩:=trodAll_nil h;exact trodAll_mk0
 |t::ts,vs,ds,ps,hr,h,bu,vH=>by obtain⟨v,Dn,d,Dp,p,q,rfl,rfl,rfl,h1,h2⟩:=trodAll_cons h;refine⟨p,q,WideElems.Trod_stays hl (hr t (by simp)).1 (hr t (by simp)).2 h1 (λx hx=>hb.same (bu x (by simp[hx]))) (λx hx=>vH x (by simp[hx])),?_,rfl⟩;exact oW hl hb ts Dn Dp q (λu hu=>hr u (by simp[hu])) h2 (λx hx=>bu x (by simp[hx])) (λx hx=>vH x (by simp[hx]))
theorem xN{f:Func}{s:ChangeSpec}{apart fresh handsOn again:Bool}{W W':World}{args:Array Value}{ds gs:List (DataW H)}{before:List MemPlace}{tb:TypeId}(hl:laidOutB Q=true)(hb:Below W.heap.size W W')
  (Bz: ∀t∈f.params.toList,Q.readableRec t=true/\t<Q.types.size) (rF:s.vars=[]) (zA:f.resultTypes= #[tb]) (Eu:Q.underlying tb=some .bool)
  (mF:s.fn H ds={results:=[.lit (.bool true)],args:=ds})
  (hW:DataW.Whole enc Q f.params.toList s.vars apart W args.toList ds gs before):s.post enc Q f apart fresh handsOn again W args (.bool true) W':=by
 have G5:=hW;obtain⟨p,q,hA,hV,rfl,hz,hn⟩:=hW;rw[rF] at hV;obtain⟨rfl,rfl⟩:=trodVars_none hV;have bu: ∀x∈p,x.block<W.heap.size:=λx hx=>by simpa using G5.lt x (by simpa using hx)
 have vH:s.fn H (ds++[])={results:=[.lit (.bool true)],args:=ds}:=by rw[zbZ];exact mF
 have res: ∀(b:Nat) (sp:Nat->Bool) (hd:Bool),DataW.TrodAll enc Q W' b sp hd f.resultTypes.toList ((Value.bool true).resultList f.resultTypes.size) [.lit (.bool true)] []:=λb sp hd=>by rw[zA];exact⟨[],[],shut_bool Eu true,rfl,rfl⟩
 have keep: ∀sp:Nat->Bool,(∀x∈p,sp x.block=true)->DataW.TrodAll enc Q W' 0 sp true f.params.toList args.toList ds p:=λsp hs=>oW hl hb _ _ _ _ Bz hA bu hs;refine⟨ds,[],p++[],[],p,[],G5,?_,?_,?_,hb.frame _,λ_=>⟨?_,?_⟩⟩
 ·rw[vH];exact res _ _ _
 ·rw[vH];exact keep _ (λx hx=>by simpa using bu x hx)
 ·rw[vH,rF];rfl
 ·exact ok_one zA rfl (okWide_bool_mk Eu true)
 refine⟨_,[],p++[],⟨[]++p,[],trodAll_append (keep _ (λ_ _=>rfl)) (res _ _ _),by rw[rF];rfl,by simp,?_,?_⟩,λx hx _=>hx⟩
 ·intro b off hp;have G6:MemPlace.cell b off∈p:=by simpa using hp
  rw[hb.frozen (p:=⟨b,off,none⟩) (bu _ G6)];exact hz b off (by simpa using G6)
 intro ha;simpa using hn ha
end
theorem p6{Q:Program}{kp:rS}(hm:Q.follows .mixedOrders=true){lf k:Nat}{f:FuncId}{fn:Func}(jD:Q.funcs[f]?=some fn)(gC:fn.body.isSome=true)(lE:(fn.name== "runtime.NumGoroutine")=false)
  {xs:List D} {p:P} {R1:List (Nat×En)} (aY:cW Q kp lf k f (xs.map P.d) []=some (p,R1)) {w:World} (hX:jc Q {w with drawn:=0} kp.X) {vs:List Value} (hlen:xs.length=vs.length) (sj: ∀(i:Nat) v x,vs[i]?=some v->xs[i]?=some x->ax (· <w.heap.size) w v x):
  Calls Q f ⟨vs⟩ w (λe w'=> ∃v F' G',e= .returned v/\ak F' w' G' R1 v p/\Below w.heap.size w w'):=by
 have hH:dK Q ⟨λ_=>undef,{w with drawn:=0},0,false⟩ (· <w.heap.size) (λ_=>undef) w []:=
  ⟨.nil,zaR _,λt p hp=>by simp[lk] at hp,λn e he=>by simp[lk] at he,λn m e e' b he=>by simp[lk] at he,λn e b he=>by simp[lk] at he,λb hb=>hb,λn e i he=>by simp[lk] at he,λb hb=>⟨hb,rfl⟩,zaR _,zaR _⟩
 have mE:=tZ hX hm k f (xs.map P.d) [] p R1 aY (· <w.heap.size) (λ_=>undef) w vs hH (by simp[hlen]) (λi v c hv hc=>by
  rw[zao] at hc;cases hx:xs[i]? with
  |none=>rw[hx] at hc;cases hc
  |some x=>rw[hx] at hc;cases hc;exact .d (sj i v x hv hx))
 have mR:(callFunc f ⟨vs⟩).run Q w= .ok (.enter f ⟨vs⟩) w:=by
  simp[callFunc,jD];rw[zav (by simpa using lE)];cases hb:fn.body with
  |none=>rw[hb] at gC;cases gC
  |some c=>simp
 rcases mE with⟨_,h⟩| ⟨v,w',h,_⟩
 ·refine h.mono λe w' ⟨v,he,F',G',h1,h2,h3⟩=>⟨v,F',G',he,h2,h3.os,h3.tape,h3.output,h3.size,λb hb=>h3.keep b hb (λ⟨n,e,he,_⟩=>by simp[lk] at he)⟩
 rw[mR] at h;cases h
theorem lK{H:Type}{enc:TypeId×Value->H}{Q:Program}{w:World}: ∀(ts:List TypeId) (vs:List Value) (ds:List (DataW H)) (ps:List MemPlace),DataW.TrodAll enc Q w 0 (λ_=>true) true ts vs ds ps->ds.length=ts.length
 | [],vs,ds,ps,h=>by obtain⟨_,rfl,_⟩:=trodAll_nil h;rfl
 |t::ts,vs,ds,ps,h=>by obtain⟨v,Dn,d,Dp,p,q,rfl,rfl,rfl,h1,h2⟩:=trodAll_cons h;simp[lK ts Dn Dp q h2]
theorem p7{Q:Program}{kp:rS}(hm:Q.follows .mixedOrders=true){m:Nat}{f:FuncId}{fn:Func}(jD:Q.funcs[f]?=some fn)(gC:fn.body.isSome=true)(lE:(fn.name== "runtime.NumGoroutine")=false)
  {H:Type} {enc:TypeId×Value->H} {s:ChangeSpec} {apart fresh handsOn again:Bool} {tb:TypeId} (hl:laidOutB Q=true) (Bz: ∀t∈fn.params.toList,Q.readableRec t=true/\t<Q.types.size) (BA: ∀t∈fn.params.toList,eV Q m t=true) (rF:s.vars=[]) (zA:fn.resultTypes= #[tb]) (Eu:Q.underlying tb=some .bool)
  {W:World} (hX:jc Q {W with drawn:=0} kp.X) {base:Nat} {args:Array Value} {ds gs:List (DataW H)} {before:List MemPlace} (hval: ∀(j:Nat) t v,fn.params[j]?=some t->args[j]?=some v->Value.okWide Q W .any base t v)
  (hW:DataW.Whole enc Q fn.params.toList s.vars apart W args.toList ds gs before) (mF: ∀ds:List (DataW H),ds.length=fn.params.toList.length->s.fn H ds={results:=[.lit (.bool true)],args:=ds})
  (aY: ∀xs,jP Q m fn.params.toList xs-> ∃lf k R,cW Q kp lf k f (xs.map P.d) []=some (.d (.bool true),R)):
  Calls Q f args W λe W'=> ∃v,e= .returned v/\s.post enc Q fn apart fresh handsOn again W args v W':=by
 obtain⟨p,q,hA,hV,_⟩:=id hW;obtain⟨xs,h1,h2,h3⟩:=rE (Q:=Q) (w:=W) (base:=base) fn.params.toList args.toList ds p BA (λj t v ht hv=>hval j t v (by simpa using ht) (by simpa using hv)) hA;obtain⟨lf,k,R,hR⟩:=aY xs h3;have hc:=p6 hm jD gC lE hR hX (vs:=args.toList) h1 h2;refine hc.mono λe W' ⟨v,F',G',he,hp,hb⟩=>⟨v,he,?_⟩
 have:v= .bool true:=ak.aW (p:= .d (.bool true)) hp rfl;subst this;exact xN hl hb Bz rF zA Eu (mF ds (lK _ _ _ _ hA)) hW
end Pi
namespace Pi
open Go Go.RowKit
section
variable{Q:Program}{w0 w:World}{F:Nat->Prop}{G:Nat->Value}{f:FuncId}{vs:List Value}
theorem dK.later{T:Tg}(h:dK Q T F G w []){w':World}(h0:T.w0.drawn=0)(hb:Below w.heap.size w w'):dK Q T F G w' []:=
 ⟨.nil,zaR _,λt p hp=>by simp[lk] at hp,λn e he=>by simp[lk] at he,λn m e e' b he=>by simp[lk] at he,λn e b he=>by simp[lk] at he,
  λb hf=>zbe (h.gQ b hf) hb.size,λn e i he=>by simp[lk] at he,λb hz=>⟨(h.z b hz).1,(hb.block b (h.gQ b (h.z b hz).1)).trans (h.z b hz).2⟩,by rw[h0];exact zaR _,zaB h.sz hb.size⟩
theorem zB(G:Nat->Value)(b:Nat): ¬Own G [] b:=λ⟨n,e,he,_⟩=>by simp[lk] at he
theorem vr{T:Tg}(h0:T.w0.drawn=0)(hH:dK Q T F G w [])(hc:(callFunc f ⟨vs⟩).run Q w= .ok (.enter f ⟨vs⟩) w){p:P}
  (h:Calls Q f ⟨vs⟩ w λe w'=> ∃v,e= .returned v/\Below w.heap.size w w'/\ ∀F G,ak F w' G [] v p):
  gj Q f ⟨vs⟩ w (λv w'=> ∃F' G',dK Q T F' G' w' []/\ak F' w' G' [] v p/\Ext (Own G []) (Own G' []) F F' w w'):=by
 refine .inl ⟨hc,h.mono λe w' ⟨v,he,hb,hp⟩=>⟨v,he,F,G,hH.later h0 hb,hp F G,⟨λ_ h=>h,λ_ h=> .inl h,λb h=>absurd h (zB G b),λb bu _=>hb.block b bu,hb.size,hb.os,hb.tape,hb.output⟩⟩⟩
end
end Pi
