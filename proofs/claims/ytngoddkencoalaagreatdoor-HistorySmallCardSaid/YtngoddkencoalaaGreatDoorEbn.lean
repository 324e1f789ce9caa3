/- The texts PiLaw PiX. -/
import Derived.Test.YtngoddkencoalaaGreatDoorPiTop
namespace Pi
open Go Go.ChangeShapes Go.WideShapes Go.RowKit
def AQ(Q:Program)(m:Nat)(t:TypeId)(x:D):Prop:=Fit Q m t x.cells/\((dH Q t=true/\ ∃cs,x= .agg cs)\/(dH Q t=false/\x.bJ=true))
def pZ(Q:Program)(m:Nat):List TypeId->List D->Prop
 | [],[]=>True
 |t::ts,x::xs=>AQ Q m t x/\pZ Q m ts xs
 |_,_=>False
section
variable{Q:Program}{m:Nat}{t:TypeId}{x:D}
theorem Ra{k:IntKind}(hu:Q.underlying t=some (.int k))(h:AQ Q (m+1) t x): ∃n,x= .int k n/\(Lit.int k n).wf=true:=by
 obtain⟨h1,h2⟩:=h;unfold Fit at h1;rw[hu] at h1;obtain⟨b,hb,hw⟩:=h1;rcases h2 with⟨ha,cs,rfl⟩| ⟨_,hc⟩
 ·simp[dH,hu] at ha
 refine⟨b,?_,hw⟩;cases x<;>simp_all [D.cells,D.bJ]
theorem Ja{e:TypeId}{k:Nat}(hu:Q.underlying t=some (.slice e))(hk:Q.cellsOf e=k)(h:AQ Q (m+1) t x): ∃es,x= .sl k es/\es.length<=maxLen/\ ∀y∈es,AQ Q m e y:=by
 obtain⟨h1,h2⟩:=h;unfold Fit at h1;rw[hu] at h1;obtain⟨es,hb,hw,hy⟩:=h1;subst hk;rcases h2 with⟨ha,cs,rfl⟩| ⟨_,hc⟩
 ·simp[dH,hu] at ha
 refine⟨es,?_,hw,hy⟩;cases x<;>simp_all [D.cells,D.bJ]
theorem FY{fs:Array Field}{k:Nat}(hu:Q.underlying t=some (.struct fs))(hk:Q.cellsOf t=k)(h:AQ Q (m+1) t x): ∃cs,x= .agg cs/\cs.length=k/\ ∀f∈fs.toList,Fit Q m f.type ((cs.drop f.offset).take (Q.cellsOf f.type)):=by
 obtain⟨h1,h2⟩:=h;unfold Fit at h1;rw[hu] at h1;subst hk;rcases h2 with⟨ha,cs,rfl⟩| ⟨ha,hc⟩
 ·exact⟨cs,rfl,h1.1,h1.2⟩
 simp[dH,hu] at ha
theorem tT{k:IntKind}{c:D}(hu:Q.underlying t=some (.int k))(h:Fit Q (m+1) t [c]): ∃n,c= .int k n/\(Lit.int k n).wf=true:=by unfold Fit at h;rw[hu] at h;obtain⟨b,hb,hw⟩:=h;exact⟨b,by simpa using hb,hw⟩
theorem Rb{c:D}(hu:Q.underlying t=some .bool)(h:Fit Q (m+1) t [c]): ∃n,c= .bool n:=by unfold Fit at h;rw[hu] at h;obtain⟨b,hb⟩:=h;exact⟨b,by simpa using hb⟩
end
section
variable{H:Type}{enc:TypeId×Value->H}{Q:Program}{w:World}
theorem cells_one{v c:Value}(h:v.cells.toList=[c])(hv: ∀cs,v≠ .agg cs):v=c:=by cases v<;>first |exact absurd rfl (hv _)| (simp[Value.cells] at h;exact h)
theorem Xk{m:Nat}{t:TypeId}{v:Value}{d:DataW H}{ps:List MemPlace}{base:Nat}(hp:lC Q m t=true)(nK:Value.okWide Q w .any base t v)(h:DataW.Trod enc Q w 0 (λ_=>true) true t v d ps):
  ∃x,bc (· <w.heap.size) w v x/\AQ Q m t x:=by
 obtain⟨n,hn⟩:=h;obtain⟨xs,hr,hf⟩:=Q9 m n t _ _ hn hp;cases ha:dH Q t with
 |true=>
  have hv: ∃cs,v= .agg cs:=by
   rw[Dn] at ha;unfold Value.okWide at nK;split at ha
   next hu=>rw[hu] at nK;obtain⟨cs,rfl,_⟩:=nK;exact⟨cs,rfl⟩
   next hu=>rw[hu] at nK;obtain⟨cs,rfl,_⟩:=nK;exact⟨cs,rfl⟩
   cases ha
  obtain⟨⟨cs⟩,rfl⟩:=hv;exact⟨.agg xs,.agg cs xs hr.1.symm hr.2.1 hr.2.2,hf,.inl ⟨ha,_,rfl⟩⟩
 |false=>
  obtain⟨c,rfl⟩:=FX hf ha;have hv: ∀cs,v≠ .agg cs:=by
   intro cs e;subst e;cases m with
   |zero=>exact hf.elim
   |succ m=>
    unfold lC at hp;unfold Value.okWide at nK;split at hp
    next hu=>simp[hu,Cell.okWide,Cell.ok] at nK
    next hu=>simp[hu,Cell.okWide,Cell.ok] at nK
    next hu=>simp[hu,Cell.okWide,Cell.ok] at nK
    next hu=>simp[hu,Cell.okWide,Cell.ok] at nK
    next hu=>rw[Dn,hu] at ha;cases ha
    cases hp
  have hl:=hr.1;obtain⟨u,hu⟩: ∃u,v.cells.toList=[u]:=by
   cases hc:v.cells.toList with
   |nil=>rw[hc] at hl;simp at hl
   |cons u r=>rw[hc] at hl;simp at hl;subst hl;exact⟨u,rfl⟩
  have e:=cells_one hu hv;subst e;have hc:=hr.2.1 c (by simp);have jU:c.cells=[c]:=by cases c<;>first |rfl |simp[D.bJ] at hc
  exact⟨c,hr.2.2 0 v c (by rw[hu];rfl) rfl,by rw[jU];exact hf,.inr ⟨ha,hc⟩⟩
theorem FZ{m base:Nat}: ∀(ts:List TypeId) (vs:List Value) (ds:List (DataW H)) (ps:List MemPlace),(∀t∈ts,lC Q m t=true)->(∀(j:Nat) t v,ts[j]?=some t->vs[j]?=some v->Value.okWide Q w .any base t v)->
  DataW.TrodAll enc Q w 0 (λ_=>true) true ts vs ds ps-> ∃xs,xs.length=vs.length/\(∀(i:Nat) v x,vs[i]?=some v->xs[i]?=some x->bc (· <w.heap.size) w v x)/\pZ Q m ts xs
 | [],vs,ds,ps,_,_,h=>by obtain⟨rfl,_,_⟩:=trodAll_nil h;exact⟨[],rfl,λi v x h1=>by simp at h1,trivial⟩
 |t::ts,vs,ds,ps,hp,nK,h=>by
  obtain⟨v,vs',d,ds',p,q,rfl,rfl,rfl,h1,h2⟩:=trodAll_cons h;obtain⟨x,g1,g2⟩:=Xk (hp t (by simp)) (nK 0 t v rfl rfl) h1;obtain⟨xs,k1,k2,k3⟩:=FZ ts vs' ds' q (λu hu=>hp u (by simp[hu])) (λj u v' hu hv=>nK (j+1) u v' (by simpa using hu) (by simpa using hv)) h2;refine⟨x::xs,by simp[k1],λi v' y hv hy=> ?_,g2,k3⟩;cases i with
  |zero=>simp at hv hy;subst hv;subst hy;exact g1
  |succ i=>exact k2 i v' y (by simpa using hv) (by simpa using hy)
theorem BS{W W':World}(hl:laidOutB Q=true)(hb:Below W.heap.size W W'){sp:Nat->Bool}: ∀(ts:List TypeId) (vs:List Value) (ds:List (DataW H)) (ps:List MemPlace),(∀t∈ts,Q.readableRec t=true/\t<Q.types.size)->
  DataW.TrodAll enc Q W 0 (λ_=>true) true ts vs ds ps->(∀p∈ps,p.block<W.heap.size)->(∀p∈ps,sp p.block=true)->DataW.TrodAll enc Q W' 0 sp true ts vs ds ps
 | [],vs,ds,ps,_,h,_,_=>by obtain⟨rfl,rfl,rfl⟩:=trodAll_nil h;exact trodAll_mk0
 |t::ts,vs,ds,ps,hr,h,bG,CT=>by obtain⟨v,vs',d,ds',p,q,rfl,rfl,rfl,h1,h2⟩:=trodAll_cons h;refine⟨p,q,WideElems.Trod_stays hl (hr t (by simp)).1 (hr t (by simp)).2 h1 (λx hx=>hb.same (bG x (by simp[hx]))) (λx hx=>CT x (by simp[hx])),?_,rfl⟩;exact BS hl hb ts vs' ds' q (λu hu=>hr u (by simp[hu])) h2 (λx hx=>bG x (by simp[hx])) (λx hx=>CT x (by simp[hx]))
theorem Rc{f:Func}{s:ChangeSpec}{apart fresh handsOn again:Bool}{W W':World}{args:Array Value}{ds gs:List (DataW H)}{before:List MemPlace}{tb:TypeId}(hl:laidOutB Q=true)(hb:Below W.heap.size W W')
  (Re: ∀t∈f.params.toList,Q.readableRec t=true/\t<Q.types.size) (F4:s.vars=[]) (F5:f.resultTypes= #[tb]) (htb:Q.underlying tb=some .bool)
  (x8:s.fn H ds={results:=[.lit (.bool true)],args:=ds})
  (hW:DataW.Whole enc Q f.params.toList s.vars apart W args.toList ds gs before):s.post enc Q f apart fresh handsOn again W args (.bool true) W':=by
 have hW':=hW;obtain⟨p,q,hA,hV,rfl,hz,hn⟩:=hW;rw[F4] at hV;obtain⟨rfl,rfl⟩:=trodVars_none hV;have bG: ∀x∈p,x.block<W.heap.size:=λx hx=>by simpa using hW'.lt x (by simpa using hx)
 have CT:s.fn H (ds++[])={results:=[.lit (.bool true)],args:=ds}:=by rw[zbe];exact x8
 have res: ∀(b:Nat) (sp:Nat->Bool) (hd:Bool),DataW.TrodAll enc Q W' b sp hd f.resultTypes.toList ((Value.bool true).resultList f.resultTypes.size) [.lit (.bool true)] []:=λb sp hd=>by rw[F5];exact⟨[],[],shut_bool htb true,rfl,rfl⟩
 have keep: ∀sp:Nat->Bool,(∀x∈p,sp x.block=true)->DataW.TrodAll enc Q W' 0 sp true f.params.toList args.toList ds p:=λsp hs=>BS hl hb _ _ _ _ Re hA bG hs;refine⟨ds,[],p++[],[],p,[],hW',?_,?_,?_,hb.frame _,λ_=>⟨?_,?_⟩⟩
 ·rw[CT];exact res _ _ _
 ·rw[CT];exact keep _ (λx hx=>by simpa using bG x hx)
 ·rw[CT,F4];rfl
 ·exact ok_one F5 rfl (okWide_bool_mk htb true)
 refine⟨_,[],p++[],⟨[]++p,[],trodAll_append (keep _ (λ_ _=>rfl)) (res _ _ _),by rw[F4];rfl,by simp,?_,?_⟩,λx hx _=>hx⟩
 ·intro b off hp;have O6:MemPlace.cell b off∈p:=by simpa using hp
  rw[hb.frozen (p:=⟨b,off,none⟩) (bG _ O6)];exact hz b off (by simpa using O6)
 intro ha;simpa using hn ha
end
theorem Dp{Q:Program}{kp:qD}(hm:Q.follows .mixedOrders=true){lf k:Nat}{f:FuncId}{fn:Func}(gj:Q.funcs[f]?=some fn)(cO:fn.body.isSome=true)(jD:(fn.name== "runtime.NumGoroutine")=false)
  {xs:List D} {p:P} {R1:List (Nat×En)} (cc:fo Q kp lf k f (xs.map P.d) []=some (p,R1)) {w:World} (hX:dC Q {w with drawn:=0} kp.X) {vs:List Value} (hlen:xs.length=vs.length) (Iw: ∀(i:Nat) v x,vs[i]?=some v->xs[i]?=some x->bc (· <w.heap.size) w v x):
  Calls Q f ⟨vs⟩ w (λe w'=> ∃v F' G',e= .returned v/\aH F' w' G' R1 v p/\Below w.heap.size w w'):=by
 have hH:fN Q ⟨λ_=>undef,{w with drawn:=0},0,false⟩ (· <w.heap.size) (λ_=>undef) w []:=
  ⟨.nil,za5 _,λt p hp=>by simp[lk] at hp,λn e he=>by simp[lk] at he,λn m e e' b he=>by simp[lk] at he,λn e b he=>by simp[lk] at he,λb hb=>hb,λn e i he=>by simp[lk] at he,λb hb=>⟨hb,rfl⟩,za5 _,za5 _⟩
 have bt:=tS hX hm k f (xs.map P.d) [] p R1 cc (· <w.heap.size) (λ_=>undef) w vs hH (by simp[hlen]) (λi v c hv hc=>by
  rw[zaK] at hc;cases hx:xs[i]? with
  |none=>rw[hx] at hc;cases hc
  |some x=>rw[hx] at hc;cases hc;exact .d (Iw i v x hv hx))
 have mj:(callFunc f ⟨vs⟩).run Q w= .ok (.enter f ⟨vs⟩) w:=by
  simp[callFunc,gj];rw[zal (by simpa using jD)];cases hb:fn.body with
  |none=>rw[hb] at cO;cases cO
  |some c=>simp
 rcases bt with⟨_,h⟩| ⟨v,w',h,_⟩
 ·refine h.mono λe w' ⟨v,he,F',G',h1,h2,h3⟩=>⟨v,F',G',he,h2,h3.os,h3.tape,h3.output,h3.size,λb hb=>h3.keep b hb (λ⟨n,e,he,_⟩=>by simp[lk] at he)⟩
 rw[mj] at h;cases h
theorem wj{H:Type}{enc:TypeId×Value->H}{Q:Program}{w:World}: ∀(ts:List TypeId) (vs:List Value) (ds:List (DataW H)) (ps:List MemPlace),DataW.TrodAll enc Q w 0 (λ_=>true) true ts vs ds ps->ds.length=ts.length
 | [],vs,ds,ps,h=>by obtain⟨_,rfl,_⟩:=trodAll_nil h;rfl
 |t::ts,vs,ds,ps,h=>by obtain⟨v,vs',d,ds',p,q,rfl,rfl,rfl,h1,h2⟩:=trodAll_cons h;simp[wj ts vs' ds' q h2]
def noX:CF:=λ_ _ _=>none
theorem Rf(Q:Program)(w:World):dC Q w noX:=λkP ps R p R1 h=>by simp[noX] at h
theorem Dq{Q:Program}{kp:qD}(hm:Q.follows .mixedOrders=true){m:Nat}{f:FuncId}{fn:Func}(gj:Q.funcs[f]?=some fn)(cO:fn.body.isSome=true)(jD:(fn.name== "runtime.NumGoroutine")=false)
  {H:Type} {enc:TypeId×Value->H} {s:ChangeSpec} {apart fresh handsOn again:Bool} {tb:TypeId} (hl:laidOutB Q=true) (Re: ∀t∈fn.params.toList,Q.readableRec t=true/\t<Q.types.size) (qcI: ∀t∈fn.params.toList,lC Q m t=true) (F4:s.vars=[]) (F5:fn.resultTypes= #[tb]) (htb:Q.underlying tb=some .bool)
  {W:World} (hX:dC Q {W with drawn:=0} kp.X) {base:Nat} {args:Array Value} {ds gs:List (DataW H)} {before:List MemPlace} (hval: ∀(j:Nat) t v,fn.params[j]?=some t->args[j]?=some v->Value.okWide Q W .any base t v)
  (hW:DataW.Whole enc Q fn.params.toList s.vars apart W args.toList ds gs before) (x8: ∀ds:List (DataW H),ds.length=fn.params.toList.length->s.fn H ds={results:=[.lit (.bool true)],args:=ds})
  (cc: ∀xs,pZ Q m fn.params.toList xs-> ∃lf k R,fo Q kp lf k f (xs.map P.d) []=some (.d (.bool true),R)):
  Calls Q f args W λe W'=> ∃v,e= .returned v/\s.post enc Q fn apart fresh handsOn again W args v W':=by
 obtain⟨p,q,hA,hV,_⟩:=id hW;obtain⟨xs,h1,h2,h3⟩:=FZ (Q:=Q) (w:=W) (base:=base) fn.params.toList args.toList ds p qcI (λj t v ht hv=>hval j t v (by simpa using ht) (by simpa using hv)) hA;obtain⟨lf,k,R,hR⟩:=cc xs h3;have hc:=Dp hm gj cO jD hR hX (vs:=args.toList) h1 h2;refine hc.mono λe W' ⟨v,F',G',he,hp,hb⟩=>⟨v,he,?_⟩
 have:v= .bool true:=aH.cG (p:= .d (.bool true)) hp rfl;subst this;exact Rc hl hb Re F4 F5 htb (x8 ds (wj _ _ _ _ hA)) hW
end Pi
namespace Pi
open Go Go.RowKit
section
variable{Q:Program}{w0 w:World}{F:Nat->Prop}{G:Nat->Value}{f:FuncId}{vs:List Value}
theorem fN.later{T:Tg}(h:fN Q T F G w []){w':World}(h0:T.w0.drawn=0)(hb:Below w.heap.size w w'):fN Q T F G w' []:=
 ⟨.nil,za5 _,λt p hp=>by simp[lk] at hp,λn e he=>by simp[lk] at he,λn m e e' b he=>by simp[lk] at he,λn e b he=>by simp[lk] at he,
  λb hf=>za4 (h.jz b hf) hb.size,λn e i he=>by simp[lk] at he,λb hz=>⟨(h.z b hz).1,(hb.block b (h.jz b (h.z b hz).1)).trans (h.z b hz).2⟩,by rw[h0];exact za5 _,zaG h.sz hb.size⟩
theorem Xl(G:Nat->Value)(b:Nat): ¬Own G [] b:=λ⟨n,e,he,_⟩=>by simp[lk] at he
theorem uY{T:Tg}(h0:T.w0.drawn=0)(hH:fN Q T F G w [])(hc:(callFunc f ⟨vs⟩).run Q w= .ok (.enter f ⟨vs⟩) w){p:P}
  (h:Calls Q f ⟨vs⟩ w λe w'=> ∃v,e= .returned v/\Below w.heap.size w w'/\ ∀F G,aH F w' G [] v p):
  kD Q f ⟨vs⟩ w (λv w'=> ∃F' G',fN Q T F' G' w' []/\aH F' w' G' [] v p/\Ext (Own G []) (Own G' []) F F' w w'):=by
 refine .inl ⟨hc,h.mono λe w' ⟨v,he,hb,hp⟩=>⟨v,he,F,G,hH.later h0 hb,hp F G,⟨λ_ h=>h,λ_ h=> .inl h,λb h=>absurd h (Xl G b),λb bG _=>hb.block b bG,hb.size,hb.os,hb.tape,hb.output⟩⟩⟩
end
end Pi
