/- The texts PiLaw PiX. -/
import Derived.Test.YtpiohccneeblhaaPiTop
namespace Pi
open Go Go.ChangeShapes Go.WideShapes Go.RowKit
def wA(Q:Program)(m:Nat)(t:TypeId)(x:D):Prop:=Fit Q m t x.cells/\((cd Q t=true/\ ∃cs,x= .agg cs)\/(cd Q t=false/\x.aI=true))
def l6(Q:Program)(m:Nat):List TypeId->List D->Prop
 | [],[]=>True
 |t::ts,x::xs=>wA Q m t x/\l6 Q m ts xs
 |_,_=>False
section
variable{Q:Program}{m:Nat}{t:TypeId}{x:D}
theorem AY(hu:Q.underlying t=some .bool)(h:wA Q (m+1) t x): ∃b,x= .bool b:=by
 obtain⟨h1,h2⟩:=h;unfold Fit at h1;rw[hu] at h1;obtain⟨b,hb⟩:=h1;rcases h2 with⟨ha,cs,rfl⟩| ⟨_,hc⟩
 ·simp[cd,hu] at ha
 cases x<;>simp_all [D.cells,D.aI]
theorem yx{e:TypeId}{k:Nat}(hu:Q.underlying t=some (.slice e))(hk:Q.cellsOf e=k)(h:wA Q (m+1) t x): ∃es,x= .sl k es/\es.length<=maxLen/\ ∀y∈es,wA Q m e y:=by
 obtain⟨h1,h2⟩:=h;unfold Fit at h1;rw[hu] at h1;obtain⟨es,hb,hw,hy⟩:=h1;subst hk;rcases h2 with⟨ha,cs,rfl⟩| ⟨_,hc⟩
 ·simp[cd,hu] at ha
 refine⟨es,?_,hw,hy⟩;cases x<;>simp_all [D.cells,D.aI]
theorem wB{fs:Array Field}{k:Nat}(hu:Q.underlying t=some (.struct fs))(hk:Q.cellsOf t=k)(h:wA Q (m+1) t x): ∃cs,x= .agg cs/\cs.length=k/\ ∀f∈fs.toList,Fit Q m f.type ((cs.drop f.offset).take (Q.cellsOf f.type)):=by
 obtain⟨h1,h2⟩:=h;unfold Fit at h1;rw[hu] at h1;subst hk;rcases h2 with⟨ha,cs,rfl⟩| ⟨ha,hc⟩
 ·exact⟨cs,rfl,h1.1,h1.2⟩
 simp[cd,hu] at ha
theorem o9{k:IntKind}{c:D}(hu:Q.underlying t=some (.int k))(h:Fit Q (m+1) t [c]): ∃n,c= .int k n/\(Lit.int k n).wf=true:=by unfold Fit at h;rw[hu] at h;obtain⟨b,hb,hw⟩:=h;exact⟨b,by simpa using hb,hw⟩
end
section
variable{H:Type}{enc:TypeId×Value->H}{Q:Program}{w:World}
theorem AZ{v c:Value}(h:v.cells.toList=[c])(hv: ∀cs,v≠ .agg cs):v=c:=by cases v<;>first |exact absurd rfl (hv _)| (simp[Value.cells] at h;exact h)
theorem Fl{m:Nat}{t:TypeId}{v:Value}{d:DataW H}{ps:List MemPlace}{base:Nat}(hp:gW Q m t=true)(fK:Value.okWide Q w .any base t v)(h:DataW.Trod enc Q w 0 (λ_=>true) true t v d ps):
  ∃x,aA (· <w.heap.size) w v x/\wA Q m t x:=by
 obtain⟨n,hn⟩:=h;obtain⟨xs,hr,hf⟩:=Db m n t _ _ hn hp;cases ha:cd Q t with
 |true=>
  have hv: ∃cs,v= .agg cs:=by
   rw[uv] at ha;unfold Value.okWide at fK;split at ha
   next hu=>rw[hu] at fK;obtain⟨cs,rfl,_⟩:=fK;exact⟨cs,rfl⟩
   next hu=>rw[hu] at fK;obtain⟨cs,rfl,_⟩:=fK;exact⟨cs,rfl⟩
   cases ha
  obtain⟨⟨cs⟩,rfl⟩:=hv;exact⟨.agg xs,.agg cs xs hr.1.symm hr.2.1 hr.2.2,hf,.inl ⟨ha,_,rfl⟩⟩
 |false=>
  obtain⟨c,rfl⟩:=wz hf ha;have hv: ∀cs,v≠ .agg cs:=by
   intro cs e;subst e;cases m with
   |zero=>exact hf.elim
   |succ m=>
    unfold gW at hp;unfold Value.okWide at fK;split at hp
    next hu=>simp[hu,Cell.okWide,Cell.ok] at fK
    next hu=>simp[hu,Cell.okWide,Cell.ok] at fK
    next hu=>simp[hu,Cell.okWide,Cell.ok] at fK
    next hu=>simp[hu,Cell.okWide,Cell.ok] at fK
    next hu=>rw[uv,hu] at ha;cases ha
    cases hp
  have hl:=hr.1;obtain⟨u,hu⟩: ∃u,v.cells.toList=[u]:=by
   cases hc:v.cells.toList with
   |nil=>rw[hc] at hl;simp at hl
   |cons u r=>rw[hc] at hl;simp at hl;subst hl;exact⟨u,rfl⟩
  have e:=AZ hu hv;subst e;have hc:=hr.2.1 c (by simp);have fO:c.cells=[c]:=by cases c<;>first |rfl |simp[D.aI] at hc
  exact⟨c,hr.2.2 0 v c (by rw[hu];rfl) rfl,by rw[fO];exact hf,.inr ⟨ha,hc⟩⟩
theorem wC{m base:Nat}: ∀(ts:List TypeId) (vs:List Value) (ds:List (DataW H)) (ps:List MemPlace),(∀t∈ts,gW Q m t=true)->(∀(j:Nat) t v,ts[j]?=some t->vs[j]?=some v->Value.okWide Q w .any base t v)->
  DataW.TrodAll enc Q w 0 (λ_=>true) true ts vs ds ps-> ∃xs,xs.length=vs.length/\(∀(i:Nat) v x,vs[i]?=some v->xs[i]?=some x->aA (· <w.heap.size) w v x)/\l6 Q m ts xs
 | [],vs,ds,ps,_,_,h=>by obtain⟨rfl,_,_⟩:=trodAll_nil h;exact⟨[],rfl,λi v x h1=>by simp at h1,trivial⟩
 |t::ts,vs,ds,ps,hp,fK,h=>by
  obtain⟨v,Kc,d,Kd,p,q,rfl,rfl,rfl,h1,h2⟩:=trodAll_cons h;obtain⟨x,g1,g2⟩:=Fl (hp t (by simp)) (fK 0 t v rfl rfl) h1;obtain⟨xs,k1,k2,k3⟩:=wC ts Kc Kd q (λu hu=>hp u (by simp[hu])) (λj u v' hu hv=>fK (j+1) u v' (by simpa using hu) (by simpa using hv)) h2;refine⟨x::xs,by simp[k1],λi v' y hv hy=> ?_,g2,k3⟩;cases i with
  |zero=>simp at hv hy;subst hv;subst hy;exact g1
  |succ i=>exact k2 i v' y (by simpa using hv) (by simpa using hy)
theorem sQ{W W':World}(hl:laidOutB Q=true)(hb:Below W.heap.size W W'){sp:Nat->Bool}: ∀(ts:List TypeId) (vs:List Value) (ds:List (DataW H)) (ps:List MemPlace),(∀t∈ts,Q.readableRec t=true/\t<Q.types.size)->
  DataW.TrodAll enc Q W 0 (λ_=>true) true ts vs ds ps->(∀p∈ps,p.block<W.heap.size)->(∀p∈ps,sp p.block=true)->DataW.TrodAll enc Q W' 0 sp true ts vs ds ps
 | [],vs,ds,ps,_,h,_,_=>by obtain⟨rfl,rfl,rfl⟩:=trodAll_nil h;exact trodAll_mk0
 |t::ts,vs,ds,ps,hr,h,bj,xK=>by obtain⟨v,Kc,d,Kd,p,q,rfl,rfl,rfl,h1,h2⟩:=trodAll_cons h;refine⟨p,q,WideElems.Trod_stays hl (hr t (by simp)).1 (hr t (by simp)).2 h1 (λx hx=>hb.same (bj x (by simp[hx]))) (λx hx=>xK x (by simp[hx])),?_,rfl⟩;exact sQ hl hb ts Kc Kd q (λu hu=>hr u (by simp[hu])) h2 (λx hx=>bj x (by simp[hx])) (λx hx=>xK x (by simp[hx]))
theorem Dd{f:Func}{s:ChangeSpec}{apart fresh handsOn again:Bool}{W W':World}{args:Array Value}{ds gs:List (DataW H)}{before:List MemPlace}{tb:TypeId}(hl:laidOutB Q=true)(hb:Below W.heap.size W W')
  (De: ∀t∈f.params.toList,Q.readableRec t=true/\t<Q.types.size) (wD:s.vars=[]) (wE:f.resultTypes= #[tb]) (Lx:Q.underlying tb=some .bool)
  (pO:s.fn H ds={results:=[.lit (.bool true)],args:=ds})
  (hW:DataW.Whole enc Q f.params.toList s.vars apart W args.toList ds gs before):s.post enc Q f apart fresh handsOn again W args (.bool true) W':=by
 have OH:=hW;obtain⟨p,q,hA,hV,rfl,hz,hn⟩:=hW;rw[wD] at hV;obtain⟨rfl,rfl⟩:=trodVars_none hV;have bj: ∀x∈p,x.block<W.heap.size:=λx hx=>by simpa using OH.lt x (by simpa using hx)
 have xK:s.fn H (ds++[])={results:=[.lit (.bool true)],args:=ds}:=by rw[zcs];exact pO
 have res: ∀(b:Nat) (sp:Nat->Bool) (hd:Bool),DataW.TrodAll enc Q W' b sp hd f.resultTypes.toList ((Value.bool true).resultList f.resultTypes.size) [.lit (.bool true)] []:=λb sp hd=>by rw[wE];exact⟨[],[],shut_bool Lx true,rfl,rfl⟩
 have keep: ∀sp:Nat->Bool,(∀x∈p,sp x.block=true)->DataW.TrodAll enc Q W' 0 sp true f.params.toList args.toList ds p:=λsp hs=>sQ hl hb _ _ _ _ De hA bj hs;refine⟨ds,[],p++[],[],p,[],OH,?_,?_,?_,hb.frame _,λ_=>⟨?_,?_⟩⟩
 ·rw[xK];exact res _ _ _
 ·rw[xK];exact keep _ (λx hx=>by simpa using bj x hx)
 ·rw[xK,wD];rfl
 ·exact ok_one wE rfl (okWide_bool_mk Lx true)
 refine⟨_,[],p++[],⟨[]++p,[],trodAll_append (keep _ (λ_ _=>rfl)) (res _ _ _),by rw[wD];rfl,by simp,?_,?_⟩,λx hx _=>hx⟩
 ·intro b off hp;have Ln:MemPlace.cell b off∈p:=by simpa using hp
  rw[hb.frozen (p:=⟨b,off,none⟩) (bj _ Ln)];exact hz b off (by simpa using Ln)
 intro ha;simpa using hn ha
end
theorem uw{Q:Program}{kp:tq}(hm:Q.follows .mixedOrders=true){lf k:Nat}{f:FuncId}{fn:Func}(fg:Q.funcs[f]?=some fn)(bZ:fn.body.isSome=true)(iY:(fn.name== "runtime.NumGoroutine")=false)
  {xs:List D} {p:P} {R1:List (Nat×En)} (aX:dh Q kp lf k f (xs.map P.d) []=some (p,R1)) {w:World} (hX:cL Q {w with drawn:=0} kp.X) {vs:List Value} (hlen:xs.length=vs.length) (tG: ∀(i:Nat) v x,vs[i]?=some v->xs[i]?=some x->aA (· <w.heap.size) w v x):
  Calls Q f ⟨vs⟩ w (λe w'=> ∃v F' G',e= .returned v/\ao F' w' G' R1 v p/\Below w.heap.size w w'):=by
 have hH:aL Q ⟨λ_=>undef,{w with drawn:=0},0,false⟩ (· <w.heap.size) (λ_=>undef) w []:=
  ⟨.nil,za2 _,λt p hp=>by simp[lk] at hp,λn e he=>by simp[lk] at he,λn m e e' b he=>by simp[lk] at he,λn e b he=>by simp[lk] at he,λb hb=>hb,λn e i he=>by simp[lk] at he,λb hb=>⟨hb,rfl⟩,za2 _,za2 _⟩
 have iG:=mQ hX hm k f (xs.map P.d) [] p R1 aX (· <w.heap.size) (λ_=>undef) w vs hH (by simp[hlen]) (λi v c hv hc=>by
  rw[zai] at hc;cases hx:xs[i]? with
  |none=>rw[hx] at hc;cases hc
  |some x=>rw[hx] at hc;cases hc;exact .d (tG i v x hv hx))
 have nN:(callFunc f ⟨vs⟩).run Q w= .ok (.enter f ⟨vs⟩) w:=by
  simp[callFunc,fg];rw[zaB (by simpa using iY)];cases hb:fn.body with
  |none=>rw[hb] at bZ;cases bZ
  |some c=>simp
 rcases iG with⟨_,h⟩| ⟨v,w',h,_⟩
 ·refine h.mono λe w' ⟨v,he,F',G',h1,h2,h3⟩=>⟨v,F',G',he,h2,h3.os,h3.tape,h3.output,h3.size,λb hb=>h3.keep b hb (λ⟨n,e,he,_⟩=>by simp[lk] at he)⟩
 rw[nN] at h;cases h
theorem od{H:Type}{enc:TypeId×Value->H}{Q:Program}{w:World}: ∀(ts:List TypeId) (vs:List Value) (ds:List (DataW H)) (ps:List MemPlace),DataW.TrodAll enc Q w 0 (λ_=>true) true ts vs ds ps->ds.length=ts.length
 | [],vs,ds,ps,h=>by obtain⟨_,rfl,_⟩:=trodAll_nil h;rfl
 |t::ts,vs,ds,ps,h=>by obtain⟨v,Kc,d,Kd,p,q,rfl,rfl,rfl,h1,h2⟩:=trodAll_cons h;simp[od ts Kc Kd q h2]
theorem ux{Q:Program}{kp:tq}(hm:Q.follows .mixedOrders=true){m:Nat}{f:FuncId}{fn:Func}(fg:Q.funcs[f]?=some fn)(bZ:fn.body.isSome=true)(iY:(fn.name== "runtime.NumGoroutine")=false)
  {H:Type} {enc:TypeId×Value->H} {s:ChangeSpec} {apart fresh handsOn again:Bool} {tb:TypeId} (hl:laidOutB Q=true) (De: ∀t∈fn.params.toList,Q.readableRec t=true/\t<Q.types.size) (HB: ∀t∈fn.params.toList,gW Q m t=true) (wD:s.vars=[]) (wE:fn.resultTypes= #[tb]) (Lx:Q.underlying tb=some .bool)
  {W:World} (hX:cL Q {W with drawn:=0} kp.X) {base:Nat} {args:Array Value} {ds gs:List (DataW H)} {before:List MemPlace} (hval: ∀(j:Nat) t v,fn.params[j]?=some t->args[j]?=some v->Value.okWide Q W .any base t v)
  (hW:DataW.Whole enc Q fn.params.toList s.vars apart W args.toList ds gs before) (pO: ∀ds:List (DataW H),ds.length=fn.params.toList.length->s.fn H ds={results:=[.lit (.bool true)],args:=ds})
  (aX: ∀xs,l6 Q m fn.params.toList xs-> ∃lf k R,dh Q kp lf k f (xs.map P.d) []=some (.d (.bool true),R)):
  Calls Q f args W λe W'=> ∃v,e= .returned v/\s.post enc Q fn apart fresh handsOn again W args v W':=by
 obtain⟨p,q,hA,hV,_⟩:=id hW;obtain⟨xs,h1,h2,h3⟩:=wC (Q:=Q) (w:=W) (base:=base) fn.params.toList args.toList ds p HB (λj t v ht hv=>hval j t v (by simpa using ht) (by simpa using hv)) hA;obtain⟨lf,k,R,hR⟩:=aX xs h3;have hc:=uw hm fg bZ iY hR hX (vs:=args.toList) h1 h2;refine hc.mono λe W' ⟨v,F',G',he,hp,hb⟩=>⟨v,he,?_⟩
 have:v= .bool true:=ao.br (p:= .d (.bool true)) hp rfl;subst this;exact Dd hl hb De wD wE Lx (pO ds (od _ _ _ _ hA)) hW
end Pi
namespace Pi
open Go Go.RowKit
section
variable{Q:Program}{w0 w:World}{F:Nat->Prop}{G:Nat->Value}{f:FuncId}{vs:List Value}
theorem aL.later{T:Tg}(h:aL Q T F G w []){w':World}(h0:T.w0.drawn=0)(hb:Below w.heap.size w w'):aL Q T F G w' []:=
 ⟨.nil,za2 _,λt p hp=>by simp[lk] at hp,λn e he=>by simp[lk] at he,λn m e e' b he=>by simp[lk] at he,λn e b he=>by simp[lk] at he,
  λb hf=>zaK (h.fw b hf) hb.size,λn e i he=>by simp[lk] at he,λb hz=>⟨(h.z b hz).1,(hb.block b (h.fw b (h.z b hz).1)).trans (h.z b hz).2⟩,by rw[h0];exact za2 _,zaN h.sz hb.size⟩
theorem Fm(G:Nat->Value)(b:Nat): ¬Own G [] b:=λ⟨n,e,he,_⟩=>by simp[lk] at he
theorem A0{T:Tg}(h0:T.w0.drawn=0)(hH:aL Q T F G w [])(hc:(callFunc f ⟨vs⟩).run Q w= .ok (.enter f ⟨vs⟩) w){p:P}
  (h:Calls Q f ⟨vs⟩ w λe w'=> ∃v,e= .returned v/\Below w.heap.size w w'/\ ∀F G,ao F w' G [] v p):
  bF Q f ⟨vs⟩ w (λv w'=> ∃F' G',aL Q T F' G' w' []/\ao F' w' G' [] v p/\Ext (Own G []) (Own G' []) F F' w w'):=by
 refine .inl ⟨hc,h.mono λe w' ⟨v,he,hb,hp⟩=>⟨v,he,F,G,hH.later h0 hb,hp F G,⟨λ_ h=>h,λ_ h=> .inl h,λb h=>absurd h (Fm G b),λb bj _=>hb.block b bj,hb.size,hb.os,hb.tape,hb.output⟩⟩⟩
end
end Pi
