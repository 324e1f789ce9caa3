/- The texts PiLaw PiX. -/
import Derived.Test.YtngoddkencoalaaGreatDoorPiTop
namespace Pi
open Go Go.ChangeShapes Go.WideShapes Go.RowKit
def zV (Q:Program) (m:Nat) (t:TypeId) (x:D):Prop:=Fit Q m t x.cells/\((dy Q t=true/\ ∃cs,x= .agg cs)\/(dy Q t=false/\x.bC=true))
def pB (Q:Program) (m:Nat):List TypeId->List D->Prop
 | [],[]=>True
 |t::ts,x::xs=>zV Q m t x/\pB Q m ts xs
 |_,_=>False
section
variable {Q:Program} {m:Nat} {t:TypeId} {x:D}
theorem Qe {k:IntKind} (hu:Q.underlying t=some (.int k)) (h:zV Q (m+1) t x): ∃n,x= .int k n/\(Lit.int k n).wf=true:=by
 obtain⟨h1,h2⟩:=h
 unfold Fit at h1
 rw[hu] at h1
 obtain⟨b,hb,hw⟩:=h1
 rcases h2 with⟨ha,cs,rfl⟩| ⟨_,hc⟩
 ·simp[dy,hu] at ha
 ·refine⟨b,?_,hw⟩;cases x<;>simp_all [D.cells,D.bC]
theorem Ih {e:TypeId} {k:Nat} (hu:Q.underlying t=some (.slice e)) (hk:Q.cellsOf e=k) (h:zV Q (m+1) t x): ∃es,x= .sl k es/\es.length<=maxLen/\ ∀y∈es,zV Q m e y:=by
 obtain⟨h1,h2⟩:=h
 unfold Fit at h1
 rw[hu] at h1
 obtain⟨es,hb,hw,hy⟩:=h1
 subst hk
 rcases h2 with⟨ha,cs,rfl⟩| ⟨_,hc⟩
 ·simp[dy,hu] at ha
 ·refine⟨es,?_,hw,hy⟩;cases x<;>simp_all [D.cells,D.bC]
theorem Fa {fs:Array Field} {k:Nat} (hu:Q.underlying t=some (.struct fs)) (hk:Q.cellsOf t=k) (h:zV Q (m+1) t x): ∃cs,x= .agg cs/\cs.length=k/\ ∀f∈fs.toList,Fit Q m f.type ((cs.drop f.offset).take (Q.cellsOf f.type)):=by
 obtain⟨h1,h2⟩:=h
 unfold Fit at h1
 rw[hu] at h1
 subst hk
 rcases h2 with⟨ha,cs,rfl⟩| ⟨ha,hc⟩
 ·exact⟨cs,rfl,h1.1,h1.2⟩
 ·simp[dy,hu] at ha
theorem sL {k:IntKind} {c:D} (hu:Q.underlying t=some (.int k)) (h:Fit Q (m+1) t [c]): ∃n,c= .int k n/\(Lit.int k n).wf=true:=by
 unfold Fit at h
 rw[hu] at h
 obtain⟨b,hb,hw⟩:=h
 exact⟨b,by simpa using hb,hw⟩
theorem Qf {c:D} (hu:Q.underlying t=some .bool) (h:Fit Q (m+1) t [c]): ∃n,c= .bool n:=by
 unfold Fit at h
 rw[hu] at h
 obtain⟨b,hb⟩:=h
 exact⟨b,by simpa using hb⟩
end
section
variable {H:Type} {enc:TypeId×Value->H} {Q:Program} {w:World}
theorem cells_one {v c:Value} (h:v.cells.toList=[c]) (hv: ∀cs,v≠ .agg cs):v=c:=by
 cases v<;>first |exact absurd rfl (hv _)| (simp[Value.cells] at h;exact h)
theorem Wn {m:Nat} {t:TypeId} {v:Value} {d:DataW H} {ps:List MemPlace} {base:Nat} (hp:kY Q m t=true) (mX:Value.okWide Q w .any base t v) (h:DataW.Trod enc Q w 0 (fun _=>true) true t v d ps):
  ∃x,a7 (· <w.heap.size) w v x/\zV Q m t x:=by
 obtain⟨n,hn⟩:=h
 obtain⟨xs,hr,hf⟩:=Qd m n t _ _ hn hp
 cases ha:dy Q t with
 |true=>
  have hv: ∃cs,v= .agg cs:=by
   rw[CM] at ha
   unfold Value.okWide at mX
   split at ha
   ·rename_i hu;rw[hu] at mX;obtain⟨cs,rfl,_⟩:=mX;exact⟨cs,rfl⟩
   ·rename_i hu;rw[hu] at mX;obtain⟨cs,rfl,_⟩:=mX;exact⟨cs,rfl⟩
   ·cases ha
  obtain⟨⟨cs⟩,rfl⟩:=hv
  exact⟨.agg xs,.agg cs xs hr.1.symm hr.2.1 hr.2.2,hf,.inl ⟨ha,_,rfl⟩⟩
 |false=>
  obtain⟨c,rfl⟩:=E9 hf ha
  have hv: ∀cs,v≠ .agg cs:=by
   intro cs e
   subst e
   cases m with
   |zero=>exact hf.elim
   |succ m=>
    unfold kY at hp
    unfold Value.okWide at mX
    split at hp
    ·rename_i hu;simp[hu,Cell.okWide,Cell.ok] at mX
    ·rename_i hu;simp[hu,Cell.okWide,Cell.ok] at mX
    ·rename_i hu;simp[hu,Cell.okWide,Cell.ok] at mX
    ·rename_i hu;simp[hu,Cell.okWide,Cell.ok] at mX
    ·rename_i hu;rw[CM,hu] at ha;cases ha
    ·cases hp
  have hl:=hr.1
  obtain⟨u,hu⟩: ∃u,v.cells.toList=[u]:=by
   cases hc:v.cells.toList with
   |nil=>rw[hc] at hl;simp at hl
   |cons u r=>rw[hc] at hl;simp at hl;subst hl;exact⟨u,rfl⟩
  have e:=cells_one hu hv
  subst e
  have hc:=hr.2.1 c (by simp)
  have jG:c.cells=[c]:=by cases c<;>first |rfl |simp[D.bC] at hc
  exact⟨c,hr.2.2 0 v c (by rw[hu];rfl) rfl,by rw[jG];exact hf,.inr ⟨ha,hc⟩⟩
theorem Fb {m base:Nat}: ∀(ts:List TypeId) (vs:List Value) (ds:List (DataW H)) (ps:List MemPlace),(∀t∈ts,kY Q m t=true)->(∀(j:Nat) t v,ts[j]?=some t->vs[j]?=some v->Value.okWide Q w .any base t v)->
  DataW.TrodAll enc Q w 0 (fun _=>true) true ts vs ds ps-> ∃xs,xs.length=vs.length/\(∀(i:Nat) v x,vs[i]?=some v->xs[i]?=some x->a7 (· <w.heap.size) w v x)/\pB Q m ts xs
 | [],vs,ds,ps,_,_,h=>by
  obtain⟨rfl,_,_⟩:=trodAll_nil h
  exact⟨[],rfl,fun i v x h1=>by simp at h1,trivial⟩
 |t::ts,vs,ds,ps,hp,mX,h=>by
  obtain⟨v,vs',d,ds',p,q,rfl,rfl,rfl,h1,h2⟩:=trodAll_cons h
  obtain⟨x,g1,g2⟩:=Wn (hp t (by simp)) (mX 0 t v rfl rfl) h1
  obtain⟨xs,k1,k2,k3⟩:=Fb ts vs' ds' q (fun u hu=>hp u (by simp[hu])) (fun j u v' hu hv=>mX (j+1) u v' (by simpa using hu) (by simpa using hv)) h2
  refine⟨x::xs,by simp[k1],fun i v' y hv hy=> ?_,g2,k3⟩
  cases i with
  |zero=>simp at hv hy;subst hv;subst hy;exact g1
  |succ i=>exact k2 i v' y (by simpa using hv) (by simpa using hy)
theorem A6 {W W':World} (hl:laidOutB Q=true) (hb:Below W.heap.size W W') {sp:Nat->Bool}: ∀(ts:List TypeId) (vs:List Value) (ds:List (DataW H)) (ps:List MemPlace),(∀t∈ts,Q.readableRec t=true/\t<Q.types.size)->
  DataW.TrodAll enc Q W 0 (fun _=>true) true ts vs ds ps->(∀p∈ps,p.block<W.heap.size)->(∀p∈ps,sp p.block=true)->DataW.TrodAll enc Q W' 0 sp true ts vs ds ps
 | [],vs,ds,ps,_,h,_,_=>by
  obtain⟨rfl,rfl,rfl⟩:=trodAll_nil h
  exact trodAll_mk0
 |t::ts,vs,ds,ps,hr,h,bG,Ce=>by
  obtain⟨v,vs',d,ds',p,q,rfl,rfl,rfl,h1,h2⟩:=trodAll_cons h
  refine⟨p,q,WideElems.Trod_stays hl (hr t (by simp)).1 (hr t (by simp)).2 h1 (fun x hx=>hb.same (bG x (by simp[hx]))) (fun x hx=>Ce x (by simp[hx])),?_,rfl⟩
  exact A6 hl hb ts vs' ds' q (fun u hu=>hr u (by simp[hu])) h2 (fun x hx=>bG x (by simp[hx])) (fun x hx=>Ce x (by simp[hx]))
theorem Qg {f:Func} {s:ChangeSpec} {apart fresh handsOn again:Bool} {W W':World} {args:Array Value} {ds gs:List (DataW H)} {before:List MemPlace} {tb:TypeId} (hl:laidOutB Q=true) (hb:Below W.heap.size W W')
  (Qh: ∀t∈f.params.toList,Q.readableRec t=true/\t<Q.types.size) (Fc:s.vars=[]) (Fe:f.resultTypes= #[tb]) (htb:Q.underlying tb=some .bool)
  (xd:s.fn H ds={results:=[.lit (.bool true)],args:=ds})
  (hW:DataW.Whole enc Q f.params.toList s.vars apart W args.toList ds gs before):s.post enc Q f apart fresh handsOn again W args (.bool true) W':=by
 have hW':=hW
 obtain⟨p,q,hA,hV,rfl,hz,hn⟩:=hW
 rw[Fc] at hV
 obtain⟨rfl,rfl⟩:=trodVars_none hV
 have bG: ∀x∈p,x.block<W.heap.size:=fun x hx=>by simpa using hW'.lt x (by simpa using hx)
 have Ce:s.fn H (ds++[])={results:=[.lit (.bool true)],args:=ds}:=by rw[zbj];exact xd
 have res: ∀(b:Nat) (sp:Nat->Bool) (hd:Bool),DataW.TrodAll enc Q W' b sp hd f.resultTypes.toList ((Value.bool true).resultList f.resultTypes.size) [.lit (.bool true)] []:=fun b sp hd=>by
  rw[Fe]
  exact⟨[],[],shut_bool htb true,rfl,rfl⟩
 have keep: ∀sp:Nat->Bool,(∀x∈p,sp x.block=true)->DataW.TrodAll enc Q W' 0 sp true f.params.toList args.toList ds p:=fun sp hs=>A6 hl hb _ _ _ _ Qh hA bG hs
 refine⟨ds,[],p++[],[],p,[],hW',?_,?_,?_,hb.frame _,fun _=>⟨?_,?_⟩⟩
 ·rw[Ce];exact res _ _ _
 ·rw[Ce];exact keep _ (fun x hx=>by simpa using bG x hx)
 ·rw[Ce,Fc];rfl
 ·exact ok_one Fe rfl (okWide_bool_mk htb true)
 ·refine⟨_,[],p++[],⟨[]++p,[],trodAll_append (keep _ (fun _ _=>rfl)) (res _ _ _),by rw[Fc];rfl,by simp,?_,?_⟩,fun x hx _=>hx⟩
  ·intro b off hp
   have Oc:MemPlace.cell b off∈p:=by simpa using hp
   rw[hb.frozen (p:=⟨b,off,none⟩) (bG _ Oc)]
   exact hz b off (by simpa using Oc)
  ·intro ha
   simpa using hn ha
end
theorem CN {Q:Program} {kp:pZ} (hm:Q.follows .mixedOrders=true) {lf k:Nat} {f:FuncId} {fn:Func} (fX:Q.funcs[f]?=some fn) (cE:fn.body.isSome=true) (jr:(fn.name== "runtime.NumGoroutine")=false)
  {xs:List D} {p:P} {R1:List (Nat×En)} (bX:fc Q kp lf k f (xs.map P.d) []=some (p,R1)) {w:World} (hX:dt Q {w with drawn:=0} kp.X) {vs:List Value} (hlen:xs.length=vs.length) (HI: ∀(i:Nat) v x,vs[i]?=some v->xs[i]?=some x->a7 (· <w.heap.size) w v x):
  Calls Q f ⟨vs⟩ w (fun e w'=> ∃v F' G',e= .returned v/\aF F' w' G' R1 v p/\Below w.heap.size w w'):=by
 have hH:fG Q ⟨fun _=>undef,{w with drawn:=0},0,false⟩ (· <w.heap.size) (fun _=>undef) w []:=
  ⟨.nil,za5 _,fun t p hp=>by simp[lk] at hp,fun n e he=>by simp[lk] at he,fun n m e e' b he=>by simp[lk] at he,fun n e b he=>by simp[lk] at he,fun b hb=>hb,fun n e i he=>by simp[lk] at he,fun b hb=>⟨hb,rfl⟩,za5 _,za5 _⟩
 have br:=sK hX hm k f (xs.map P.d) [] p R1 bX (· <w.heap.size) (fun _=>undef) w vs hH (by simp[hlen]) (fun i v c hv hc=>by
  rw[zaJ] at hc
  cases hx:xs[i]? with
  |none=>rw[hx] at hc;cases hc
  |some x=>rw[hx] at hc;cases hc;exact .d (HI i v x hv hx))
 have lR:(callFunc f ⟨vs⟩).run Q w= .ok (.enter f ⟨vs⟩) w:=by
  simp[callFunc,fX]
  rw[zam (by simpa using jr)]
  cases hb:fn.body with
  |none=>rw[hb] at cE;cases cE
  |some c=>simp
 rcases br with⟨_,h⟩| ⟨v,w',h,_⟩
 ·refine h.mono fun e w' ⟨v,he,F',G',h1,h2,h3⟩=>⟨v,F',G',he,h2,h3.os,h3.tape,h3.output,h3.size,fun b hb=>h3.keep b hb (fun⟨n,e,he,_⟩=>by simp[lk] at he)⟩
 ·rw[lR] at h
  cases h
theorem uZ {H:Type} {enc:TypeId×Value->H} {Q:Program} {w:World}: ∀(ts:List TypeId) (vs:List Value) (ds:List (DataW H)) (ps:List MemPlace),DataW.TrodAll enc Q w 0 (fun _=>true) true ts vs ds ps->ds.length=ts.length
 | [],vs,ds,ps,h=>by
  obtain⟨_,rfl,_⟩:=trodAll_nil h
  rfl
 |t::ts,vs,ds,ps,h=>by
  obtain⟨v,vs',d,ds',p,q,rfl,rfl,rfl,h1,h2⟩:=trodAll_cons h
  simp[uZ ts vs' ds' q h2]
def noX:CF:=fun _ _ _=>none
theorem Qi (Q:Program) (w:World):dt Q w noX:=fun ku ps R p R1 h=>by simp[noX] at h
theorem CO {Q:Program} {kp:pZ} (hm:Q.follows .mixedOrders=true) {m:Nat} {f:FuncId} {fn:Func} (fX:Q.funcs[f]?=some fn) (cE:fn.body.isSome=true) (jr:(fn.name== "runtime.NumGoroutine")=false)
  {H:Type} {enc:TypeId×Value->H} {s:ChangeSpec} {apart fresh handsOn again:Bool} {tb:TypeId} (hl:laidOutB Q=true) (Qh: ∀t∈fn.params.toList,Q.readableRec t=true/\t<Q.types.size) (qbS: ∀t∈fn.params.toList,kY Q m t=true) (Fc:s.vars=[]) (Fe:fn.resultTypes= #[tb]) (htb:Q.underlying tb=some .bool)
  {W:World} (hX:dt Q {W with drawn:=0} kp.X) {base:Nat} {args:Array Value} {ds gs:List (DataW H)} {before:List MemPlace} (hval: ∀(j:Nat) t v,fn.params[j]?=some t->args[j]?=some v->Value.okWide Q W .any base t v)
  (hW:DataW.Whole enc Q fn.params.toList s.vars apart W args.toList ds gs before) (xd: ∀ds:List (DataW H),ds.length=fn.params.toList.length->s.fn H ds={results:=[.lit (.bool true)],args:=ds})
  (bX: ∀xs,pB Q m fn.params.toList xs-> ∃lf k R,fc Q kp lf k f (xs.map P.d) []=some (.d (.bool true),R)):
  Calls Q f args W fun e W'=> ∃v,e= .returned v/\s.post enc Q fn apart fresh handsOn again W args v W':=by
 obtain⟨p,q,hA,hV,_⟩:=id hW
 obtain⟨xs,h1,h2,h3⟩:=Fb (Q:=Q) (w:=W) (base:=base) fn.params.toList args.toList ds p qbS (fun j t v ht hv=>hval j t v (by simpa using ht) (by simpa using hv)) hA
 obtain⟨lf,k,R,hR⟩:=bX xs h3
 have hc:=CN hm fX cE jr hR hX (vs:=args.toList) h1 h2
 refine hc.mono fun e W' ⟨v,F',G',he,hp,hb⟩=>⟨v,he,?_⟩
 have:v= .bool true:=aF.cy (p:= .d (.bool true)) hp rfl
 subst this
 exact Qg hl hb Qh Fc Fe htb (xd ds (uZ _ _ _ _ hA)) hW
end Pi
namespace Pi
open Go Go.RowKit
section
variable {Q:Program} {w0 w:World} {F:Nat->Prop} {G:Nat->Value} {f:FuncId} {vs:List Value}
theorem fG.later {T:Tg} (h:fG Q T F G w []) {w':World} (h0:T.w0.drawn=0) (hb:Below w.heap.size w w'):fG Q T F G w' []:=
 ⟨.nil,za5 _,fun t p hp=>by simp[lk] at hp,fun n e he=>by simp[lk] at he,fun n m e e' b he=>by simp[lk] at he,fun n e b he=>by simp[lk] at he,
  fun b hf=>za3 (h.jm b hf) hb.size,fun n e i he=>by simp[lk] at he,fun b hz=>⟨(h.z b hz).1,(hb.block b (h.jm b (h.z b hz).1)).trans (h.z b hz).2⟩,by rw[h0];exact za5 _,zaI h.sz hb.size⟩
theorem Wo (G:Nat->Value) (b:Nat): ¬Own G [] b:=fun⟨n,e,he,_⟩=>by simp[lk] at he
theorem tT {T:Tg} (h0:T.w0.drawn=0) (hH:fG Q T F G w []) (hc:(callFunc f ⟨vs⟩).run Q w= .ok (.enter f ⟨vs⟩) w) {p:P}
  (h:Calls Q f ⟨vs⟩ w fun e w'=> ∃v,e= .returned v/\Below w.heap.size w w'/\ ∀F G,aF F w' G [] v p):
  j8 Q f ⟨vs⟩ w (fun v w'=> ∃F' G',fG Q T F' G' w' []/\aF F' w' G' [] v p/\Ext (Own G []) (Own G' []) F F' w w'):=by
 refine .inl ⟨hc,h.mono fun e w' ⟨v,he,hb,hp⟩=>⟨v,he,F,G,hH.later h0 hb,hp F G,⟨fun _ h=>h,fun _ h=> .inl h,fun b h=>absurd h (Wo G b),fun b bG _=>hb.block b bG,hb.size,hb.os,hb.tape,hb.output⟩⟩⟩
end
end Pi
