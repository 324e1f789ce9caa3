/- The text PiLaw. -/
import Derived.Test.YtngoddkencoalaaGreatDoorPiTop
namespace Pi
open Go Go.ChangeShapes Go.WideShapes Go.RowKit
def tc (Q:Program) (m:Nat) (t:TypeId) (x:D):Prop:=Fit Q m t x.cells/\((dp Q t=true/\ ∃cs,x= .agg cs)\/(dp Q t=false/\x.bC=true))
def oR (Q:Program) (m:Nat):List TypeId->List D->Prop
 | [],[]=>True
 |t::ts,x::xs=>tc Q m t x/\oR Q m ts xs
 |_,_=>False
section
variable {Q:Program} {m:Nat} {t:TypeId} {x:D}
theorem D5 {k:IntKind} (hu:Q.underlying t=some (.int k)) (h:tc Q (m+1) t x): ∃n,x= .int k n/\(Lit.int k n).wf=true:=by
 obtain⟨h1,h2⟩:=h
 unfold Fit at h1
 rw[hu] at h1
 obtain⟨b,hb,hw⟩:=h1
 rcases h2 with⟨ha,cs,rfl⟩| ⟨_,hc⟩
 ·simp[dp,hu] at ha
 ·refine⟨b,?_,hw⟩;cases x<;>simp_all [D.cells,D.bC]
theorem GM {e:TypeId} {k:Nat} (hu:Q.underlying t=some (.slice e)) (hk:Q.cellsOf e=k) (h:tc Q (m+1) t x): ∃es,x= .sl k es/\es.length<=maxLen/\ ∀y∈es,tc Q m e y:=by
 obtain⟨h1,h2⟩:=h
 unfold Fit at h1
 rw[hu] at h1
 obtain⟨es,hb,hw,hy⟩:=h1
 subst hk
 rcases h2 with⟨ha,cs,rfl⟩| ⟨_,hc⟩
 ·simp[dp,hu] at ha
 ·refine⟨es,?_,hw,hy⟩;cases x<;>simp_all [D.cells,D.bC]
theorem la {fs:Array Field} {k:Nat} (hu:Q.underlying t=some (.struct fs)) (hk:Q.cellsOf t=k) (h:tc Q (m+1) t x): ∃cs,x= .agg cs/\cs.length=k/\ ∀f∈fs.toList,Fit Q m f.type ((cs.drop f.offset).take (Q.cellsOf f.type)):=by
 obtain⟨h1,h2⟩:=h
 unfold Fit at h1
 rw[hu] at h1
 subst hk
 rcases h2 with⟨ha,cs,rfl⟩| ⟨ha,hc⟩
 ·exact⟨cs,rfl,h1.1,h1.2⟩
 ·simp[dp,hu] at ha
theorem mW {k:IntKind} {c:D} (hu:Q.underlying t=some (.int k)) (h:Fit Q (m+1) t [c]): ∃n,c= .int k n/\(Lit.int k n).wf=true:=by
 unfold Fit at h
 rw[hu] at h
 obtain⟨b,hb,hw⟩:=h
 exact⟨b,by simpa using hb,hw⟩
theorem Oj {c:D} (hu:Q.underlying t=some .bool) (h:Fit Q (m+1) t [c]): ∃n,c= .bool n:=by
 unfold Fit at h
 rw[hu] at h
 obtain⟨b,hb⟩:=h
 exact⟨b,by simpa using hb⟩
theorem IA {c:D} (hu:Q.underlying t=some .string) (h:Fit Q (m+1) t [c]): ∃l,c= .str l/\l.length<=maxLen:=by
 unfold Fit at h
 rw[hu] at h
 obtain⟨b,hb,hw⟩:=h
 exact⟨b,by simpa using hb,hw⟩
theorem pG {e:TypeId} {k:Nat} {c:D} (hu:Q.underlying t=some (.slice e)) (hk:Q.cellsOf e=k) (h:Fit Q (m+1) t [c]): ∃es,c= .sl k es/\es.length<=maxLen/\ ∀y∈es,tc Q m e y:=by
 unfold Fit at h
 rw[hu] at h
 obtain⟨es,hb,hw,hy⟩:=h
 subst hk
 exact⟨es,by simpa using hb,hw,hy⟩
end
section
variable {H:Type} {enc:TypeId×Value->H} {Q:Program} {w:World}
theorem cells_one {v c:Value} (h:v.cells.toList=[c]) (hv: ∀cs,v≠ .agg cs):v=c:=by
 cases v<;>first |exact absurd rfl (hv _)| (simp[Value.cells] at h;exact h)
theorem TN {m:Nat} {t:TypeId} {v:Value} {d:DataW H} {ps:List MemPlace} {base:Nat} (hp:ko Q m t=true) (ml:Value.okWide Q w .any base t v) (h:DataW.Trod enc Q w 0 (fun _=>true) true t v d ps):
  ∃x,aW (· <w.heap.size) w v x/\tc Q m t x:=by
 obtain⟨n,hn⟩:=h
 obtain⟨xs,hr,hf⟩:=Oi m n t _ _ hn hp
 cases ha:dp Q t with
 |true=>
  have hv: ∃cs,v= .agg cs:=by
   rw[BO] at ha
   unfold Value.okWide at ml
   split at ha
   ·rename_i hu;rw[hu] at ml;obtain⟨cs,rfl,_⟩:=ml;exact⟨cs,rfl⟩
   ·rename_i hu;rw[hu] at ml;obtain⟨cs,rfl,_⟩:=ml;exact⟨cs,rfl⟩
   ·cases ha
  obtain⟨⟨cs⟩,rfl⟩:=hv
  exact⟨.agg xs,.agg cs xs hr.1.symm hr.2.1 hr.2.2,hf,.inl ⟨ha,_,rfl⟩⟩
 |false=>
  obtain⟨c,rfl⟩:=D4 hf ha
  have hv: ∀cs,v≠ .agg cs:=by
   intro cs e
   subst e
   cases m with
   |zero=>exact hf.elim
   |succ m=>
    unfold ko at hp
    unfold Value.okWide at ml
    split at hp
    ·rename_i hu;simp[hu,Cell.okWide,Cell.ok] at ml
    ·rename_i hu;simp[hu,Cell.okWide,Cell.ok] at ml
    ·rename_i hu;simp[hu,Cell.okWide,Cell.ok] at ml
    ·rename_i hu;simp[hu,Cell.okWide,Cell.ok] at ml
    ·rename_i hu;rw[BO,hu] at ha;cases ha
    ·cases hp
  have hl:=hr.1
  obtain⟨u,hu⟩: ∃u,v.cells.toList=[u]:=by
   cases hc:v.cells.toList with
   |nil=>rw[hc] at hl;simp at hl
   |cons u r=>rw[hc] at hl;simp at hl;subst hl;exact⟨u,rfl⟩
  have e:=cells_one hu hv
  subst e
  have hc:=hr.2.1 c (by simp)
  have iQ:c.cells=[c]:=by cases c<;>first |rfl |simp[D.bC] at hc
  exact⟨c,hr.2.2 0 v c (by rw[hu];rfl) rfl,by rw[iQ];exact hf,.inr ⟨ha,hc⟩⟩
theorem D6 {m base:Nat}: ∀(ts:List TypeId) (vs:List Value) (ds:List (DataW H)) (ps:List MemPlace),(∀t∈ts,ko Q m t=true)->(∀(j:Nat) t v,ts[j]?=some t->vs[j]?=some v->Value.okWide Q w .any base t v)->
  DataW.TrodAll enc Q w 0 (fun _=>true) true ts vs ds ps-> ∃xs,xs.length=vs.length/\(∀(i:Nat) v x,vs[i]?=some v->xs[i]?=some x->aW (· <w.heap.size) w v x)/\oR Q m ts xs
 | [],vs,ds,ps,_,_,h=>by
  obtain⟨rfl,_,_⟩:=trodAll_nil h
  exact⟨[],rfl,fun i v x h1=>by simp at h1,trivial⟩
 |t::ts,vs,ds,ps,hp,ml,h=>by
  obtain⟨v,vs',d,ds',p,q,rfl,rfl,rfl,h1,h2⟩:=trodAll_cons h
  obtain⟨x,g1,g2⟩:=TN (hp t (by simp)) (ml 0 t v rfl rfl) h1
  obtain⟨xs,k1,k2,k3⟩:=D6 ts vs' ds' q (fun u hu=>hp u (by simp[hu])) (fun j u v' hu hv=>ml (j+1) u v' (by simpa using hu) (by simpa using hv)) h2
  refine⟨x::xs,by simp[k1],fun i v' y hv hy=> ?_,g2,k3⟩
  cases i with
  |zero=>simp at hv hy;subst hv;subst hy;exact g1
  |succ i=>exact k2 i v' y (by simpa using hv) (by simpa using hy)
theorem Ae {W W':World} (hl:laidOutB Q=true) (hb:Below W.heap.size W W') {sp:Nat->Bool}: ∀(ts:List TypeId) (vs:List Value) (ds:List (DataW H)) (ps:List MemPlace),(∀t∈ts,Q.readableRec t=true/\t<Q.types.size)->
  DataW.TrodAll enc Q W 0 (fun _=>true) true ts vs ds ps->(∀p∈ps,p.block<W.heap.size)->(∀p∈ps,sp p.block=true)->DataW.TrodAll enc Q W' 0 sp true ts vs ds ps
 | [],vs,ds,ps,_,h,_,_=>by
  obtain⟨rfl,rfl,rfl⟩:=trodAll_nil h
  exact trodAll_mk0
 |t::ts,vs,ds,ps,hr,h,bk,Bg=>by
  obtain⟨v,vs',d,ds',p,q,rfl,rfl,rfl,h1,h2⟩:=trodAll_cons h
  refine⟨p,q,WideElems.Trod_stays hl (hr t (by simp)).1 (hr t (by simp)).2 h1 (fun x hx=>hb.same (bk x (by simp[hx]))) (fun x hx=>Bg x (by simp[hx])),?_,rfl⟩
  exact Ae hl hb ts vs' ds' q (fun u hu=>hr u (by simp[hu])) h2 (fun x hx=>bk x (by simp[hx])) (fun x hx=>Bg x (by simp[hx]))
theorem Ol {f:Func} {s:ChangeSpec} {apart fresh handsOn again:Bool} {W W':World} {args:Array Value} {ds gs:List (DataW H)} {before:List MemPlace} {tb:TypeId} (hl:laidOutB Q=true) (hb:Below W.heap.size W W')
  (Om: ∀t∈f.params.toList,Q.readableRec t=true/\t<Q.types.size) (D7:s.vars=[]) (D8:f.resultTypes= #[tb]) (htb:Q.underlying tb=some .bool)
  (wo:s.fn H ds={results:=[.lit (.bool true)],args:=ds})
  (hW:DataW.Whole enc Q f.params.toList s.vars apart W args.toList ds gs before):s.post enc Q f apart fresh handsOn again W args (.bool true) W':=by
 have hW':=hW
 obtain⟨p,q,hA,hV,rfl,hz,hn⟩:=hW
 rw[D7] at hV
 obtain⟨rfl,rfl⟩:=trodVars_none hV
 have bk: ∀x∈p,x.block<W.heap.size:=fun x hx=>by simpa using hW'.lt x (by simpa using hx)
 have Bg:s.fn H (ds++[])={results:=[.lit (.bool true)],args:=ds}:=by rw[List.append_nil];exact wo
 have res: ∀(b:Nat) (sp:Nat->Bool) (hd:Bool),DataW.TrodAll enc Q W' b sp hd f.resultTypes.toList ((Value.bool true).resultList f.resultTypes.size) [.lit (.bool true)] []:=fun b sp hd=>by
  rw[D8]
  exact⟨[],[],shut_bool htb true,rfl,rfl⟩
 have keep: ∀sp:Nat->Bool,(∀x∈p,sp x.block=true)->DataW.TrodAll enc Q W' 0 sp true f.params.toList args.toList ds p:=fun sp hs=>Ae hl hb _ _ _ _ Om hA bk hs
 refine⟨ds,[],p++[],[],p,[],hW',?_,?_,?_,hb.frame _,fun _=>⟨?_,?_⟩⟩
 ·rw[Bg];exact res _ _ _
 ·rw[Bg];exact keep _ (fun x hx=>by simpa using bk x hx)
 ·rw[Bg,D7];rfl
 ·exact ok_one D8 rfl (okWide_bool_mk htb true)
 ·refine⟨_,[],p++[],⟨[]++p,[],trodAll_append (keep _ (fun _ _=>rfl)) (res _ _ _),by rw[D7];rfl,by simp,?_,?_⟩,fun x hx _=>hx⟩
  ·intro b off hp
   have Mv:MemPlace.cell b off∈p:=by simpa using hp
   rw[hb.frozen (p:=⟨b,off,none⟩) (bk _ Mv)]
   exact hz b off (by simpa using Mv)
  ·intro ha
   simpa using hn ha
end
theorem BP {Q:Program} {kp:py} (hm:Q.follows .mixedOrders=true) {lf k:Nat} {f:FuncId} {fn:Func} (eJ:Q.funcs[f]?=some fn) (cB:fn.body.isSome=true) (gJ:(fn.name== "runtime.NumGoroutine")=false)
  {xs:List D} {p:P} {R1:List (Nat×En)} (bE:eZ Q kp lf k f (xs.map P.d) []=some (p,R1)) {w:World} (hX:db Q {w with drawn:=0} kp.X) {vs:List Value} (hlen:xs.length=vs.length) (Gb: ∀(i:Nat) v x,vs[i]?=some v->xs[i]?=some x->aW (· <w.heap.size) w v x):
  Calls Q f ⟨vs⟩ w (fun e w'=> ∃v F' G',e= .returned v/\aD F' w' G' R1 v p/\Below w.heap.size w w'):=by
 have hH:fo Q ⟨fun _=>undef,{w with drawn:=0},0,false⟩ (· <w.heap.size) (fun _=>undef) w []:=
  ⟨.nil,Nat.zero_le _,fun t p hp=>by simp[lk] at hp,fun n e he=>by simp[lk] at he,fun n m e e' b he=>by simp[lk] at he,fun n e b he=>by simp[lk] at he,fun b hb=>hb,fun n e i he=>by simp[lk] at he,fun b hb=>⟨hb,rfl⟩,Nat.zero_le _,Nat.zero_le _⟩
 have cp:=sj hX hm k f (xs.map P.d) [] p R1 bE (· <w.heap.size) (fun _=>undef) w vs hH (by simp[hlen]) (fun i v c hv hc=>by
  rw[List.getElem?_map] at hc
  cases hx:xs[i]? with
  |none=>rw[hx] at hc;cases hc
  |some x=>rw[hx] at hc;cases hc;exact .d (Gb i v x hv hx))
 have iW:(callFunc f ⟨vs⟩).run Q w= .ok (.enter f ⟨vs⟩) w:=by
  simp[callFunc,eJ]
  rw[if_neg (by simpa using gJ)]
  cases hb:fn.body with
  |none=>rw[hb] at cB;cases cB
  |some c=>simp
 rcases cp with⟨_,h⟩| ⟨v,w',h,_⟩
 ·refine h.mono fun e w' ⟨v,he,F',G',h1,h2,h3⟩=>⟨v,F',G',he,h2,h3.os,h3.tape,h3.output,h3.size,fun b hb=>h3.keep b hb (fun⟨n,e,he,_⟩=>by simp[lk] at he)⟩
 ·rw[iW] at h
  cases h
theorem uq {H:Type} {enc:TypeId×Value->H} {Q:Program} {w:World}: ∀(ts:List TypeId) (vs:List Value) (ds:List (DataW H)) (ps:List MemPlace),DataW.TrodAll enc Q w 0 (fun _=>true) true ts vs ds ps->ds.length=ts.length
 | [],vs,ds,ps,h=>by
  obtain⟨_,rfl,_⟩:=trodAll_nil h
  rfl
 |t::ts,vs,ds,ps,h=>by
  obtain⟨v,vs',d,ds',p,q,rfl,rfl,rfl,h1,h2⟩:=trodAll_cons h
  simp[uq ts vs' ds' q h2]
def noX:CF:=fun _ _ _=>none
theorem On (Q:Program) (w:World):db Q w noX:=fun ju ps R p R1 h=>by simp[noX] at h
theorem BQ {Q:Program} {kp:py} (hm:Q.follows .mixedOrders=true) {m:Nat} {f:FuncId} {fn:Func} (eJ:Q.funcs[f]?=some fn) (cB:fn.body.isSome=true) (gJ:(fn.name== "runtime.NumGoroutine")=false)
  {H:Type} {enc:TypeId×Value->H} {s:ChangeSpec} {apart fresh handsOn again:Bool} {tb:TypeId} (hl:laidOutB Q=true) (Om: ∀t∈fn.params.toList,Q.readableRec t=true/\t<Q.types.size) (qai: ∀t∈fn.params.toList,ko Q m t=true) (D7:s.vars=[]) (D8:fn.resultTypes= #[tb]) (htb:Q.underlying tb=some .bool)
  {W:World} (hX:db Q {W with drawn:=0} kp.X) {base:Nat} {args:Array Value} {ds gs:List (DataW H)} {before:List MemPlace} (hval: ∀(j:Nat) t v,fn.params[j]?=some t->args[j]?=some v->Value.okWide Q W .any base t v)
  (hW:DataW.Whole enc Q fn.params.toList s.vars apart W args.toList ds gs before) (wo: ∀ds:List (DataW H),ds.length=fn.params.toList.length->s.fn H ds={results:=[.lit (.bool true)],args:=ds})
  (bE: ∀xs,oR Q m fn.params.toList xs-> ∃lf k R,eZ Q kp lf k f (xs.map P.d) []=some (.d (.bool true),R)):
  Calls Q f args W fun e W'=> ∃v,e= .returned v/\s.post enc Q fn apart fresh handsOn again W args v W':=by
 obtain⟨p,q,hA,hV,_⟩:=id hW
 obtain⟨xs,h1,h2,h3⟩:=D6 (Q:=Q) (w:=W) (base:=base) fn.params.toList args.toList ds p qai (fun j t v ht hv=>hval j t v (by simpa using ht) (by simpa using hv)) hA
 obtain⟨lf,k,R,hR⟩:=bE xs h3
 have hc:=BP hm eJ cB gJ hR hX (vs:=args.toList) h1 h2
 refine hc.mono fun e W' ⟨v,F',G',he,hp,hb⟩=>⟨v,he,?_⟩
 have:v= .bool true:=aD.cw (p:= .d (.bool true)) hp rfl
 subst this
 exact Ol hl hb Om D7 D8 htb (wo ds (uq _ _ _ _ hA)) hW
end Pi
