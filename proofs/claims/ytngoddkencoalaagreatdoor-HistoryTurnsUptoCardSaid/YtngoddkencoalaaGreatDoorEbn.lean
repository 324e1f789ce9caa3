/- The texts PiLaw PiX. -/
import Derived.Test.YtngoddkencoalaaGreatDoorPiTop
namespace Pi
open Go Go.ChangeShapes Go.WideShapes Go.RowKit
def BP(Q:Program)(m:Nat)(t:TypeId)(x:D):Prop:=Fit Q m t x.cells/\((dE Q t=true/\ ∃cs,x= .agg cs)\/(dE Q t=false/\x.bA=true))
def qB(Q:Program)(m:Nat):List TypeId->List D->Prop
 | [],[]=>True
 |t::ts,x::xs=>BP Q m t x/\qB Q m ts xs
 |_,_=>False
section
variable{Q:Program}{m:Nat}{t:TypeId}{x:D}
theorem SV{k:IntKind}(hu:Q.underlying t=some (.int k))(h:BP Q (m+1) t x): ∃n,x= .int k n/\(Lit.int k n).wf=true:=by
 obtain⟨h1,h2⟩:=h;unfold Fit at h1;rw[hu] at h1;obtain⟨b,hb,hw⟩:=h1;rcases h2 with⟨ha,cs,rfl⟩| ⟨_,hc⟩
 ·simp[dE,hu] at ha
 refine⟨b,?_,hw⟩;cases x<;>simp_all [D.cells,D.bA]
theorem KB{e:TypeId}{k:Nat}(hu:Q.underlying t=some (.slice e))(hk:Q.cellsOf e=k)(h:BP Q (m+1) t x): ∃es,x= .sl k es/\es.length<=maxLen/\ ∀y∈es,BP Q m e y:=by
 obtain⟨h1,h2⟩:=h;unfold Fit at h1;rw[hu] at h1;obtain⟨es,hb,hw,hy⟩:=h1;subst hk;rcases h2 with⟨ha,cs,rfl⟩| ⟨_,hc⟩
 ·simp[dE,hu] at ha
 refine⟨es,?_,hw,hy⟩;cases x<;>simp_all [D.cells,D.bA]
theorem Hq{fs:Array Field}{k:Nat}(hu:Q.underlying t=some (.struct fs))(hk:Q.cellsOf t=k)(h:BP Q (m+1) t x): ∃cs,x= .agg cs/\cs.length=k/\ ∀f∈fs.toList,Fit Q m f.type ((cs.drop f.offset).take (Q.cellsOf f.type)):=by
 obtain⟨h1,h2⟩:=h;unfold Fit at h1;rw[hu] at h1;subst hk;rcases h2 with⟨ha,cs,rfl⟩| ⟨ha,hc⟩
 ·exact⟨cs,rfl,h1.1,h1.2⟩
 simp[dE,hu] at ha
theorem tZ{k:IntKind}{c:D}(hu:Q.underlying t=some (.int k))(h:Fit Q (m+1) t [c]): ∃n,c= .int k n/\(Lit.int k n).wf=true:=by unfold Fit at h;rw[hu] at h;obtain⟨b,hb,hw⟩:=h;exact⟨b,by simpa using hb,hw⟩
theorem SX{c:D}(hu:Q.underlying t=some .bool)(h:Fit Q (m+1) t [c]): ∃n,c= .bool n:=by unfold Fit at h;rw[hu] at h;obtain⟨b,hb⟩:=h;exact⟨b,by simpa using hb⟩
end
section
variable{H:Type}{enc:TypeId×Value->H}{Q:Program}{w:World}
theorem cells_one{v c:Value}(h:v.cells.toList=[c])(hv: ∀cs,v≠ .agg cs):v=c:=by cases v<;>first |exact absurd rfl (hv _)| (simp[Value.cells] at h;exact h)
theorem qao{m:Nat}{t:TypeId}{v:Value}{d:DataW H}{ps:List MemPlace}{base:Nat}(hp:gE Q m t=true)(my:Value.okWide Q w .any base t v)(h:DataW.Trod enc Q w 0 (λ_=>true) true t v d ps):
  ∃x,aS (· <w.heap.size) w v x/\BP Q m t x:=by
 obtain⟨n,hn⟩:=h;obtain⟨xs,hr,hf⟩:=SU m n t _ _ hn hp;cases ha:dE Q t with
 |true=>
  have hv: ∃cs,v= .agg cs:=by
   rw[Ew] at ha;unfold Value.okWide at my;split at ha
   next hu=>rw[hu] at my;obtain⟨cs,rfl,_⟩:=my;exact⟨cs,rfl⟩
   next hu=>rw[hu] at my;obtain⟨cs,rfl,_⟩:=my;exact⟨cs,rfl⟩
   cases ha
  obtain⟨⟨cs⟩,rfl⟩:=hv;exact⟨.agg xs,.agg cs xs hr.1.symm hr.2.1 hr.2.2,hf,.inl ⟨ha,_,rfl⟩⟩
 |false=>
  obtain⟨c,rfl⟩:=Hp hf ha;have hv: ∀cs,v≠ .agg cs:=by
   intro cs e;subst e;cases m with
   |zero=>exact hf.elim
   |succ m=>
    unfold gE at hp;unfold Value.okWide at my;split at hp
    next hu=>simp[hu,Cell.okWide,Cell.ok] at my
    next hu=>simp[hu,Cell.okWide,Cell.ok] at my
    next hu=>simp[hu,Cell.okWide,Cell.ok] at my
    next hu=>simp[hu,Cell.okWide,Cell.ok] at my
    next hu=>rw[Ew,hu] at ha;cases ha
    cases hp
  have hl:=hr.1;obtain⟨u,hu⟩: ∃u,v.cells.toList=[u]:=by
   cases hc:v.cells.toList with
   |nil=>rw[hc] at hl;simp at hl
   |cons u r=>rw[hc] at hl;simp at hl;subst hl;exact⟨u,rfl⟩
  have e:=cells_one hu hv;subst e;have hc:=hr.2.1 c (by simp);have l7:c.cells=[c]:=by cases c<;>first |rfl |simp[D.bA] at hc
  exact⟨c,hr.2.2 0 v c (by rw[hu];rfl) rfl,by rw[l7];exact hf,.inr ⟨ha,hc⟩⟩
theorem Hr{m base:Nat}: ∀(ts:List TypeId) (vs:List Value) (ds:List (DataW H)) (ps:List MemPlace),(∀t∈ts,gE Q m t=true)->(∀(j:Nat) t v,ts[j]?=some t->vs[j]?=some v->Value.okWide Q w .any base t v)->
  DataW.TrodAll enc Q w 0 (λ_=>true) true ts vs ds ps-> ∃xs,xs.length=vs.length/\(∀(i:Nat) v x,vs[i]?=some v->xs[i]?=some x->aS (· <w.heap.size) w v x)/\qB Q m ts xs
 | [],vs,ds,ps,_,_,h=>by obtain⟨rfl,_,_⟩:=trodAll_nil h;exact⟨[],rfl,λi v x h1=>by simp at h1,trivial⟩
 |t::ts,vs,ds,ps,hp,my,h=>by
  obtain⟨v,vs',d,ds',p,q,rfl,rfl,rfl,h1,h2⟩:=trodAll_cons h;obtain⟨x,g1,g2⟩:=qao (hp t (by simp)) (my 0 t v rfl rfl) h1;obtain⟨xs,k1,k2,k3⟩:=Hr ts vs' ds' q (λu hu=>hp u (by simp[hu])) (λj u v' hu hv=>my (j+1) u v' (by simpa using hu) (by simpa using hv)) h2;refine⟨x::xs,by simp[k1],λi v' y hv hy=> ?_,g2,k3⟩;cases i with
  |zero=>simp at hv hy;subst hv;subst hy;exact g1
  |succ i=>exact k2 i v' y (by simpa using hv) (by simpa using hy)
theorem CQ{W W':World}(hl:laidOutB Q=true)(hb:Below W.heap.size W W'){sp:Nat->Bool}: ∀(ts:List TypeId) (vs:List Value) (ds:List (DataW H)) (ps:List MemPlace),(∀t∈ts,Q.readableRec t=true/\t<Q.types.size)->
  DataW.TrodAll enc Q W 0 (λ_=>true) true ts vs ds ps->(∀p∈ps,p.block<W.heap.size)->(∀p∈ps,sp p.block=true)->DataW.TrodAll enc Q W' 0 sp true ts vs ds ps
 | [],vs,ds,ps,_,h,_,_=>by obtain⟨rfl,rfl,rfl⟩:=trodAll_nil h;exact trodAll_mk0
 |t::ts,vs,ds,ps,hr,h,bJ,DW=>by obtain⟨v,vs',d,ds',p,q,rfl,rfl,rfl,h1,h2⟩:=trodAll_cons h;refine⟨p,q,WideElems.Trod_stays hl (hr t (by simp)).1 (hr t (by simp)).2 h1 (λx hx=>hb.same (bJ x (by simp[hx]))) (λx hx=>DW x (by simp[hx])),?_,rfl⟩;exact CQ hl hb ts vs' ds' q (λu hu=>hr u (by simp[hu])) h2 (λx hx=>bJ x (by simp[hx])) (λx hx=>DW x (by simp[hx]))
theorem SY{f:Func}{s:ChangeSpec}{apart fresh handsOn again:Bool}{W W':World}{args:Array Value}{ds gs:List (DataW H)}{before:List MemPlace}{tb:TypeId}(hl:laidOutB Q=true)(hb:Below W.heap.size W W')
  (SZ: ∀t∈f.params.toList,Q.readableRec t=true/\t<Q.types.size) (Hs:s.vars=[]) (Ht:f.resultTypes= #[tb]) (htb:Q.underlying tb=some .bool)
  (yP:s.fn H ds={results:=[.lit (.bool true)],args:=ds})
  (hW:DataW.Whole enc Q f.params.toList s.vars apart W args.toList ds gs before):s.post enc Q f apart fresh handsOn again W args (.bool true) W':=by
 have hW':=hW;obtain⟨p,q,hA,hV,rfl,hz,hn⟩:=hW;rw[Hs] at hV;obtain⟨rfl,rfl⟩:=trodVars_none hV;have bJ: ∀x∈p,x.block<W.heap.size:=λx hx=>by simpa using hW'.lt x (by simpa using hx)
 have DW:s.fn H (ds++[])={results:=[.lit (.bool true)],args:=ds}:=by rw[zaV];exact yP
 have res: ∀(b:Nat) (sp:Nat->Bool) (hd:Bool),DataW.TrodAll enc Q W' b sp hd f.resultTypes.toList ((Value.bool true).resultList f.resultTypes.size) [.lit (.bool true)] []:=λb sp hd=>by rw[Ht];exact⟨[],[],shut_bool htb true,rfl,rfl⟩
 have keep: ∀sp:Nat->Bool,(∀x∈p,sp x.block=true)->DataW.TrodAll enc Q W' 0 sp true f.params.toList args.toList ds p:=λsp hs=>CQ hl hb _ _ _ _ SZ hA bJ hs;refine⟨ds,[],p++[],[],p,[],hW',?_,?_,?_,hb.frame _,λ_=>⟨?_,?_⟩⟩
 ·rw[DW];exact res _ _ _
 ·rw[DW];exact keep _ (λx hx=>by simpa using bJ x hx)
 ·rw[DW,Hs];rfl
 ·exact ok_one Ht rfl (okWide_bool_mk htb true)
 refine⟨_,[],p++[],⟨[]++p,[],trodAll_append (keep _ (λ_ _=>rfl)) (res _ _ _),by rw[Hs];rfl,by simp,?_,?_⟩,λx hx _=>hx⟩
 ·intro b off hp;have QQ:MemPlace.cell b off∈p:=by simpa using hp
  rw[hb.frozen (p:=⟨b,off,none⟩) (bJ _ QQ)];exact hz b off (by simpa using QQ)
 intro ha;simpa using hn ha
end
theorem Ex{Q:Program}{kp:qV}(hm:Q.follows .mixedOrders=true){lf k:Nat}{f:FuncId}{fn:Func}(gg:Q.funcs[f]?=some fn)(cN:fn.body.isSome=true)(lG:(fn.name== "runtime.NumGoroutine")=false)
  {xs:List D} {p:P} {R1:List (Nat×En)} (cb:fJ Q kp lf k f (xs.map P.d) []=some (p,R1)) {w:World} (hX:dw Q {w with drawn:=0} kp.X) {vs:List Value} (hlen:xs.length=vs.length) (yB: ∀(i:Nat) v x,vs[i]?=some v->xs[i]?=some x->aS (· <w.heap.size) w v x):
  Calls Q f ⟨vs⟩ w (λe w'=> ∃v F' G',e= .returned v/\aH F' w' G' R1 v p/\Below w.heap.size w w'):=by
 have hH:fM Q ⟨λ_=>undef,{w with drawn:=0},0,false⟩ (· <w.heap.size) (λ_=>undef) w []:=
  ⟨.nil,za1 _,λt p hp=>by simp[lk] at hp,λn e he=>by simp[lk] at he,λn m e e' b he=>by simp[lk] at he,λn e b he=>by simp[lk] at he,λb hb=>hb,λn e i he=>by simp[lk] at he,λb hb=>⟨hb,rfl⟩,za1 _,za1 _⟩
 have aT:=tY hX hm k f (xs.map P.d) [] p R1 cb (· <w.heap.size) (λ_=>undef) w vs hH (by simp[hlen]) (λi v c hv hc=>by
  rw[zaD] at hc;cases hx:xs[i]? with
  |none=>rw[hx] at hc;cases hc
  |some x=>rw[hx] at hc;cases hc;exact .d (yB i v x hv hx))
 have mB:(callFunc f ⟨vs⟩).run Q w= .ok (.enter f ⟨vs⟩) w:=by
  simp[callFunc,gg];rw[zan (by simpa using lG)];cases hb:fn.body with
  |none=>rw[hb] at cN;cases cN
  |some c=>simp
 rcases aT with⟨_,h⟩| ⟨v,w',h,_⟩
 ·refine h.mono λe w' ⟨v,he,F',G',h1,h2,h3⟩=>⟨v,F',G',he,h2,h3.os,h3.tape,h3.output,h3.size,λb hb=>h3.keep b hb (λ⟨n,e,he,_⟩=>by simp[lk] at he)⟩
 rw[mB] at h;cases h
theorem wO{H:Type}{enc:TypeId×Value->H}{Q:Program}{w:World}: ∀(ts:List TypeId) (vs:List Value) (ds:List (DataW H)) (ps:List MemPlace),DataW.TrodAll enc Q w 0 (λ_=>true) true ts vs ds ps->ds.length=ts.length
 | [],vs,ds,ps,h=>by obtain⟨_,rfl,_⟩:=trodAll_nil h;rfl
 |t::ts,vs,ds,ps,h=>by obtain⟨v,vs',d,ds',p,q,rfl,rfl,rfl,h1,h2⟩:=trodAll_cons h;simp[wO ts vs' ds' q h2]
def noX:CF:=λ_ _ _=>none
theorem S0(Q:Program)(w:World):dw Q w noX:=λkW ps R p R1 h=>by simp[noX] at h
end Pi
namespace Pi
open Go Go.RowKit
section
variable{Q:Program}{w0 w:World}{F:Nat->Prop}{G:Nat->Value}{f:FuncId}{vs:List Value}
theorem fM.later{T:Tg}(h:fM Q T F G w []){w':World}(h0:T.w0.drawn=0)(hb:Below w.heap.size w w'):fM Q T F G w' []:=
 ⟨.nil,za1 _,λt p hp=>by simp[lk] at hp,λn e he=>by simp[lk] at he,λn m e e' b he=>by simp[lk] at he,λn e b he=>by simp[lk] at he,
  λb hf=>zbb (h.jE b hf) hb.size,λn e i he=>by simp[lk] at he,λb hz=>⟨(h.z b hz).1,(hb.block b (h.jE b (h.z b hz).1)).trans (h.z b hz).2⟩,by rw[h0];exact za1 _,zaE h.sz hb.size⟩
theorem qap(G:Nat->Value)(b:Nat): ¬Own G [] b:=λ⟨n,e,he,_⟩=>by simp[lk] at he
theorem vE{T:Tg}(h0:T.w0.drawn=0)(hH:fM Q T F G w [])(hc:(callFunc f ⟨vs⟩).run Q w= .ok (.enter f ⟨vs⟩) w){p:P}
  (h:Calls Q f ⟨vs⟩ w λe w'=> ∃v,e= .returned v/\Below w.heap.size w w'/\ ∀F G,aH F w' G [] v p):
  kH Q f ⟨vs⟩ w (λv w'=> ∃F' G',fM Q T F' G' w' []/\aH F' w' G' [] v p/\Ext (Own G []) (Own G' []) F F' w w'):=by
 refine .inl ⟨hc,h.mono λe w' ⟨v,he,hb,hp⟩=>⟨v,he,F,G,hH.later h0 hb,hp F G,⟨λ_ h=>h,λ_ h=> .inl h,λb h=>absurd h (qap G b),λb bJ _=>hb.block b bJ,hb.size,hb.os,hb.tape,hb.output⟩⟩⟩
end
end Pi
