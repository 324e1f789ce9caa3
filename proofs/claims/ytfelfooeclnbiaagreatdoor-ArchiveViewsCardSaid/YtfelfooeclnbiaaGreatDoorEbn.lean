/- The texts PiLaw PiX. -/
import Derived.Test.YtfelfooeclnbiaaGreatDoorPiTop
namespace Pi
open Go Go.ChangeShapes Go.WideShapes Go.RowKit
def E8(Q:Program)(m:Nat)(t:TypeId)(x:D):Prop:=Fit Q m t x.cells/\((dx Q t=true/\ ∃cs,x= .agg cs)\/(dx Q t=false/\x.bt=true))
def rz(Q:Program)(m:Nat):List TypeId->List D->Prop
 | [],[]=>True
 |t::ts,x::xs=>E8 Q m t x/\rz Q m ts xs
 |_,_=>False
section
variable{Q:Program}{m:Nat}{t:TypeId}{x:D}
theorem IA{e:TypeId}{k:Nat}(hu:Q.underlying t=some (.slice e))(hk:Q.cellsOf e=k)(h:E8 Q (m+1) t x): ∃es,x= .sl k es/\es.length<=maxLen/\ ∀y∈es,E8 Q m e y:=by
 obtain⟨h1,h2⟩:=h;unfold Fit at h1;rw[hu] at h1;obtain⟨es,hb,hw,hy⟩:=h1;subst hk;rcases h2 with⟨ha,cs,rfl⟩| ⟨_,hc⟩
 ·simp[dx,hu] at ha
 refine⟨es,?_,hw,hy⟩;cases x<;>simp_all [D.cells,D.bt]
theorem E9{fs:Array Field}{k:Nat}(hu:Q.underlying t=some (.struct fs))(hk:Q.cellsOf t=k)(h:E8 Q (m+1) t x): ∃cs,x= .agg cs/\cs.length=k/\ ∀f∈fs.toList,Fit Q m f.type ((cs.drop f.offset).take (Q.cellsOf f.type)):=by
 obtain⟨h1,h2⟩:=h;unfold Fit at h1;rw[hu] at h1;subst hk;rcases h2 with⟨ha,cs,rfl⟩| ⟨ha,hc⟩
 ·exact⟨cs,rfl,h1.1,h1.2⟩
 simp[dx,hu] at ha
theorem sQ{k:IntKind}{c:D}(hu:Q.underlying t=some (.int k))(h:Fit Q (m+1) t [c]): ∃n,c= .int k n/\(Lit.int k n).wf=true:=by unfold Fit at h;rw[hu] at h;obtain⟨b,hb,hw⟩:=h;exact⟨b,by simpa using hb,hw⟩
theorem Qp{c:D}(hu:Q.underlying t=some .bool)(h:Fit Q (m+1) t [c]): ∃n,c= .bool n:=by unfold Fit at h;rw[hu] at h;obtain⟨b,hb⟩:=h;exact⟨b,by simpa using hb⟩
end
section
variable{H:Type}{enc:TypeId×Value->H}{Q:Program}{w:World}
theorem cells_one{v c:Value}(h:v.cells.toList=[c])(hv: ∀cs,v≠ .agg cs):v=c:=by cases v<;>first |exact absurd rfl (hv _)| (simp[Value.cells] at h;exact h)
theorem WE{m:Nat}{t:TypeId}{v:Value}{d:DataW H}{ps:List MemPlace}{base:Nat}(hp:kW Q m t=true)(nx:Value.okWide Q w .any base t v)(h:DataW.Trod enc Q w 0 (λ_=>true) true t v d ps):
  ∃x,aU (· <w.heap.size) w v x/\E8 Q m t x:=by
 obtain⟨n,hn⟩:=h;obtain⟨xs,hr,hf⟩:=Qo m n t _ _ hn hp;cases ha:dx Q t with
 |true=>
  have hv: ∃cs,v= .agg cs:=by
   rw[CK] at ha;unfold Value.okWide at nx;split at ha
   next hu=>rw[hu] at nx;obtain⟨cs,rfl,_⟩:=nx;exact⟨cs,rfl⟩
   next hu=>rw[hu] at nx;obtain⟨cs,rfl,_⟩:=nx;exact⟨cs,rfl⟩
   cases ha
  obtain⟨⟨cs⟩,rfl⟩:=hv;exact⟨.agg xs,.agg cs xs hr.1.symm hr.2.1 hr.2.2,hf,.inl ⟨ha,_,rfl⟩⟩
 |false=>
  obtain⟨c,rfl⟩:=E7 hf ha;have hv: ∀cs,v≠ .agg cs:=by
   intro cs e;subst e;cases m with
   |zero=>exact hf.elim
   |succ m=>
    unfold kW at hp;unfold Value.okWide at nx;split at hp
    next hu=>simp[hu,Cell.okWide,Cell.ok] at nx
    next hu=>simp[hu,Cell.okWide,Cell.ok] at nx
    next hu=>simp[hu,Cell.okWide,Cell.ok] at nx
    next hu=>simp[hu,Cell.okWide,Cell.ok] at nx
    next hu=>rw[CK,hu] at ha;cases ha
    cases hp
  have hl:=hr.1;obtain⟨u,hu⟩: ∃u,v.cells.toList=[u]:=by
   cases hc:v.cells.toList with
   |nil=>rw[hc] at hl;simp at hl
   |cons u r=>rw[hc] at hl;simp at hl;subst hl;exact⟨u,rfl⟩
  have e:=cells_one hu hv;subst e;have hc:=hr.2.1 c (by simp);have ln:c.cells=[c]:=by cases c<;>first |rfl |simp[D.bt] at hc
  exact⟨c,hr.2.2 0 v c (by rw[hu];rfl) rfl,by rw[ln];exact hf,.inr ⟨ha,hc⟩⟩
theorem Fa{m base:Nat}: ∀(ts:List TypeId) (vs:List Value) (ds:List (DataW H)) (ps:List MemPlace),(∀t∈ts,kW Q m t=true)->(∀(j:Nat) t v,ts[j]?=some t->vs[j]?=some v->Value.okWide Q w .any base t v)->
  DataW.TrodAll enc Q w 0 (λ_=>true) true ts vs ds ps-> ∃xs,xs.length=vs.length/\(∀(i:Nat) v x,vs[i]?=some v->xs[i]?=some x->aU (· <w.heap.size) w v x)/\rz Q m ts xs
 | [],vs,ds,ps,_,_,h=>by obtain⟨rfl,_,_⟩:=trodAll_nil h;exact⟨[],rfl,λi v x h1=>by simp at h1,trivial⟩
 |t::ts,vs,ds,ps,hp,nx,h=>by
  obtain⟨v,vs',d,ds',p,q,rfl,rfl,rfl,h1,h2⟩:=trodAll_cons h;obtain⟨x,g1,g2⟩:=WE (hp t (by simp)) (nx 0 t v rfl rfl) h1;obtain⟨xs,k1,k2,k3⟩:=Fa ts vs' ds' q (λu hu=>hp u (by simp[hu])) (λj u v' hu hv=>nx (j+1) u v' (by simpa using hu) (by simpa using hv)) h2;refine⟨x::xs,by simp[k1],λi v' y hv hy=> ?_,g2,k3⟩;cases i with
  |zero=>simp at hv hy;subst hv;subst hy;exact g1
  |succ i=>exact k2 i v' y (by simpa using hv) (by simpa using hy)
theorem Ba{W W':World}(hl:laidOutB Q=true)(hb:Below W.heap.size W W'){sp:Nat->Bool}: ∀(ts:List TypeId) (vs:List Value) (ds:List (DataW H)) (ps:List MemPlace),(∀t∈ts,Q.readableRec t=true/\t<Q.types.size)->
  DataW.TrodAll enc Q W 0 (λ_=>true) true ts vs ds ps->(∀p∈ps,p.block<W.heap.size)->(∀p∈ps,sp p.block=true)->DataW.TrodAll enc Q W' 0 sp true ts vs ds ps
 | [],vs,ds,ps,_,h,_,_=>by obtain⟨rfl,rfl,rfl⟩:=trodAll_nil h;exact trodAll_mk0
 |t::ts,vs,ds,ps,hr,h,bz,ri=>by obtain⟨v,vs',d,ds',p,q,rfl,rfl,rfl,h1,h2⟩:=trodAll_cons h;refine⟨p,q,WideElems.Trod_stays hl (hr t (by simp)).1 (hr t (by simp)).2 h1 (λx hx=>hb.same (bz x (by simp[hx]))) (λx hx=>ri x (by simp[hx])),?_,rfl⟩;exact Ba hl hb ts vs' ds' q (λu hu=>hr u (by simp[hu])) h2 (λx hx=>bz x (by simp[hx])) (λx hx=>ri x (by simp[hx]))
theorem Qq{f:Func}{s:ChangeSpec}{apart fresh handsOn again:Bool}{W W':World}{args:Array Value}{ds gs:List (DataW H)}{before:List MemPlace}{tb:TypeId}(hl:laidOutB Q=true)(hb:Below W.heap.size W W')
  (Qr: ∀t∈f.params.toList,Q.readableRec t=true/\t<Q.types.size) (Fb:s.vars=[]) (Fc:f.resultTypes= #[tb]) (htb:Q.underlying tb=some .bool)
  (xo:s.fn H ds={results:=[.lit (.bool true)],args:=ds})
  (hW:DataW.Whole enc Q f.params.toList s.vars apart W args.toList ds gs before):s.post enc Q f apart fresh handsOn again W args (.bool true) W':=by
 have hW':=hW;obtain⟨p,q,hA,hV,rfl,hz,hn⟩:=hW;rw[Fb] at hV;obtain⟨rfl,rfl⟩:=trodVars_none hV;have bz: ∀x∈p,x.block<W.heap.size:=λx hx=>by simpa using hW'.lt x (by simpa using hx)
 have ri:s.fn H (ds++[])={results:=[.lit (.bool true)],args:=ds}:=by rw[zbl];exact xo
 have res: ∀(b:Nat) (sp:Nat->Bool) (hd:Bool),DataW.TrodAll enc Q W' b sp hd f.resultTypes.toList ((Value.bool true).resultList f.resultTypes.size) [.lit (.bool true)] []:=λb sp hd=>by rw[Fc];exact⟨[],[],shut_bool htb true,rfl,rfl⟩
 have keep: ∀sp:Nat->Bool,(∀x∈p,sp x.block=true)->DataW.TrodAll enc Q W' 0 sp true f.params.toList args.toList ds p:=λsp hs=>Ba hl hb _ _ _ _ Qr hA bz hs;refine⟨ds,[],p++[],[],p,[],hW',?_,?_,?_,hb.frame _,λ_=>⟨?_,?_⟩⟩
 ·rw[ri];exact res _ _ _
 ·rw[ri];exact keep _ (λx hx=>by simpa using bz x hx)
 ·rw[ri,Fb];rfl
 ·exact ok_one Fc rfl (okWide_bool_mk htb true)
 refine⟨_,[],p++[],⟨[]++p,[],trodAll_append (keep _ (λ_ _=>rfl)) (res _ _ _),by rw[Fb];rfl,by simp,?_,?_⟩,λx hx _=>hx⟩
 ·intro b off hp;have Ol:MemPlace.cell b off∈p:=by simpa using hp
  rw[hb.frozen (p:=⟨b,off,none⟩) (bz _ Ol)];exact hz b off (by simpa using Ol)
 intro ha;simpa using hn ha
end
theorem CM{Q:Program}{kp:sr}(hm:Q.follows .mixedOrders=true){lf k:Nat}{f:FuncId}{fn:Func}(gK:Q.funcs[f]?=some fn)(cD:fn.body.isSome=true)(kU:(fn.name== "runtime.NumGoroutine")=false)
  {xs:List D} {p:P} {R1:List (Nat×En)} (bX:fG Q kp lf k f (xs.map P.d) []=some (p,R1)) {w:World} (hX:eG Q {w with drawn:=0} kp.X) {vs:List Value} (hlen:xs.length=vs.length) (H0: ∀(i:Nat) v x,vs[i]?=some v->xs[i]?=some x->aU (· <w.heap.size) w v x):
  Calls Q f ⟨vs⟩ w (λe w'=> ∃v F' G',e= .returned v/\aF F' w' G' R1 v p/\Below w.heap.size w w'):=by
 have hH:eZ Q ⟨λ_=>undef,{w with drawn:=0},0,false⟩ (· <w.heap.size) (λ_=>undef) w []:=
  ⟨.nil,za7 _,λt p hp=>by simp[lk] at hp,λn e he=>by simp[lk] at he,λn m e e' b he=>by simp[lk] at he,λn e b he=>by simp[lk] at he,λb hb=>hb,λn e i he=>by simp[lk] at he,λb hb=>⟨hb,rfl⟩,za7 _,za7 _⟩
 have aW:=sP hX hm k f (xs.map P.d) [] p R1 bX (· <w.heap.size) (λ_=>undef) w vs hH (by simp[hlen]) (λi v c hv hc=>by
  rw[zaD] at hc;cases hx:xs[i]? with
  |none=>rw[hx] at hc;cases hc
  |some x=>rw[hx] at hc;cases hc;exact .d (H0 i v x hv hx))
 have iq:(callFunc f ⟨vs⟩).run Q w= .ok (.enter f ⟨vs⟩) w:=by
  simp[callFunc,gK];rw[zap (by simpa using kU)];cases hb:fn.body with
  |none=>rw[hb] at cD;cases cD
  |some c=>simp
 rcases aW with⟨_,h⟩| ⟨v,w',h,_⟩
 ·refine h.mono λe w' ⟨v,he,F',G',h1,h2,h3⟩=>⟨v,F',G',he,h2,h3.os,h3.tape,h3.output,h3.size,λb hb=>h3.keep b hb (λ⟨n,e,he,_⟩=>by simp[lk] at he)⟩
 rw[iq] at h;cases h
theorem vJ{H:Type}{enc:TypeId×Value->H}{Q:Program}{w:World}: ∀(ts:List TypeId) (vs:List Value) (ds:List (DataW H)) (ps:List MemPlace),DataW.TrodAll enc Q w 0 (λ_=>true) true ts vs ds ps->ds.length=ts.length
 | [],vs,ds,ps,h=>by obtain⟨_,rfl,_⟩:=trodAll_nil h;rfl
 |t::ts,vs,ds,ps,h=>by obtain⟨v,vs',d,ds',p,q,rfl,rfl,rfl,h1,h2⟩:=trodAll_cons h;simp[vJ ts vs' ds' q h2]
theorem CN{Q:Program}{kp:sr}(hm:Q.follows .mixedOrders=true){m:Nat}{f:FuncId}{fn:Func}(gK:Q.funcs[f]?=some fn)(cD:fn.body.isSome=true)(kU:(fn.name== "runtime.NumGoroutine")=false)
  {H:Type} {enc:TypeId×Value->H} {s:ChangeSpec} {apart fresh handsOn again:Bool} {tb:TypeId} (hl:laidOutB Q=true) (Qr: ∀t∈fn.params.toList,Q.readableRec t=true/\t<Q.types.size) (qb9: ∀t∈fn.params.toList,kW Q m t=true) (Fb:s.vars=[]) (Fc:fn.resultTypes= #[tb]) (htb:Q.underlying tb=some .bool)
  {W:World} (hX:eG Q {W with drawn:=0} kp.X) {base:Nat} {args:Array Value} {ds gs:List (DataW H)} {before:List MemPlace} (hval: ∀(j:Nat) t v,fn.params[j]?=some t->args[j]?=some v->Value.okWide Q W .any base t v)
  (hW:DataW.Whole enc Q fn.params.toList s.vars apart W args.toList ds gs before) (xo: ∀ds:List (DataW H),ds.length=fn.params.toList.length->s.fn H ds={results:=[.lit (.bool true)],args:=ds})
  (bX: ∀xs,rz Q m fn.params.toList xs-> ∃lf k R,fG Q kp lf k f (xs.map P.d) []=some (.d (.bool true),R)):
  Calls Q f args W λe W'=> ∃v,e= .returned v/\s.post enc Q fn apart fresh handsOn again W args v W':=by
 obtain⟨p,q,hA,hV,_⟩:=id hW;obtain⟨xs,h1,h2,h3⟩:=Fa (Q:=Q) (w:=W) (base:=base) fn.params.toList args.toList ds p qb9 (λj t v ht hv=>hval j t v (by simpa using ht) (by simpa using hv)) hA;obtain⟨lf,k,R,hR⟩:=bX xs h3;have hc:=CM hm gK cD kU hR hX (vs:=args.toList) h1 h2;refine hc.mono λe W' ⟨v,F',G',he,hp,hb⟩=>⟨v,he,?_⟩
 have:v= .bool true:=aF.cp (p:= .d (.bool true)) hp rfl;subst this;exact Qq hl hb Qr Fb Fc htb (xo ds (vJ _ _ _ _ hA)) hW
end Pi
namespace Pi
open Go Go.RowKit
section
variable{Q:Program}{w0 w:World}{F:Nat->Prop}{G:Nat->Value}{f:FuncId}{vs:List Value}
theorem eZ.later{T:Tg}(h:eZ Q T F G w []){w':World}(h0:T.w0.drawn=0)(hb:Below w.heap.size w w'):eZ Q T F G w' []:=
 ⟨.nil,za7 _,λt p hp=>by simp[lk] at hp,λn e he=>by simp[lk] at he,λn m e e' b he=>by simp[lk] at he,λn e b he=>by simp[lk] at he,
  λb hf=>zaW (h.ja b hf) hb.size,λn e i he=>by simp[lk] at he,λb hz=>⟨(h.z b hz).1,(hb.block b (h.ja b (h.z b hz).1)).trans (h.z b hz).2⟩,by rw[h0];exact za7 _,zaE h.sz hb.size⟩
theorem WG(G:Nat->Value)(b:Nat): ¬Own G [] b:=λ⟨n,e,he,_⟩=>by simp[lk] at he
theorem gM{T:Tg}(h0:T.w0.drawn=0)(hH:eZ Q T F G w [])(hc:(callFunc f ⟨vs⟩).run Q w= .ok (.enter f ⟨vs⟩) w){p:P}
  (h:Calls Q f ⟨vs⟩ w λe w'=> ∃v,e= .returned v/\Below w.heap.size w w'/\ ∀F G,aF F w' G [] v p):
  jb Q f ⟨vs⟩ w (λv w'=> ∃F' G',eZ Q T F' G' w' []/\aF F' w' G' [] v p/\Ext (Own G []) (Own G' []) F F' w w'):=by
 refine .inl ⟨hc,h.mono λe w' ⟨v,he,hb,hp⟩=>⟨v,he,F,G,hH.later h0 hb,hp F G,⟨λ_ h=>h,λ_ h=> .inl h,λb h=>absurd h (WG G b),λb bz _=>hb.block b bz,hb.size,hb.os,hb.tape,hb.output⟩⟩⟩
theorem WH{T:Tg}(h0:T.w0.drawn=0)(hH:eZ Q T F G w [])(hc:(callFunc f ⟨vs⟩).run Q w= .ok (.enter f ⟨vs⟩) w){ty:TypeId}{k:Nat}{es:List D}(hk:sz Q ty=some (k+1))
  (h:Calls Q f ⟨vs⟩ w λe w'=>Below w.heap.size w w'/\ ∃b cap cs,e= .returned (.slice (some ⟨b,0,none⟩) es.length cap)/\w.heap.size<=b/\w'.heap[b]?=some (.cells cs ty (0,0))/\es.length<=cap/\cap<=maxLen/\cs.size=cap*(k+1)/\ ∀F,lZ F w' cs (k+1) es):
  jb Q f ⟨vs⟩ w (λv w'=> ∃F' G',eZ Q T F' G' w' [(0,⟨0,none,.arr ty false es⟩)]/\aF F' w' G' [(0,⟨0,none,.arr ty false es⟩)] v (.sl 0 0 es.length)/\Ext (Own G []) (Own G' [(0,⟨0,none,.arr ty false es⟩)]) F F' w w'):=by
 refine .inl ⟨hc,h.mono λe w' ⟨hb,b,cap,cs,he,hge,hh,hle,tL,cM,hE⟩=>⟨_,he,F,λ_=> .slice (some ⟨b,0,none⟩) es.length cap,?_,?_,?_⟩⟩
 ·have hl:=hH.later h0 hb;have key: ∀n e,lk ([(0,⟨0,none,.arr ty false es⟩)]:List (Nat×En)) n=some e->n=0/\e=⟨0,none,.arr ty false es⟩:=λn e he=>by
   simp only[lk] at he;split at he
   next hn=>exact⟨(zah hn).symm,by simpa using he.symm⟩
   cases he
  have sB:b<w'.heap.size:=(zau.1 hh).1;refine⟨.nil,za7 _,λt p hp=>by simp[lk] at hp,λn e he=> ?_,λn m e e' b he cx _ _=> ?_,λn e b' he cV hf=> ?_,hl.ja,λn e i he hi=> ?_,hl.z,hl.dr,hl.sz⟩
  ·obtain⟨rfl,rfl⟩:=key n e he;exact .inr ⟨b,cap,cs,k+1,rfl,hh,hk,by omega,hle,tL,cM,by simp,hE F⟩
  ·rw[(key n e he).1,(key m e' cx).1]
  ·obtain⟨rfl,rfl⟩:=key n e he;simp[bm,aI] at cV;subst cV;have:=hH.ja b hf;omega
  obtain⟨rfl,rfl⟩:=key n e he;cases hi
 ·exact .sl 0 0 es.length _ rfl ⟨_,rfl,zai _,λ_ _=>⟨_,_,_,rfl,rfl,zai _⟩⟩
 refine⟨λ_ h=>h,λ_ h=> .inl h,λb' ⟨n,e,he,cV⟩=> ?_,λb bz _=>hb.block b bz,hb.size,hb.os,hb.tape,hb.output⟩;simp only[lk] at he;split at he
 ·simp at he;subst he;simp[bm,aI] at cV;right;omega
 cases he
end
end Pi
