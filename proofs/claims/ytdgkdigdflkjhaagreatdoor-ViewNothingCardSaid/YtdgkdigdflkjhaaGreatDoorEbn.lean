/- The texts PiLaw PiX. -/
import Derived.Test.YtdgkdigdflkjhaaGreatDoorPiTop
namespace Pi
open Go Go.ChangeShapes Go.WideShapes Go.RowKit
def II Q m t (x:D):=Fit Q m t x.cells/\((dT Q t=true/\ ∃cs,x= .agg cs)\/(dT Q t=false/\x.bL=true))
def tE(Q:Program)(m:Nat):List TypeId->List D->Prop
 | [],[]=>True
 |t::ts,x::xs=>II Q m t x/\tE Q m ts xs
 |_,_=>False
section
variable{Q:Program}{m:Nat}{t:TypeId}{x:D}
theorem Mb{e k}(hu:Q.underlying t=some (.slice e))(hk:Q.cellsOf e=k)(h:II Q (m+1) t x): ∃es,x= .sl k es/\es.length<=maxLen/\ ∀y∈es,II Q m e y:=by
 obtain⟨h1,h2⟩:=h;unfold Fit at h1;rw[hu] at h1;obtain⟨es,hb,hw,hy⟩:=h1;subst hk;rcases h2 with⟨ha,cs,rfl⟩| ⟨_,hc⟩
 ·simp[dT,hu] at ha
 refine⟨es,?_,hw,hy⟩;cases x<;>simp_all [D.cells,D.bL]
theorem IJ{fs k}(hu:Q.underlying t=some (.struct fs))(hk:Q.cellsOf t=k)(h:II Q (m+1) t x): ∃cs,x= .agg cs/\cs.length=k/\ ∀f∈fs.toList,Fit Q m f.type ((cs.drop f.offset).take (Q.cellsOf f.type)):=by
 obtain⟨h1,h2⟩:=h;unfold Fit at h1;rw[hu] at h1;subst hk;rcases h2 with⟨ha,cs,rfl⟩| ⟨ha,hc⟩
 ·exact⟨cs,rfl,h1.1,h1.2⟩
 simp[dT,hu] at ha
theorem uO{k c}(hu:Q.underlying t=some (.int k))(h:Fit Q (m+1) t [c]): ∃n,c= .int k n/\(Lit.int k n).wf=true:=by unfold Fit at h;rw[hu] at h;obtain⟨b,hb,hw⟩:=h;exact⟨b,by simpa using hb,hw⟩
theorem UN{c}(hu:Q.underlying t=some .bool)(h:Fit Q (m+1) t [c]): ∃n,c= .bool n:=by unfold Fit at h;rw[hu] at h;obtain⟨b,hb⟩:=h;exact⟨b,by simpa using hb⟩
end
section
variable{H:Type}{enc:TypeId×Value->H}{Q:Program}{w:World}
theorem cells_one{v c:Value}(h:v.cells.toList=[c])(hv: ∀cs,v≠ .agg cs):v=c:=by cases v<;>first |exact absurd rfl (hv _)| (simp[Value.cells] at h;exact h)
theorem qaG{m t v d}{ps base}(hp:lV Q m t=true)(oc:Value.okWide Q w .any base t v)(h:DataW.Trod enc Q w 0 (λ_=>true) true t v d ps):
  ∃x,aY (· <w.heap.size) w v x/\II Q m t x:=by
 obtain⟨n,hn⟩:=h;obtain⟨xs,hr,hf⟩:=UM m n t _ _ hn hp;cases ha:dT Q t with
 |true=>
  have hv: ∃cs,v= .agg cs:=by
   rw[FG] at ha;unfold Value.okWide at oc;split at ha
   next hu=>rw[hu] at oc;obtain⟨cs,rfl,_⟩:=oc;exact⟨cs,rfl⟩
   next hu=>rw[hu] at oc;obtain⟨cs,rfl,_⟩:=oc;exact⟨cs,rfl⟩
   cases ha
  obtain⟨⟨cs⟩,rfl⟩:=hv;exact⟨.agg xs,.agg cs xs hr.1.symm hr.2.1 hr.2.2,hf,.inl ⟨ha,_,rfl⟩⟩
 |false=>
  obtain⟨c,rfl⟩:=IG hf ha;have hv: ∀cs,v≠ .agg cs:=by
   intro cs e;subst e;cases m with
   |zero=>exact hf.elim
   |succ m=>
    unfold lV at hp;unfold Value.okWide at oc;split at hp
    next hu=>simp[hu,Cell.okWide,Cell.ok] at oc
    next hu=>simp[hu,Cell.okWide,Cell.ok] at oc
    next hu=>simp[hu,Cell.okWide,Cell.ok] at oc
    next hu=>simp[hu,Cell.okWide,Cell.ok] at oc
    next hu=>rw[FG,hu] at ha;cases ha
    cases hp
  have hl:=hr.1;obtain⟨u,hu⟩: ∃u,v.cells.toList=[u]:=by
   cases hc:v.cells.toList with
   |nil=>rw[hc] at hl;simp at hl
   |cons u r=>rw[hc] at hl;simp at hl;subst hl;exact⟨u,rfl⟩
  have e:=cells_one hu hv;subst e;have hc:=hr.2.1 c (by simp);have lF:c.cells=[c]:=by cases c<;>first |rfl |simp[D.bL] at hc
  exact⟨c,hr.2.2 0 v c (by rw[hu];rfl) rfl,by rw[lF];exact hf,.inr ⟨ha,hc⟩⟩
theorem IK{m base}: ∀ts vs ds ps,(∀t∈ts,lV Q m t=true)->(∀(j:Nat) t v,ts[j]?=some t->vs[j]?=some v->Value.okWide Q w .any base t v)->
  DataW.TrodAll enc Q w 0 (λ_=>true) true ts vs ds ps-> ∃xs,xs.length=vs.length/\(∀(i:Nat) v x,vs[i]?=some v->xs[i]?=some x->aY (· <w.heap.size) w v x)/\tE Q m ts xs
 | [],vs,ds,ps,_,_,h=>by obtain⟨rfl,_,_⟩:=trodAll_nil h;exact⟨[],rfl,λi v x h1=>by simp at h1,trivial⟩
 |t::ts,vs,ds,ps,hp,oc,h=>by
  obtain⟨v,vs',d,ds',p,q,rfl,rfl,rfl,h1,h2⟩:=trodAll_cons h;obtain⟨x,g1,g2⟩:=qaG (hp t (by simp)) (oc 0 t v rfl rfl) h1;obtain⟨xs,k1,k2,k3⟩:=IK ts vs' ds' q (λu hu=>hp u (by simp[hu])) (λj u v' hu hv=>oc (j+1) u v' (by simpa using hu) (by simpa using hv)) h2;refine⟨x::xs,by simp[k1],λi v' y hv hy=> ?_,g2,k3⟩;cases i with
  |zero=>simp at hv hy;subst hv;subst hy;exact g1
  |succ i=>exact k2 i v' y (by simpa using hv) (by simpa using hy)
theorem DQ{W W'}(hl:laidOutB Q=true)(hb:Below W.heap.size W W'){sp}: ∀ts vs ds ps,(∀t∈ts,Q.readableRec t=true/\t<Q.types.size)->
  DataW.TrodAll enc Q W 0 (λ_=>true) true ts vs ds ps->(∀p∈ps,p.block<W.heap.size)->(∀p∈ps,sp p.block=true)->DataW.TrodAll enc Q W' 0 sp true ts vs ds ps
 | [],vs,ds,ps,_,h,_,_=>by obtain⟨rfl,rfl,rfl⟩:=trodAll_nil h;exact trodAll_mk0
 |t::ts,vs,ds,ps,hr,h,bK,E8=>by obtain⟨v,vs',d,ds',p,q,rfl,rfl,rfl,h1,h2⟩:=trodAll_cons h;refine⟨p,q,WideElems.Trod_stays hl (hr t (by simp)).1 (hr t (by simp)).2 h1 (λx hx=>hb.same (bK x (by simp[hx]))) (λx hx=>E8 x (by simp[hx])),?_,rfl⟩;exact DQ hl hb ts vs' ds' q (λu hu=>hr u (by simp[hu])) h2 (λx hx=>bK x (by simp[hx])) (λx hx=>E8 x (by simp[hx]))
theorem UO{f}{s:ChangeSpec}{apart fresh handsOn again W W' args ds gs}{before tb}(hl:laidOutB Q=true)(hb:Below W.heap.size W W')
  (UP: ∀t∈f.params.toList,Q.readableRec t=true/\t<Q.types.size) (IL:s.vars=[]) (IP:f.resultTypes= #[tb]) (htb:Q.underlying tb=some .bool)
  (zM:s.fn H ds={results:=[.lit (.bool true)],args:=ds})
  (hW:DataW.Whole enc Q f.params.toList s.vars apart W args.toList ds gs before):s.post enc Q f apart fresh handsOn again W args (.bool true) W':=by
 have hW':=hW;obtain⟨p,q,hA,hV,rfl,hz,hn⟩:=hW;rw[IL] at hV;obtain⟨rfl,rfl⟩:=trodVars_none hV;have bK: ∀x∈p,x.block<W.heap.size:=λx hx=>by simpa using hW'.lt x (by simpa using hx)
 have E8:s.fn H (ds++[])={results:=[.lit (.bool true)],args:=ds}:=by rw[zbi];exact zM
 have res: ∀(b:Nat) (sp:Nat->Bool) (hd:Bool),DataW.TrodAll enc Q W' b sp hd f.resultTypes.toList ((Value.bool true).resultList f.resultTypes.size) [.lit (.bool true)] []:=λb sp hd=>by rw[IP];exact⟨[],[],shut_bool htb true,rfl,rfl⟩
 have keep: ∀sp:Nat->Bool,(∀x∈p,sp x.block=true)->DataW.TrodAll enc Q W' 0 sp true f.params.toList args.toList ds p:=λsp hs=>DQ hl hb _ _ _ _ UP hA bK hs;refine⟨ds,[],p++[],[],p,[],hW',?_,?_,?_,hb.frame _,λ_=>⟨?_,?_⟩⟩
 ·rw[E8];exact res _ _ _
 ·rw[E8];exact keep _ (λx hx=>by simpa using bK x hx)
 ·rw[E8,IL];rfl
 ·exact ok_one IP rfl (okWide_bool_mk htb true)
 refine⟨_,[],p++[],⟨[]++p,[],trodAll_append (keep _ (λ_ _=>rfl)) (res _ _ _),by rw[IL];rfl,by simp,?_,?_⟩,λx hx _=>hx⟩
 ·intro b off hp;have SB:MemPlace.cell b off∈p:=by simpa using hp
  rw[hb.frozen (p:=⟨b,off,none⟩) (bK _ SB)];exact hz b off (by simpa using SB)
 intro ha;simpa using hn ha
end
theorem FH{Q kp}(hm:Q.follows .mixedOrders=true){lf k f fn}(gC:Q.funcs[f]?=some fn)(cS:fn.body.isSome=true)(lT:(fn.name== "runtime.NumGoroutine")=false)
  {xs:List D} {p R1} (ca:fj Q kp lf k f (xs.map P.d) []=some (p,R1)) {w} (hX:cz Q {w with drawn:=0} kp.X) {vs} (hlen:xs.length=vs.length) (Lv: ∀(i:Nat) v x,vs[i]?=some v->xs[i]?=some x->aY (· <w.heap.size) w v x):
  Calls Q f ⟨vs⟩ w (λe w'=> ∃v F' G',e= .returned v/\aH F' w' G' R1 v p/\Below w.heap.size w w'):=by
 have hH:fX Q ⟨λ_=>undef,{w with drawn:=0},0,false⟩ (· <w.heap.size) (λ_=>undef) w []:=
  ⟨.nil,zbd _,λt p hp=>by simp[lk] at hp,λn e he=>by simp[lk] at he,λn m e e' b he=>by simp[lk] at he,λn e b he=>by simp[lk] at he,λb hb=>hb,λn e i he=>by simp[lk] at he,λb hb=>⟨hb,rfl⟩,zbd _,zbd _⟩
 have bw:=uN hX hm k f (xs.map P.d) [] p R1 ca (· <w.heap.size) (λ_=>undef) w vs hH (by simp[hlen]) (λi v c hv hc=>by
  rw[zaN] at hc;cases hx:xs[i]? with
  |none=>rw[hx] at hc;cases hc
  |some x=>rw[hx] at hc;cases hc;exact .d (Lv i v x hv hx))
 have mU:(callFunc f ⟨vs⟩).run Q w= .ok (.enter f ⟨vs⟩) w:=by
  simp[callFunc,gC];rw[zan (by simpa using lT)];cases hb:fn.body with
  |none=>rw[hb] at cS;cases cS
  |some c=>simp
 rcases bw with⟨_,h⟩| ⟨v,w',h,_⟩
 ·refine h.mono λe w' ⟨v,he,F',G',h1,h2,h3⟩=>⟨v,F',G',he,h2,h3.os,h3.tape,h3.output,h3.size,λb hb=>h3.keep b hb (λ⟨n,e,he,_⟩=>by simp[lk] at he)⟩
 rw[mU] at h;cases h
theorem xr{H:Type}{enc:TypeId×Value->H}{Q w}: ∀ts vs ds ps,DataW.TrodAll enc Q w 0 (λ_=>true) true ts vs ds ps->ds.length=ts.length
 | [],vs,ds,ps,h=>by obtain⟨_,rfl,_⟩:=trodAll_nil h;rfl
 |t::ts,vs,ds,ps,h=>by obtain⟨v,vs',d,ds',p,q,rfl,rfl,rfl,h1,h2⟩:=trodAll_cons h;simp[xr ts vs' ds' q h2]
def noX:CF:=λ_ _ _=>none
theorem Ax Q w:cz Q w noX:=λjZ ps R p R1 h=>by simp[noX] at h
theorem FI{Q kp}(hm:Q.follows .mixedOrders=true){m f fn}(gC:Q.funcs[f]?=some fn)(cS:fn.body.isSome=true)(lT:(fn.name== "runtime.NumGoroutine")=false)
  {H:Type} {enc:TypeId×Value->H} {s:ChangeSpec} {apart fresh handsOn again tb} (hl:laidOutB Q=true) (UP: ∀t∈fn.params.toList,Q.readableRec t=true/\t<Q.types.size) (qfO: ∀t∈fn.params.toList,lV Q m t=true) (IL:s.vars=[]) (IP:fn.resultTypes= #[tb]) (htb:Q.underlying tb=some .bool)
  {W} (hX:cz Q {W with drawn:=0} kp.X) {base args ds gs before} (hval: ∀(j:Nat) t v,fn.params[j]?=some t->args[j]?=some v->Value.okWide Q W .any base t v)
  (hW:DataW.Whole enc Q fn.params.toList s.vars apart W args.toList ds gs before) (zM: ∀ds,ds.length=fn.params.toList.length->s.fn H ds={results:=[.lit (.bool true)],args:=ds})
  (ca: ∀xs,tE Q m fn.params.toList xs-> ∃lf k R,fj Q kp lf k f (xs.map P.d) []=some (.d (.bool true),R)):
  Calls Q f args W λe W'=> ∃v,e= .returned v/\s.post enc Q fn apart fresh handsOn again W args v W':=by
 obtain⟨p,q,hA,hV,_⟩:=id hW;obtain⟨xs,h1,h2,h3⟩:=IK (Q:=Q) (w:=W) (base:=base) fn.params.toList args.toList ds p qfO (λj t v ht hv=>hval j t v (by simpa using ht) (by simpa using hv)) hA;obtain⟨lf,k,R,hR⟩:=ca xs h3;have hc:=FH hm gC cS lT hR hX (vs:=args.toList) h1 h2;refine hc.mono λe W' ⟨v,F',G',he,hp,hb⟩=>⟨v,he,?_⟩
 have:v= .bool true:=aH.cD (p:= .d (.bool true)) hp rfl;subst this;exact UO hl hb UP IL IP htb (zM ds (xr _ _ _ _ hA)) hW
end Pi
namespace Pi
open Go Go.RowKit
section
variable{Q:Program}{w0 w:World}{F:Nat->Prop}{G:Nat->Value}{f:FuncId}{vs:List Value}
theorem fX.later{T}(h:fX Q T F G w []){w'}(h0:T.w0.drawn=0)(hb:Below w.heap.size w w'):fX Q T F G w' []:=
 ⟨.nil,zbd _,λt p hp=>by simp[lk] at hp,λn e he=>by simp[lk] at he,λn m e e' b he=>by simp[lk] at he,λn e b he=>by simp[lk] at he,
  λb hf=>zbf (h.jE b hf) hb.size,λn e i he=>by simp[lk] at he,λb hz=>⟨(h.z b hz).1,(hb.block b (h.jE b (h.z b hz).1)).trans (h.z b hz).2⟩,by rw[h0];exact zbd _,zaL h.sz hb.size⟩
theorem qaH G b: ¬Own G [] b:=λ⟨n,e,he,_⟩=>by simp[lk] at he
theorem ot{T}(h0:T.w0.drawn=0)(hH:fX Q T F G w [])(hc:(callFunc f ⟨vs⟩).run Q w= .ok (.enter f ⟨vs⟩) w){p}
  (h:Calls Q f ⟨vs⟩ w λe w'=> ∃v,e= .returned v/\Below w.heap.size w w'/\ ∀F G,aH F w' G [] v p):
  kP Q f ⟨vs⟩ w (λv w'=> ∃F' G',fX Q T F' G' w' []/\aH F' w' G' [] v p/\Ext (Own G []) (Own G' []) F F' w w'):=by
 refine .inl ⟨hc,h.mono λe w' ⟨v,he,hb,hp⟩=>⟨v,he,F,G,hH.later h0 hb,hp F G,⟨λ_ h=>h,λ_ h=> .inl h,λb h=>absurd h (qaH G b),λb bK _=>hb.block b bK,hb.size,hb.os,hb.tape,hb.output⟩⟩⟩
end
end Pi
