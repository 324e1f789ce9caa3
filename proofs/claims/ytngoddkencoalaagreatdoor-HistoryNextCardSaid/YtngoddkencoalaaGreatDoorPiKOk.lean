/- The text PiKOk. -/
import Derived.Test.YtngoddkencoalaaGreatDoorPiPv
import Derived.Laws.Strings
import Derived.IntWalk
namespace Pi
open Go
def KW {α:Type} (m:K α) (p:α->Prop):Prop:= ∀post,m post-> ∃a,p a/\post a
theorem KW.ret {α:Type} {a:α} {p:α->Prop} (h:p a):KW (K.ret a) p:=fun _ hm=>⟨a,h,hm⟩
theorem KW.fail {α:Type} {p:α->Prop}:KW (K.fail:K α) p:=fun _ hm=>hm.elim
theorem KW.jF {α:Type} {b:Bool} {a:α} {p:α->Prop} (h:b=true->p a):KW (K.jF b a) p:=fun _ hm=>by
 unfold K.jF at hm
 cases b with
 |true=>exact⟨a,h rfl,hm⟩
 |false=>exact hm.elim
theorem KW.dec {b:Bool} {p:Bool->Prop} (h:p b):KW (K.dec b) p:=fun _ hm=>by
 unfold K.dec at hm
 cases b with
 |true=>exact⟨true,h,hm⟩
 |false=>exact⟨false,h,hm⟩
theorem KW.dN {α:Type} {o:Option α} {p:α->Prop} (h: ∀a,o=some a->p a):KW (K.dN o) p:=fun _ hm=>by
 unfold K.dN at hm
 split at hm
 ·exact⟨_,h _ rfl,hm⟩
 ·exact hm.elim
theorem KW.bind {α β:Type} {m:K α} {f:α->K β} {p:α->Prop} {q:β->Prop} (hm:KW m p) (hf: ∀a,p a->KW (f a) q):KW (K.bind m f) q:=fun post h=>by
 obtain⟨a,ha,h2⟩:=hm _ h
 exact hf a ha post h2
theorem KW.mono {α:Type} {m:K α} {p q:α->Prop} (h:KW m p) (Pd: ∀a,p a->q a):KW m q:=fun post hm=>by
 obtain⟨a,ha,h2⟩:=h post hm
 exact⟨a,Pd a ha,h2⟩
theorem Ke {Q:Program} {t:TypeId} {x y:D} (h:OR Q t x=some y) (hb:isC Q t x=true):x=y:=by
 unfold OR at h
 unfold isC at hb
 cases hu:Q.underlying t with
 |none=>simp[hu] at h
 |some d=>
  rw[hu] at h hb
  cases d with
  |bool=>cases x<;>simp at hb h;rw[<-h];rfl
  |int k=>cases x<;>simp at hb h;subst hb;rw[<-h];rfl
  |string=>cases x<;>simp at hb h;rw[<-h];rfl
  |slice e=>
   cases x<;>simp at hb h
   simp only[hb] at h
   split at h
   ·rename_i k hk;simp at hk h;subst hk;rw[<-h];rfl
   ·cases h
  |_=>simp at h
theorem EA {Q:Program} {x:D}: ∀(ts:List TypeId) (j:Nat) (cs:List D),Ay Q x j ts=some cs->VJ Q x j ts=true->cs=(List.range' j ts.length).map x.aq
 | [],j,cs,h,_=>by simp[Ay] at h;subst h;rfl
 |t::ts,j,cs,h,hb=>by
  simp only[Ay] at h
  simp only[VJ,zab] at hb
  cases h1:OR Q t (x.aq j) with
  |none=>simp[h1] at h
  |some c=>
   cases h2:Ay Q x (j+1) ts with
   |none=>simp[h1,h2] at h
   |some ds=>
    simp[h1,h2] at h
    subst h
    rw[zap,List.range'_succ,zbl,<-EA ts (j+1) ds h2 hb.2,Ke h1 hb.1]
theorem ny (Q:Program) (t:TypeId) (x:D):KW (B3 Q t x) (fun y=>x=y):=by
 unfold B3
 split
 ·rename_i y hy
  refine KW.jF fun hb=> ?_
  unfold cC at hb
  split at hy
  ·rename_i wa
   rw[zao wa] at hb
   split at hy
   ·rename_i cs hcs
    simp at hy
    subst hy
    simp only[zab] at hb
    have e:=EA _ _ _ hcs hb.2
    cases x with
    |agg ds=>
     have hl:=zaf hb.1
     rw[e,<-hl]
     congr 1
     apply zbX
     ·simp
     ·intro i h1 h2
      simp[D.aq,D.cells,h1]
    |_=>simp at hb
   ·cases hy
  ·rename_i wa
   rw[zam wa] at hb
   exact Ke hy hb
 ·exact KW.fail
theorem xa {es:List D} {i:Nat} (h:i<es.length):es[i]?=some (D.nth es i):=by
 simp[D.nth,h]
theorem kT (k:IntKind) (n:Int):KW (arith k n) (fun z=>z= .int k (k.wrap n)):=by
 unfold arith
 split
 ·refine KW.jF fun hb=> ?_
  simp only[zah] at hb
  rw[IntWalk.i64_in n hb]
 ·exact KW.ret rfl
theorem VU {Q:Program} {s:S} {op:BinOp} {t:TypeId} {x y:Operand} {p q:D} {m:K D} (h:wT Q op t p q=some m):KW m (fun z=>oo Q s op t x y (.d p) (.d q)=some (.d z)):=by
 cases p with
 |int k a=>
  cases q with
  |int k' b=>
   simp only[wT] at h
   have xb: ∀(n:Int),aw Q (do eqGuard op t x y (.int k a) (.int k' b);binOp op t (.int k a) (.int k' b))=some (.int k n)->oo Q s op t x y (.d (.int k a)) (.d (.int k' b))=some (.d (.int k n)):=by
    intro n hv
    simp only[oo,P.cy,D.cy,D.gu,dT,hv,D.tF,D.l4]
   have fR: ∀(c:Bool),aw Q (do eqGuard op t x y (.int k a) (.int k' b);binOp op t (.int k a) (.int k' b))=some (.bool c)->oo Q s op t x y (.d (.int k a)) (.d (.int k' b))=some (.d (.bool c)):=by
    intro n hv
    simp only[oo,P.cy,D.cy,D.gu,dT,hv,D.tF,D.l4]
   split at h
   ·simp only[zal] at h;subst h
    refine KW.bind (p:=fun _=> ¬b<0) (KW.jF fun hb=>by simpa using hb) fun _ hb=>(kT _ _).mono fun z hz=> ?_
    subst hz
    refine xb _ ?_
    show aw Q (if b<0 then _ else _)=_
    rw[zam hb];rfl
   ·simp only[zal] at h;subst h
    refine KW.jF fun hb=>xb _ ?_
    have hb: ¬b<0:=by simpa using hb
    show aw Q (if b<0 then _ else _)=_
    rw[zam hb];rfl
   ·split at h
    ·rename_i hk
     have hk:k=k':=by simpa using hk
     subst hk
     split at h<;>simp only[zal,reduceCtorEq] at h<;>subst h
     ·exact(kT _ _).mono fun z hz=>by subst hz;exact xb _ (by cases k<;>rfl)
     ·exact(kT _ _).mono fun z hz=>by subst hz;exact xb _ (by cases k<;>rfl)
     ·exact(kT _ _).mono fun z hz=>by subst hz;exact xb _ (by cases k<;>rfl)
     ·refine KW.bind (p:=fun _=> ¬b=0) (KW.jF fun hb=>by simpa using hb) fun _ hb=>(kT _ _).mono fun z hz=> ?_
      subst hz
      refine xb _ ?_
      have:aw Q (Op.intDiv .quo k a b)=some (.int k (k.wrap (a.tdiv b))):=by unfold Op.intDiv;rw[zam hb];rfl
      rw[<-this]
      cases k<;>rfl
     ·refine KW.jF fun hb=>xb _ ?_
      have hb: ¬b=0:=by simpa using hb
      have:aw Q (Op.intDiv .rem k a b)=some (.int k (a.tmod b)):=by unfold Op.intDiv;rw[zam hb];rfl
      rw[<-this]
      cases k<;>rfl
     ·exact KW.ret (xb _ (by cases k<;>rfl))
     ·exact KW.ret (xb _ (by cases k<;>rfl))
     ·exact KW.ret (xb _ (by cases k<;>rfl))
     ·exact KW.ret (xb _ (by cases k<;>rfl))
     all_goals exact KW.ret (fR _ (by cases k<;>rfl))
    ·cases h
  |_=>simp[wT] at h
 |str a=>
  cases q with
  |str b=>
   have fR: ∀(c:Bool),aw Q (do eqGuard op t x y (.string ⟨⟨a⟩⟩) (.string ⟨⟨b⟩⟩);binOp op t (.string ⟨⟨a⟩⟩) (.string ⟨⟨b⟩⟩))=some (.bool c)->oo Q s op t x y (.d (.str a)) (.d (.str b))=some (.d (.bool c)):=by
    intro c hv
    simp only[oo,P.cy,D.cy,D.gu,dT,hv,D.tF,D.l4]
   have e1:(ByteArray.mk ⟨a⟩).toList=a:=by rw[ByteArray.toList_eq]
   have e2:(ByteArray.mk ⟨b⟩).toList=b:=by rw[ByteArray.toList_eq]
   simp only[wT] at h
   split at h<;>simp only[zal,reduceCtorEq] at h<;>subst h
   ·refine KW.jF fun hb=> ?_
    have hb:a.length+b.length<=9223372036854775807:=by simpa using hb
    have hv:aw Q (do eqGuard .add t x y (.string ⟨⟨a⟩⟩) (.string ⟨⟨b⟩⟩);binOp .add t (.string ⟨⟨a⟩⟩) (.string ⟨⟨b⟩⟩))=some (.string (⟨⟨a⟩⟩++⟨⟨b⟩⟩)):=by
     show aw Q (if((a.length+b.length:Nat):Int)>IntKind.i64.max then _ else _)=_
     rw[zam (by
       have:IntKind.i64.max=9223372036854775807:=by decide
       omega)]
     rfl
    simp only[oo,P.cy,D.cy,D.gu,dT,hv,D.tF,D.l4]
    simp
   ·refine KW.ret (fR _ ?_)
    have:aw Q (do eqGuard .eql t x y (.string ⟨⟨a⟩⟩) (.string ⟨⟨b⟩⟩);binOp .eql t (.string ⟨⟨a⟩⟩) (.string ⟨⟨b⟩⟩))=some (.bool ((ByteArray.mk ⟨a⟩).toList==(ByteArray.mk ⟨b⟩).toList)):=rfl
    rw[this,e1,e2]
   ·refine KW.ret (fR _ ?_)
    have:aw Q (do eqGuard .neq t x y (.string ⟨⟨a⟩⟩) (.string ⟨⟨b⟩⟩);binOp .neq t (.string ⟨⟨a⟩⟩) (.string ⟨⟨b⟩⟩))=some (.bool (!((ByteArray.mk ⟨a⟩).toList==(ByteArray.mk ⟨b⟩).toList))):=rfl
    rw[this,e1,e2]
   ·refine KW.ret (fR _ ?_)
    have:aw Q (do eqGuard .lss t x y (.string ⟨⟨a⟩⟩) (.string ⟨⟨b⟩⟩);binOp .lss t (.string ⟨⟨a⟩⟩) (.string ⟨⟨b⟩⟩))=some (.bool (Op.bytesLess (ByteArray.mk ⟨a⟩).toList (ByteArray.mk ⟨b⟩).toList)):=rfl
    rw[this,e1,e2]
   ·refine KW.ret (fR _ ?_)
    have:aw Q (do eqGuard .leq t x y (.string ⟨⟨a⟩⟩) (.string ⟨⟨b⟩⟩);binOp .leq t (.string ⟨⟨a⟩⟩) (.string ⟨⟨b⟩⟩))=some (.bool (Op.bytesLess (ByteArray.mk ⟨a⟩).toList (ByteArray.mk ⟨b⟩).toList || (ByteArray.mk ⟨a⟩).toList==(ByteArray.mk ⟨b⟩).toList)):=rfl
    rw[this,e1,e2]
   ·refine KW.ret (fR _ ?_)
    have:aw Q (do eqGuard .gtr t x y (.string ⟨⟨a⟩⟩) (.string ⟨⟨b⟩⟩);binOp .gtr t (.string ⟨⟨a⟩⟩) (.string ⟨⟨b⟩⟩))=some (.bool (!(Op.bytesLess (ByteArray.mk ⟨a⟩).toList (ByteArray.mk ⟨b⟩).toList || (ByteArray.mk ⟨a⟩).toList==(ByteArray.mk ⟨b⟩).toList))):=rfl
    rw[this,e1,e2]
   ·refine KW.ret (fR _ ?_)
    have:aw Q (do eqGuard .geq t x y (.string ⟨⟨a⟩⟩) (.string ⟨⟨b⟩⟩);binOp .geq t (.string ⟨⟨a⟩⟩) (.string ⟨⟨b⟩⟩))=some (.bool (!(Op.bytesLess (ByteArray.mk ⟨a⟩).toList (ByteArray.mk ⟨b⟩).toList))):=rfl
    rw[this,e1,e2]
  |_=>simp[wT] at h
 |bool a=>
  cases q with
  |bool b=>
   simp only[wT] at h
   have fR: ∀(c:Bool),aw Q (do eqGuard op t x y (.bool a) (.bool b);binOp op t (.bool a) (.bool b))=some (.bool c)->oo Q s op t x y (.d (.bool a)) (.d (.bool b))=some (.d (.bool c)):=by
    intro c hv
    simp only[oo,P.cy,D.cy,D.gu,dT,hv,D.tF,D.l4]
   split at h
   ·rename_i hu
    simp only[zal] at h;subst h
    refine KW.ret (fR _ ?_)
    have:aw Q (do eqGuard .eql t x y (.bool a) (.bool b);binOp .eql t (.bool a) (.bool b))=aw Q (do pure (.bool (<-Op.equal t (.bool a) (.bool b)))):=rfl
    rw[this,av,jU hu]
    rfl
   ·rename_i hu
    simp only[zal] at h;subst h
    refine KW.ret (fR _ ?_)
    have:aw Q (do eqGuard .neq t x y (.bool a) (.bool b);binOp .neq t (.bool a) (.bool b))=aw Q (do pure (.bool (!(<-Op.equal t (.bool a) (.bool b))))):=rfl
    rw[this,av,jU hu]
    rfl
   ·cases h
  |_=>simp[wT] at h
 |agg a=>
  cases q with
  |agg b=>
   simp only[wT] at h
   have fR: ∀(us vs:List Value) (c:Bool),D.c7 a=some us->D.c7 b=some vs->aw Q (do eqGuard op t x y (.agg ⟨us⟩) (.agg ⟨vs⟩);binOp op t (.agg ⟨us⟩) (.agg ⟨vs⟩))=some (.bool c)->oo Q s op t x y (.d (.agg a)) (.d (.agg b))=some (.d (.bool c)):=by
    intro us vs c h1 h2 hv
    simp only[oo,P.cy,D.cy,h1,h2,dT,hv,D.tF,D.l4]
   split at h
   ·split at h
    ·rename_i us vs c h1 h2 h3 h4
     simp only[zal] at h;subst h
     refine KW.ret (fR us vs _ h1 h2 ?_)
     have e:aw Q (binOp .eql t (.agg ⟨us⟩) (.agg ⟨vs⟩))=aw Q (do pure (.bool (<-Op.equalIn 10000 t (.agg ⟨us⟩) (.agg ⟨vs⟩)))):=rfl
     rw[av,o8 h3 (.inl rfl),zau,e,av,fE 20 10000 t _ _ _ _ _ (by omega) h4 (by simp[D.cy,h1]) (by simp[D.cy,h2])]
     rfl
    ·cases h
   ·split at h
    ·rename_i us vs c h1 h2 h3 h4
     simp only[zal] at h;subst h
     refine KW.ret (fR us vs _ h1 h2 ?_)
     have e:aw Q (binOp .neq t (.agg ⟨us⟩) (.agg ⟨vs⟩))=aw Q (do pure (.bool (!(<-Op.equalIn 10000 t (.agg ⟨us⟩) (.agg ⟨vs⟩))))):=rfl
     rw[av,o8 h3 (.inr rfl),zau,e,av,fE 20 10000 t _ _ _ _ _ (by omega) h4 (by simp[D.cy,h1]) (by simp[D.cy,h2])]
     rfl
    ·cases h
   ·cases h
  |_=>simp[wT] at h
 |_=>simp[wT] at h
end Pi
