/- The text PiKOk. -/
import Derived.Test.YtngoddkencoalaaGreatDoorPiPv
import Derived.Laws.Strings
import Derived.IntWalk
namespace Pi
open Go
def KW{α:Type}(m:K α)(p:α->Prop):Prop:= ∀ae,m ae-> ∃a,p a/\ae a
theorem KW.ret{α:Type}{a:α}{p:α->Prop}(h:p a):KW (K.ret a) p:=λ_ hm=>⟨a,h,hm⟩
theorem KW.fail{α:Type}{p:α->Prop}:KW (K.fail:K α) p:=λ_ hm=>hm.elim
theorem KW.jH{α:Type}{b:Bool}{a:α}{p:α->Prop}(h:b=true->p a):KW (K.jH b a) p:=λ_ hm=>by
 unfold K.jH at hm;cases b with
 |true=>exact⟨a,h rfl,hm⟩
 |false=>exact hm.elim
theorem KW.dec{b:Bool}{p:Bool->Prop}(h:p b):KW (K.dec b) p:=λ_ hm=>by
 unfold K.dec at hm;cases b with
 |true=>exact⟨true,h,hm⟩
 |false=>exact⟨false,h,hm⟩
theorem KW.dP{α:Type}{o:Option α}{p:α->Prop}(h: ∀a,o=some a->p a):KW (K.dP o) p:=λ_ hm=>by
 unfold K.dP at hm;split at hm
 ·exact⟨_,h _ rfl,hm⟩
 exact hm.elim
theorem KW.bind{α β:Type}{m:K α}{f:α->K β}{p:α->Prop}{q:β->Prop}(hm:KW m p)(hf: ∀a,p a->KW (f a) q):KW (K.bind m f) q:=λae h=>by obtain⟨a,ha,h2⟩:=hm _ h;exact hf a ha ae h2
theorem KW.mono{α:Type}{m:K α}{p q:α->Prop}(h:KW m p)(Pn: ∀a,p a->q a):KW m q:=λae hm=>by obtain⟨a,ha,h2⟩:=h ae hm;exact⟨a,Pn a ha,h2⟩
theorem Kj{Q:Program}{t:TypeId}{x y:D}(h:OZ Q t x=some y)(hb:isC Q t x=true):x=y:=by
 unfold OZ at h;unfold isC at hb;cases hu:Q.underlying t with
 |none=>simp[hu] at h
 |some d=>
  rw[hu] at h hb;cases d with
  |bool=>cases x<;>simp at hb h;rw[<-h];rfl
  |int k=>cases x<;>simp at hb h;subst hb;rw[<-h];rfl
  |string=>cases x<;>simp at hb h;rw[<-h];rfl
  |slice e=>
   cases x<;>simp at hb h;simp only[hb] at h;split at h
   next k hk=>simp at hk h;subst hk;rw[<-h];rfl
   cases h
  |_=>simp at h
theorem EF{Q:Program}{x:D}: ∀(ts:List TypeId) (j:Nat) (cs:List D),AG Q x j ts=some cs->VX Q x j ts=true->cs=(List.range' j ts.length).map x.ar
 | [],j,cs,h,_=>by simp[AG] at h;subst h;rfl
 |t::ts,j,cs,h,hb=>by
  simp only[AG] at h;simp only[VX,zab] at hb;cases h1:OZ Q t (x.ar j) with
  |none=>simp[h1] at h
  |some c=>
   cases h2:AG Q x (j+1) ts with
   |none=>simp[h1,h2] at h
   |some ds=>simp[h1,h2] at h;subst h;rw[zap,List.range'_succ,zbm,<-EF ts (j+1) ds h2 hb.2,Kj h1 hb.1]
theorem nC(Q:Program)(t:TypeId)(x:D):KW (B6 Q t x) (λy=>x=y):=by
 unfold B6;split
 next y hy=>
  refine KW.jH λhb=> ?_;unfold cD at hb;split at hy
  next wo=>
   rw[zao wo] at hb;split at hy
   ·rename_i cs hcs;simp at hy;subst hy;simp only[zab] at hb;have e:=EF _ _ _ hcs hb.2;cases x with
    |agg ds=>
     have hl:=zaf hb.1;rw[e,<-hl];congr 1;apply zbY
     ·simp
     intro i h1 h2;simp[D.ar,D.cells,h1]
    |_=>simp at hb
   cases hy
  rename_i wo;rw[zam wo] at hb;exact Kj hy hb
 exact KW.fail
theorem xi{es:List D}{i:Nat}(h:i<es.length):es[i]?=some (D.nth es i):=by simp[D.nth,h]
theorem kT(k:IntKind)(n:Int):KW (arith k n) (λz=>z= .int k (k.wrap n)):=by
 unfold arith;split
 ·refine KW.jH λhb=> ?_;simp only[zah] at hb;rw[IntWalk.i64_in n hb]
 exact KW.ret rfl
theorem V8{Q:Program}{s:S}{op:BinOp}{t:TypeId}{x y:Operand}{p q:D}{m:K D}(h:w6 Q op t p q=some m):KW m (λz=>oz Q s op t x y (.d p) (.d q)=some (.d z)):=by
 cases p with
 |int k a=>
  cases q with
  |int k' b=>
   simp only[w6] at h;have xj: ∀(n:Int),ax Q (do eqGuard op t x y (.int k a) (.int k' b);binOp op t (.int k a) (.int k' b))=some (.int k n)->oz Q s op t x y (.d (.int k a)) (.d (.int k' b))=some (.d (.int k n)):=by intro n hv;simp only[oz,P.cA,D.cA,D.gw,dV,hv,D.tM,D.l5]
   have fQ: ∀(c:Bool),ax Q (do eqGuard op t x y (.int k a) (.int k' b);binOp op t (.int k a) (.int k' b))=some (.bool c)->oz Q s op t x y (.d (.int k a)) (.d (.int k' b))=some (.d (.bool c)):=by intro n hv;simp only[oz,P.cA,D.cA,D.gw,dV,hv,D.tM,D.l5]
   split at h
   ·simp only[zal] at h;subst h;refine KW.bind (p:=λ_=> ¬b<0) (KW.jH λhb=>by simpa using hb) λ_ hb=>(kT _ _).mono λz hz=> ?_;subst hz;refine xj _ ?_;show ax Q (if b<0 then _ else _)=_;rw[zam hb];rfl
   ·simp only[zal] at h;subst h;refine KW.jH λhb=>xj _ ?_;have hb: ¬b<0:=by simpa using hb
    show ax Q (if b<0 then _ else _)=_;rw[zam hb];rfl
   split at h
   ·rename_i hk;have hk:k=k':=by simpa using hk
    subst hk;split at h<;>simp only[zal,reduceCtorEq] at h<;>subst h
    ·exact(kT _ _).mono λz hz=>by subst hz;exact xj _ (by cases k<;>rfl)
    ·exact(kT _ _).mono λz hz=>by subst hz;exact xj _ (by cases k<;>rfl)
    ·exact(kT _ _).mono λz hz=>by subst hz;exact xj _ (by cases k<;>rfl)
    ·refine KW.bind (p:=λ_=> ¬b=0) (KW.jH λhb=>by simpa using hb) λ_ hb=>(kT _ _).mono λz hz=> ?_;subst hz;refine xj _ ?_;have:ax Q (Op.intDiv .quo k a b)=some (.int k (k.wrap (a.tdiv b))):=by unfold Op.intDiv;rw[zam hb];rfl
     rw[<-this];cases k<;>rfl
    ·refine KW.jH λhb=>xj _ ?_;have hb: ¬b=0:=by simpa using hb
     have:ax Q (Op.intDiv .rem k a b)=some (.int k (a.tmod b)):=by unfold Op.intDiv;rw[zam hb];rfl
     rw[<-this];cases k<;>rfl
    ·exact KW.ret (xj _ (by cases k<;>rfl))
    ·exact KW.ret (xj _ (by cases k<;>rfl))
    ·exact KW.ret (xj _ (by cases k<;>rfl))
    ·exact KW.ret (xj _ (by cases k<;>rfl))
    all_goals exact KW.ret (fQ _ (by cases k<;>rfl))
   cases h
  |_=>simp[w6] at h
 |str a=>
  cases q with
  |str b=>
   have fQ: ∀(c:Bool),ax Q (do eqGuard op t x y (.string ⟨⟨a⟩⟩) (.string ⟨⟨b⟩⟩);binOp op t (.string ⟨⟨a⟩⟩) (.string ⟨⟨b⟩⟩))=some (.bool c)->oz Q s op t x y (.d (.str a)) (.d (.str b))=some (.d (.bool c)):=by intro c hv;simp only[oz,P.cA,D.cA,D.gw,dV,hv,D.tM,D.l5]
   have e1:(ByteArray.mk ⟨a⟩).toList=a:=by rw[ByteArray.toList_eq]
   have e2:(ByteArray.mk ⟨b⟩).toList=b:=by rw[ByteArray.toList_eq]
   simp only[w6] at h;split at h<;>simp only[zal,reduceCtorEq] at h<;>subst h
   ·refine KW.jH λhb=> ?_;have hb:a.length+b.length<=9223372036854775807:=by simpa using hb
    have hv:ax Q (do eqGuard .add t x y (.string ⟨⟨a⟩⟩) (.string ⟨⟨b⟩⟩);binOp .add t (.string ⟨⟨a⟩⟩) (.string ⟨⟨b⟩⟩))=some (.string (⟨⟨a⟩⟩++⟨⟨b⟩⟩)):=by
     show ax Q (if((a.length+b.length:Nat):Int)>IntKind.i64.max then _ else _)=_;rw[zam (by
       have:IntKind.i64.max=9223372036854775807:=by decide
       omega)]
     rfl
    simp only[oz,P.cA,D.cA,D.gw,dV,hv,D.tM,D.l5];simp
   ·refine KW.ret (fQ _ ?_);have:ax Q (do eqGuard .eql t x y (.string ⟨⟨a⟩⟩) (.string ⟨⟨b⟩⟩);binOp .eql t (.string ⟨⟨a⟩⟩) (.string ⟨⟨b⟩⟩))=some (.bool ((ByteArray.mk ⟨a⟩).toList==(ByteArray.mk ⟨b⟩).toList)):=rfl;rw[this,e1,e2]
   ·refine KW.ret (fQ _ ?_);have:ax Q (do eqGuard .neq t x y (.string ⟨⟨a⟩⟩) (.string ⟨⟨b⟩⟩);binOp .neq t (.string ⟨⟨a⟩⟩) (.string ⟨⟨b⟩⟩))=some (.bool (!((ByteArray.mk ⟨a⟩).toList==(ByteArray.mk ⟨b⟩).toList))):=rfl;rw[this,e1,e2]
   ·refine KW.ret (fQ _ ?_);have:ax Q (do eqGuard .lss t x y (.string ⟨⟨a⟩⟩) (.string ⟨⟨b⟩⟩);binOp .lss t (.string ⟨⟨a⟩⟩) (.string ⟨⟨b⟩⟩))=some (.bool (Op.bytesLess (ByteArray.mk ⟨a⟩).toList (ByteArray.mk ⟨b⟩).toList)):=rfl;rw[this,e1,e2]
   ·refine KW.ret (fQ _ ?_);have:ax Q (do eqGuard .leq t x y (.string ⟨⟨a⟩⟩) (.string ⟨⟨b⟩⟩);binOp .leq t (.string ⟨⟨a⟩⟩) (.string ⟨⟨b⟩⟩))=some (.bool (Op.bytesLess (ByteArray.mk ⟨a⟩).toList (ByteArray.mk ⟨b⟩).toList || (ByteArray.mk ⟨a⟩).toList==(ByteArray.mk ⟨b⟩).toList)):=rfl;rw[this,e1,e2]
   ·refine KW.ret (fQ _ ?_);have:ax Q (do eqGuard .gtr t x y (.string ⟨⟨a⟩⟩) (.string ⟨⟨b⟩⟩);binOp .gtr t (.string ⟨⟨a⟩⟩) (.string ⟨⟨b⟩⟩))=some (.bool (!(Op.bytesLess (ByteArray.mk ⟨a⟩).toList (ByteArray.mk ⟨b⟩).toList || (ByteArray.mk ⟨a⟩).toList==(ByteArray.mk ⟨b⟩).toList))):=rfl;rw[this,e1,e2]
   refine KW.ret (fQ _ ?_);have:ax Q (do eqGuard .geq t x y (.string ⟨⟨a⟩⟩) (.string ⟨⟨b⟩⟩);binOp .geq t (.string ⟨⟨a⟩⟩) (.string ⟨⟨b⟩⟩))=some (.bool (!(Op.bytesLess (ByteArray.mk ⟨a⟩).toList (ByteArray.mk ⟨b⟩).toList))):=rfl;rw[this,e1,e2]
  |_=>simp[w6] at h
 |bool a=>
  cases q with
  |bool b=>
   simp only[w6] at h;have fQ: ∀(c:Bool),ax Q (do eqGuard op t x y (.bool a) (.bool b);binOp op t (.bool a) (.bool b))=some (.bool c)->oz Q s op t x y (.d (.bool a)) (.d (.bool b))=some (.d (.bool c)):=by intro c hv;simp only[oz,P.cA,D.cA,D.gw,dV,hv,D.tM,D.l5]
   split at h
   next hu=>simp only[zal] at h;subst h;refine KW.ret (fQ _ ?_);have:ax Q (do eqGuard .eql t x y (.bool a) (.bool b);binOp .eql t (.bool a) (.bool b))=ax Q (do pure (.bool (<-Op.equal t (.bool a) (.bool b)))):=rfl;rw[this,aw,jX hu];rfl
   next hu=>simp only[zal] at h;subst h;refine KW.ret (fQ _ ?_);have:ax Q (do eqGuard .neq t x y (.bool a) (.bool b);binOp .neq t (.bool a) (.bool b))=ax Q (do pure (.bool (!(<-Op.equal t (.bool a) (.bool b))))):=rfl;rw[this,aw,jX hu];rfl
   cases h
  |_=>simp[w6] at h
 |agg a=>
  cases q with
  |agg b=>
   simp only[w6] at h;have fQ: ∀(us vs:List Value) (c:Bool),D.c8 a=some us->D.c8 b=some vs->ax Q (do eqGuard op t x y (.agg ⟨us⟩) (.agg ⟨vs⟩);binOp op t (.agg ⟨us⟩) (.agg ⟨vs⟩))=some (.bool c)->oz Q s op t x y (.d (.agg a)) (.d (.agg b))=some (.d (.bool c)):=by intro us vs c h1 h2 hv;simp only[oz,P.cA,D.cA,h1,h2,dV,hv,D.tM,D.l5]
   split at h
   ·split at h
    next us vs c h1 h2 h3 h4=>simp only[zal] at h;subst h;refine KW.ret (fQ us vs _ h1 h2 ?_);have e:ax Q (binOp .eql t (.agg ⟨us⟩) (.agg ⟨vs⟩))=ax Q (do pure (.bool (<-Op.equalIn 10000 t (.agg ⟨us⟩) (.agg ⟨vs⟩)))):=rfl;rw[aw,o7 h3 (.inl rfl),zau,e,aw,fC 20 10000 t _ _ _ _ _ (by omega) h4 (by simp[D.cA,h1]) (by simp[D.cA,h2])];rfl
    cases h
   ·split at h
    next us vs c h1 h2 h3 h4=>simp only[zal] at h;subst h;refine KW.ret (fQ us vs _ h1 h2 ?_);have e:ax Q (binOp .neq t (.agg ⟨us⟩) (.agg ⟨vs⟩))=ax Q (do pure (.bool (!(<-Op.equalIn 10000 t (.agg ⟨us⟩) (.agg ⟨vs⟩))))):=rfl;rw[aw,o7 h3 (.inr rfl),zau,e,aw,fC 20 10000 t _ _ _ _ _ (by omega) h4 (by simp[D.cA,h1]) (by simp[D.cA,h2])];rfl
    cases h
   cases h
  |_=>simp[w6] at h
 |_=>simp[w6] at h
end Pi
