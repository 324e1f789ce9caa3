/- The text PiKOk. -/
import Derived.Test.YtngoddkencoalaaGreatDoorPiPv
import Derived.Laws.Strings
import Derived.IntWalk
namespace Pi
open Go
def KW{α:Type}(m:K α)(p:α->Prop):Prop:= ∀ae,m ae-> ∃a,p a/\ae a
theorem KW.ret{α:Type}{a:α}{p:α->Prop}(h:p a):KW (K.ret a) p:=λ_ hm=>⟨a,h,hm⟩
theorem KW.fail{α:Type}{p:α->Prop}:KW (K.fail:K α) p:=λ_ hm=>hm.elim
theorem KW.jT{α:Type}{b:Bool}{a:α}{p:α->Prop}(h:b=true->p a):KW (K.jT b a) p:=λ_ hm=>by
 unfold K.jT at hm;cases b with
 |true=>exact⟨a,h rfl,hm⟩
 |false=>exact hm.elim
theorem KW.dec{b:Bool}{p:Bool->Prop}(h:p b):KW (K.dec b) p:=λ_ hm=>by
 unfold K.dec at hm;cases b with
 |true=>exact⟨true,h,hm⟩
 |false=>exact⟨false,h,hm⟩
theorem KW.dW{α:Type}{o:Option α}{p:α->Prop}(h: ∀a,o=some a->p a):KW (K.dW o) p:=λ_ hm=>by
 unfold K.dW at hm;split at hm
 ·exact⟨_,h _ rfl,hm⟩
 exact hm.elim
theorem KW.bind{α β:Type}{m:K α}{f:α->K β}{p:α->Prop}{q:β->Prop}(hm:KW m p)(hf: ∀a,p a->KW (f a) q):KW (K.bind m f) q:=λae h=>by obtain⟨a,ha,h2⟩:=hm _ h;exact hf a ha ae h2
theorem KW.mono{α:Type}{m:K α}{p q:α->Prop}(h:KW m p)(Qj: ∀a,p a->q a):KW m q:=λae hm=>by obtain⟨a,ha,h2⟩:=h ae hm;exact⟨a,Qj a ha,h2⟩
theorem KS{Q:Program}{t:TypeId}{x y:D}(h:PK Q t x=some y)(hb:isC Q t x=true):x=y:=by
 unfold PK at h;unfold isC at hb;cases hu:Q.underlying t with
 |none=>simp[hu] at h
 |some d=>
  rw[hu] at h hb;cases d with
  |bool=>cases x<;>simp at hb h;rw[<-h];rfl
  |int k=>cases x<;>simp at hb h;subst hb;rw[<-h];rfl
  |string=>cases x<;>simp at hb h;rw[<-h];rfl
  |slice e=>
   cases x<;>simp at hb h;simp only[hb] at h;split at h
   next k hk=>simp at hk h;subst hk;rw[<-h];rfl
   cases h
  |_=>simp at h
theorem Fj{Q:Program}{x:D}: ∀(ts:List TypeId) (j:Nat) (cs:List D),Bm Q x j ts=some cs->WG Q x j ts=true->cs=(List.range' j ts.length).map x.ar
 | [],j,cs,h,_=>by simp[Bm] at h;subst h;rfl
 |t::ts,j,cs,h,hb=>by
  simp only[Bm] at h;simp only[WG,zab] at hb;cases h1:PK Q t (x.ar j) with
  |none=>simp[h1] at h
  |some c=>
   cases h2:Bm Q x (j+1) ts with
   |none=>simp[h1,h2] at h
   |some ds=>simp[h1,h2] at h;subst h;rw[zap,List.range'_succ,zbm,<-Fj ts (j+1) ds h2 hb.2,KS h1 hb.1]
theorem n0(Q:Program)(t:TypeId)(x:D):KW (CI Q t x) (λy=>x=y):=by
 unfold CI;split
 next y hy=>
  refine KW.jT λhb=> ?_;unfold cx at hb;split at hy
  next xe=>
   rw[zao xe] at hb;split at hy
   ·rename_i cs hcs;simp at hy;subst hy;simp only[zab] at hb;have e:=Fj _ _ _ hcs hb.2;cases x with
    |agg ds=>
     have hl:=zaf hb.1;rw[e,<-hl];congr 1;apply zbX
     ·simp
     intro i h1 h2;simp[D.ar,D.cells,h1]
    |_=>simp at hb
   cases hy
  rename_i xe;rw[zal xe] at hb;exact KS hy hb
 exact KW.fail
theorem xZ{es:List D}{i:Nat}(h:i<es.length):es[i]?=some (D.nth es i):=by simp[D.nth,h]
theorem lx(k:IntKind)(n:Int):KW (arith k n) (λz=>z= .int k (k.wrap n)):=by
 unfold arith;split
 ·refine KW.jT λhb=> ?_;simp only[zai] at hb;rw[IntWalk.i64_in n hb]
 exact KW.ret rfl
theorem WS{Q:Program}{s:S}{op:BinOp}{t:TypeId}{x y:Operand}{p q:D}{m:K D}(h:xN Q op t p q=some m):KW m (λz=>o4 Q s op t x y (.d p) (.d q)=some (.d z)):=by
 cases p with
 |int k a=>
  cases q with
  |int k' b=>
   simp only[xN] at h;have x6: ∀(n:Int),aA Q (do eqGuard op t x y (.int k a) (.int k' b);binOp op t (.int k a) (.int k' b))=some (.int k n)->o4 Q s op t x y (.d (.int k a)) (.d (.int k' b))=some (.d (.int k n)):=by intro n hv;simp only[o4,P.cG,D.cG,D.gE,eo,hv,D.uK,D.mC]
   have fY: ∀(c:Bool),aA Q (do eqGuard op t x y (.int k a) (.int k' b);binOp op t (.int k a) (.int k' b))=some (.bool c)->o4 Q s op t x y (.d (.int k a)) (.d (.int k' b))=some (.d (.bool c)):=by intro n hv;simp only[o4,P.cG,D.cG,D.gE,eo,hv,D.uK,D.mC]
   split at h
   ·simp only[zam] at h;subst h;refine KW.bind (p:=λ_=> ¬b<0) (KW.jT λhb=>by simpa using hb) λ_ hb=>(lx _ _).mono λz hz=> ?_;subst hz;refine x6 _ ?_;show aA Q (if b<0 then _ else _)=_;rw[zal hb];rfl
   ·simp only[zam] at h;subst h;refine KW.jT λhb=>x6 _ ?_;have hb: ¬b<0:=by simpa using hb
    show aA Q (if b<0 then _ else _)=_;rw[zal hb];rfl
   split at h
   ·rename_i hk;have hk:k=k':=by simpa using hk
    subst hk;split at h<;>simp only[zam,reduceCtorEq] at h<;>subst h
    ·exact(lx _ _).mono λz hz=>by subst hz;exact x6 _ (by cases k<;>rfl)
    ·exact(lx _ _).mono λz hz=>by subst hz;exact x6 _ (by cases k<;>rfl)
    ·exact(lx _ _).mono λz hz=>by subst hz;exact x6 _ (by cases k<;>rfl)
    ·refine KW.bind (p:=λ_=> ¬b=0) (KW.jT λhb=>by simpa using hb) λ_ hb=>(lx _ _).mono λz hz=> ?_;subst hz;refine x6 _ ?_;have:aA Q (Op.intDiv .quo k a b)=some (.int k (k.wrap (a.tdiv b))):=by unfold Op.intDiv;rw[zal hb];rfl
     rw[<-this];cases k<;>rfl
    ·refine KW.jT λhb=>x6 _ ?_;have hb: ¬b=0:=by simpa using hb
     have:aA Q (Op.intDiv .rem k a b)=some (.int k (a.tmod b)):=by unfold Op.intDiv;rw[zal hb];rfl
     rw[<-this];cases k<;>rfl
    ·exact KW.ret (x6 _ (by cases k<;>rfl))
    ·exact KW.ret (x6 _ (by cases k<;>rfl))
    ·exact KW.ret (x6 _ (by cases k<;>rfl))
    ·exact KW.ret (x6 _ (by cases k<;>rfl))
    all_goals exact KW.ret (fY _ (by cases k<;>rfl))
   cases h
  |_=>simp[xN] at h
 |str a=>
  cases q with
  |str b=>
   have fY: ∀(c:Bool),aA Q (do eqGuard op t x y (.string ⟨⟨a⟩⟩) (.string ⟨⟨b⟩⟩);binOp op t (.string ⟨⟨a⟩⟩) (.string ⟨⟨b⟩⟩))=some (.bool c)->o4 Q s op t x y (.d (.str a)) (.d (.str b))=some (.d (.bool c)):=by intro c hv;simp only[o4,P.cG,D.cG,D.gE,eo,hv,D.uK,D.mC]
   have e1:(ByteArray.mk ⟨a⟩).toList=a:=by rw[ByteArray.toList_eq]
   have e2:(ByteArray.mk ⟨b⟩).toList=b:=by rw[ByteArray.toList_eq]
   simp only[xN] at h;split at h<;>simp only[zam,reduceCtorEq] at h<;>subst h
   ·refine KW.jT λhb=> ?_;have hb:a.length+b.length<=9223372036854775807:=by simpa using hb
    have hv:aA Q (do eqGuard .add t x y (.string ⟨⟨a⟩⟩) (.string ⟨⟨b⟩⟩);binOp .add t (.string ⟨⟨a⟩⟩) (.string ⟨⟨b⟩⟩))=some (.string (⟨⟨a⟩⟩++⟨⟨b⟩⟩)):=by
     show aA Q (if((a.length+b.length:Nat):Int)>IntKind.i64.max then _ else _)=_;rw[zal (by
       have:IntKind.i64.max=9223372036854775807:=by decide
       omega)]
     rfl
    simp only[o4,P.cG,D.cG,D.gE,eo,hv,D.uK,D.mC];simp
   ·refine KW.ret (fY _ ?_);have:aA Q (do eqGuard .eql t x y (.string ⟨⟨a⟩⟩) (.string ⟨⟨b⟩⟩);binOp .eql t (.string ⟨⟨a⟩⟩) (.string ⟨⟨b⟩⟩))=some (.bool ((ByteArray.mk ⟨a⟩).toList==(ByteArray.mk ⟨b⟩).toList)):=rfl;rw[this,e1,e2]
   ·refine KW.ret (fY _ ?_);have:aA Q (do eqGuard .neq t x y (.string ⟨⟨a⟩⟩) (.string ⟨⟨b⟩⟩);binOp .neq t (.string ⟨⟨a⟩⟩) (.string ⟨⟨b⟩⟩))=some (.bool (!((ByteArray.mk ⟨a⟩).toList==(ByteArray.mk ⟨b⟩).toList))):=rfl;rw[this,e1,e2]
   ·refine KW.ret (fY _ ?_);have:aA Q (do eqGuard .lss t x y (.string ⟨⟨a⟩⟩) (.string ⟨⟨b⟩⟩);binOp .lss t (.string ⟨⟨a⟩⟩) (.string ⟨⟨b⟩⟩))=some (.bool (Op.bytesLess (ByteArray.mk ⟨a⟩).toList (ByteArray.mk ⟨b⟩).toList)):=rfl;rw[this,e1,e2]
   ·refine KW.ret (fY _ ?_);have:aA Q (do eqGuard .leq t x y (.string ⟨⟨a⟩⟩) (.string ⟨⟨b⟩⟩);binOp .leq t (.string ⟨⟨a⟩⟩) (.string ⟨⟨b⟩⟩))=some (.bool (Op.bytesLess (ByteArray.mk ⟨a⟩).toList (ByteArray.mk ⟨b⟩).toList || (ByteArray.mk ⟨a⟩).toList==(ByteArray.mk ⟨b⟩).toList)):=rfl;rw[this,e1,e2]
   ·refine KW.ret (fY _ ?_);have:aA Q (do eqGuard .gtr t x y (.string ⟨⟨a⟩⟩) (.string ⟨⟨b⟩⟩);binOp .gtr t (.string ⟨⟨a⟩⟩) (.string ⟨⟨b⟩⟩))=some (.bool (!(Op.bytesLess (ByteArray.mk ⟨a⟩).toList (ByteArray.mk ⟨b⟩).toList || (ByteArray.mk ⟨a⟩).toList==(ByteArray.mk ⟨b⟩).toList))):=rfl;rw[this,e1,e2]
   refine KW.ret (fY _ ?_);have:aA Q (do eqGuard .geq t x y (.string ⟨⟨a⟩⟩) (.string ⟨⟨b⟩⟩);binOp .geq t (.string ⟨⟨a⟩⟩) (.string ⟨⟨b⟩⟩))=some (.bool (!(Op.bytesLess (ByteArray.mk ⟨a⟩).toList (ByteArray.mk ⟨b⟩).toList))):=rfl;rw[this,e1,e2]
  |_=>simp[xN] at h
 |bool a=>
  cases q with
  |bool b=>
   simp only[xN] at h;have fY: ∀(c:Bool),aA Q (do eqGuard op t x y (.bool a) (.bool b);binOp op t (.bool a) (.bool b))=some (.bool c)->o4 Q s op t x y (.d (.bool a)) (.d (.bool b))=some (.d (.bool c)):=by intro c hv;simp only[o4,P.cG,D.cG,D.gE,eo,hv,D.uK,D.mC]
   split at h
   next hu=>simp only[zam] at h;subst h;refine KW.ret (fY _ ?_);have:aA Q (do eqGuard .eql t x y (.bool a) (.bool b);binOp .eql t (.bool a) (.bool b))=aA Q (do pure (.bool (<-Op.equal t (.bool a) (.bool b)))):=rfl;rw[this,ax,kr hu];rfl
   next hu=>simp only[zam] at h;subst h;refine KW.ret (fY _ ?_);have:aA Q (do eqGuard .neq t x y (.bool a) (.bool b);binOp .neq t (.bool a) (.bool b))=aA Q (do pure (.bool (!(<-Op.equal t (.bool a) (.bool b))))):=rfl;rw[this,ax,kr hu];rfl
   cases h
  |_=>simp[xN] at h
 |agg a=>
  cases q with
  |agg b=>
   simp only[xN] at h;have fY: ∀(us vs:List Value) (c:Bool),D.dj a=some us->D.dj b=some vs->aA Q (do eqGuard op t x y (.agg ⟨us⟩) (.agg ⟨vs⟩);binOp op t (.agg ⟨us⟩) (.agg ⟨vs⟩))=some (.bool c)->o4 Q s op t x y (.d (.agg a)) (.d (.agg b))=some (.d (.bool c)):=by intro us vs c h1 h2 hv;simp only[o4,P.cG,D.cG,h1,h2,eo,hv,D.uK,D.mC]
   split at h
   ·split at h
    next us vs c h1 h2 h3 h4=>simp only[zam] at h;subst h;refine KW.ret (fY us vs _ h1 h2 ?_);have e:aA Q (binOp .eql t (.agg ⟨us⟩) (.agg ⟨vs⟩))=aA Q (do pure (.bool (<-Op.equalIn 10000 t (.agg ⟨us⟩) (.agg ⟨vs⟩)))):=rfl;rw[ax,pH h3 (.inl rfl),zav,e,ax,fL 20 10000 t _ _ _ _ _ (by omega) h4 (by simp[D.cG,h1]) (by simp[D.cG,h2])];rfl
    cases h
   ·split at h
    next us vs c h1 h2 h3 h4=>simp only[zam] at h;subst h;refine KW.ret (fY us vs _ h1 h2 ?_);have e:aA Q (binOp .neq t (.agg ⟨us⟩) (.agg ⟨vs⟩))=aA Q (do pure (.bool (!(<-Op.equalIn 10000 t (.agg ⟨us⟩) (.agg ⟨vs⟩))))):=rfl;rw[ax,pH h3 (.inr rfl),zav,e,ax,fL 20 10000 t _ _ _ _ _ (by omega) h4 (by simp[D.cG,h1]) (by simp[D.cG,h2])];rfl
    cases h
   cases h
  |_=>simp[xN] at h
 |_=>simp[xN] at h
end Pi
