/- The text PiKOk. -/
import Derived.Test.YtpiohccneeblhaaPiPv
import Derived.Laws.Strings
import Derived.IntWalk
namespace Pi
open Go
def KW{α:Type}(m:K α)(p:α->Prop):Prop:= ∀ae,m ae-> ∃a,p a/\ae a
theorem KW.ret{α:Type}{a:α}{p:α->Prop}(h:p a):KW (K.ret a) p:=λ_ hm=>⟨a,h,hm⟩
theorem KW.fail{α:Type}{p:α->Prop}:KW (K.fail:K α) p:=λ_ hm=>hm.elim
theorem KW.cZ{α:Type}{b:Bool}{a:α}{p:α->Prop}(h:b=true->p a):KW (K.cZ b a) p:=λ_ hm=>by
 unfold K.cZ at hm;cases b with
 |true=>exact⟨a,h rfl,hm⟩
 |false=>exact hm.elim
theorem KW.dec{b:Bool}{p:Bool->Prop}(h:p b):KW (K.dec b) p:=λ_ hm=>by
 unfold K.dec at hm;cases b with
 |true=>exact⟨true,h,hm⟩
 |false=>exact⟨false,h,hm⟩
theorem KW.cg{α:Type}{o:Option α}{p:α->Prop}(h: ∀a,o=some a->p a):KW (K.cg o) p:=λ_ hm=>by
 unfold K.cg at hm;split at hm
 ·exact⟨_,h _ rfl,hm⟩
 exact hm.elim
theorem KW.bind{α β:Type}{m:K α}{f:α->K β}{p:α->Prop}{q:β->Prop}(hm:KW m p)(hf: ∀a,p a->KW (f a) q):KW (K.bind m f) q:=λae h=>by obtain⟨a,ha,h2⟩:=hm _ h;exact hf a ha ae h2
theorem KW.mono{α:Type}{m:K α}{p q:α->Prop}(h:KW m p)(EM: ∀a,p a->q a):KW m q:=λae hm=>by obtain⟨a,ha,h2⟩:=h ae hm;exact⟨a,EM a ha,h2⟩
theorem za{Q:Program}{t:TypeId}{x y:D}(h:BW Q t x=some y)(hb:Ld Q t x=true):x=y:=by
 unfold BW at h;unfold Ld at hb;cases hu:Q.underlying t with
 |none=>simp[hu] at h
 |some d=>
  rw[hu] at h hb;cases d with
  |bool=>cases x<;>simp at hb h;rw[<-h];rfl
  |int k=>cases x<;>simp at hb h;subst hb;rw[<-h];rfl
  |string=>cases x<;>simp at hb h;rw[<-h];rfl
  |slice e=>simp at h;exact h
  |_=>simp at h
theorem vG{Q:Program}{x:D}: ∀(ts:List TypeId) (j:Nat) (cs:List D),r6 Q x j ts=some cs->EC Q x j ts=true->cs=(List.range' j ts.length).map x.eL
 | [],j,cs,h,_=>by simp[r6] at h;subst h;rfl
 |t::ts,j,cs,h,hb=>by
  simp only[r6] at h;simp only[EC,zad] at hb;cases h1:BW Q t (x.eL j) with
  |none=>simp[h1] at h
  |some c=>
   cases h2:r6 Q x (j+1) ts with
   |none=>simp[h1,h2] at h
   |some ds=>simp[h1,h2] at h;subst h;rw[zaF,List.range'_succ,zaO,<-vG ts (j+1) ds h2 hb.2,za h1 hb.1]
theorem ik(Q:Program)(t:TypeId)(x:D):KW (ri Q t x) (λy=>x=y):=by
 unfold ri;split
 next y hy=>
  refine KW.cZ λhb=> ?_;unfold pz at hb;split at hy
  next yS=>
   rw[zat yS] at hb;split at hy
   ·rename_i cs hcs;simp at hy;subst hy;simp only[zad] at hb;have e:=vG _ _ _ hcs hb.2;cases x with
    |agg ds=>
     have hl:=zab hb.1;rw[e,<-hl];congr 1;apply zb6
     ·simp
     intro i h1 h2;simp[D.eL,D.cells,h1]
    |_=>simp at hb
   cases hy
  rename_i yS;rw[zaB yS] at hb;exact za hy hb
 exact KW.fail
theorem iR{es:List D}{i:Nat}(h:i<es.length):es[i]?=some (D.nth es i):=by simp[D.nth,h]
theorem gM(k:IntKind)(n:Int):KW (arith k n) (λz=>z= .int k (k.wrap n)):=by
 unfold arith;split
 ·refine KW.cZ λhb=> ?_;simp only[zaI] at hb;rw[IntWalk.i64_in n hb]
 exact KW.ret rfl
theorem EN{Q:Program}{s:S}{op:BinOp}{t:TypeId}{x y:Operand}{p q:D}{m:K D}(h:pA Q op t p q=some m):KW m (λz=>jQ Q s op t x y (.d p) (.d q)=some (.d z)):=by
 cases p with
 |int k a=>
  cases q with
  |int k' b=>
   simp only[pA] at h;have pM: ∀(n:Int),ah Q (do eqGuard op t x y (.int k a) (.int k' b);binOp op t (.int k a) (.int k' b))=some (.int k n)->jQ Q s op t x y (.d (.int k a)) (.d (.int k' b))=some (.d (.int k n)):=by intro n hv;simp only[jQ,P.br,D.br,D.dK,cD,hv,D.nh,D.iw]
   have cq: ∀(c:Bool),ah Q (do eqGuard op t x y (.int k a) (.int k' b);binOp op t (.int k a) (.int k' b))=some (.bool c)->jQ Q s op t x y (.d (.int k a)) (.d (.int k' b))=some (.d (.bool c)):=by intro n hv;simp only[jQ,P.br,D.br,D.dK,cD,hv,D.nh,D.iw]
   split at h
   ·simp only[zaf] at h;subst h;refine KW.bind (p:=λ_=> ¬b<0) (KW.cZ λhb=>by simpa using hb) λ_ hb=>(gM _ _).mono λz hz=> ?_;subst hz;refine pM _ ?_;show ah Q (if b<0 then _ else _)=_;rw[zaB hb];rfl
   ·simp only[zaf] at h;subst h;refine KW.cZ λhb=>pM _ ?_;have hb: ¬b<0:=by simpa using hb
    show ah Q (if b<0 then _ else _)=_;rw[zaB hb];rfl
   split at h
   ·rename_i hk;have hk:k=k':=by simpa using hk
    subst hk;split at h<;>simp only[zaf,reduceCtorEq] at h<;>subst h
    ·exact(gM _ _).mono λz hz=>by subst hz;exact pM _ (by cases k<;>rfl)
    ·exact(gM _ _).mono λz hz=>by subst hz;exact pM _ (by cases k<;>rfl)
    ·exact(gM _ _).mono λz hz=>by subst hz;exact pM _ (by cases k<;>rfl)
    ·refine KW.bind (p:=λ_=> ¬b=0) (KW.cZ λhb=>by simpa using hb) λ_ hb=>(gM _ _).mono λz hz=> ?_;subst hz;refine pM _ ?_;have:ah Q (Op.intDiv .quo k a b)=some (.int k (k.wrap (a.tdiv b))):=by unfold Op.intDiv;rw[zaB hb];rfl
     rw[<-this];cases k<;>rfl
    ·refine KW.cZ λhb=>pM _ ?_;have hb: ¬b=0:=by simpa using hb
     have:ah Q (Op.intDiv .rem k a b)=some (.int k (a.tmod b)):=by unfold Op.intDiv;rw[zaB hb];rfl
     rw[<-this];cases k<;>rfl
    ·exact KW.ret (pM _ (by cases k<;>rfl))
    ·exact KW.ret (pM _ (by cases k<;>rfl))
    ·exact KW.ret (pM _ (by cases k<;>rfl))
    ·exact KW.ret (pM _ (by cases k<;>rfl))
    all_goals exact KW.ret (cq _ (by cases k<;>rfl))
   cases h
  |_=>simp[pA] at h
 |str a=>
  cases q with
  |str b=>
   have cq: ∀(c:Bool),ah Q (do eqGuard op t x y (.string ⟨⟨a⟩⟩) (.string ⟨⟨b⟩⟩);binOp op t (.string ⟨⟨a⟩⟩) (.string ⟨⟨b⟩⟩))=some (.bool c)->jQ Q s op t x y (.d (.str a)) (.d (.str b))=some (.d (.bool c)):=by intro c hv;simp only[jQ,P.br,D.br,D.dK,cD,hv,D.nh,D.iw]
   have e1:(ByteArray.mk ⟨a⟩).toList=a:=by rw[ByteArray.toList_eq]
   have e2:(ByteArray.mk ⟨b⟩).toList=b:=by rw[ByteArray.toList_eq]
   simp only[pA] at h;split at h<;>simp only[zaf,reduceCtorEq] at h<;>subst h
   ·refine KW.cZ λhb=> ?_;have hb:a.length+b.length<=9223372036854775807:=by simpa using hb
    have hv:ah Q (do eqGuard .add t x y (.string ⟨⟨a⟩⟩) (.string ⟨⟨b⟩⟩);binOp .add t (.string ⟨⟨a⟩⟩) (.string ⟨⟨b⟩⟩))=some (.string (⟨⟨a⟩⟩++⟨⟨b⟩⟩)):=by
     show ah Q (if((a.length+b.length:Nat):Int)>IntKind.i64.max then _ else _)=_;rw[zaB (by
       have:IntKind.i64.max=9223372036854775807:=by decide
       omega)]
     rfl
    simp only[jQ,P.br,D.br,D.dK,cD,hv,D.nh,D.iw];simp
   ·refine KW.ret (cq _ ?_);have:ah Q (do eqGuard .eql t x y (.string ⟨⟨a⟩⟩) (.string ⟨⟨b⟩⟩);binOp .eql t (.string ⟨⟨a⟩⟩) (.string ⟨⟨b⟩⟩))=some (.bool ((ByteArray.mk ⟨a⟩).toList==(ByteArray.mk ⟨b⟩).toList)):=rfl;rw[this,e1,e2]
   ·refine KW.ret (cq _ ?_);have:ah Q (do eqGuard .neq t x y (.string ⟨⟨a⟩⟩) (.string ⟨⟨b⟩⟩);binOp .neq t (.string ⟨⟨a⟩⟩) (.string ⟨⟨b⟩⟩))=some (.bool (!((ByteArray.mk ⟨a⟩).toList==(ByteArray.mk ⟨b⟩).toList))):=rfl;rw[this,e1,e2]
   ·refine KW.ret (cq _ ?_);have:ah Q (do eqGuard .lss t x y (.string ⟨⟨a⟩⟩) (.string ⟨⟨b⟩⟩);binOp .lss t (.string ⟨⟨a⟩⟩) (.string ⟨⟨b⟩⟩))=some (.bool (Op.bytesLess (ByteArray.mk ⟨a⟩).toList (ByteArray.mk ⟨b⟩).toList)):=rfl;rw[this,e1,e2]
   ·refine KW.ret (cq _ ?_);have:ah Q (do eqGuard .leq t x y (.string ⟨⟨a⟩⟩) (.string ⟨⟨b⟩⟩);binOp .leq t (.string ⟨⟨a⟩⟩) (.string ⟨⟨b⟩⟩))=some (.bool (Op.bytesLess (ByteArray.mk ⟨a⟩).toList (ByteArray.mk ⟨b⟩).toList || (ByteArray.mk ⟨a⟩).toList==(ByteArray.mk ⟨b⟩).toList)):=rfl;rw[this,e1,e2]
   ·refine KW.ret (cq _ ?_);have:ah Q (do eqGuard .gtr t x y (.string ⟨⟨a⟩⟩) (.string ⟨⟨b⟩⟩);binOp .gtr t (.string ⟨⟨a⟩⟩) (.string ⟨⟨b⟩⟩))=some (.bool (!(Op.bytesLess (ByteArray.mk ⟨a⟩).toList (ByteArray.mk ⟨b⟩).toList || (ByteArray.mk ⟨a⟩).toList==(ByteArray.mk ⟨b⟩).toList))):=rfl;rw[this,e1,e2]
   refine KW.ret (cq _ ?_);have:ah Q (do eqGuard .geq t x y (.string ⟨⟨a⟩⟩) (.string ⟨⟨b⟩⟩);binOp .geq t (.string ⟨⟨a⟩⟩) (.string ⟨⟨b⟩⟩))=some (.bool (!(Op.bytesLess (ByteArray.mk ⟨a⟩).toList (ByteArray.mk ⟨b⟩).toList))):=rfl;rw[this,e1,e2]
  |_=>simp[pA] at h
 |bool a=>
  cases q with
  |bool b=>
   simp only[pA] at h;have cq: ∀(c:Bool),ah Q (do eqGuard op t x y (.bool a) (.bool b);binOp op t (.bool a) (.bool b))=some (.bool c)->jQ Q s op t x y (.d (.bool a)) (.d (.bool b))=some (.d (.bool c)):=by intro c hv;simp only[jQ,P.br,D.br,D.dK,cD,hv,D.nh,D.iw]
   split at h
   next hu=>simp only[zaf] at h;subst h;refine KW.ret (cq _ ?_);have:ah Q (do eqGuard .eql t x y (.bool a) (.bool b);binOp .eql t (.bool a) (.bool b))=ah Q (do pure (.bool (<-Op.equal t (.bool a) (.bool b)))):=rfl;rw[this,ag,fW hu];rfl
   next hu=>simp only[zaf] at h;subst h;refine KW.ret (cq _ ?_);have:ah Q (do eqGuard .neq t x y (.bool a) (.bool b);binOp .neq t (.bool a) (.bool b))=ah Q (do pure (.bool (!(<-Op.equal t (.bool a) (.bool b))))):=rfl;rw[this,ag,fW hu];rfl
   cases h
  |_=>simp[pA] at h
 |agg a=>
  cases q with
  |agg b=>
   simp only[pA] at h;have cq: ∀(us vs:List Value) (c:Bool),D.bU a=some us->D.bU b=some vs->ah Q (do eqGuard op t x y (.agg ⟨us⟩) (.agg ⟨vs⟩);binOp op t (.agg ⟨us⟩) (.agg ⟨vs⟩))=some (.bool c)->jQ Q s op t x y (.d (.agg a)) (.d (.agg b))=some (.d (.bool c)):=by intro us vs c h1 h2 hv;simp only[jQ,P.br,D.br,h1,h2,cD,hv,D.nh,D.iw]
   split at h
   ·split at h
    next us vs c h1 h2 h3 h4=>simp only[zaf] at h;subst h;refine KW.ret (cq us vs _ h1 h2 ?_);have e:ah Q (binOp .eql t (.agg ⟨us⟩) (.agg ⟨vs⟩))=ah Q (do pure (.bool (<-Op.equalIn 10000 t (.agg ⟨us⟩) (.agg ⟨vs⟩)))):=rfl;rw[ag,ko h3 (.inl rfl),zam,e,ag,cV 20 10000 t _ _ _ _ _ (by omega) h4 (by simp[D.br,h1]) (by simp[D.br,h2])];rfl
    cases h
   ·split at h
    next us vs c h1 h2 h3 h4=>simp only[zaf] at h;subst h;refine KW.ret (cq us vs _ h1 h2 ?_);have e:ah Q (binOp .neq t (.agg ⟨us⟩) (.agg ⟨vs⟩))=ah Q (do pure (.bool (!(<-Op.equalIn 10000 t (.agg ⟨us⟩) (.agg ⟨vs⟩))))):=rfl;rw[ag,ko h3 (.inr rfl),zam,e,ag,cV 20 10000 t _ _ _ _ _ (by omega) h4 (by simp[D.br,h1]) (by simp[D.br,h2])];rfl
    cases h
   cases h
  |_=>simp[pA] at h
 |_=>simp[pA] at h
end Pi
