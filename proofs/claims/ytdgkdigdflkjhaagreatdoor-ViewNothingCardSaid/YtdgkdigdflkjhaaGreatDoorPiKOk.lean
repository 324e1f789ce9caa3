/- The text PiKOk. -/
import Derived.Test.YtdgkdigdflkjhaaGreatDoorPiPv
import Derived.Laws.Strings
import Derived.IntWalk
namespace Pi
open Go
def KW{α:Type}(m:K α)(p:α->Prop):= ∀ae,m ae-> ∃a,p a/\ae a
theorem KW.ret{α:Type}{a:α}{p}(h:p a):KW (K.ret a) p:=λ_ hm=>⟨a,h,hm⟩
theorem KW.fail{α:Type}{p}:KW (K.fail:K α) p:=λ_ hm=>hm.elim
theorem KW.ki{α:Type}{b}{a:α}{p}(h:b=true->p a):KW (K.ki b a) p:=λ_ hm=>by
 unfold K.ki at hm;cases b with
 |true=>exact⟨a,h rfl,hm⟩
 |false=>exact hm.elim
theorem KW.dec{b p}(h:p b):KW (K.dec b) p:=λ_ hm=>by
 unfold K.dec at hm;cases b with
 |true=>exact⟨true,h,hm⟩
 |false=>exact⟨false,h,hm⟩
theorem KW.dU{α:Type}{o:Option α}{p}(h: ∀a,o=some a->p a):KW (K.dU o) p:=λ_ hm=>by
 unfold K.dU at hm;split at hm
 ·exact⟨_,h _ rfl,hm⟩
 exact hm.elim
theorem KW.bind{α β:Type}{m}{f:α->K β}{p q}(hm:KW m p)(hf: ∀a,p a->KW (f a) q):KW (K.bind m f) q:=λae h=>by obtain⟨a,ha,h2⟩:=hm _ h;exact hf a ha ae h2
theorem KW.mono{α:Type}{m:K α}{p q}(h:KW m p)(TX: ∀a,p a->q a):KW m q:=λae hm=>by obtain⟨a,ha,h2⟩:=h ae hm;exact⟨a,TX a ha,h2⟩
theorem NP{Q t x y}(h:TA Q t x=some y)(hb:isC Q t x=true):x=y:=by
 unfold TA at h;unfold isC at hb;cases hu:Q.underlying t with
 |none=>simp[hu] at h
 |some d=>
  rw[hu] at h hb;cases d with
  |bool=>cases x<;>simp at hb h;rw[<-h];rfl
  |int k=>cases x<;>simp at hb h;subst hb;rw[<-h];rfl
  |string=>cases x<;>simp at hb h;rw[<-h];rfl
  |slice e=>
   cases x<;>simp at hb h;simp only[hb] at h;split at h
   next k hk=>simp at hk h;subst hk;rw[<-h];rfl
   cases h
  |_=>simp at h
theorem H5{Q x}: ∀ts j cs,Di Q x j ts=some cs->qae Q x j ts=true->cs=(List.range' j ts.length).map x.au
 | [],j,cs,h,_=>by simp[Di] at h;subst h;rfl
 |t::ts,j,cs,h,hb=>by
  simp only[Di] at h;simp only[qae,zac] at hb;cases h1:TA Q t (x.au j) with
  |none=>simp[h1] at h
  |some c=>
   cases h2:Di Q x (j+1) ts with
   |none=>simp[h1,h2] at h
   |some ds=>simp[h1,h2] at h;subst h;rw[zao,List.range'_succ,za4,<-H5 ts (j+1) ds h2 hb.2,NP h1 hb.1]
theorem o7 Q t x:KW (EZ Q t x) (λy=>x=y):=by
 unfold EZ;split
 next y hy=>
  refine KW.ki λhb=> ?_;unfold bO at hb;split at hy
  next KP=>
   rw[zap KP] at hb;split at hy
   ·rename_i cs hcs;simp at hy;subst hy;simp only[zac] at hb;have e:=H5 _ _ _ hcs hb.2;cases x with
    |agg ds=>
     have hl:=zag hb.1;rw[e,<-hl];congr 1;apply zbX
     ·simp
     intro i h1 h2;simp[D.au,D.cells,h1]
    |_=>simp at hb
   cases hy
  rename_i KP;rw[zan KP] at hb;exact NP hy hb
 exact KW.fail
theorem zJ{es i}(h:i<es.length):es[i]?=some (D.nth es i):=by simp[D.nth,h]
theorem lN k n:KW (arith k n) (λz=>z= .int k (k.wrap n)):=by
 unfold arith;split
 ·refine KW.ki λhb=> ?_;simp only[zah] at hb;rw[IntWalk.i64_in n hb]
 exact KW.ret rfl
theorem qal{Q s op t}{x y p q m}(h:zu Q op t p q=some m):KW m (λz=>pY Q s op t x y (.d p) (.d q)=some (.d z)):=by
 cases p with
 |int k a=>
  cases q with
  |int k' b=>
   simp only[zu] at h;have zK: ∀(n:Int),ax Q (do eqGuard op t x y (.int k a) (.int k' b);binOp op t (.int k a) (.int k' b))=some (.int k n)->pY Q s op t x y (.d (.int k a)) (.d (.int k' b))=some (.d (.int k n)):=by intro n hv;simp only[pY,P.cD,D.cD,D.gG,ey,hv,D.vQ,D.nr]
   have fp: ∀(c:Bool),ax Q (do eqGuard op t x y (.int k a) (.int k' b);binOp op t (.int k a) (.int k' b))=some (.bool c)->pY Q s op t x y (.d (.int k a)) (.d (.int k' b))=some (.d (.bool c)):=by intro n hv;simp only[pY,P.cD,D.cD,D.gG,ey,hv,D.vQ,D.nr]
   split at h
   ·simp only[zam] at h;subst h;refine KW.bind (p:=λ_=> ¬b<0) (KW.ki λhb=>by simpa using hb) λ_ hb=>(lN _ _).mono λz hz=> ?_;subst hz;refine zK _ ?_;show ax Q (if b<0 then _ else _)=_;rw[zan hb];rfl
   ·simp only[zam] at h;subst h;refine KW.ki λhb=>zK _ ?_;have hb: ¬b<0:=by simpa using hb
    show ax Q (if b<0 then _ else _)=_;rw[zan hb];rfl
   split at h
   ·rename_i hk;have hk:k=k':=by simpa using hk
    subst hk;split at h<;>simp only[zam,reduceCtorEq] at h<;>subst h
    ·exact(lN _ _).mono λz hz=>by subst hz;exact zK _ (by cases k<;>rfl)
    ·exact(lN _ _).mono λz hz=>by subst hz;exact zK _ (by cases k<;>rfl)
    ·exact(lN _ _).mono λz hz=>by subst hz;exact zK _ (by cases k<;>rfl)
    ·refine KW.bind (p:=λ_=> ¬b=0) (KW.ki λhb=>by simpa using hb) λ_ hb=>(lN _ _).mono λz hz=> ?_;subst hz;refine zK _ ?_;have:ax Q (Op.intDiv .quo k a b)=some (.int k (k.wrap (a.tdiv b))):=by unfold Op.intDiv;rw[zan hb];rfl
     rw[<-this];cases k<;>rfl
    ·refine KW.ki λhb=>zK _ ?_;have hb: ¬b=0:=by simpa using hb
     have:ax Q (Op.intDiv .rem k a b)=some (.int k (a.tmod b)):=by unfold Op.intDiv;rw[zan hb];rfl
     rw[<-this];cases k<;>rfl
    ·exact KW.ret (zK _ (by cases k<;>rfl))
    ·exact KW.ret (zK _ (by cases k<;>rfl))
    ·exact KW.ret (zK _ (by cases k<;>rfl))
    ·exact KW.ret (zK _ (by cases k<;>rfl))
    all_goals exact KW.ret (fp _ (by cases k<;>rfl))
   cases h
  |_=>simp[zu] at h
 |str a=>
  cases q with
  |str b=>
   have fp: ∀(c:Bool),ax Q (do eqGuard op t x y (.string ⟨⟨a⟩⟩) (.string ⟨⟨b⟩⟩);binOp op t (.string ⟨⟨a⟩⟩) (.string ⟨⟨b⟩⟩))=some (.bool c)->pY Q s op t x y (.d (.str a)) (.d (.str b))=some (.d (.bool c)):=by intro c hv;simp only[pY,P.cD,D.cD,D.gG,ey,hv,D.vQ,D.nr]
   have e1:(ByteArray.mk ⟨a⟩).toList=a:=by rw[ByteArray.toList_eq]
   have e2:(ByteArray.mk ⟨b⟩).toList=b:=by rw[ByteArray.toList_eq]
   simp only[zu] at h;split at h<;>simp only[zam,reduceCtorEq] at h<;>subst h
   ·refine KW.ki λhb=> ?_;have hb:a.length+b.length<=9223372036854775807:=by simpa using hb
    have hv:ax Q (do eqGuard .add t x y (.string ⟨⟨a⟩⟩) (.string ⟨⟨b⟩⟩);binOp .add t (.string ⟨⟨a⟩⟩) (.string ⟨⟨b⟩⟩))=some (.string (⟨⟨a⟩⟩++⟨⟨b⟩⟩)):=by
     show ax Q (if((a.length+b.length:Nat):Int)>IntKind.i64.max then _ else _)=_;rw[zan (by
       have:IntKind.i64.max=9223372036854775807:=by decide
       omega)]
     rfl
    simp only[pY,P.cD,D.cD,D.gG,ey,hv,D.vQ,D.nr];simp
   ·refine KW.ret (fp _ ?_);have:ax Q (do eqGuard .eql t x y (.string ⟨⟨a⟩⟩) (.string ⟨⟨b⟩⟩);binOp .eql t (.string ⟨⟨a⟩⟩) (.string ⟨⟨b⟩⟩))=some (.bool ((ByteArray.mk ⟨a⟩).toList==(ByteArray.mk ⟨b⟩).toList)):=rfl;rw[this,e1,e2]
   ·refine KW.ret (fp _ ?_);have:ax Q (do eqGuard .neq t x y (.string ⟨⟨a⟩⟩) (.string ⟨⟨b⟩⟩);binOp .neq t (.string ⟨⟨a⟩⟩) (.string ⟨⟨b⟩⟩))=some (.bool (!((ByteArray.mk ⟨a⟩).toList==(ByteArray.mk ⟨b⟩).toList))):=rfl;rw[this,e1,e2]
   ·refine KW.ret (fp _ ?_);have:ax Q (do eqGuard .lss t x y (.string ⟨⟨a⟩⟩) (.string ⟨⟨b⟩⟩);binOp .lss t (.string ⟨⟨a⟩⟩) (.string ⟨⟨b⟩⟩))=some (.bool (Op.bytesLess (ByteArray.mk ⟨a⟩).toList (ByteArray.mk ⟨b⟩).toList)):=rfl;rw[this,e1,e2]
   ·refine KW.ret (fp _ ?_);have:ax Q (do eqGuard .leq t x y (.string ⟨⟨a⟩⟩) (.string ⟨⟨b⟩⟩);binOp .leq t (.string ⟨⟨a⟩⟩) (.string ⟨⟨b⟩⟩))=some (.bool (Op.bytesLess (ByteArray.mk ⟨a⟩).toList (ByteArray.mk ⟨b⟩).toList || (ByteArray.mk ⟨a⟩).toList==(ByteArray.mk ⟨b⟩).toList)):=rfl;rw[this,e1,e2]
   ·refine KW.ret (fp _ ?_);have:ax Q (do eqGuard .gtr t x y (.string ⟨⟨a⟩⟩) (.string ⟨⟨b⟩⟩);binOp .gtr t (.string ⟨⟨a⟩⟩) (.string ⟨⟨b⟩⟩))=some (.bool (!(Op.bytesLess (ByteArray.mk ⟨a⟩).toList (ByteArray.mk ⟨b⟩).toList || (ByteArray.mk ⟨a⟩).toList==(ByteArray.mk ⟨b⟩).toList))):=rfl;rw[this,e1,e2]
   refine KW.ret (fp _ ?_);have:ax Q (do eqGuard .geq t x y (.string ⟨⟨a⟩⟩) (.string ⟨⟨b⟩⟩);binOp .geq t (.string ⟨⟨a⟩⟩) (.string ⟨⟨b⟩⟩))=some (.bool (!(Op.bytesLess (ByteArray.mk ⟨a⟩).toList (ByteArray.mk ⟨b⟩).toList))):=rfl;rw[this,e1,e2]
  |_=>simp[zu] at h
 |bool a=>
  cases q with
  |bool b=>
   simp only[zu] at h;have fp: ∀(c:Bool),ax Q (do eqGuard op t x y (.bool a) (.bool b);binOp op t (.bool a) (.bool b))=some (.bool c)->pY Q s op t x y (.d (.bool a)) (.d (.bool b))=some (.d (.bool c)):=by intro c hv;simp only[pY,P.cD,D.cD,D.gG,ey,hv,D.vQ,D.nr]
   split at h
   next hu=>simp only[zam] at h;subst h;refine KW.ret (fp _ ?_);have:ax Q (do eqGuard .eql t x y (.bool a) (.bool b);binOp .eql t (.bool a) (.bool b))=ax Q (do pure (.bool (<-Op.equal t (.bool a) (.bool b)))):=rfl;rw[this,aw,kG hu];rfl
   next hu=>simp only[zam] at h;subst h;refine KW.ret (fp _ ?_);have:ax Q (do eqGuard .neq t x y (.bool a) (.bool b);binOp .neq t (.bool a) (.bool b))=ax Q (do pure (.bool (!(<-Op.equal t (.bool a) (.bool b))))):=rfl;rw[this,aw,kG hu];rfl
   cases h
  |_=>simp[zu] at h
 |agg a=>
  cases q with
  |agg b=>
   simp only[zu] at h;have fp: ∀(us vs:List Value) (c:Bool),D.dt a=some us->D.dt b=some vs->ax Q (do eqGuard op t x y (.agg ⟨us⟩) (.agg ⟨vs⟩);binOp op t (.agg ⟨us⟩) (.agg ⟨vs⟩))=some (.bool c)->pY Q s op t x y (.d (.agg a)) (.d (.agg b))=some (.d (.bool c)):=by intro us vs c h1 h2 hv;simp only[pY,P.cD,D.cD,h1,h2,ey,hv,D.vQ,D.nr]
   split at h
   ·split at h
    next us vs c h1 h2 h3 h4=>simp only[zam] at h;subst h;refine KW.ret (fp us vs _ h1 h2 ?_);have e:ax Q (binOp .eql t (.agg ⟨us⟩) (.agg ⟨vs⟩))=ax Q (do pure (.bool (<-Op.equalIn 10000 t (.agg ⟨us⟩) (.agg ⟨vs⟩)))):=rfl;rw[aw,qB h3 (.inl rfl),zaw,e,aw,dN 20 10000 t _ _ _ _ _ (by omega) h4 (by simp[D.cD,h1]) (by simp[D.cD,h2])];rfl
    cases h
   ·split at h
    next us vs c h1 h2 h3 h4=>simp only[zam] at h;subst h;refine KW.ret (fp us vs _ h1 h2 ?_);have e:ax Q (binOp .neq t (.agg ⟨us⟩) (.agg ⟨vs⟩))=ax Q (do pure (.bool (!(<-Op.equalIn 10000 t (.agg ⟨us⟩) (.agg ⟨vs⟩))))):=rfl;rw[aw,qB h3 (.inr rfl),zaw,e,aw,dN 20 10000 t _ _ _ _ _ (by omega) h4 (by simp[D.cD,h1]) (by simp[D.cD,h2])];rfl
    cases h
   cases h
  |_=>simp[zu] at h
 |_=>simp[zu] at h
end Pi
