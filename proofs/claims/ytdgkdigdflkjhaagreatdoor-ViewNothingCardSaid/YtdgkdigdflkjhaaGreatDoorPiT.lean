/- The text PiT. -/
import Derived.Test.YtdgkdigdflkjhaaGreatDoorEbp
namespace Pi
open Go
def TW Q T (c:Code) s (ae:PX×S->Prop):=
 ∀ ⦃r:Option Nat⦄(_:T.TK=true->r=none) (F:Nat->Prop) (G:Nat->Value) (w:World) (a:Act) (Q':Exit->Act->World->Prop),aC Q T F G w a s->(∀e s' a' w',ae (e,s')->jo Q T F G w s s' a' w'->Q' e.fH a' w')->c.wpIn (wd r) 0 Q Q' a w
def qU(Q:Program)(s:S)(dst:Option Nat)(p:P):K S:=
 match p with
 | .ref n v 0=>match s.obj n v with
  |some (.iter kt vt left _)=>λae=>
   (∀k x,left k=some x->K.bind (EZ Q kt k) (λk=>K.bind (EZ Q vt x) λx=>K.dU ((s.setObj n (.iter kt vt (jg k left) (some (k,x)))).put dst (.dz [.d (.bool true),.d k,.d x]))) ae)/\
   ((∀k,left k=none)->K.dU (s.put dst (.dz [.d (.bool false)])) ae)
  |_=>K.fail
 |_=>K.fail
def qV(o:Oper):=match o.op with | .next it false=>if o.guard.isNone then some it else none |_=>none
def kfN(HN:List (FuncId×a8)):KF:=λf=>match lk HN f with |some h=>h |none=>λ_ _=>K.fail
def N6(HN:List (FuncId×a8))(s:S)(o:Oper):Option (P×List P):=
 match gV o with
 |some (f,xs)=>match s.eg none f with
  | .fn jZ cW=>if(lk HN jZ).isSome&&o.guard.isNone then some (.fn jZ cW,xs.map (s.eg none)) else none
  |_=>none
 |none=>none
def eP(nx:S->Option Nat->P->K S)(Q:Program)(cf:KF)(HN:List (FuncId×a8))(ops:List Oper):List Oper->List (Nat×Bool)->S->K S
 | [],_,s=>K.ret s
 |o::r,kn,s=>match qV o with
  |some it=>K.bind (nx s o.dst ((s.ev it).under none)) λs1=>s1.force λs1=>eP nx Q cf HN ops r [] s1
  |none=>match N6 HN s o with
   |some (f,xs)=>K.bind (sk Q (kfN HN) s o.dst f xs) λs1=>s1.force λs1=>eP nx Q cf HN ops r [] s1
   |none=>K.bind (Dj Q cf ops kn s o) λx=>x.1.force λs1=>eP nx Q cf HN ops r x.2 s1
def hasNext:List Oper->Bool
 | []=>false
 |o::r=>(qV o).isSome ||hasNext r
def eE(nx:S->Option Nat->P->K S)(Q:Program)(kf:KF)(HN:List (FuncId×a8))(kp:Nat->Option (List Nat×List Nat))(hk:List (Nat×(S->K (PX×S))))(dc:Nat->Nat):Code->S->K (PX×S)
 | .skip,s=>K.ret (.normal,s)
 | .label _,s=>K.ret (.normal,s)
 | .region id ops draw,s=>K.bind (if draw then HT Q kf ops.toList (dc id) s else if hasNext ops.toList || !HN.isEmpty then eP nx Q kf HN ops.toList ops.toList [] s else mQ Q kf ops.toList ops.toList [] s) λs1=>K.ret (.normal,s1)
 | .seq a b,s=>K.bind (eE nx Q kf HN kp hk dc a s) λx=>match x.1 with
  | .normal=>eE nx Q kf HN kp hk dc b x.2
  |_=>K.ret x
 | .cond c x y,s=>match s.ev c with
  | .d (.bool b)=>K.bind (K.dec b) λr=>if r then eE nx Q kf HN kp hk dc x s else eE nx Q kf HN kp hk dc y s
  |_=>K.fail
 | .block id c,s=>K.bind (eE nx Q kf HN kp hk dc c s) λx=>match x.1 with
  | .exit qA=>if Nat.beq qA id then K.ret (.normal,x.2) else K.ret x
  |_=>K.ret x
 | .loop c,s=>match lk hk (Code.s5 c) with
  |some h=>h s
  |none=>K.fail
 | .scope c,s=>eE nx Q kf HN kp hk dc c s
 | .exit id,s=>K.ret (.exit id,s)
 | .ret,s=>K.ret (.ret,s)
 | .rangeFunc _ _ _ b,s=>match lk hk (500000+Code.s5 b) with
  |some h=>h s
  |none=>K.fail
 |_,_=>K.fail
structure RF where
 g:Operand
 ps:Array Tmp
 asg:Code
 body:Code
def RF.code(x:RF):Code:= .rangeFunc x.g x.ps x.asg x.body
def bW:Code->List RF
 | .seq a b=>bW a++bW b
 | .cond _ a b=>bW a++bW b
 | .block _ c | .scope c | .loop c=>bW c
 | .rangeFunc g ps a b=>[⟨g,ps,a,b⟩]
 |_=>[]
def RF.id(x:RF):=Code.s5 x.body
def FP(id:Nat):List RF->Option RF
 | []=>none
 |x::r=>if Nat.beq x.id id then some x else FP id r
def nI(Q:Program)(f:FuncId)(id:Nat):RF:=
 match Q.funcs[f]? with
 |some fn=>(match fn.body with |some c=>(FP id (bW c)).getD ⟨.const undef, #[],.skip,.skip⟩|none=>⟨.const undef, #[],.skip,.skip⟩)
 |none=>⟨.const undef, #[],.skip,.skip⟩
def AB(Q:Program)(f:FuncId):Bool:=
 match Q.funcs[f]? with
 |some fn=>(match fn.body with |some c=>ez ((bW c).map RF.id)&&(aN c).all λd=>Nat.blt (Code.s5 d) 500000 |none=>true)
 |none=>true
theorem DR{d}: ∀l,(l.map RF.id).Nodup->d∈l->FP d.id l=some d
 | [],_,h=>by simp at h
 |c::r,hn,h=>by
  obtain⟨vM,hn2⟩:=za9.1 hn;unfold FP;rcases zat.1 h with rfl |h
  ·simp
  have: ¬c.id=d.id:=λe=>vM (e▸zaU h);rw[zan (by simpa using this)];exact DR r hn2 h
theorem qaM{Q f fn c}{x}(hu:AB Q f=true)(gC:Q.funcs[f]?=some fn)(hc:fn.body=some c)(hx:x∈bW c):nI Q f x.id=x:=by grind [AB,nI,DR,dO]
theorem QZ{Q f fn c}{d}(hu:AB Q f=true)(gC:Q.funcs[f]?=some fn)(hc:fn.body=some c)(hd:d∈aN c):Code.s5 d<500000:=by simp_all [AB,zac,zbj,Nat.blt_eq]
section
variable{Q:Program}{T:Tg}{F:Nat->Prop}{G:Nat->Value}{w:World}{a:Act}{s:S}{r:Option Nat}
theorem TW.mono{c p q}(h:TW Q T c s p)(TX: ∀x,p x->q x):TW Q T c s q:=λ_ sv F G w a Q' hs hK=>h sv F G w a Q' hs λe s' a' w' hp=>hK e s' a' w' (TX _ hp)
theorem TW.of_run{kp cf lf}(jO:cz Q T.w0 cf)(hdr:Q.follows .mixedOrders=true){c x}(h:bU Q cf kp lf c s=some x){ae}(hp:ae x):TW Q T c s ae:=
 λ_ _ F G w a Q' hs hK=>fI jO hdr c s x.1 x.2 h F G w a Q' hs λa' w' hP=>hK x.1 x.2 a' w' hp hP
theorem IY{r m since last seen es clock} ty (hr:w.heap[r]?=some (.mapIter (some m) since seen last))(hm:w.heap[m]?=some (.map es clock))(hold: ∀x∈es.toList,x.born<since)(Dz:since<=last):
  ((∀x∈es.toList,seen.contains x.born=true)/\(Instr.next (.pointer (some ⟨r,0,none⟩)) false ty).run Q w= .ok (.tuple #[.bool false]) w)\/
  ∃e∈es.toList,seen.contains e.born=false/\ ∃w1,(w1=w\/w1={w with drawn:=w.drawn+1})/\(Instr.next (.pointer (some ⟨r,0,none⟩)) false ty).run Q w= .ok (.tuple #[.bool true,e.key,e.val]) {w1 with heap:=w1.heap.setIfInBounds r (.mapIter (some m) since (seen.push e.born) clock)}:=by
 have bI:(!seen.isEmpty&& !es.isEmpty&&es.all λx=>decide (x.born>=last))=false:=by
  cases he:es.isEmpty with
  |true=>simp
  |false=>
   have h0:0<es.size:=by grind
   have:es.all (λx=>decide (x.born>=last))=false:=by grind
   rw[this,Bool.and_false]
 have e1:(es.filter λe=> !seen.contains e.born).filter (λx=>decide (x.born<since))=es.filter λe=> !seen.contains e.born:=Array.filter_eq_self.2 λx hx=>by have:=hold x (by grind);grind
 have e2:(es.filter λe=> !seen.contains e.born).filter (λx=>decide (x.born>=since))= #[]:=by rw[Array.filter_eq_empty_iff];grind
 have mem: ∀x,x∈(es.filter λe=> !seen.contains e.born)↔x∈es.toList/\seen.contains x.born=false:=λx=>by simp
 simp only[Instr.next,getObj,Sem.run_bind,Sem.run,hr,hm,Result.andThen,bI,zaE,zbn,e1,e2,Array.append_empty];generalize (es.filter λe=> !seen.contains e.born)=L at mem⊢;by_cases h0:L.size=0
 ·have:L= #[]:=Array.eq_empty_of_size_eq_zero h0;subst this;refine .inl ⟨λx hx=> ?_,?_⟩
  ·grind
  simp[choose,Sem.run,Question.forced]
 have cO:L.isEmpty=false:=by grind
 have hch: ∃(j:Nat) (w1:World),j<L.size/\(w1=w\/w1={w with drawn:=w.drawn+1})/\(choose (Question.mapNext L.size)).run Q w= .ok j w1:=by
  by_cases hf:L.size<=1
  ·exact⟨0,w,by omega,.inl rfl,by simp[choose,Sem.run,Question.forced,hf]⟩
  refine⟨w.tape w.drawn (.mapNext L.size)%L.size,{w with drawn:=w.drawn+1},zdh _ (by omega),.inr rfl,?_⟩;simp only[choose,Sem.run,Question.forced,zah,hf,zbn,Question.cut]
 obtain⟨j,w1,hj,N0,ca⟩:=hch;obtain⟨m1,m2⟩:=(mem L[j]).1 (by simp);refine .inr ⟨L[j],m1,m2,w1,N0,?_⟩;have hr1:w1.heap[r]?=some (.mapIter (some m) since seen last):=by rcases N0 with rfl |rfl<;>exact hr
 have nF:(setObj r (.mapIter (some m) since (seen.push L[j].born) clock)).run Q w1= .ok () {w1 with heap:=w1.heap.setIfInBounds r (.mapIter (some m) since (seen.push L[j].born) clock)}:=by simp[setObj,Sem.run,hr1]
 simp_all
theorem N7(h:aC Q T F G w a s){o it}(ho:qV o=some it){ae}(hp:qU Q s o.dst ((s.ev it).under none) ae){K Q'}
  (hK: ∀s' a' w',ae s'->jo Q T F G w s s' a' w'->K a' w'):o.wpIn (wd r) 0 Q a w K Q':=by
 have ux:o.op= .next it false:=by grind [qV]
 have hv:=aU h (g:=none) trivial it;unfold S.eg at hv;generalize (s.ev it).under none=p at hv hp;have DS: ∃n aV kt vt left cur,p= .ref n aV 0/\s.obj n aV=some (.iter kt vt left cur):=by
  cases p with
  |ref n aV off=>
   cases off with
   |succ off=>exact hp.elim
   |zero=>
    cases hob:s.obj n aV with
    |none=>simp only[qU,hob] at hp;exact hp.elim
    |some o=>
     cases o with
     |iter kt vt left cur=>grind
     |_=>simp only[qU,hob] at hp;exact hp.elim
  |_=>exact hp.elim
 obtain⟨n,aV,kt,vt,left,cur,rfl,hob⟩:=DS;simp only[qU,hob] at hp;obtain⟨p1,p2⟩:=hp;obtain⟨e,he,eb,b8⟩:=S.bM hob;have hO:=h.rg n e he;rw[b8] at hO;obtain⟨b,mo,since,seen,last,hg,hh,hO⟩:=hO;have hval:a.eval it= .pointer (some ⟨b,0,none⟩):=by
  generalize a.eval it=v at hv;cases hv with
  |ref _ _ _ _ hr h1=>obtain⟨b',KQ,rfl⟩:=hr.at he eb (by rw[b8];rfl);rw[hg] at KQ;rw[KQ]
 have over:(∀k,left k=none)->(Instr.next (.pointer (some ⟨b,0,none⟩)) false o.type).run Q w= .ok (.tuple #[.bool false]) w->o.wpIn (wd r) 0 Q a w K Q':=λh0 ca=>by
  obtain⟨s1,s9,fe⟩:=KW.dU (p:=λs1=>s.put o.dst (.dz [.d (.bool false)])=some s1) (λ_ h=>h) _ (p2 h0);obtain⟨c1,c2⟩:=cy h s9 (v:= .tuple #[.bool false]) (cE.of (.dz [.bool false] [.d (.bool false)] rfl λi v c hv hc=>by
   cases i with
   |zero=>simp at hv hc;subst hv;subst hc;exact .d (.bool false)
   |succ i=>simp at hv))
  refine wa (λc hc=>by rw[ux] at hc;cases hc) (v:= .tuple #[.bool false]) (w':=w) (.inl (by simp[execOp,ux,hval,ca])) (hK s1 _ _ fe ⟨F,G,c1,?_⟩);rw[c2];exact Ext.refl _ _ _
 rcases hO with⟨rfl,h0,_⟩| ⟨m,es,rfl,hF,hm,TT,hI,hc⟩
 ·exact over h0 (by simp[Instr.next,getObj,Sem.run_bind,Sem.run,hh])
 subst TT;have hold: ∀x∈es.toList,x.born<last:=by obtain⟨ks,_,_,_,h5,_⟩:=hI;exact h5
 rcases IY (Q:=Q) o.type hh hm hold (zal _) with⟨h0,ca⟩| ⟨en,Fj,US,w1,N0,ca⟩
 ·exact over (hI.over h0) ca
 have US:en∈es.toList/\seen.contains en.born=false:=⟨Fj,US⟩
 obtain⟨k,x,hk,vW,hx,hI2⟩:=hI.next US.1 US.2;obtain⟨k',rfl,hp2⟩:=o7 Q kt k _ (p1 k x hk);obtain⟨x',rfl,hp3⟩:=o7 Q vt x _ hp2;obtain⟨s1,s9,fe⟩:=KW.dU (p:=λs1=>(s.setObj n (.iter kt vt (jg k left) (some (k,x)))).put o.dst (.dz [.d (.bool true),.d k,.d x])=some s1) (λ_ h=>h) _ hp3;have hw1:w1.heap=w.heap/\w1.os=w.os/\w1.tape=w.tape/\w1.output=w.output:=by rcases N0 with rfl |rfl<;>exact⟨rfl,rfl,rfl,rfl⟩
 have ya:b<w.heap.size:=(zax.1 hh).1;have fB:bB (G n) e.obj=some b:=by rw[b8,hg];rfl
 have cO:m≠b:=λhmb=>by grind
 have fO: ∀b0,b0≠b->(w.heap.setIfInBounds b (.mapIter (some m) last (seen.push en.born) last))[b0]?=w.heap[b0]?:=λb0 cO=>zaX (zbx cO);have uC:(w.heap.setIfInBounds b (.mapIter (some m) last (seen.push en.born) last))[b]?=some (.mapIter (some m) last (seen.push en.born) last):=by rw[zbh ya]
 have zR: ∀b0,F b0->b0≠b:=λb0 hf e0=>by subst e0;exact h.nA n e b0 he fB hf
 rw[S.fA he] at s9;have qnt:w.drawn<=w1.drawn:=by grind
 obtain⟨d1,d2⟩:=h.od (n:=n) (e1:=⟨e.aV,e.tag,.iter kt vt (jg k left) (some (k,x))⟩) (g1:=G n) (w':={w1 with heap:=w.heap.setIfInBounds b (.mapIter (some m) last (seen.push en.born) last)}) (hdr:=qnt)
  (λe' cR=>by rw[he] at cR;cases cR;exact .inr ⟨rfl,λ_=>⟨by rw[b8];rfl,rfl⟩⟩)
  (λb0 _ bI=>fO b0 λe0=>by grind) (by simp) hw1.2.1 hw1.2.2.1 hw1.2.2.2
  (λb0 Cr=> .inr ⟨e,he,by rw[b8];exact Cr⟩)
  ⟨b,some m,last,seen.push en.born,last,by rw[bV];exact hg,uC,.inr ⟨m,es,rfl,hF,(fO m cO).trans hm,rfl,hI2.mono (λ_ h=>h) (λb0 hf=>fO b0 (zR b0 hf)),λk1 x1 hc1=>by obtain⟨rfl,rfl⟩:=hc1;exact⟨en,US.1,by simp,vW,hx.mono (λ_ h=>h) (λb0 hf=>fO b0 (zR b0 hf))⟩⟩⟩
  (λi hi _=>h.tag n e i he hi (by rw[b8];rfl))
 rw[bV] at d1 d2;obtain⟨c1,c2⟩:=cy d1 s9 (v:= .tuple #[.bool true,en.key,en.val]) (cE.of (.dz [.bool true,en.key,en.val] _ rfl λi v c hv hc=>by
  match i with
  |0=>simp at hv hc;subst hv;subst hc;exact .d (.bool true)
  |1=>simp at hv hc;subst hv;subst hc;exact .d (aY.TS _ _ vW)
  |2=>simp at hv hc;subst hv;subst hc;exact .d (hx.mono (λ_ h=>h) (λb0 hf=>fO b0 (zR b0 hf)))
  |i+3=>simp at hv))
 refine wa (λc hc=>by rw[ux] at hc;cases hc) (v:= .tuple #[.bool true,en.key,en.val]) (w':={w1 with heap:=w.heap.setIfInBounds b (.mapIter (some m) last (seen.push en.born) last)}) (.inl ?_) (hK s1 _ _ fe ⟨F,G,c1,?_⟩)
 ·simp only[execOp,ux,hval,Sem.run_bind,ca];simp[hw1.1]
 grind
def KU Q w0 f (h:a8):=
 ∀ps R ae,h ps R ae-> ∀(F:Nat->Prop) (G:Nat->Value) (w:World) (vs:List Value),fX Q ⟨G,w0,0,false⟩ F G w R->vs.length=ps.length->
  (∀(i:Nat) (v:Value) (c:P),vs[i]?=some v->ps[i]?=some c->aH F w G R v c)->
  kP Q f ⟨vs⟩ w (λv w'=> ∃y:P×List (Nat×En),ae y/\ ∃F' G',fX Q ⟨G,w0,0,false⟩ F' G' w' y.2/\aH F' w' G' y.2 v y.1/\Ext (Own G R) (Own G' y.2) F F' w w')
theorem UT{HN:List (FuncId×a8)}(nO: ∀f h,lk HN f=some h->KU Q T.w0 f h)(h:aC Q T F G w a s){dst pf ps ae}(hs:sk Q (kfN HN) s dst pf ps ae){fv vs}(hf:aH F w G s.rg fv pf)(hl:vs.length=ps.length)
  (hv: ∀(i:Nat) (v:Value) (c:P),vs[i]?=some v->ps[i]?=some c->aH F w G s.rg v c):
  ∃jZ cs,fv= .func (.func jZ) #[] ⟨cs⟩/\kP Q jZ ⟨vs++cs⟩ w (λv w'=> ∃s',ae s'/\ ∃F' G',aC Q T F' G' w' (a.put dst v) s'/\Ext (Own G s.rg) (Own G' s'.rg) F F' w w'):=by
 cases pf with
 |fn jZ cW=>
  cases hf with
  |fn _ cs _ Hj lF=>
   refine⟨jZ,cs,rfl,?_⟩;cases H8:cZ Q s jZ (ps++cW) with
   |none=>simp only[sk,H8] at hs;exact hs.elim
   |some r=>
    obtain⟨s1,qs⟩:=r;cases oO:ez (reach s1.rg 1000 qs []) with
    |false=>simp only[sk,H8,oO,zaE,zbn] at hs;exact hs.elim
    |true=>
     cases iy:sub s1.rg (toPos s1.rg (reach s1.rg 1000 qs [])) true 0 (reach s1.rg 1000 qs []) with
     |none=>simp only[sk,H8,oO,zbo,iy] at hs;exact hs.elim
     |some R0=>
      simp only[sk,H8,oO,zbo,iy] at hs;cases hh:lk HN jZ with
      |none=>simp only[kfN,hh] at hs;exact hs.elim
      |some wg=>
       simp only[kfN,hh] at hs;have cx: ∀(i:Nat) (v:Value) (c:P),(vs++cs)[i]?=some v->(ps++cW)[i]?=some c->aH F w G s.rg v c:=λi v c h1 h2=>by grind
       obtain⟨F1,a1,a2,a3,a4,a5,a6⟩:=xb (ps++cW) s F s1 qs (vs++cs) h H8 (by grind) cx;obtain⟨b1,b2,b3⟩:=a1.heap.sub iy oO;have hq:=nO jZ wg hh _ R0 _ hs F1 _ w (vs++cs) b1 (by rw[jN];exact a5) (λi v c h1 h2=>by rw[jM] at h2;grind [pb]);refine hq.mono λv w' ⟨⟨p,R1⟩,fe,F2,G2,c1,c2,c3⟩=> ?_;cases hmd:(ez (du R1 (reach R1 1000 (p::fu R1 R1) []))&&Nat.ble (du R1 (reach R1 1000 (p::fu R1 R1) [])).length 1000) with
       |false=>simp only[hmd,zaE,zbn] at fe;exact fe.elim
       |true=>
        simp only[hmd,zbo] at fe;cases kI:gM R1 (ft R1 s1.rg (reach s1.rg 1000 qs []) (du R1 (reach R1 1000 (p::fu R1 R1) [])) (site dst*1000)) 0 (reach s1.rg 1000 qs []) s1.rg with
        |none=>simp only[kI] at fe;exact fe.elim
        |some R2=>
         simp only[kI] at fe;cases fV:lA R1 (ft R1 s1.rg (reach s1.rg 1000 qs []) (du R1 (reach R1 1000 (p::fu R1 R1) [])) (site dst*1000)) (site dst*1000) (du R1 (reach R1 1000 (p::fu R1 R1) [])) R2 with
         |none=>simp only[fV] at fe;exact fe.elim
         |some R3=>simp only[fV] at fe;obtain⟨s',hs',fe⟩:=KW.dU (p:=λs'=>({s1 with rg:=R3}:S).put dst (Df _ p)=some s') (λ_ h=>h) _ fe;obtain⟨G3,d1,d2,d3⟩:=ti a1 oO (zac _ _▸hmd:_/\_).1 iy c1 c3 (eX R1 _) kI fV;obtain⟨e1,e2⟩:=cy d1 hs' (cE.of (pb d3 c2));refine⟨s',fe,F2,G3,e1,?_⟩;rw[e2];exact a2.trans d2
 |_=>exact hs.elim
theorem UU{HN:List (FuncId×a8)}(nO: ∀f h,lk HN f=some h->KU Q T.w0 f h)(h:aC Q T F G w a s){o pf ps}(ho:N6 HN s o=some (pf,ps)){ae}(hp:sk Q (kfN HN) s o.dst pf ps ae){K Q'}
  (hK: ∀s' a' w',ae s'->jo Q T F G w s s' a' w'->K a' w'):o.guard=none/\o.wpIn (wd r) 0 Q a w K Q':=by
 unfold N6 at ho;split at ho
 next f xs hc=>
  split at ho
  next jZ cW hfe=>
   split at ho
   ·rename_i fy;refine⟨by simp_all,?_⟩;obtain⟨rfl,rfl⟩:=ho;unfold gV at hc;split at hc
    ·rename_i c ux;split at hc
     ·rename_i f' ko;simp at hc;obtain⟨rfl,rfl⟩:=hc;obtain⟨qnu,cs,hfv,bw⟩:=UT nO h hp (by rw[<-hfe];exact aU h (g:=none) trivial f') (vs:=c.args.toList.map a.eval) (by simp) (λi v p hv hp=>by rw[zaN] at hv hp;simp only[zay] at hv hp;obtain⟨x,hx,rfl⟩:=hv;obtain⟨y,hy,rfl⟩:=hp;rw[hx] at hy;cases hy;exact aU h (g:=none) trivial x);have ca:(execOp a.eval o).run Q w=(callFunc qnu ⟨c.args.toList.map a.eval++cs⟩).run Q w:=by
       have e:(c.args.map a.eval)++(⟨cs⟩:Array Value)=⟨c.args.toList.map a.eval++cs⟩:=by simp
       simp[execOp,ux,resolve,ko,hfv,Deferred.ofValue,invoke,e]
      refine uF (λc' oN=>by rw[ux] at oN;cases oN) ?_;rw[ca];rcases bw with⟨h1,h2⟩| ⟨v,w',h1,s',sq,F',G',h2,h3⟩
      ·rw[h1];refine⟨λh=>(by cases h),(zZ h2).mono λe w' ⟨v,he,s',sq,F',G',h3,h4⟩=> ?_⟩;subst he;exact hK _ _ _ sq ⟨F',G',h3,h4⟩
      rw[h1];exact hK _ _ _ sq ⟨F',G',h2,h3⟩
     cases hc
    cases hc
   cases ho
  cases ho
 cases ho
theorem pk{nx}(DS: ∀s dst p ae,nx s dst p ae->qU Q s dst p ae){HN:List (FuncId×a8)}(nO: ∀f h,lk HN f=some h->KU Q T.w0 f h){kf cf}(hJ:yd kf cf)(jO: ∀a b,cz Q T.w0 (cf a b)){ops Q' ae}: ∀l kn F G w a s,kr kn s->aC Q T F G w a s->eP nx Q kf HN ops l kn s ae->
  (∀s' a' w',ae s'->jo Q T F G w s s' a' w'->Q' .normal a' w')->wpListIn (wd r) 0 Q ops.toArray Q' l a w
 | [],kn,F,G,w,a,s,_,h,hp,hK=>by unfold eP at hp;exact hK s a w hp ⟨F,G,h,Ext.refl _ _ _⟩
 |o::l,kn,F,G,w,a,s,eD,h,hp,hK=>by
  cases ho:qV o with
  |some it=>
   simp only[eP,ho] at hp;have Sy:o.guard=none:=by
    unfold qV at ho;split at ho
    ·simp_all
    cases ho
   have:o.wpIn (wd r) 0 Q a w (wpListIn (wd r) 0 Q ops.toArray Q' l) Q':=N7 h ho (ae:=λs1=>eP nx Q kf HN ops l [] s1 ae) (by
    have e:(λs1:S=>s1.force λs1=>eP nx Q kf HN ops l [] s1)=λs1=>eP nx Q kf HN ops l [] s1:=by funext s1;rw[S.force_eq]
    rw[e] at hp;exact DS _ _ _ _ hp) λs1 a1 w1 yN ⟨F1,G1,g1,g2⟩=>pk DS nO hJ jO l _ F1 G1 w1 a1 s1 (kr.nil s1) g1 yN λs' a' w' sq hP=>hK s' a' w' sq (hP.trans g2)
   exact fE (by rw[zap (by simp[Region.wanted,Sy])];exact this)
  |none=>
  cases Hj:N6 HN s o with
  |some fx=>
   simp only[eP,ho,Hj] at hp;have e:(λs1:S=>s1.force λs1=>eP nx Q kf HN ops l [] s1)=λs1=>eP nx Q kf HN ops l [] s1:=by funext s1;rw[S.force_eq]
   rw[e] at hp;obtain⟨Sy,this⟩:=UU (K:=wpListIn (wd r) 0 Q ops.toArray Q' l) (Q':=Q') nO h Hj (ae:=λs1=>eP nx Q kf HN ops l [] s1 ae) hp λs1 a1 w1 yN ⟨F1,G1,g1,g2⟩=>pk DS nO hJ jO l _ F1 G1 w1 a1 s1 (kr.nil s1) g1 yN λs' a' w' sq hP=>hK s' a' w' sq (hP.trans g2);exact fE (by rw[zap (by simp[Region.wanted,Sy])];exact this)
  |none=>simp only[eP,ho,Hj] at hp;obtain⟨x,⟨hx,hk⟩,yN⟩:=uL hJ eD _ hp;rw[S.force_eq] at yN;obtain⟨i,j,hx⟩:=hx.some;have kH:=lg (r:=r) (jO i j) h hx (K:=wpListIn (wd r) 0 Q ops.toArray Q' l) (Q':=Q') (λa' w' ⟨F',G',g1,g2⟩=>pk DS nO hJ jO l _ F' G' w' a' x.1 hk g1 yN (λs' a2 w2 sq hp=>hK s' a2 w2 sq (hp.trans g2)));exact fE kH
theorem TW.seq{x y p ae}(h1:TW Q T x s p)(h2: ∀s1,p (.normal,s1)->TW Q T y s1 ae)(h3: ∀e s1,e≠ .normal->p (e,s1)->ae (e,s1)):TW Q T (.seq x y) s ae:=λr sv F G w a Q' hs hK=>by
 refine wpIn_seq (h1 sv F G w a _ hs λe s1 a1 w1 hp hP=> ?_);cases e with
 |normal=>obtain⟨F1,G1,g1,g2⟩:=hP;exact h2 s1 hp sv F1 G1 w1 a1 Q' g1 λe2 s2 a2 w2 hp2 hP2=>hK e2 s2 a2 w2 hp2 (jo.trans g2 hP2)
 |exit id=>exact hK _ s1 a1 w1 (h3 _ _ (by simp) hp) hP
 |ret=>exact hK _ s1 a1 w1 (h3 _ _ (by simp) hp) hP
theorem TW.cond{c x y b ae}(hb:s.ev c= .d (.bool b))(h:TW Q T (if b then x else y) s ae):TW Q T (.cond c x y) s ae:=λr sv F G w a Q' hs hK=>by
 have hv:a.eval c= .bool b:=by have:=zx hs c;rw[hb] at this;exact aH.cD (p:= .d (.bool b)) this rfl
 refine wpIn_cond hv ?_;cases b with
 |true=>exact h sv F G w a Q' hs hK
 |false=>exact h sv F G w a Q' hs hK
theorem TW.block{id:Nat}{c p ae}(h:TW Q T c s p)(hp: ∀e s1,p (e,s1)->match e with | .exit qA=>if Nat.beq qA id then ae (.normal,s1) else ae (e,s1)|_=>ae (e,s1)):TW Q T (.block id c) s ae:=λr sv F G w a Q' hs hK=>by
 refine wpIn_block (h sv F G w a _ hs λe s1 a1 w1 yN hP=> ?_);have:=hp e s1 yN;cases e with
 |normal=>exact hK _ s1 a1 w1 this hP
 |ret=>exact hK _ s1 a1 w1 this hP
 |exit qA=>
  simp only at this;split at this
  next hid=>
   have hid:qA=id:=by simpa using hid
   have:=hK _ s1 a1 w1 this hP;simp only[PX.fH,Exit.inBlock,hid,zbo];exact this
  rename_i hid;have hid: ¬qA=id:=by simpa using hid
  have:=hK _ s1 a1 w1 this hP;simp only[PX.fH,Exit.inBlock,hid,zbn];exact this
theorem TW.scope{c ae}(h:TW Q T c s ae):TW Q T (.scope c) s ae:=λr sv F G w a Q' hs hK=>by refine gu (h sv F G w a _ hs λe s1 a1 w1 hp hP=> ?_);have:=hK e s1 a1 w1 hp hP;cases e<;>simpa [PX.fH,Exit.noGoto] using this
theorem TW.loop{c keep}{I:Nat->S->Prop}{O}
  (hr: ∀n s,I n s->TW Q T c s (λx=>match x.1 with | .normal=> ∃s2,cG keep x.2=some s2/\ ∃m,m<n/\I m s2 |e=> ∃s2,dL keep x.2=some s2/\O (e,s2)))
  {n s0} (h0:cG keep s=some s0) (hI:I n s0):TW Q T (.loop c) s O:=λr sv F G w a Q' hs hK=>by
 obtain⟨G0,g1,g2⟩:=fZ hs h0;have key: ∀(N n:Nat) (s:S),n<N->I n s-> ∀(F:Nat->Prop) (G:Nat->Value) (w:World) (a:Act),aC Q T F G w a s->(∀e s' a' w',O (e,s')->jo Q T F G w s s' a' w'->Q' e.fH a' w')->Code.roundsIn (wd r) 0 Q c Q' N a w:=by
  intro N
  induction N with
  |zero=>simp
  |succ N ih=>
   intro n s hn hI F G w a hs hK;refine hr n s hI sv F G w a _ hs λe s1 a1 w1 hp hP=> ?_;obtain⟨F1,G1,k1,k2⟩:=hP;cases e with
   |normal=>obtain⟨s2,h2,m,hm,hi⟩:=hp;obtain⟨G2,m1,m2⟩:=fZ k1 h2;exact ih m s2 (by omega) hi F1 G2 w1 a1 m1 λe s' a' w' hO hP=>hK e s' a' w' hO (jo.trans (k2.trans m2) hP)
   |exit id=>obtain⟨s2,h2,hO⟩:=hp;obtain⟨G2,m1,m2⟩:=fZ (keep:=keep.map λl=>(l.2,l.2)) k1 (by cases keep<;>exact h2);exact hK _ s2 a1 w1 hO ⟨F1,G2,m1,k2.trans m2⟩
   |ret=>obtain⟨s2,h2,hO⟩:=hp;obtain⟨G2,m1,m2⟩:=fZ (keep:=keep.map λl=>(l.2,l.2)) k1 (by cases keep<;>exact h2);exact hK _ s2 a1 w1 hO ⟨F1,G2,m1,k2.trans m2⟩
 exact wpIn_loop_rounds (n+1) (key (n+1) n s0 (by omega) hI F G0 w a g1 λe s' a' w' hO hP=>hK e s' a' w' hO (jo.trans g2 hP))
variable{kp:rq}
theorem ie{nx}(DS: ∀s dst p ae,nx s dst p ae->qU Q s dst p ae){HN:List (FuncId×a8)}(nO: ∀f h,lk HN f=some h->KU Q T.w0 f h){kf}(hJ:yd kf (fj Q kp))(hX:cz Q T.w0 kp.X)(hdr:Q.follows .mixedOrders=true){kp1 hk dc}: ∀c,cj dc c=true->
  (∀d∈aN c,∀h,lk hk (Code.s5 d)=some h-> ∀s ae,h s ae->TW Q T (.loop d) s ae)->(∀x∈bW c,∀h,lk hk (500000+x.id)=some h-> ∀s ae,h s ae->TW Q T x.code s ae)-> ∀s ae,eE nx Q kf HN kp1 hk dc c s ae->TW Q T c s ae
 | .skip,_,_,_,s,ae,hp=>λr sv F G w a Q' hs hK=>wpIn_skip (hK .normal s a w hp ⟨F,G,hs,Ext.refl _ _ _⟩)
 | .label _,_,_,_,s,ae,hp=>λr sv F G w a Q' hs hK=>wpIn_label (hK .normal s a w hp ⟨F,G,hs,Ext.refl _ _ _⟩)
 | .region id ops draw,hl,_,_,s,ae,hp=>by
  have jO: ∀a b,cz Q T.w0 (fj Q kp a b):=λa b=>uN hX hdr b;unfold eE at hp;cases draw with
  |true=>obtain⟨s1,h1,hp⟩:=Ap hJ (zag (by simpa [cj] using hl)) _ hp;obtain⟨i,j,h1⟩:=h1.some;exact TW.of_run (kp:=kp1) (lf:=0) (jO i j) hdr (x:=(.normal,s1)) (by grind [bU]) hp
  |false=>
   simp only[zaE,zbn] at hp;split at hp
   ·exact λr sv F G w a Q' hs hK=>wpIn_region_list (by simpa using pk DS nO hJ jO ops.toList [] F G w a s (kr.nil s) hs hp λs' a' w' sq hP=>hK .normal s' a' w' sq hP)
   obtain⟨s1,h1,hp⟩:=pe hJ _ [] _ (kr.nil _) _ hp;obtain⟨i,j,h1⟩:=h1.some;exact TW.of_run (kp:=kp1) (lf:=0) (jO i j) hdr (x:=(.normal,s1)) (by grind [bU]) hp
 | .seq x y,hl,hh,hr,s,ae,hp=>by
  unfold eE at hp;have KT:cj dc x=true/\cj dc y=true:=by simpa [cj] using hl
  refine TW.seq (ie DS nO hJ hX hdr x KT.1 (λd hd=>hh d (by simp[aN,hd])) (λx hx=>hr x (by simp[bW,hx])) s _ hp) (λs1 h1=>ie DS nO hJ hX hdr y KT.2 (λd hd=>hh d (by simp[aN,hd])) (λx hx=>hr x (by simp[bW,hx])) s1 ae h1) λe s1 he h1=> ?_;cases e with
  |normal=>grind
  |exit id=>exact h1
  |ret=>exact h1
 | .cond c x y,hl,hh,hr,s,ae,hp=>by
  unfold eE at hp;have KT:cj dc x=true/\cj dc y=true:=by simpa [cj] using hl
  have hbx: ∃b,s.ev c= .d (.bool b):=by
   cases hb:s.ev c with
   |d x=>
    cases x with
    |bool b=>simp
    |_=>simp only[hb] at hp;exact hp.elim
   |_=>simp only[hb] at hp;exact hp.elim
  obtain⟨b,hb⟩:=hbx;simp only[hb] at hp;refine TW.cond hb ?_;cases b with
  |true=>exact ie DS nO hJ hX hdr x KT.1 (λd hd=>hh d (by simp[aN,hd])) (λx hx=>hr x (by simp[bW,hx])) s ae hp
  |false=>exact ie DS nO hJ hX hdr y KT.2 (λd hd=>hh d (by simp[aN,hd])) (λx hx=>hr x (by simp[bW,hx])) s ae hp
 | .block id c,hl,hh,hr,s,ae,hp=>by
  unfold eE at hp;refine TW.block (ie DS nO hJ hX hdr c hl (λd hd=>hh d (by simpa [aN] using hd)) (λx hx=>hr x (by simpa [bW] using hx)) s _ hp) λe s1 h1=> ?_;cases e with
  |normal=>exact h1
  |ret=>exact h1
  |exit qA=>
   simp only at h1⊢;split
   next h=>rw[zap h] at h1;exact h1
   rename_i h;rw[zan h] at h1;exact h1
 | .loop c,hl,hh,hr,s,ae,hp=>by
  cases hh1:lk hk (Code.s5 c) with
  |some h=>simp_all [eE,aN]
  |none=>simp only[eE,hh1] at hp;exact hp.elim
 | .scope c,hl,hh,hr,s,ae,hp=>by unfold eE at hp;exact TW.scope (ie DS nO hJ hX hdr c hl (λd hd=>hh d (by simpa [aN] using hd)) (λx hx=>hr x (by simpa [bW] using hx)) s ae hp)
 | .exit id,_,_,_,s,ae,hp=>λr sv F G w a Q' hs hK=>wpIn_exit (hK (.exit id) s a w hp ⟨F,G,hs,Ext.refl _ _ _⟩)
 | .ret,_,_,_,s,ae,hp=>λr sv F G w a Q' hs hK=>wpIn_ret (hK .ret s a w hp ⟨F,G,hs,Ext.refl _ _ _⟩)
 | .rangeFunc g ps a b,_,_,hr,s,ae,hp=>by
  cases hh1:lk hk (500000+Code.s5 b) with
  |some h=>simp only[eE,hh1] at hp;exact hr ⟨g,ps,a,b⟩ (by simp[bW]) h hh1 s ae hp
  |none=>simp only[eE,hh1] at hp;exact hp.elim
 | .goto _,_,_,_,s,ae,hp=>by unfold eE at hp;exact hp.elim
 | .refuse _,_,_,_,s,ae,hp=>by unfold eE at hp;exact hp.elim
def DT(nx:S->Option Nat->P->K S)(Q:Program)(kf:KF)(HN:List (FuncId×a8))(kp:rq)(hk:List (Nat×(S->K (PX×S))))(dc:FuncId->Nat->Nat):KF:=λf ps R=>
 match Q.funcs[f]? with
 |none=>K.fail
 |some fn=>match fn.body with
  |none=>K.fail
  |some c=>if fn.name== "runtime.NumGoroutine" then K.fail else
   K.bind (eE nx Q kf HN (kp f) hk (dc f) c ⟨fn.ntmps,fT 0 (lE (kp f 999999) Q fn.params.toList ps),R⟩) λx=>match x.1 with
    | .exit _=>K.fail
    |_=>match dv Q x.2 fn.results.toList with
     |some qs=>E4 Q R.length fn.resultTypes.toList qs x.2
     |none=>K.fail
theorem KU.mkG{nx}(DS: ∀s dst p ae,nx s dst p ae->qU Q s dst p ae){w0}{HN:List (FuncId×a8)}(nO: ∀f h,lk HN f=some h->KU Q w0 f h){h f kf dc}{hk}(hJ:yd kf (fj Q kp))(hX:cz Q w0 kp.X)(hdr:Q.follows .mixedOrders=true)(L8:nz dc 0 Q.funcs.toList=true)(hu:uniq Q f=true)(huR:AB Q f=true)
  (hl: ∀id h,id<500000->lk hk id=some h-> ∀(val:Nat->Value) (lo:Nat) s ae,h s ae->TW Q ⟨val,w0,lo,true⟩ (.loop (bA Q f id)) s ae)
  (hrf: ∀id h,lk hk (500000+id)=some h-> ∀(val:Nat->Value) (lo:Nat) s ae,h s ae->TW Q ⟨val,w0,lo,true⟩ (nI Q f id).code s ae)
  (hb: ∀ps R ae,h ps R ae->DT nx Q kf HN kp hk dc f ps R ae):KU Q w0 f h:=by
 intro ps R ae hr F G w vs hH hlen hv;have hb:=hb ps R ae hr;cases gC:Q.funcs[f]? with
 |none=>simp only[DT,gC] at hb;exact hb.elim
 |some fn=>
  cases hc:fn.body with
  |none=>simp only[DT,gC,hc] at hb;exact hb.elim
  |some c=>
   cases lT:(fn.name== "runtime.NumGoroutine") with
   |true=>simp only[DT,gC,hc,lT,zbo] at hb;exact hb.elim
   |false=>
    simp only[DT,gC,hc,lT,zaE,zbn] at hb;left;refine⟨by simp[callFunc,gC,hc];grind,?_⟩;refine lU gC hc ?_;have NR:vs.length=(lE (kp f 999999) Q fn.params.toList ps).length:=by rw[Av];exact hlen
    have Qh:=DP (Q:=Q) (kp f 999999) fn.params.toList ps vs hv;have Aw:aC Q ⟨G,w0,w.heap.size,true⟩ F G w {tmps:=(⟨vs⟩:Array Value)++Array.replicate (fn.ntmps-(⟨vs⟩:Array Value).size) undef,defers:=[]} ⟨fn.ntmps,fT 0 (lE (kp f 999999) Q fn.params.toList ps),R⟩:=by refine(fX.lo hH (zal _)).state rfl .nil (by simp;omega) (λt p hp=> ?_);obtain⟨_,h2⟩:=ph _ 0 t p hp;grind [fW,cE.of]
    have hTW:=ie (T:=⟨G,w0,w.heap.size,true⟩) DS nO hJ hX hdr (kp1:=kp f) c (lh L8 f fn c gC hc) (λd hd h hh s ae hp=>by
     have e:bA Q f (Code.s5 d)=d:=by grind [uniq,bA,jQ,dO]
     have:=hl _ h (QZ huR gC hc hd) hh G w.heap.size s ae hp;rwa [e] at this) (λx hx h hh s ae hp=>by
     have:=hrf _ h hh G w.heap.size s ae hp;rwa [qaM huR gC hc hx] at this) _ _ hb
    refine hTW (r:=none) (λ_=>rfl) F G w _ _ Aw λe s1 a' w' hp hP=> ?_;obtain⟨F',G',h1,h2⟩:=hP;have fin: ∀qs (y:P×List (Nat×En)),dv Q s1 fn.results.toList=some qs->finish Q R.length fn.resultTypes.toList qs s1=some y->ae y->
      LeavesInM Fence.wide 0 Q fn a'.tmps (λe w'=> ∃v2,e= .returned v2/\ ∃y:P×List (Nat×En),ae y/\ ∃F' G',fX Q ⟨G,w0,0,false⟩ F' G' w' y.2/\aH F' w' G' y.2 v2 y.1/\Ext (Own G R) (Own G' y.2) F F' w w') a'.defers .returning w':=by
     intro qs y hq hpr fe;refine Au (T:=⟨G,w0,w.heap.size,true⟩) (own0:=Own G R) (F0:=F) (w1:=w) (zal _) (λw2 h3 h4=> ?_) a'.defers w' h1 h2;obtain⟨us,g1,g2,g3⟩:=tC h3 hq;obtain⟨F2,G2,k1,k2,k3⟩:=DO h3 hpr g2 g3;exact⟨_,g1,_,rfl,y,fe,F2,G2,k1.lo,k2,h4.trans k3⟩
    have qoW:e≠ .normal->e≠ .ret->False:=λh1 h2=>by
     cases e with
     |normal=>exact h1 rfl
     |ret=>exact h2 rfl
     |exit id=>exact hp
    have hq: ∃qs y,dv Q s1 fn.results.toList=some qs/\finish Q R.length fn.resultTypes.toList qs s1=some y/\ae y:=by
     cases e with
     |exit id=>grind
     |normal=>
      cases hq:dv Q s1 fn.results.toList with
      |none=>simp only[hq] at hp;exact hp.elim
      |some qs=>simp only[hq] at hp;obtain⟨y,hy,hpo⟩:=KW.dU (p:=λy=>finish Q R.length fn.resultTypes.toList qs s1=some y) (λ_ h=>h) _ hp;grind
     |ret=>
      cases hq:dv Q s1 fn.results.toList with
      |none=>simp only[hq] at hp;exact hp.elim
      |some qs=>simp only[hq] at hp;obtain⟨y,hy,hpo⟩:=KW.dU (p:=λy=>finish Q R.length fn.resultTypes.toList qs s1=some y) (λ_ h=>h) _ hp;grind
    obtain⟨qs,y,hq,hpr,hpo⟩:=hq;have:=fin qs y hq hpr hpo;cases e with
    |normal=>exact this
    |ret=>exact this
    |exit id=>grind
abbrev FQ Q:=eE (qU Q) Q
abbrev qdU Q:=DT (qU Q) Q
theorem rC{HN:List (FuncId×a8)}(nO: ∀f h,lk HN f=some h->KU Q T.w0 f h){kf}(hJ:yd kf (fj Q kp))(hX:cz Q T.w0 kp.X)(hdr:Q.follows .mixedOrders=true){kp1 hk dc} c (hl:cj dc c=true)
  (hh: ∀d∈aN c,∀h,lk hk (Code.s5 d)=some h-> ∀s ae,h s ae->TW Q T (.loop d) s ae) (hr: ∀x∈bW c,∀h,lk hk (500000+x.id)=some h-> ∀s ae,h s ae->TW Q T x.code s ae) s ae (hp:FQ Q kf HN kp1 hk dc c s ae):TW Q T c s ae:=
 ie (λ_ _ _ _ h=>h) nO hJ hX hdr c hl hh hr s ae hp
theorem KU.mk{w0}{HN:List (FuncId×a8)}(nO: ∀f h,lk HN f=some h->KU Q w0 f h){h f kf dc}{hk}(hJ:yd kf (fj Q kp))(hX:cz Q w0 kp.X)(hdr:Q.follows .mixedOrders=true)(L8:nz dc 0 Q.funcs.toList=true)(hu:uniq Q f=true)(huR:AB Q f=true)
 (hl: ∀id h,id<500000->lk hk id=some h-> ∀(val:Nat->Value) (lo:Nat) s ae,h s ae->TW Q ⟨val,w0,lo,true⟩ (.loop (bA Q f id)) s ae)
 (hrf: ∀id h,lk hk (500000+id)=some h-> ∀(val:Nat->Value) (lo:Nat) s ae,h s ae->TW Q ⟨val,w0,lo,true⟩ (nI Q f id).code s ae)
 (hb: ∀ps R ae,h ps R ae->qdU Q kf HN kp hk dc f ps R ae):KU Q w0 f h:=KU.mkG (nx:=qU Q) (λ_ _ _ _ h=>h) nO hJ hX hdr L8 hu huR hl hrf hb
theorem CG.ofN{w0 g f h}(hN:KU Q w0 f h)(hg: ∀ps R y,g ps R=some y->h ps R (λz=>z=y)):CG Q w0 f g:=by intro _ ps R p R1 hr F G w vs hH hlen hv;refine(hN ps R _ (hg ps R (p,R1) hr) F G w vs hH hlen hv).mono λv w' ⟨y,hy,F',G',h1,h2,h3⟩=>by grind
end
end Pi
