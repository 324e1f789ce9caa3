/- The text PiT. -/
import Derived.Test.YtpiohccneeblhaaEbo
namespace Pi
open Go
def TW(Q:Program)(T:Tg)(c:Code)(s:S)(ae:PX×S->Prop):Prop:=
 ∀ ⦃r:Option Nat⦄(_:T.Ea=true->r=none) (F:Nat->Prop) (G:Nat->Value) (w:World) (a:Act) (Q':Exit->Act->World->Prop),aq Q T F G w a s->(∀e s' a' w',ae (e,s')->fh Q T F G w s s' a' w'->Q' e.dx a' w')->c.wpIn (wd r) 0 Q Q' a w
def kP(Q:Program)(s:S)(dst:Option Nat)(p:P):K S:=
 match p with
 | .ref n v 0=>match s.obj n v with
  |some (.iter kt vt left _)=>λae=>
   (∀k x,left k=some x->K.bind (ri Q kt k) (λk=>K.bind (ri Q vt x) λx=>K.cg ((s.setObj n (.iter kt vt (vd k left) (some (k,x)))).put dst (.fL [.d (.bool true),.d k,.d x]))) ae)/\
   ((∀k,left k=none)->K.cg (s.put dst (.fL [.d (.bool false)])) ae)
  |_=>K.fail
 |_=>K.fail
def kQ(o:Oper):Option Operand:=match o.op with | .next it false=>if o.guard.isNone then some it else none |_=>none
def Ke(HN:List (FuncId×cR)):KF:=λf=>match lk HN f with |some h=>h |none=>λ_ _=>K.fail
def zt(HN:List (FuncId×cR))(s:S)(o:Oper):Option (P×List P):=
 match dU o with
 |some (f,xs)=>match s.eg none f with
  | .fn fN bH=>if(lk HN fN).isSome&&o.guard.isNone then some (.fn fN bH,xs.map (s.eg none)) else none
  |_=>none
 |none=>none
def cX(nx:S->Option Nat->P->K S)(Q:Program)(cf:KF)(HN:List (FuncId×cR))(ops:List Oper):List Oper->List (Nat×Bool)->S->K S
 | [],_,s=>K.ret s
 |o::r,kn,s=>match kQ o with
  |some it=>K.bind (nx s o.dst ((s.ev it).under none)) λs1=>s1.force λs1=>cX nx Q cf HN ops r [] s1
  |none=>match zt HN s o with
   |some (f,xs)=>K.bind (lC Q (Ke HN) s o.dst f xs) λs1=>s1.force λs1=>cX nx Q cf HN ops r [] s1
   |none=>K.bind (r7 Q cf ops kn s o) λx=>x.1.force λs1=>cX nx Q cf HN ops r x.2 s1
def hasNext:List Oper->Bool
 | []=>false
 |o::r=>(kQ o).isSome ||hasNext r
def cN(nx:S->Option Nat->P->K S)(Q:Program)(kf:KF)(HN:List (FuncId×cR))(kp:Nat->Option (List Nat×List Nat))(hk:List (Nat×(S->K (PX×S))))(dc:Nat->Nat):Code->S->K (PX×S)
 | .skip,s=>K.ret (.normal,s)
 | .label _,s=>K.ret (.normal,s)
 | .region id ops draw,s=>K.bind (if draw then vp Q kf ops.toList (dc id) s else if hasNext ops.toList || !HN.isEmpty then cX nx Q kf HN ops.toList ops.toList [] s else ic Q kf ops.toList ops.toList [] s) λs1=>K.ret (.normal,s1)
 | .seq a b,s=>K.bind (cN nx Q kf HN kp hk dc a s) λx=>match x.1 with
  | .normal=>cN nx Q kf HN kp hk dc b x.2
  |_=>K.ret x
 | .cond c x y,s=>match s.ev c with
  | .d (.bool b)=>K.bind (K.dec b) λr=>if r then cN nx Q kf HN kp hk dc x s else cN nx Q kf HN kp hk dc y s
  |_=>K.fail
 | .block id c,s=>K.bind (cN nx Q kf HN kp hk dc c s) λx=>match x.1 with
  | .exit kl=>if Nat.beq kl id then K.ret (.normal,x.2) else K.ret x
  |_=>K.ret x
 | .loop c,s=>match lk hk (Code.lB c) with
  |some h=>h s
  |none=>K.fail
 | .scope c,s=>cN nx Q kf HN kp hk dc c s
 | .exit id,s=>K.ret (.exit id,s)
 | .ret,s=>K.ret (.ret,s)
 | .rangeFunc _ _ _ b,s=>match lk hk (500000+Code.lB b) with
  |some h=>h s
  |none=>K.fail
 |_,_=>K.fail
structure RF where
 g:Operand
 ps:Array Tmp
 asg:Code
 body:Code
def RF.code(x:RF):Code:= .rangeFunc x.g x.ps x.asg x.body
def bw:Code->List RF
 | .seq a b=>bw a++bw b
 | .cond _ a b=>bw a++bw b
 | .block _ c | .scope c | .loop c=>bw c
 | .rangeFunc g ps a b=>[⟨g,ps,a,b⟩]
 |_=>[]
def RF.id(x:RF):Nat:=Code.lB x.body
def uB(id:Nat):List RF->Option RF
 | []=>none
 |x::r=>if Nat.beq x.id id then some x else uB id r
def Df(Q:Program)(f:FuncId)(id:Nat):RF:=
 match Q.funcs[f]? with
 |some fn=>(match fn.body with |some c=>(uB id (bw c)).getD ⟨.const undef, #[],.skip,.skip⟩|none=>⟨.const undef, #[],.skip,.skip⟩)
 |none=>⟨.const undef, #[],.skip,.skip⟩
def qG(Q:Program)(f:FuncId):Bool:=
 match Q.funcs[f]? with
 |some fn=>(match fn.body with |some c=>cE ((bw c).map RF.id)&&(ax c).all λd=>Nat.blt (Code.lB d) 500000 |none=>true)
 |none=>true
theorem sR{d:RF}: ∀(l:List RF),(l.map RF.id).Nodup->d∈l->uB d.id l=some d
 | [],_,h=>by simp at h
 |c::r,hn,h=>by
  obtain⟨OE,Ir⟩:=zax.1 hn;unfold uB;rcases zan.1 h with rfl |h
  ·simp
  have: ¬c.id=d.id:=λe=>OE (e▸zbr h);rw[zaB (by simpa using this)];exact sR r Ir h
theorem Ft{Q:Program}{f:FuncId}{fn:Func}{c:Code}{x:RF}(hu:qG Q f=true)(fg:Q.funcs[f]?=some fn)(hc:fn.body=some c)(hx:x∈bw c):Df Q f x.id=x:=by grind [qG,Df,sR,cS]
theorem A2{Q:Program}{f:FuncId}{fn:Func}{c:Code}{d:Code}(hu:qG Q f=true)(fg:Q.funcs[f]?=some fn)(hc:fn.body=some c)(hd:d∈ax c):Code.lB d<500000:=by simp_all [qG,zad,zaY,Nat.blt_eq]
section
variable{Q:Program}{T:Tg}{F:Nat->Prop}{G:Nat->Value}{w:World}{a:Act}{s:S}{r:Option Nat}
theorem TW.mono{c:Code}{p q:PX×S->Prop}(h:TW Q T c s p)(EM: ∀x,p x->q x):TW Q T c s q:=λ_ pJ F G w a Q' hs hK=>h pJ F G w a Q' hs λe s' a' w' hp=>hK e s' a' w' (EM _ hp)
theorem TW.uC{kp:Nat->Option (List Nat×List Nat)}{cf:CF}{lf:Nat}(fG:cL Q T.w0 cf)(hdr:Q.follows .mixedOrders=true){c:Code}{x:PX×S}(h:aS Q cf kp lf c s=some x){ae:PX×S->Prop}(hp:ae x):TW Q T c s ae:=
 λ_ _ F G w a Q' hs hK=>dy fG hdr c s x.1 x.2 h F G w a Q' hs λa' w' hP=>hK x.1 x.2 a' w' hp hP
theorem wH{r m since last:Nat}{seen:Array Nat}{es:Array MapEntry}{clock:Nat}(ty:TypeId)(hr:w.heap[r]?=some (.mapIter (some m) since seen last))(hm:w.heap[m]?=some (.map es clock))(hold: ∀x∈es.toList,x.born<since)(xe:since<=last):
  ((∀x∈es.toList,seen.contains x.born=true)/\(Instr.next (.pointer (some ⟨r,0,none⟩)) false ty).run Q w= .ok (.tuple #[.bool false]) w)\/
  ∃e∈es.toList,seen.contains e.born=false/\ ∃w1:World,(w1=w\/w1={w with drawn:=w.drawn+1})/\(Instr.next (.pointer (some ⟨r,0,none⟩)) false ty).run Q w= .ok (.tuple #[.bool true,e.key,e.val]) {w1 with heap:=w1.heap.setIfInBounds r (.mapIter (some m) since (seen.push e.born) clock)}:=by
 have bg:(!seen.isEmpty&& !es.isEmpty&&es.all λx=>decide (x.born>=last))=false:=by
  cases he:es.isEmpty with
  |true=>simp
  |false=>
   have h0:0<es.size:=by grind
   have:es.all (λx=>decide (x.born>=last))=false:=by grind
   rw[this,Bool.and_false]
 have e1:(es.filter λe=> !seen.contains e.born).filter (λx=>decide (x.born<since))=es.filter λe=> !seen.contains e.born:=Array.filter_eq_self.2 λx hx=>by have:=hold x (by grind);grind
 have e2:(es.filter λe=> !seen.contains e.born).filter (λx=>decide (x.born>=since))= #[]:=by rw[Array.filter_eq_empty_iff];grind
 have mem: ∀x,x∈(es.filter λe=> !seen.contains e.born)↔x∈es.toList/\seen.contains x.born=false:=λx=>by simp
 simp only[Instr.next,getObj,Sem.run_bind,Sem.run,hr,hm,Result.andThen,bg,zar,za3,e1,e2,Array.append_empty];generalize (es.filter λe=> !seen.contains e.born)=L at mem⊢;by_cases h0:L.size=0
 ·have:L= #[]:=Array.eq_empty_of_size_eq_zero h0;subst this;refine .inl ⟨λx hx=> ?_,?_⟩
  ·grind
  simp[choose,Sem.run,Question.forced]
 have ca:L.isEmpty=false:=by grind
 have PV: ∃(j:Nat) (w1:World),j<L.size/\(w1=w\/w1={w with drawn:=w.drawn+1})/\(choose (Question.mapNext L.size)).run Q w= .ok j w1:=by
  by_cases hf:L.size<=1
  ·exact⟨0,w,by omega,.inl rfl,by simp[choose,Sem.run,Question.forced,hf]⟩
  refine⟨w.tape w.drawn (.mapNext L.size)%L.size,{w with drawn:=w.drawn+1},zcy _ (by omega),.inr rfl,?_⟩;simp only[choose,Sem.run,Question.forced,zaI,hf,za3,Question.cut]
 obtain⟨j,w1,hj,AV,aX⟩:=PV;obtain⟨m1,m2⟩:=(mem L[j]).1 (by simp);refine .inr ⟨L[j],m1,m2,w1,AV,?_⟩;have PW:w1.heap[r]?=some (.mapIter (some m) since seen last):=by rcases AV with rfl |rfl<;>exact hr
 have jr:(setObj r (.mapIter (some m) since (seen.push L[j].born) clock)).run Q w1= .ok () {w1 with heap:=w1.heap.setIfInBounds r (.mapIter (some m) since (seen.push L[j].born) clock)}:=by simp[setObj,Sem.run,PW]
 simp_all
theorem zu(h:aq Q T F G w a s){o:Oper}{it:Operand}(ho:kQ o=some it){ae:S->Prop}(hp:kP Q s o.dst ((s.ev it).under none) ae){K:Act->World->Prop}{Q':Exit->Act->World->Prop}
  (hK: ∀s' a' w',ae s'->fh Q T F G w s s' a' w'->K a' w'):o.wpIn (wd r) 0 Q a w K Q':=by
 have nc:o.op= .next it false:=by grind [kQ]
 have hv:=aB h (g:=none) trivial it;unfold S.eg at hv;generalize (s.ev it).under none=p at hv hp;have xh: ∃n az kt vt left cur,p= .ref n az 0/\s.obj n az=some (.iter kt vt left cur):=by
  cases p with
  |ref n az off=>
   cases off with
   |succ off=>exact hp.elim
   |zero=>
    cases Ak:s.obj n az with
    |none=>simp only[kP,Ak] at hp;exact hp.elim
    |some o=>
     cases o with
     |iter kt vt left cur=>grind
     |_=>simp only[kP,Ak] at hp;exact hp.elim
  |_=>exact hp.elim
 obtain⟨n,az,kt,vt,left,cur,rfl,Ak⟩:=xh;simp only[kP,Ak] at hp;obtain⟨p1,p2⟩:=hp;obtain⟨e,he,bN,aP⟩:=S.aJ Ak;have hO:=h.rg n e he;rw[aP] at hO;obtain⟨b,mo,since,seen,last,hg,hh,hO⟩:=hO;have hval:a.eval it= .pointer (some ⟨b,0,none⟩):=by
  generalize a.eval it=v at hv;cases hv with
  |ref _ _ _ _ hr h1=>obtain⟨b',Br,rfl⟩:=hr.at he bN (by rw[aP];rfl);rw[hg] at Br;rw[Br]
 have over:(∀k,left k=none)->(Instr.next (.pointer (some ⟨b,0,none⟩)) false o.type).run Q w= .ok (.tuple #[.bool false]) w->o.wpIn (wd r) 0 Q a w K Q':=λh0 aX=>by
  obtain⟨s1,mH,eB⟩:=KW.cg (p:=λs1=>s.put o.dst (.fL [.d (.bool false)])=some s1) (λ_ h=>h) _ (p2 h0);obtain⟨c1,c2⟩:=bc h mH (v:= .tuple #[.bool false]) (bt.of (.fL [.bool false] [.d (.bool false)] rfl λi v c hv hc=>by
   cases i with
   |zero=>simp at hv hc;subst hv;subst hc;exact .d (.bool false)
   |succ i=>simp at hv))
  refine ny (λc hc=>by rw[nc] at hc;cases hc) (v:= .tuple #[.bool false]) (w':=w) (.inl (by simp[execOp,nc,hval,aX])) (hK s1 _ _ eB ⟨F,G,c1,?_⟩);rw[c2];exact Ext.refl _ _ _
 rcases hO with⟨rfl,h0,_⟩| ⟨m,es,rfl,hF,hm,Ck,hI,hc⟩
 ·exact over h0 (by simp[Instr.next,getObj,Sem.run_bind,Sem.run,hh])
 subst Ck;have hold: ∀x∈es.toList,x.born<last:=by obtain⟨ks,_,_,_,h5,_⟩:=hI;exact h5
 rcases wH (Q:=Q) o.type hh hm hold (zae _) with⟨h0,aX⟩| ⟨en,tV,Dg,w1,AV,aX⟩
 ·exact over (hI.over h0) aX
 have Dg:en∈es.toList/\seen.contains en.born=false:=⟨tV,Dg⟩
 obtain⟨k,x,hk,lq,hx,PY⟩:=hI.next Dg.1 Dg.2;obtain⟨k',rfl,Gv⟩:=ik Q kt k _ (p1 k x hk);obtain⟨x',rfl,HF⟩:=ik Q vt x _ Gv;obtain⟨s1,mH,eB⟩:=KW.cg (p:=λs1=>(s.setObj n (.iter kt vt (vd k left) (some (k,x)))).put o.dst (.fL [.d (.bool true),.d k,.d x])=some s1) (λ_ h=>h) _ HF;have IF:w1.heap=w.heap/\w1.os=w.os/\w1.tape=w.tape/\w1.output=w.output:=by rcases AV with rfl |rfl<;>exact⟨rfl,rfl,rfl,rfl⟩
 have tP:b<w.heap.size:=(zap.1 hh).1;have cA:ay (G n) e.obj b:=by rw[aP,hg];simp[ay,aj]
 have ca:m≠b:=λQ7=>by grind
 have jS: ∀b0,b0≠b->(w.heap.setIfInBounds b (.mapIter (some m) last (seen.push en.born) last))[b0]?=w.heap[b0]?:=λb0 ca=>zaC (za5 ca);have mG:(w.heap.setIfInBounds b (.mapIter (some m) last (seen.push en.born) last))[b]?=some (.mapIter (some m) last (seen.push en.born) last):=by rw[zaW tP]
 have pW: ∀b0,F b0->b0≠b:=λb0 hf e0=>by subst e0;exact h.gG n e b0 he cA hf
 rw[S.a8 he] at mH;have MX:w.drawn<=w1.drawn:=by grind
 obtain⟨d1,d2⟩:=h.iH (n:=n) (e1:=⟨e.az,e.tag,.iter kt vt (vd k left) (some (k,x))⟩) (g1:=G n) (w':={w1 with heap:=w.heap.setIfInBounds b (.mapIter (some m) last (seen.push en.born) last)}) (hdr:=MX)
  (λe' bb=>by rw[he] at bb;cases bb;exact .inr ⟨rfl,λ_=>⟨by rw[aP];rfl,rfl⟩⟩)
  (λb0 _ bg=>jS b0 λe0=>by grind) (by simp) IF.2.1 IF.2.2.1 IF.2.2.2
  (λb0 tO=> .inr ⟨e,he,by rw[aP];exact tO⟩)
  ⟨b,some m,last,seen.push en.born,last,by rw[aK];exact hg,mG,.inr ⟨m,es,rfl,hF,(jS m ca).trans hm,rfl,PY.mono (λ_ h=>h) (λb0 hf=>jS b0 (pW b0 hf)),λk1 x1 PZ=>by obtain⟨rfl,rfl⟩:=PZ;exact⟨en,Dg.1,by simp,lq,hx.mono (λ_ h=>h) (λb0 hf=>jS b0 (pW b0 hf))⟩⟩⟩
  (λi hi _=>h.tag n e i he hi (by rw[aP];rfl))
 rw[aK] at d1 d2;obtain⟨c1,c2⟩:=bc d1 mH (v:= .tuple #[.bool true,en.key,en.val]) (bt.of (.fL [.bool true,en.key,en.val] _ rfl λi v c hv hc=>by
  match i with
  |0=>simp at hv hc;subst hv;subst hc;exact .d (.bool true)
  |1=>simp at hv hc;subst hv;subst hc;exact .d (aA.Cj _ _ lq)
  |2=>simp at hv hc;subst hv;subst hc;exact .d (hx.mono (λ_ h=>h) (λb0 hf=>jS b0 (pW b0 hf)))
  |i+3=>simp at hv))
 refine ny (λc hc=>by rw[nc] at hc;cases hc) (v:= .tuple #[.bool true,en.key,en.val]) (w':={w1 with heap:=w.heap.setIfInBounds b (.mapIter (some m) last (seen.push en.born) last)}) (.inl ?_) (hK s1 _ _ eB ⟨F,G,c1,?_⟩)
 ·simp only[execOp,nc,hval,Sem.run_bind,aX];simp[IF.1]
 grind
def xi(Q:Program)(w0:World)(f:FuncId)(h:cR):Prop:=
 ∀ps R ae,h ps R ae-> ∀(F:Nat->Prop) (G:Nat->Value) (w:World) (vs:List Value),aL Q ⟨G,w0,0,false⟩ F G w R->vs.length=ps.length->
  (∀(i:Nat) (v:Value) (c:P),vs[i]?=some v->ps[i]?=some c->ao F w G R v c)->
  bF Q f ⟨vs⟩ w (λv w'=> ∃y:P×List (Nat×En),ae y/\ ∃F' G',aL Q ⟨G,w0,0,false⟩ F' G' w' y.2/\ao F' w' G' y.2 v y.1/\Ext (Own G R) (Own G' y.2) F F' w w')
theorem Dh{HN:List (FuncId×cR)}(oh: ∀f h,lk HN f=some h->xi Q T.w0 f h)(h:aq Q T F G w a s){dst:Option Nat}{pf:P}{ps:List P}{ae:S->Prop}(hs:lC Q (Ke HN) s dst pf ps ae){fv:Value}{vs:List Value}(hf:ao F w G s.rg fv pf)(hl:vs.length=ps.length)
  (hv: ∀(i:Nat) (v:Value) (c:P),vs[i]?=some v->ps[i]?=some c->ao F w G s.rg v c):
  ∃fN cs,fv= .func (.func fN) #[] ⟨cs⟩/\bF Q fN ⟨vs++cs⟩ w (λv w'=> ∃s',ae s'/\ ∃F' G',aq Q T F' G' w' (a.put dst v) s'/\Ext (Own G s.rg) (Own G' s'.rg) F F' w w'):=by
 cases pf with
 |fn fN bH=>
  cases hf with
  |fn _ cs _ Ap fO=>
   refine⟨fN,cs,rfl,?_⟩;cases vK:bL Q s fN (ps++bH) with
   |none=>simp only[lC,vK] at hs;exact hs.elim
   |some r=>
    obtain⟨s1,qs⟩:=r;cases hY:cE (reach s1.rg 1000 qs []) with
    |false=>simp only[lC,vK,hY,zar,za3] at hs;exact hs.elim
    |true=>
     cases iU:sub s1.rg (toPos s1.rg (reach s1.rg 1000 qs [])) true 0 (reach s1.rg 1000 qs []) with
     |none=>simp only[lC,vK,hY,zaT,iU] at hs;exact hs.elim
     |some R0=>
      simp only[lC,vK,hY,zaT,iU] at hs;cases hh:lk HN fN with
      |none=>simp only[Ke,hh] at hs;exact hs.elim
      |some rN=>
       simp only[Ke,hh] at hs;have bq: ∀(i:Nat) (v:Value) (c:P),(vs++cs)[i]?=some v->(ps++bH)[i]?=some c->ao F w G s.rg v c:=λi v c h1 h2=>by grind
       obtain⟨F1,a1,a2,a3,a4,a5,a6⟩:=nM (ps++bH) s F s1 qs (vs++cs) h vK (by grind) bq;obtain⟨b1,b2,b3⟩:=a1.heap.sub iU hY;have hq:=oh fN rN hh _ R0 _ hs F1 _ w (vs++cs) b1 (by rw[fE];exact a5) (λi v c h1 h2=>by rw[fD] at h2;grind [gS]);refine hq.mono λv w' ⟨⟨p,R1⟩,eB,F2,G2,c1,c2,c3⟩=> ?_;cases E4:(cE (bV R1 (reach R1 1000 (p::cF R1 R1) []))&&Nat.ble (bV R1 (reach R1 1000 (p::cF R1 R1) [])).length 1000) with
       |false=>simp only[E4,zar,za3] at eB;exact eB.elim
       |true=>
        simp only[E4,zaT] at eB;cases fX:dO R1 (dm R1 s1.rg (reach s1.rg 1000 qs []) (bV R1 (reach R1 1000 (p::cF R1 R1) [])) (site dst*1000)) 0 (reach s1.rg 1000 qs []) s1.rg with
        |none=>simp only[fX] at eB;exact eB.elim
        |some R2=>
         simp only[fX] at eB;cases bX:gB R1 (dm R1 s1.rg (reach s1.rg 1000 qs []) (bV R1 (reach R1 1000 (p::cF R1 R1) [])) (site dst*1000)) (site dst*1000) (bV R1 (reach R1 1000 (p::cF R1 R1) [])) R2 with
         |none=>simp only[bX] at eB;exact eB.elim
         |some R3=>simp only[bX] at eB;obtain⟨s',P0,eB⟩:=KW.cg (p:=λs'=>({s1 with rg:=R3}:S).put dst (nb _ p)=some s') (λ_ h=>h) _ eB;obtain⟨G3,d1,d2,d3⟩:=lU a1 hY (zad _ _▸E4:_/\_).1 iU c1 c3 (c7 R1 _) fX bX;obtain⟨e1,e2⟩:=bc d1 P0 (bt.of (gS d3 c2));refine⟨s',eB,F2,G3,e1,?_⟩;rw[e2];exact a2.trans d2
 |_=>exact hs.elim
theorem Di{HN:List (FuncId×cR)}(oh: ∀f h,lk HN f=some h->xi Q T.w0 f h)(h:aq Q T F G w a s){o:Oper}{pf:P}{ps:List P}(ho:zt HN s o=some (pf,ps)){ae:S->Prop}(hp:lC Q (Ke HN) s o.dst pf ps ae){K:Act->World->Prop}{Q':Exit->Act->World->Prop}
  (hK: ∀s' a' w',ae s'->fh Q T F G w s s' a' w'->K a' w'):o.guard=none/\o.wpIn (wd r) 0 Q a w K Q':=by
 unfold zt at ho;split at ho
 next f xs hc=>
  split at ho
  next fN bH MY=>
   split at ho
   ·rename_i cv;refine⟨by simp_all,?_⟩;obtain⟨rfl,rfl⟩:=ho;unfold dU at hc;split at hc
    ·rename_i c nc;split at hc
     ·rename_i f' fR;simp at hc;obtain⟨rfl,rfl⟩:=hc;obtain⟨MZ,cs,MF,iG⟩:=Dh oh h hp (by rw[<-MY];exact aB h (g:=none) trivial f') (vs:=c.args.toList.map a.eval) (by simp) (λi v p hv hp=>by rw[zai] at hv hp;simp only[zaj] at hv hp;obtain⟨x,hx,rfl⟩:=hv;obtain⟨y,hy,rfl⟩:=hp;rw[hx] at hy;cases hy;exact aB h (g:=none) trivial x);have aX:(execOp a.eval o).run Q w=(callFunc MZ ⟨c.args.toList.map a.eval++cs⟩).run Q w:=by
       have e:(c.args.map a.eval)++(⟨cs⟩:Array Value)=⟨c.args.toList.map a.eval++cs⟩:=by simp
       simp[execOp,nc,resolve,fR,MF,Deferred.ofValue,invoke,e]
      refine mJ (λc' tU=>by rw[nc] at tU;cases tU) ?_;rw[aX];rcases iG with⟨h1,h2⟩| ⟨v,w',h1,s',km,F',G',h2,h3⟩
      ·rw[h1];refine⟨λh=>(by cases h),(qb h2).mono λe w' ⟨v,he,s',km,F',G',h3,h4⟩=> ?_⟩;subst he;exact hK _ _ _ km ⟨F',G',h3,h4⟩
      rw[h1];exact hK _ _ _ km ⟨F',G',h2,h3⟩
     cases hc
    cases hc
   cases ho
  cases ho
 cases ho
theorem jz{nx:S->Option Nat->P->K S}(xh: ∀s dst p ae,nx s dst p ae->kP Q s dst p ae){HN:List (FuncId×cR)}(oh: ∀f h,lk HN f=some h->xi Q T.w0 f h){kf:KF}{cf:Nat->Nat->CF}(eE:oO kf cf)(fG: ∀a b,cL Q T.w0 (cf a b)){ops:List Oper}{Q':Exit->Act->World->Prop}{ae:S->Prop}: ∀(l:List Oper) (kn:List (Nat×Bool)) (F:Nat->Prop) (G:Nat->Value) (w:World) (a:Act) (s:S),fT kn s->aq Q T F G w a s->cX nx Q kf HN ops l kn s ae->
  (∀s' a' w',ae s'->fh Q T F G w s s' a' w'->Q' .normal a' w')->wpListIn (wd r) 0 Q ops.toArray Q' l a w
 | [],kn,F,G,w,a,s,_,h,hp,hK=>by unfold cX at hp;exact hK s a w hp ⟨F,G,h,Ext.refl _ _ _⟩
 |o::l,kn,F,G,w,a,s,o7,h,hp,hK=>by
  cases ho:kQ o with
  |some it=>
   simp only[cX,ho] at hp;have Bx:o.guard=none:=by
    unfold kQ at ho;split at ho
    ·simp_all
    cases ho
   have:o.wpIn (wd r) 0 Q a w (wpListIn (wd r) 0 Q ops.toArray Q' l) Q':=zu h ho (ae:=λs1=>cX nx Q kf HN ops l [] s1 ae) (by
    have e:(λs1:S=>s1.force λs1=>cX nx Q kf HN ops l [] s1)=λs1=>cX nx Q kf HN ops l [] s1:=by funext s1;rw[S.force_eq]
    rw[e] at hp;exact xh _ _ _ _ hp) λs1 a1 w1 qZ ⟨F1,G1,g1,g2⟩=>jz xh oh eE fG l _ F1 G1 w1 a1 s1 (fT.nil s1) g1 qZ λs' a' w' km hP=>hK s' a' w' km (hP.trans g2)
   exact du (by rw[zat (by simp[Region.wanted,Bx])];exact this)
  |none=>
  cases Ap:zt HN s o with
  |some fx=>
   simp only[cX,ho,Ap] at hp;have e:(λs1:S=>s1.force λs1=>cX nx Q kf HN ops l [] s1)=λs1=>cX nx Q kf HN ops l [] s1:=by funext s1;rw[S.force_eq]
   rw[e] at hp;obtain⟨Bx,this⟩:=Di (K:=wpListIn (wd r) 0 Q ops.toArray Q' l) (Q':=Q') oh h Ap (ae:=λs1=>cX nx Q kf HN ops l [] s1 ae) hp λs1 a1 w1 qZ ⟨F1,G1,g1,g2⟩=>jz xh oh eE fG l _ F1 G1 w1 a1 s1 (fT.nil s1) g1 qZ λs' a' w' km hP=>hK s' a' w' km (hP.trans g2);exact du (by rw[zat (by simp[Region.wanted,Bx])];exact this)
  |none=>simp only[cX,ho,Ap] at hp;obtain⟨x,⟨hx,hk⟩,qZ⟩:=mO eE o7 _ hp;rw[S.force_eq] at qZ;obtain⟨i,j,hx⟩:=hx.some;have iO:=gq (r:=r) (fG i j) h hx (K:=wpListIn (wd r) 0 Q ops.toArray Q' l) (Q':=Q') (λa' w' ⟨F',G',g1,g2⟩=>jz xh oh eE fG l _ F' G' w' a' x.1 hk g1 qZ (λs' a2 w2 km hp=>hK s' a2 w2 km (hp.trans g2)));exact du iO
theorem TW.seq{x y:Code}{p ae:PX×S->Prop}(h1:TW Q T x s p)(h2: ∀s1,p (.normal,s1)->TW Q T y s1 ae)(h3: ∀e s1,e≠ .normal->p (e,s1)->ae (e,s1)):TW Q T (.seq x y) s ae:=λr pJ F G w a Q' hs hK=>by
 refine wpIn_seq (h1 pJ F G w a _ hs λe s1 a1 w1 hp hP=> ?_);cases e with
 |normal=>obtain⟨F1,G1,g1,g2⟩:=hP;exact h2 s1 hp pJ F1 G1 w1 a1 Q' g1 λe2 s2 a2 w2 Gv M0=>hK e2 s2 a2 w2 Gv (fh.trans g2 M0)
 |exit id=>exact hK _ s1 a1 w1 (h3 _ _ (by simp) hp) hP
 |ret=>exact hK _ s1 a1 w1 (h3 _ _ (by simp) hp) hP
theorem TW.cond{c:Operand}{x y:Code}{b:Bool}{ae:PX×S->Prop}(hb:s.ev c= .d (.bool b))(h:TW Q T (if b then x else y) s ae):TW Q T (.cond c x y) s ae:=λr pJ F G w a Q' hs hK=>by
 have hv:a.eval c= .bool b:=by have:=pC hs c;rw[hb] at this;exact ao.br (p:= .d (.bool b)) this rfl
 refine wpIn_cond hv ?_;cases b with
 |true=>exact h pJ F G w a Q' hs hK
 |false=>exact h pJ F G w a Q' hs hK
theorem TW.block{id:Nat}{c:Code}{p ae:PX×S->Prop}(h:TW Q T c s p)(hp: ∀e s1,p (e,s1)->match e with | .exit kl=>if Nat.beq kl id then ae (.normal,s1) else ae (e,s1)|_=>ae (e,s1)):TW Q T (.block id c) s ae:=λr pJ F G w a Q' hs hK=>by
 refine wpIn_block (h pJ F G w a _ hs λe s1 a1 w1 qZ hP=> ?_);have:=hp e s1 qZ;cases e with
 |normal=>exact hK _ s1 a1 w1 this hP
 |ret=>exact hK _ s1 a1 w1 this hP
 |exit kl=>
  simp only at this;split at this
  next nY=>
   have nY:kl=id:=by simpa using nY
   have:=hK _ s1 a1 w1 this hP;simp only[PX.dx,Exit.inBlock,nY,zaT];exact this
  rename_i nY;have nY: ¬kl=id:=by simpa using nY
  have:=hK _ s1 a1 w1 this hP;simp only[PX.dx,Exit.inBlock,nY,za3];exact this
theorem TW.scope{c:Code}{ae:PX×S->Prop}(h:TW Q T c s ae):TW Q T (.scope c) s ae:=λr pJ F G w a Q' hs hK=>by refine dJ (h pJ F G w a _ hs λe s1 a1 w1 hp hP=> ?_);have:=hK e s1 a1 w1 hp hP;cases e<;>simpa [PX.dx,Exit.noGoto] using this
theorem TW.loop{c:Code}{keep:Option (List Nat×List Nat)}{I:Nat->S->Prop}{O:PX×S->Prop}
  (hr: ∀n s,I n s->TW Q T c s (λx=>match x.1 with | .normal=> ∃s2,cx keep x.2=some s2/\ ∃m,m<n/\I m s2 |e=> ∃s2,eI keep x.2=some s2/\O (e,s2)))
  {n:Nat} {s0:S} (h0:cx keep s=some s0) (hI:I n s0):TW Q T (.loop c) s O:=λr pJ F G w a Q' hs hK=>by
 obtain⟨G0,g1,g2⟩:=dD hs h0;have key: ∀(N n:Nat) (s:S),n<N->I n s-> ∀(F:Nat->Prop) (G:Nat->Value) (w:World) (a:Act),aq Q T F G w a s->(∀e s' a' w',O (e,s')->fh Q T F G w s s' a' w'->Q' e.dx a' w')->Code.roundsIn (wd r) 0 Q c Q' N a w:=by
  intro N
  induction N with
  |zero=>simp
  |succ N ih=>
   intro n s hn hI F G w a hs hK;refine hr n s hI pJ F G w a _ hs λe s1 a1 w1 hp hP=> ?_;obtain⟨F1,G1,k1,k2⟩:=hP;cases e with
   |normal=>obtain⟨s2,h2,m,hm,hi⟩:=hp;obtain⟨G2,m1,m2⟩:=dD k1 h2;exact ih m s2 (by omega) hi F1 G2 w1 a1 m1 λe s' a' w' hO hP=>hK e s' a' w' hO (fh.trans (k2.trans m2) hP)
   |exit id=>obtain⟨s2,h2,hO⟩:=hp;obtain⟨G2,m1,m2⟩:=dD (keep:=keep.map λl=>(l.2,l.2)) k1 (by cases keep<;>exact h2);exact hK _ s2 a1 w1 hO ⟨F1,G2,m1,k2.trans m2⟩
   |ret=>obtain⟨s2,h2,hO⟩:=hp;obtain⟨G2,m1,m2⟩:=dD (keep:=keep.map λl=>(l.2,l.2)) k1 (by cases keep<;>exact h2);exact hK _ s2 a1 w1 hO ⟨F1,G2,m1,k2.trans m2⟩
 exact wpIn_loop_rounds (n+1) (key (n+1) n s0 (by omega) hI F G0 w a g1 λe s' a' w' hO hP=>hK e s' a' w' hO (fh.trans g2 hP))
variable{kp:tq}
theorem eC{nx:S->Option Nat->P->K S}(xh: ∀s dst p ae,nx s dst p ae->kP Q s dst p ae){HN:List (FuncId×cR)}(oh: ∀f h,lk HN f=some h->xi Q T.w0 f h){kf:KF}(eE:oO kf (dh Q kp))(hX:cL Q T.w0 kp.X)(hdr:Q.follows .mixedOrders=true){kp1:Nat->Option (List Nat×List Nat)}{hk:List (Nat×(S->K (PX×S)))}{dc:Nat->Nat}: ∀(c:Code),bE dc c=true->
  (∀d∈ax c,∀h,lk hk (Code.lB d)=some h-> ∀s ae,h s ae->TW Q T (.loop d) s ae)->(∀x∈bw c,∀h,lk hk (500000+x.id)=some h-> ∀s ae,h s ae->TW Q T x.code s ae)-> ∀(s:S) (ae:PX×S->Prop),cN nx Q kf HN kp1 hk dc c s ae->TW Q T c s ae
 | .skip,_,_,_,s,ae,hp=>λr pJ F G w a Q' hs hK=>wpIn_skip (hK .normal s a w hp ⟨F,G,hs,Ext.refl _ _ _⟩)
 | .label _,_,_,_,s,ae,hp=>λr pJ F G w a Q' hs hK=>wpIn_label (hK .normal s a w hp ⟨F,G,hs,Ext.refl _ _ _⟩)
 | .region id ops draw,hl,_,_,s,ae,hp=>by
  have fG: ∀a b,cL Q T.w0 (dh Q kp a b):=λa b=>mQ hX hdr b;unfold cN at hp;cases draw with
  |true=>obtain⟨s1,h1,hp⟩:=qx eE (zab (by simpa [bE] using hl)) _ hp;obtain⟨i,j,h1⟩:=h1.some;exact TW.uC (kp:=kp1) (lf:=0) (fG i j) hdr (x:=(.normal,s1)) (by grind [aS]) hp
  |false=>
   simp only[zar,za3] at hp;split at hp
   ·exact λr pJ F G w a Q' hs hK=>wpIn_region_list (by simpa using jz xh oh eE fG ops.toList [] F G w a s (fT.nil s) hs hp λs' a' w' km hP=>hK .normal s' a' w' km hP)
   obtain⟨s1,h1,hp⟩:=jv eE _ [] _ (fT.nil _) _ hp;obtain⟨i,j,h1⟩:=h1.some;exact TW.uC (kp:=kp1) (lf:=0) (fG i j) hdr (x:=(.normal,s1)) (by grind [aS]) hp
 | .seq x y,hl,hh,hr,s,ae,hp=>by
  unfold cN at hp;have xg:bE dc x=true/\bE dc y=true:=by simpa [bE] using hl
  refine TW.seq (eC xh oh eE hX hdr x xg.1 (λd hd=>hh d (by simp[ax,hd])) (λx hx=>hr x (by simp[bw,hx])) s _ hp) (λs1 h1=>eC xh oh eE hX hdr y xg.2 (λd hd=>hh d (by simp[ax,hd])) (λx hx=>hr x (by simp[bw,hx])) s1 ae h1) λe s1 he h1=> ?_;cases e with
  |normal=>grind
  |exit id=>exact h1
  |ret=>exact h1
 | .cond c x y,hl,hh,hr,s,ae,hp=>by
  unfold cN at hp;have xg:bE dc x=true/\bE dc y=true:=by simpa [bE] using hl
  have IG: ∃b,s.ev c= .d (.bool b):=by
   cases hb:s.ev c with
   |d x=>
    cases x with
    |bool b=>simp
    |_=>simp only[hb] at hp;exact hp.elim
   |_=>simp only[hb] at hp;exact hp.elim
  obtain⟨b,hb⟩:=IG;simp only[hb] at hp;refine TW.cond hb ?_;cases b with
  |true=>exact eC xh oh eE hX hdr x xg.1 (λd hd=>hh d (by simp[ax,hd])) (λx hx=>hr x (by simp[bw,hx])) s ae hp
  |false=>exact eC xh oh eE hX hdr y xg.2 (λd hd=>hh d (by simp[ax,hd])) (λx hx=>hr x (by simp[bw,hx])) s ae hp
 | .block id c,hl,hh,hr,s,ae,hp=>by
  unfold cN at hp;refine TW.block (eC xh oh eE hX hdr c hl (λd hd=>hh d (by simpa [ax] using hd)) (λx hx=>hr x (by simpa [bw] using hx)) s _ hp) λe s1 h1=> ?_;cases e with
  |normal=>exact h1
  |ret=>exact h1
  |exit kl=>
   simp only at h1⊢;split
   next h=>rw[zat h] at h1;exact h1
   rename_i h;rw[zaB h] at h1;exact h1
 | .loop c,hl,hh,hr,s,ae,hp=>by
  cases Ff:lk hk (Code.lB c) with
  |some h=>simp_all [cN,ax]
  |none=>simp only[cN,Ff] at hp;exact hp.elim
 | .scope c,hl,hh,hr,s,ae,hp=>by unfold cN at hp;exact TW.scope (eC xh oh eE hX hdr c hl (λd hd=>hh d (by simpa [ax] using hd)) (λx hx=>hr x (by simpa [bw] using hx)) s ae hp)
 | .exit id,_,_,_,s,ae,hp=>λr pJ F G w a Q' hs hK=>wpIn_exit (hK (.exit id) s a w hp ⟨F,G,hs,Ext.refl _ _ _⟩)
 | .ret,_,_,_,s,ae,hp=>λr pJ F G w a Q' hs hK=>wpIn_ret (hK .ret s a w hp ⟨F,G,hs,Ext.refl _ _ _⟩)
 | .rangeFunc g ps a b,_,_,hr,s,ae,hp=>by
  cases Ff:lk hk (500000+Code.lB b) with
  |some h=>simp only[cN,Ff] at hp;exact hr ⟨g,ps,a,b⟩ (by simp[bw]) h Ff s ae hp
  |none=>simp only[cN,Ff] at hp;exact hp.elim
 | .goto _,_,_,_,s,ae,hp=>by unfold cN at hp;exact hp.elim
 | .refuse _,_,_,_,s,ae,hp=>by unfold cN at hp;exact hp.elim
theorem TW.Dj(hX:cL Q T.w0 kp.X)(hdr:Q.follows .mixedOrders=true){kp1:Nat->Option (List Nat×List Nat)}{c:Code}{x:PX×S}(h:Ev λa b=>eK (aS Q (dh Q kp a b) kp1 a c) (kp1 (Code.lB c)) a s=some x){ae:PX×S->Prop}(hp:ae x):TW Q T (.loop c) s ae:=by obtain⟨i,j,h⟩:=h.some;exact TW.uC (kp:=kp1) (lf:=i) (mQ (kp:=kp) (lf:=i) hX hdr j) hdr (x:=x) (by grind [aS]) hp
def sS(nx:S->Option Nat->P->K S)(Q:Program)(kf:KF)(HN:List (FuncId×cR))(kp:tq)(hk:List (Nat×(S->K (PX×S))))(dc:FuncId->Nat->Nat):KF:=λf ps R=>
 match Q.funcs[f]? with
 |none=>K.fail
 |some fn=>match fn.body with
  |none=>K.fail
  |some c=>if fn.name== "runtime.NumGoroutine" then K.fail else
   K.bind (cN nx Q kf HN (kp f) hk (dc f) c ⟨fn.ntmps,dB 0 (gF (kp f 999999) Q fn.params.toList ps),R⟩) λx=>match x.1 with
    | .exit _=>K.fail
    |_=>match bW Q x.2 fn.results.toList with
     |some qs=>tE Q R.length fn.resultTypes.toList qs x.2
     |none=>K.fail
theorem xi.P1{nx:S->Option Nat->P->K S}(xh: ∀s dst p ae,nx s dst p ae->kP Q s dst p ae){w0:World}{HN:List (FuncId×cR)}(oh: ∀f h,lk HN f=some h->xi Q w0 f h){h:cR}{f:FuncId}{kf:KF}{dc:FuncId->Nat->Nat}{hk:List (Nat×(S->K (PX×S)))}(eE:oO kf (dh Q kp))(hX:cL Q w0 kp.X)(hdr:Q.follows .mixedOrders=true)(yr:iC dc 0 Q.funcs.toList=true)(hu:uniq Q f=true)(II:qG Q f=true)
  (hl: ∀id h,id<500000->lk hk id=some h-> ∀(val:Nat->Value) (lo:Nat) s ae,h s ae->TW Q ⟨val,w0,lo,true⟩ (.loop (bA Q f id)) s ae)
  (M1: ∀id h,lk hk (500000+id)=some h-> ∀(val:Nat->Value) (lo:Nat) s ae,h s ae->TW Q ⟨val,w0,lo,true⟩ (Df Q f id).code s ae)
  (hb: ∀ps R ae,h ps R ae->sS nx Q kf HN kp hk dc f ps R ae):xi Q w0 f h:=by
 intro ps R ae hr F G w vs hH hlen hv;have hb:=hb ps R ae hr;cases fg:Q.funcs[f]? with
 |none=>simp only[sS,fg] at hb;exact hb.elim
 |some fn=>
  cases hc:fn.body with
  |none=>simp only[sS,fg,hc] at hb;exact hb.elim
  |some c=>
   cases iY:(fn.name== "runtime.NumGoroutine") with
   |true=>simp only[sS,fg,hc,iY,zaT] at hb;exact hb.elim
   |false=>
    simp only[sS,fg,hc,iY,zar,za3] at hb;left;refine⟨by simp[callFunc,fg,hc];grind,?_⟩;refine gV fg hc ?_;have Lj:vs.length=(gF (kp f 999999) Q fn.params.toList ps).length:=by rw[qC];exact hlen
    have B7:=sP (Q:=Q) (kp f 999999) fn.params.toList ps vs hv;have qD:aq Q ⟨G,w0,w.heap.size,true⟩ F G w {tmps:=(⟨vs⟩:Array Value)++Array.replicate (fn.ntmps-(⟨vs⟩:Array Value).size) undef,defers:=[]} ⟨fn.ntmps,dB 0 (gF (kp f 999999) Q fn.params.toList ps),R⟩:=by refine(aL.lo hH (zae _)).state rfl .nil (by simp;omega) (λt p hp=> ?_);obtain⟨_,h2⟩:=jy _ 0 t p hp;grind [cK,bt.of]
    have M3:=eC (T:=⟨G,w0,w.heap.size,true⟩) xh oh eE hX hdr (kp1:=kp f) c (gu yr f fn c fg hc) (λd hd h hh s ae hp=>by
     have e:bA Q f (Code.lB d)=d:=by grind [uniq,bA,iq,cS]
     have:=hl _ h (A2 II fg hc hd) hh G w.heap.size s ae hp;rwa [e] at this) (λx hx h hh s ae hp=>by
     have:=M1 _ h hh G w.heap.size s ae hp;rwa [Ft II fg hc hx] at this) _ _ hb
    refine M3 (r:=none) (λ_=>rfl) F G w _ _ qD λe s1 a' w' hp hP=> ?_;obtain⟨F',G',h1,h2⟩:=hP;have fin: ∀qs (y:P×List (Nat×En)),bW Q s1 fn.results.toList=some qs->finish Q R.length fn.resultTypes.toList qs s1=some y->ae y->
      LeavesInM Fence.wide 0 Q fn a'.tmps (λe w'=> ∃v2,e= .returned v2/\ ∃y:P×List (Nat×En),ae y/\ ∃F' G',aL Q ⟨G,w0,0,false⟩ F' G' w' y.2/\ao F' w' G' y.2 v2 y.1/\Ext (Own G R) (Own G' y.2) F F' w w') a'.defers .returning w':=by
     intro qs y hq yZ eB;refine qB (T:=⟨G,w0,w.heap.size,true⟩) (own0:=Own G R) (F0:=F) (w1:=w) (zae _) (λw2 h3 h4=> ?_) a'.defers w' h1 h2;obtain⟨us,g1,g2,g3⟩:=l5 h3 hq;obtain⟨F2,G2,k1,k2,k3⟩:=sO h3 yZ g2 g3;exact⟨_,g1,_,rfl,y,eB,F2,G2,k1.lo,k2,h4.trans k3⟩
    have P2:e≠ .normal->e≠ .ret->False:=λh1 h2=>by
     cases e with
     |normal=>exact h1 rfl
     |ret=>exact h2 rfl
     |exit id=>exact hp
    have hq: ∃qs y,bW Q s1 fn.results.toList=some qs/\finish Q R.length fn.resultTypes.toList qs s1=some y/\ae y:=by
     cases e with
     |exit id=>grind
     |normal=>
      cases hq:bW Q s1 fn.results.toList with
      |none=>simp only[hq] at hp;exact hp.elim
      |some qs=>simp only[hq] at hp;obtain⟨y,hy,M4⟩:=KW.cg (p:=λy=>finish Q R.length fn.resultTypes.toList qs s1=some y) (λ_ h=>h) _ hp;grind
     |ret=>
      cases hq:bW Q s1 fn.results.toList with
      |none=>simp only[hq] at hp;exact hp.elim
      |some qs=>simp only[hq] at hp;obtain⟨y,hy,M4⟩:=KW.cg (p:=λy=>finish Q R.length fn.resultTypes.toList qs s1=some y) (λ_ h=>h) _ hp;grind
    obtain⟨qs,y,hq,yZ,M4⟩:=hq;have:=fin qs y hq yZ M4;cases e with
    |normal=>exact this
    |ret=>exact this
    |exit id=>grind
abbrev Dk(Q:Program):=cN (kP Q) Q
abbrev Gw(Q:Program):=sS (kP Q) Q
theorem A3{HN:List (FuncId×cR)}(oh: ∀f h,lk HN f=some h->xi Q T.w0 f h){kf:KF}(eE:oO kf (dh Q kp))(hX:cL Q T.w0 kp.X)(hdr:Q.follows .mixedOrders=true){kp1:Nat->Option (List Nat×List Nat)}{hk:List (Nat×(S->K (PX×S)))}{dc:Nat->Nat}(c:Code)(hl:bE dc c=true)
  (hh: ∀d∈ax c,∀h,lk hk (Code.lB d)=some h-> ∀s ae,h s ae->TW Q T (.loop d) s ae) (hr: ∀x∈bw c,∀h,lk hk (500000+x.id)=some h-> ∀s ae,h s ae->TW Q T x.code s ae) (s:S) (ae:PX×S->Prop) (hp:Dk Q kf HN kp1 hk dc c s ae):TW Q T c s ae:=
 eC (λ_ _ _ _ h=>h) oh eE hX hdr c hl hh hr s ae hp
theorem xi.mk{w0:World}{HN:List (FuncId×cR)}(oh: ∀f h,lk HN f=some h->xi Q w0 f h){h:cR}{f:FuncId}{kf:KF}{dc:FuncId->Nat->Nat}{hk:List (Nat×(S->K (PX×S)))}(eE:oO kf (dh Q kp))(hX:cL Q w0 kp.X)(hdr:Q.follows .mixedOrders=true)(yr:iC dc 0 Q.funcs.toList=true)(hu:uniq Q f=true)(II:qG Q f=true)
 (hl: ∀id h,id<500000->lk hk id=some h-> ∀(val:Nat->Value) (lo:Nat) s ae,h s ae->TW Q ⟨val,w0,lo,true⟩ (.loop (bA Q f id)) s ae)
 (M1: ∀id h,lk hk (500000+id)=some h-> ∀(val:Nat->Value) (lo:Nat) s ae,h s ae->TW Q ⟨val,w0,lo,true⟩ (Df Q f id).code s ae)
 (hb: ∀ps R ae,h ps R ae->Gw Q kf HN kp hk dc f ps R ae):xi Q w0 f h:=xi.P1 (nx:=kP Q) (λ_ _ _ _ h=>h) oh eE hX hdr yr hu II hl M1 hb
theorem Fq.Lz{w0:World}{g:TF}{f:FuncId}{h:cR}(hN:xi Q w0 f h)(hg: ∀ps R y,g ps R=some y->h ps R (λz=>z=y)):Fq Q w0 f g:=by intro _ ps R p R1 hr F G w vs hH hlen hv;refine(hN ps R _ (hg ps R (p,R1) hr) F G w vs hH hlen hv).mono λv w' ⟨y,hy,F',G',h1,h2,h3⟩=>by grind
end
end Pi
