/- The text PiT. -/
import Derived.Test.YtngoddkencoalaaGreatDoorEbp
namespace Pi
open Go
def TW(Q:Program)(T:Tg)(c:Code)(s:S)(ae:PX×S->Prop):Prop:=
 ∀ ⦃r:Option Nat⦄(_:T.PY=true->r=none) (F:Nat->Prop) (G:Nat->Value) (w:World) (a:Act) (Q':Exit->Act->World->Prop),aG Q T F G w a s->(∀e s' a' w',ae (e,s')->iY Q T F G w s s' a' w'->Q' e.fB a' w')->c.wpIn (wd r) 0 Q Q' a w
def BT(Q:Program)(s:S)(dst:Option Nat)(p:P):K S:=
 match p with
 | .ref n v 0=>match s.obj n v with
  |some (.iter kt vt left _)=>λae=>
   (∀k x,left k=some x->K.bind (CI Q kt k) (λk=>K.bind (CI Q vt x) λx=>K.dW ((s.setObj n (.iter kt vt (EY k left) (some (k,x)))).put dst (.cT [.d (.bool true),.d k,.d x]))) ae)/\
   ((∀k,left k=none)->K.dW (s.put dst (.cT [.d (.bool false)])) ae)
  |_=>K.fail
 |_=>K.fail
def p7(o:Oper):Option Operand:=match o.op with | .next it false=>if o.guard.isNone then some it else none |_=>none
def kfN(HN:List (FuncId×bm)):KF:=λf=>match lk HN f with |some h=>h |none=>λ_ _=>K.fail
def Lc(HN:List (FuncId×bm))(s:S)(o:Oper):Option (P×List P):=
 match gG o with
 |some (f,xs)=>match s.eg none f with
  | .fn kP cP=>if(lk HN kP).isSome&&o.guard.isNone then some (.fn kP cP,xs.map (s.eg none)) else none
  |_=>none
 |none=>none
def eK(Q:Program)(cf:KF)(HN:List (FuncId×bm))(ops:List Oper):List Oper->List (Nat×Bool)->S->K S
 | [],_,s=>K.ret s
 |o::r,kn,s=>match p7 o with
  |some it=>K.bind (BT Q s o.dst ((s.ev it).under none)) λs1=>s1.force λs1=>eK Q cf HN ops r [] s1
  |none=>match Lc HN s o with
   |some (f,xs)=>K.bind (rC Q (kfN HN) s o.dst f xs) λs1=>s1.force λs1=>eK Q cf HN ops r [] s1
   |none=>K.bind (Bn Q cf ops kn s o) λx=>x.1.force λs1=>eK Q cf HN ops r x.2 s1
def hasNext:List Oper->Bool
 | []=>false
 |o::r=>(p7 o).isSome ||hasNext r
def dD(Q:Program)(kf:KF)(HN:List (FuncId×bm))(kp:Nat->Option (List Nat×List Nat))(hk:List (Nat×(S->K (PX×S))))(dc:Nat->Nat):Code->S->K (PX×S)
 | .skip,s=>K.ret (.normal,s)
 | .label _,s=>K.ret (.normal,s)
 | .region id ops draw,s=>K.bind (if draw then E4 Q kf ops.toList (dc id) s else if hasNext ops.toList || !HN.isEmpty then eK Q kf HN ops.toList ops.toList [] s else me Q kf ops.toList ops.toList [] s) λs1=>K.ret (.normal,s1)
 | .seq a b,s=>K.bind (dD Q kf HN kp hk dc a s) λx=>match x.1 with
  | .normal=>dD Q kf HN kp hk dc b x.2
  |_=>K.ret x
 | .cond c x y,s=>match s.ev c with
  | .d (.bool b)=>K.bind (K.dec b) λr=>if r then dD Q kf HN kp hk dc x s else dD Q kf HN kp hk dc y s
  |_=>K.fail
 | .block id c,s=>K.bind (dD Q kf HN kp hk dc c s) λx=>match x.1 with
  | .exit pG=>if Nat.beq pG id then K.ret (.normal,x.2) else K.ret x
  |_=>K.ret x
 | .loop c,s=>match lk hk (Code.sV c) with
  |some h=>h s
  |none=>K.fail
 | .scope c,s=>dD Q kf HN kp hk dc c s
 | .exit id,s=>K.ret (.exit id,s)
 | .ret,s=>K.ret (.ret,s)
 | .rangeFunc _ _ _ b,s=>match lk hk (500000+Code.sV b) with
  |some h=>h s
  |none=>K.fail
 |_,_=>K.fail
structure RF where
 g:Operand
 ps:Array Tmp
 asg:Code
 body:Code
def RF.code(x:RF):Code:= .rangeFunc x.g x.ps x.asg x.body
def bV:Code->List RF
 | .seq a b=>bV a++bV b
 | .cond _ a b=>bV a++bV b
 | .block _ c | .scope c | .loop c=>bV c
 | .rangeFunc g ps a b=>[⟨g,ps,a,b⟩]
 |_=>[]
def RF.id(x:RF):Nat:=Code.sV x.body
def Dv(id:Nat):List RF->Option RF
 | []=>none
 |x::r=>if Nat.beq x.id id then some x else Dv id r
def nw(Q:Program)(f:FuncId)(id:Nat):RF:=
 match Q.funcs[f]? with
 |some fn=>(match fn.body with |some c=>(Dv id (bV c)).getD ⟨.const undef, #[],.skip,.skip⟩|none=>⟨.const undef, #[],.skip,.skip⟩)
 |none=>⟨.const undef, #[],.skip,.skip⟩
def BU(Q:Program)(f:FuncId):Bool:=
 match Q.funcs[f]? with
 |some fn=>(match fn.body with |some c=>ep ((bV c).map RF.id)&&(aS c).all λd=>Nat.blt (Code.sV d) 500000 |none=>true)
 |none=>true
theorem BV{d:RF}: ∀(l:List RF),(l.map RF.id).Nodup->d∈l->Dv d.id l=some d
 | [],_,h=>by simp at h
 |c::r,hn,h=>by
  obtain⟨hn1,Mz⟩:=za7.1 hn;unfold Dv;rcases zaw.1 h with rfl |h
  ·simp
  have: ¬c.id=d.id:=λe=>hn1 (e▸za6 h);rw[zal (by simpa using this)];exact BV r Mz h
theorem Xq{Q:Program}{f:FuncId}{fn:Func}{c:Code}{x:RF}(hu:BU Q f=true)(gj:Q.funcs[f]?=some fn)(hc:fn.body=some c)(hx:x∈bV c):nw Q f x.id=x:=by grind [BU,nw,BV,dM]
theorem Nq{Q:Program}{f:FuncId}{fn:Func}{c:Code}{d:Code}(hu:BU Q f=true)(gj:Q.funcs[f]?=some fn)(hc:fn.body=some c)(hd:d∈aS c):Code.sV d<500000:=by simp_all [BU,zab,zbl,Nat.blt_eq]
section
variable{Q:Program}{T:Tg}{F:Nat->Prop}{G:Nat->Value}{w:World}{a:Act}{s:S}{r:Option Nat}
theorem TW.mono{c:Code}{p q:PX×S->Prop}(h:TW Q T c s p)(Qj: ∀x,p x->q x):TW Q T c s q:=λ_ uA F G w a Q' hs hK=>h uA F G w a Q' hs λe s' a' w' hp=>hK e s' a' w' (Qj _ hp)
theorem TW.of_run{kp:Nat->Option (List Nat×List Nat)}{cf:CF}{lf:Nat}(jC:dC Q T.w0 cf)(hdr:Q.follows .mixedOrders=true){c:Code}{x:PX×S}(h:bE Q cf kp lf c s=some x){ae:PX×S->Prop}(hp:ae x):TW Q T c s ae:=
 λ_ _ F G w a Q' hs hK=>fC jC hdr c s x.1 x.2 h F G w a Q' hs λa' w' hP=>hK x.1 x.2 a' w' hp hP
theorem Gb{r m since last:Nat}{seen:Array Nat}{es:Array MapEntry}{clock:Nat}(ty:TypeId)(hr:w.heap[r]?=some (.mapIter (some m) since seen last))(hm:w.heap[m]?=some (.map es clock))(hold: ∀x∈es.toList,x.born<since)(KY:since<=last):
  ((∀x∈es.toList,seen.contains x.born=true)/\(Instr.next (.pointer (some ⟨r,0,none⟩)) false ty).run Q w= .ok (.tuple #[.bool false]) w)\/
  ∃e∈es.toList,seen.contains e.born=false/\ ∃w1:World,(w1=w\/w1={w with drawn:=w.drawn+1})/\(Instr.next (.pointer (some ⟨r,0,none⟩)) false ty).run Q w= .ok (.tuple #[.bool true,e.key,e.val]) {w1 with heap:=w1.heap.setIfInBounds r (.mapIter (some m) since (seen.push e.born) clock)}:=by
 have bX:(!seen.isEmpty&& !es.isEmpty&&es.all λx=>decide (x.born>=last))=false:=by
  cases he:es.isEmpty with
  |true=>simp
  |false=>
   have h0:0<es.size:=by grind
   have:es.all (λx=>decide (x.born>=last))=false:=by grind
   rw[this,zca]
 have e1:(es.filter λe=> !seen.contains e.born).filter (λx=>decide (x.born<since))=es.filter λe=> !seen.contains e.born:=Array.filter_eq_self.2 λx hx=>by have:=hold x (by grind);grind
 have e2:(es.filter λe=> !seen.contains e.born).filter (λx=>decide (x.born>=since))= #[]:=by rw[Array.filter_eq_empty_iff];grind
 have mem: ∀x,x∈(es.filter λe=> !seen.contains e.born)↔x∈es.toList/\seen.contains x.born=false:=λx=>by simp
 simp only[Instr.next,getObj,Sem.run_bind,Sem.run,hr,hm,Result.andThen,bX,zaz,zbk,e1,e2,Array.append_empty];generalize (es.filter λe=> !seen.contains e.born)=L at mem⊢;by_cases h0:L.size=0
 ·have:L= #[]:=Array.eq_empty_of_size_eq_zero h0;subst this;refine .inl ⟨λx hx=> ?_,?_⟩
  ·grind
  simp[choose,Sem.run,Question.forced]
 have dP:L.isEmpty=false:=by grind
 have hch: ∃(j:Nat) (w1:World),j<L.size/\(w1=w\/w1={w with drawn:=w.drawn+1})/\(choose (Question.mapNext L.size)).run Q w= .ok j w1:=by
  by_cases hf:L.size<=1
  ·exact⟨0,w,by omega,.inl rfl,by simp[choose,Sem.run,Question.forced,hf]⟩
  refine⟨w.tape w.drawn (.mapNext L.size)%L.size,{w with drawn:=w.drawn+1},zcV _ (by omega),.inr rfl,?_⟩;simp only[choose,Sem.run,Question.forced,zai,hf,zbk,Question.cut]
 obtain⟨j,w1,hj,K5,cc⟩:=hch;obtain⟨m1,m2⟩:=(mem L[j]).1 (by simp);refine .inr ⟨L[j],m1,m2,w1,K5,?_⟩;have hr1:w1.heap[r]?=some (.mapIter (some m) since seen last):=by rcases K5 with rfl |rfl<;>exact hr
 have jY:(setObj r (.mapIter (some m) since (seen.push L[j].born) clock)).run Q w1= .ok () {w1 with heap:=w1.heap.setIfInBounds r (.mapIter (some m) since (seen.push L[j].born) clock)}:=by simp[setObj,Sem.run,hr1]
 simp_all
theorem Ld(h:aG Q T F G w a s){o:Oper}{it:Operand}(ho:p7 o=some it){ae:S->Prop}(hp:BT Q s o.dst ((s.ev it).under none) ae){K:Act->World->Prop}{Q':Exit->Act->World->Prop}
  (hK: ∀s' a' w',ae s'->iY Q T F G w s s' a' w'->K a' w'):o.wpIn (wd r) 0 Q a w K Q':=by
 have tE:o.op= .next it false:=by grind [p7]
 have hv:=a7 h (g:=none) trivial it;unfold S.eg at hv;generalize (s.ev it).under none=p at hv hp;have hnx: ∃n aZ kt vt left cur,p= .ref n aZ 0/\s.obj n aZ=some (.iter kt vt left cur):=by
  cases p with
  |ref n aZ off=>
   cases off with
   |succ off=>exact hp.elim
   |zero=>
    cases hob:s.obj n aZ with
    |none=>simp only[BT,hob] at hp;exact hp.elim
    |some o=>
     cases o with
     |iter kt vt left cur=>grind
     |_=>simp only[BT,hob] at hp;exact hp.elim
  |_=>exact hp.elim
 obtain⟨n,aZ,kt,vt,left,cur,rfl,hob⟩:=hnx;simp only[BT,hob] at hp;obtain⟨p1,p2⟩:=hp;obtain⟨e,he,dY,ca⟩:=S.bM hob;have hO:=h.rg n e he;rw[ca] at hO;obtain⟨b,mo,since,seen,last,hg,hh,hO⟩:=hO;have hval:a.eval it= .pointer (some ⟨b,0,none⟩):=by
  generalize a.eval it=v at hv;cases hv with
  |ref _ _ _ _ hr h1=>obtain⟨b',HJ,rfl⟩:=hr.at he dY (by rw[ca];rfl);rw[hg] at HJ;rw[HJ]
 have over:(∀k,left k=none)->(Instr.next (.pointer (some ⟨b,0,none⟩)) false o.type).run Q w= .ok (.tuple #[.bool false]) w->o.wpIn (wd r) 0 Q a w K Q':=λh0 cc=>by
  obtain⟨s1,sX,e7⟩:=KW.dW (p:=λs1=>s.put o.dst (.cT [.d (.bool false)])=some s1) (λ_ h=>h) _ (p2 h0);obtain⟨c1,c2⟩:=cD h sX (v:= .tuple #[.bool false]) (cB.of (.cT [.bool false] [.d (.bool false)] rfl λi v c hv hc=>by
   cases i with
   |zero=>simp at hv hc;subst hv;subst hc;exact .d (.bool false)
   |succ i=>simp at hv))
  refine uT (λc hc=>by rw[tE] at hc;cases hc) (v:= .tuple #[.bool false]) (w':=w) (.inl (by simp[execOp,tE,hval,cc])) (hK s1 _ _ e7 ⟨F,G,c1,?_⟩);rw[c2];exact Ext.refl _ _ _
 rcases hO with⟨rfl,h0,_⟩| ⟨m,es,rfl,hF,hm,Qf,hI,hc⟩
 ·exact over h0 (by simp[Instr.next,getObj,Sem.run_bind,Sem.run,hh])
 subst Qf;have hold: ∀x∈es.toList,x.born<last:=by obtain⟨ks,_,_,_,h5,_⟩:=hI;exact h5
 rcases Gb (Q:=Q) o.type hh hm hold (zak _) with⟨h0,cc⟩| ⟨en,C4,Rj,w1,K5,cc⟩
 ·exact over (hI.over h0) cc
 have Rj:en∈es.toList/\seen.contains en.born=false:=⟨C4,Rj⟩
 obtain⟨k,x,hk,xW,hx,hI2⟩:=hI.next Rj.1 Rj.2;obtain⟨k',rfl,O9⟩:=n0 Q kt k _ (p1 k x hk);obtain⟨x',rfl,hp3⟩:=n0 Q vt x _ O9;obtain⟨s1,sX,e7⟩:=KW.dW (p:=λs1=>(s.setObj n (.iter kt vt (EY k left) (some (k,x)))).put o.dst (.cT [.d (.bool true),.d k,.d x])=some s1) (λ_ h=>h) _ hp3;have hw1:w1.heap=w.heap/\w1.os=w.os/\w1.tape=w.tape/\w1.output=w.output:=by rcases K5 with rfl |rfl<;>exact⟨rfl,rfl,rfl,rfl⟩
 have wO:b<w.heap.size:=(zar.1 hh).1;have gb:bL (G n) e.obj=some b:=by rw[ca,hg];rfl
 have dP:m≠b:=λhmb=>by grind
 have gB: ∀b0,b0≠b->(w.heap.setIfInBounds b (.mapIter (some m) last (seen.push en.born) last))[b0]?=w.heap[b0]?:=λb0 dP=>zaZ (zbD dP);have ye:(w.heap.setIfInBounds b (.mapIter (some m) last (seen.push en.born) last))[b]?=some (.mapIter (some m) last (seen.push en.born) last):=by rw[zbw wO]
 have C3: ∀b0,F b0->b0≠b:=λb0 hf e0=>by subst e0;exact h.mU n e b0 he gb hf
 rw[S.ft he] at sX;have qi2:w.drawn<=w1.drawn:=by grind
 obtain⟨d1,d2⟩:=h.nL (n:=n) (e1:=⟨e.aZ,e.tag,.iter kt vt (EY k left) (some (k,x))⟩) (g1:=G n) (w':={w1 with heap:=w.heap.setIfInBounds b (.mapIter (some m) last (seen.push en.born) last)}) (hdr:=qi2)
  (λe' cR=>by rw[he] at cR;cases cR;exact .inr ⟨rfl,λ_=>⟨by rw[ca];rfl,rfl⟩⟩)
  (λb0 _ bX=>gB b0 λe0=>by grind) (by simp) hw1.2.1 hw1.2.2.1 hw1.2.2.2
  (λb0 CZ=> .inr ⟨e,he,by rw[ca];exact CZ⟩)
  ⟨b,some m,last,seen.push en.born,last,by rw[cb];exact hg,ye,.inr ⟨m,es,rfl,hF,(gB m dP).trans hm,rfl,hI2.mono (λ_ h=>h) (λb0 hf=>gB b0 (C3 b0 hf)),λk1 x1 hc1=>by obtain⟨rfl,rfl⟩:=hc1;exact⟨en,Rj.1,by simp,xW,hx.mono (λ_ h=>h) (λb0 hf=>gB b0 (C3 b0 hf))⟩⟩⟩
  (λi hi _=>h.tag n e i he hi (by rw[ca];rfl))
 rw[cb] at d1 d2;obtain⟨c1,c2⟩:=cD d1 sX (v:= .tuple #[.bool true,en.key,en.val]) (cB.of (.cT [.bool true,en.key,en.val] _ rfl λi v c hv hc=>by
  match i with
  |0=>simp at hv hc;subst hv;subst hc;exact .d (.bool true)
  |1=>simp at hv hc;subst hv;subst hc;exact .d (bc.Qe _ _ xW)
  |2=>simp at hv hc;subst hv;subst hc;exact .d (hx.mono (λ_ h=>h) (λb0 hf=>gB b0 (C3 b0 hf)))
  |i+3=>simp at hv))
 refine uT (λc hc=>by rw[tE] at hc;cases hc) (v:= .tuple #[.bool true,en.key,en.val]) (w':={w1 with heap:=w.heap.setIfInBounds b (.mapIter (some m) last (seen.push en.born) last)}) (.inl ?_) (hK s1 _ _ e7 ⟨F,G,c1,?_⟩)
 ·simp only[execOp,tE,hval,Sem.run_bind,cc];simp[hw1.1]
 grind
def Rk(Q:Program)(w0:World)(f:FuncId)(h:bm):Prop:=
 ∀ps R ae,h ps R ae-> ∀(F:Nat->Prop) (G:Nat->Value) (w:World) (vs:List Value),fN Q ⟨G,w0,0,false⟩ F G w R->vs.length=ps.length->
  (∀(i:Nat) (v:Value) (c:P),vs[i]?=some v->ps[i]?=some c->aH F w G R v c)->
  kD Q f ⟨vs⟩ w (λv w'=> ∃y:P×List (Nat×En),ae y/\ ∃F' G',fN Q ⟨G,w0,0,false⟩ F' G' w' y.2/\aH F' w' G' y.2 v y.1/\Ext (Own G R) (Own G' y.2) F F' w w')
theorem Rl{HN:List (FuncId×bm)}(oV: ∀f h,lk HN f=some h->Rk Q T.w0 f h)(h:aG Q T F G w a s){dst:Option Nat}{pf:P}{ps:List P}{ae:S->Prop}(hs:rC Q (kfN HN) s dst pf ps ae){fv:Value}{vs:List Value}(hf:aH F w G s.rg fv pf)(hl:vs.length=ps.length)
  (hv: ∀(i:Nat) (v:Value) (c:P),vs[i]?=some v->ps[i]?=some c->aH F w G s.rg v c):
  ∃kP cs,fv= .func (.func kP) #[] ⟨cs⟩/\kD Q kP ⟨vs++cs⟩ w (λv w'=> ∃s',ae s'/\ ∃F' G',aG Q T F' G' w' (a.put dst v) s'/\Ext (Own G s.rg) (Own G' s'.rg) F F' w w'):=by
 cases pf with
 |fn kP cP=>
  cases hf with
  |fn _ cs _ HM jU=>
   refine⟨kP,cs,rfl,?_⟩;cases Fo:cV Q s kP (ps++cP) with
   |none=>simp only[rC,Fo] at hs;exact hs.elim
   |some r=>
    obtain⟨s1,qs⟩:=r;cases kS:ep (reach s1.rg 1000 qs []) with
    |false=>simp only[rC,Fo,kS,zaz,zbk] at hs;exact hs.elim
    |true=>
     cases jZ:sub s1.rg (toPos s1.rg (reach s1.rg 1000 qs [])) true 0 (reach s1.rg 1000 qs []) with
     |none=>simp only[rC,Fo,kS,zba,jZ] at hs;exact hs.elim
     |some R0=>
      simp only[rC,Fo,kS,zba,jZ] at hs;cases hh:lk HN kP with
      |none=>simp only[kfN,hh] at hs;exact hs.elim
      |some AN=>
       simp only[kfN,hh] at hs;have cW: ∀(i:Nat) (v:Value) (c:P),(vs++cs)[i]?=some v->(ps++cP)[i]?=some c->aH F w G s.rg v c:=λi v c h1 h2=>by grind
       obtain⟨F1,a1,a2,a3,a4,a5,a6⟩:=vU (ps++cP) s F s1 qs (vs++cs) h Fo (by grind) cW;obtain⟨b1,b2,b3⟩:=a1.heap.sub jZ kS;have hq:=oV kP AN hh _ R0 _ hs F1 _ w (vs++cs) b1 (by rw[jB];exact a5) (λi v c h1 h2=>by rw[jA] at h2;grind [oa]);refine hq.mono λv w' ⟨⟨p,R1⟩,e7,F2,G2,c1,c2,c3⟩=> ?_;cases W5:(ep (dm R1 (reach R1 1000 (p::fm R1 R1) []))&&Nat.ble (dm R1 (reach R1 1000 (p::fm R1 R1) [])).length 1000) with
       |false=>simp only[W5,zaz,zbk] at e7;exact e7.elim
       |true=>
        simp only[W5,zba] at e7;cases ku:gy R1 (fk R1 s1.rg (reach s1.rg 1000 qs []) (dm R1 (reach R1 1000 (p::fm R1 R1) [])) (site dst*1000)) 0 (reach s1.rg 1000 qs []) s1.rg with
        |none=>simp only[ku] at e7;exact e7.elim
        |some R2=>
         simp only[ku] at e7;cases gl:la R1 (fk R1 s1.rg (reach s1.rg 1000 qs []) (dm R1 (reach R1 1000 (p::fm R1 R1) [])) (site dst*1000)) (site dst*1000) (dm R1 (reach R1 1000 (p::fm R1 R1) [])) R2 with
         |none=>simp only[gl] at e7;exact e7.elim
         |some R3=>simp only[gl] at e7;obtain⟨s',hs',e7⟩:=KW.dW (p:=λs'=>({s1 with rg:=R3}:S).put dst (Bj _ p)=some s') (λ_ h=>h) _ e7;obtain⟨G3,d1,d2,d3⟩:=sd a1 kS (zab _ _▸W5:_/\_).1 jZ c1 c3 (eS R1 _) ku gl;obtain⟨e1,e2⟩:=cD d1 hs' (cB.of (oa d3 c2));refine⟨s',e7,F2,G3,e1,?_⟩;rw[e2];exact a2.trans d2
 |_=>exact hs.elim
theorem Rm{HN:List (FuncId×bm)}(oV: ∀f h,lk HN f=some h->Rk Q T.w0 f h)(h:aG Q T F G w a s){o:Oper}{pf:P}{ps:List P}(ho:Lc HN s o=some (pf,ps)){ae:S->Prop}(hp:rC Q (kfN HN) s o.dst pf ps ae){K:Act->World->Prop}{Q':Exit->Act->World->Prop}
  (hK: ∀s' a' w',ae s'->iY Q T F G w s s' a' w'->K a' w'):o.guard=none/\o.wpIn (wd r) 0 Q a w K Q':=by
 unfold Lc at ho;split at ho
 next f xs hc=>
  split at ho
  next kP cP hfe=>
   split at ho
   ·rename_i fq;refine⟨by simp_all,?_⟩;obtain⟨rfl,rfl⟩:=ho;unfold gG at hc;split at hc
    ·rename_i c tE;split at hc
     ·rename_i f' lv;simp at hc;obtain⟨rfl,rfl⟩:=hc;obtain⟨qi3,cs,hfv,bt⟩:=Rl oV h hp (by rw[<-hfe];exact a7 h (g:=none) trivial f') (vs:=c.args.toList.map a.eval) (by simp) (λi v p hv hp=>by rw[zaK] at hv hp;simp only[zax] at hv hp;obtain⟨x,hx,rfl⟩:=hv;obtain⟨y,hy,rfl⟩:=hp;rw[hx] at hy;cases hy;exact a7 h (g:=none) trivial x);have cc:(execOp a.eval o).run Q w=(callFunc qi3 ⟨c.args.toList.map a.eval++cs⟩).run Q w:=by
       have e:(c.args.map a.eval)++(⟨cs⟩:Array Value)=⟨c.args.toList.map a.eval++cs⟩:=by simp
       simp[execOp,tE,resolve,lv,hfv,Deferred.ofValue,invoke,e]
      refine tJ (λc' rJ=>by rw[tE] at rJ;cases rJ) ?_;rw[cc];rcases bt with⟨h1,h2⟩| ⟨v,w',h1,s',rD,F',G',h2,h3⟩
      ·rw[h1];refine⟨λh=>(by cases h),(yj h2).mono λe w' ⟨v,he,s',rD,F',G',h3,h4⟩=> ?_⟩;subst he;exact hK _ _ _ rD ⟨F',G',h3,h4⟩
      rw[h1];exact hK _ _ _ rD ⟨F',G',h2,h3⟩
     cases hc
    cases hc
   cases ho
  cases ho
 cases ho
theorem oi{HN:List (FuncId×bm)}(oV: ∀f h,lk HN f=some h->Rk Q T.w0 f h){kf:KF}{cf:Nat->Nat->CF}(ic:AO kf cf)(jC: ∀a b,dC Q T.w0 (cf a b)){ops:List Oper}{Q':Exit->Act->World->Prop}{ae:S->Prop}: ∀(l:List Oper) (kn:List (Nat×Bool)) (F:Nat->Prop) (G:Nat->Value) (w:World) (a:Act) (s:S),j8 kn s->aG Q T F G w a s->eK Q kf HN ops l kn s ae->
  (∀s' a' w',ae s'->iY Q T F G w s s' a' w'->Q' .normal a' w')->wpListIn (wd r) 0 Q ops.toArray Q' l a w
 | [],kn,F,G,w,a,s,_,h,hp,hK=>by unfold eK at hp;exact hK s a w hp ⟨F,G,h,Ext.refl _ _ _⟩
 |o::l,kn,F,G,w,a,s,dO,h,hp,hK=>by
  cases ho:p7 o with
  |some it=>
   simp only[eK,ho] at hp;have K0:o.guard=none:=by
    unfold p7 at ho;split at ho
    ·simp_all
    cases ho
   have:o.wpIn (wd r) 0 Q a w (wpListIn (wd r) 0 Q ops.toArray Q' l) Q':=Ld h ho (ae:=λs1=>eK Q kf HN ops l [] s1 ae) (by
    have e:(λs1:S=>s1.force λs1=>eK Q kf HN ops l [] s1)=λs1=>eK Q kf HN ops l [] s1:=by funext s1;rw[S.force_eq]
    rw[e] at hp;exact hp) λs1 a1 w1 uC ⟨F1,G1,g1,g2⟩=>oi oV ic jC l _ F1 G1 w1 a1 s1 (j8.nil s1) g1 uC λs' a' w' rD hP=>hK s' a' w' rD (hP.trans g2)
   exact fy (by rw[zao (by simp[Region.wanted,K0])];exact this)
  |none=>
  cases HM:Lc HN s o with
  |some fx=>
   simp only[eK,ho,HM] at hp;have e:(λs1:S=>s1.force λs1=>eK Q kf HN ops l [] s1)=λs1=>eK Q kf HN ops l [] s1:=by funext s1;rw[S.force_eq]
   rw[e] at hp;obtain⟨K0,this⟩:=Rm (K:=wpListIn (wd r) 0 Q ops.toArray Q' l) (Q':=Q') oV h HM (ae:=λs1=>eK Q kf HN ops l [] s1 ae) hp λs1 a1 w1 uC ⟨F1,G1,g1,g2⟩=>oi oV ic jC l _ F1 G1 w1 a1 s1 (j8.nil s1) g1 uC λs' a' w' rD hP=>hK s' a' w' rD (hP.trans g2);exact fy (by rw[zao (by simp[Region.wanted,K0])];exact this)
  |none=>simp only[eK,ho,HM] at hp;obtain⟨x,⟨hx,hk⟩,uC⟩:=tP ic dO _ hp;rw[S.force_eq] at uC;obtain⟨i,j,hx⟩:=hx.some;have ln:=kT (r:=r) (jC i j) h hx (K:=wpListIn (wd r) 0 Q ops.toArray Q' l) (Q':=Q') (λa' w' ⟨F',G',g1,g2⟩=>oi oV ic jC l _ F' G' w' a' x.1 hk g1 uC (λs' a2 w2 rD hp=>hK s' a2 w2 rD (hp.trans g2)));exact fy ln
theorem TW.seq{x y:Code}{p ae:PX×S->Prop}(h1:TW Q T x s p)(h2: ∀s1,p (.normal,s1)->TW Q T y s1 ae)(h3: ∀e s1,e≠ .normal->p (e,s1)->ae (e,s1)):TW Q T (.seq x y) s ae:=λr uA F G w a Q' hs hK=>by
 refine wpIn_seq (h1 uA F G w a _ hs λe s1 a1 w1 hp hP=> ?_);cases e with
 |normal=>obtain⟨F1,G1,g1,g2⟩:=hP;exact h2 s1 hp uA F1 G1 w1 a1 Q' g1 λe2 s2 a2 w2 O9 hP2=>hK e2 s2 a2 w2 O9 (iY.trans g2 hP2)
 |exit id=>exact hK _ s1 a1 w1 (h3 _ _ (by simp) hp) hP
 |ret=>exact hK _ s1 a1 w1 (h3 _ _ (by simp) hp) hP
theorem TW.cond{c:Operand}{x y:Code}{b:Bool}{ae:PX×S->Prop}(hb:s.ev c= .d (.bool b))(h:TW Q T (if b then x else y) s ae):TW Q T (.cond c x y) s ae:=λr uA F G w a Q' hs hK=>by
 have hv:a.eval c= .bool b:=by have:=xP hs c;rw[hb] at this;exact aH.cG (p:= .d (.bool b)) this rfl
 refine wpIn_cond hv ?_;cases b with
 |true=>exact h uA F G w a Q' hs hK
 |false=>exact h uA F G w a Q' hs hK
theorem TW.block{id:Nat}{c:Code}{p ae:PX×S->Prop}(h:TW Q T c s p)(hp: ∀e s1,p (e,s1)->match e with | .exit pG=>if Nat.beq pG id then ae (.normal,s1) else ae (e,s1)|_=>ae (e,s1)):TW Q T (.block id c) s ae:=λr uA F G w a Q' hs hK=>by
 refine wpIn_block (h uA F G w a _ hs λe s1 a1 w1 uC hP=> ?_);have:=hp e s1 uC;cases e with
 |normal=>exact hK _ s1 a1 w1 this hP
 |ret=>exact hK _ s1 a1 w1 this hP
 |exit pG=>
  simp only at this;split at this
  next hid=>
   have hid:pG=id:=by simpa using hid
   have:=hK _ s1 a1 w1 this hP;simp only[PX.fB,Exit.inBlock,hid,zba];exact this
  rename_i hid;have hid: ¬pG=id:=by simpa using hid
  have:=hK _ s1 a1 w1 this hP;simp only[PX.fB,Exit.inBlock,hid,zbk];exact this
theorem TW.scope{c:Code}{ae:PX×S->Prop}(h:TW Q T c s ae):TW Q T (.scope c) s ae:=λr uA F G w a Q' hs hK=>by refine gf (h uA F G w a _ hs λe s1 a1 w1 hp hP=> ?_);have:=hK e s1 a1 w1 hp hP;cases e<;>simpa [PX.fB,Exit.noGoto] using this
theorem TW.loop{c:Code}{keep:Option (List Nat×List Nat)}{I:Nat->S->Prop}{O:PX×S->Prop}
  (hr: ∀n s,I n s->TW Q T c s (λx=>match x.1 with | .normal=> ∃s2,cA keep x.2=some s2/\ ∃m,m<n/\I m s2 |e=> ∃s2,dJ keep x.2=some s2/\O (e,s2)))
  {n:Nat} {s0:S} (h0:cA keep s=some s0) (hI:I n s0):TW Q T (.loop c) s O:=λr uA F G w a Q' hs hK=>by
 obtain⟨G0,g1,g2⟩:=fP hs h0;have key: ∀(N n:Nat) (s:S),n<N->I n s-> ∀(F:Nat->Prop) (G:Nat->Value) (w:World) (a:Act),aG Q T F G w a s->(∀e s' a' w',O (e,s')->iY Q T F G w s s' a' w'->Q' e.fB a' w')->Code.roundsIn (wd r) 0 Q c Q' N a w:=by
  intro N
  induction N with
  |zero=>simp
  |succ N ih=>
   intro n s hn hI F G w a hs hK;refine hr n s hI uA F G w a _ hs λe s1 a1 w1 hp hP=> ?_;obtain⟨F1,G1,k1,k2⟩:=hP;cases e with
   |normal=>obtain⟨s2,h2,m,hm,hi⟩:=hp;obtain⟨G2,m1,m2⟩:=fP k1 h2;exact ih m s2 (by omega) hi F1 G2 w1 a1 m1 λe s' a' w' hO hP=>hK e s' a' w' hO (iY.trans (k2.trans m2) hP)
   |exit id=>obtain⟨s2,h2,hO⟩:=hp;obtain⟨G2,m1,m2⟩:=fP (keep:=keep.map λl=>(l.2,l.2)) k1 (by cases keep<;>exact h2);exact hK _ s2 a1 w1 hO ⟨F1,G2,m1,k2.trans m2⟩
   |ret=>obtain⟨s2,h2,hO⟩:=hp;obtain⟨G2,m1,m2⟩:=fP (keep:=keep.map λl=>(l.2,l.2)) k1 (by cases keep<;>exact h2);exact hK _ s2 a1 w1 hO ⟨F1,G2,m1,k2.trans m2⟩
 exact wpIn_loop_rounds (n+1) (key (n+1) n s0 (by omega) hI F G0 w a g1 λe s' a' w' hO hP=>hK e s' a' w' hO (iY.trans g2 hP))
variable{kp:qD}
theorem ew{HN:List (FuncId×bm)}(oV: ∀f h,lk HN f=some h->Rk Q T.w0 f h){kf:KF}(ic:AO kf (fo Q kp))(hX:dC Q T.w0 kp.X)(hdr:Q.follows .mixedOrders=true){kp1:Nat->Option (List Nat×List Nat)}{hk:List (Nat×(S->K (PX×S)))}{dc:Nat->Nat}: ∀(c:Code),cd dc c=true->
  (∀d∈aS c,∀h,lk hk (Code.sV d)=some h-> ∀s ae,h s ae->TW Q T (.loop d) s ae)->(∀x∈bV c,∀h,lk hk (500000+x.id)=some h-> ∀s ae,h s ae->TW Q T x.code s ae)-> ∀(s:S) (ae:PX×S->Prop),dD Q kf HN kp1 hk dc c s ae->TW Q T c s ae
 | .skip,_,_,_,s,ae,hp=>λr uA F G w a Q' hs hK=>wpIn_skip (hK .normal s a w hp ⟨F,G,hs,Ext.refl _ _ _⟩)
 | .label _,_,_,_,s,ae,hp=>λr uA F G w a Q' hs hK=>wpIn_label (hK .normal s a w hp ⟨F,G,hs,Ext.refl _ _ _⟩)
 | .region id ops draw,hl,_,_,s,ae,hp=>by
  have jC: ∀a b,dC Q T.w0 (fo Q kp a b):=λa b=>tS hX hdr b;unfold dD at hp;cases draw with
  |true=>obtain⟨s1,h1,hp⟩:=yH ic (zaf (by simpa [cd] using hl)) _ hp;obtain⟨i,j,h1⟩:=h1.some;exact TW.of_run (kp:=kp1) (lf:=0) (jC i j) hdr (x:=(.normal,s1)) (by grind [bE]) hp
  |false=>
   simp only[zaz,zbk] at hp;split at hp
   ·exact λr uA F G w a Q' hs hK=>wpIn_region_list (by simpa using oi oV ic jC ops.toList [] F G w a s (j8.nil s) hs hp λs' a' w' rD hP=>hK .normal s' a' w' rD hP)
   obtain⟨s1,h1,hp⟩:=od ic _ [] _ (j8.nil _) _ hp;obtain⟨i,j,h1⟩:=h1.some;exact TW.of_run (kp:=kp1) (lf:=0) (jC i j) hdr (x:=(.normal,s1)) (by grind [bE]) hp
 | .seq x y,hl,hh,hr,s,ae,hp=>by
  unfold dD at hp;have HP:cd dc x=true/\cd dc y=true:=by simpa [cd] using hl
  refine TW.seq (ew oV ic hX hdr x HP.1 (λd hd=>hh d (by simp[aS,hd])) (λx hx=>hr x (by simp[bV,hx])) s _ hp) (λs1 h1=>ew oV ic hX hdr y HP.2 (λd hd=>hh d (by simp[aS,hd])) (λx hx=>hr x (by simp[bV,hx])) s1 ae h1) λe s1 he h1=> ?_;cases e with
  |normal=>grind
  |exit id=>exact h1
  |ret=>exact h1
 | .cond c x y,hl,hh,hr,s,ae,hp=>by
  unfold dD at hp;have HP:cd dc x=true/\cd dc y=true:=by simpa [cd] using hl
  have hbx: ∃b,s.ev c= .d (.bool b):=by
   cases hb:s.ev c with
   |d x=>
    cases x with
    |bool b=>simp
    |_=>simp only[hb] at hp;exact hp.elim
   |_=>simp only[hb] at hp;exact hp.elim
  obtain⟨b,hb⟩:=hbx;simp only[hb] at hp;refine TW.cond hb ?_;cases b with
  |true=>exact ew oV ic hX hdr x HP.1 (λd hd=>hh d (by simp[aS,hd])) (λx hx=>hr x (by simp[bV,hx])) s ae hp
  |false=>exact ew oV ic hX hdr y HP.2 (λd hd=>hh d (by simp[aS,hd])) (λx hx=>hr x (by simp[bV,hx])) s ae hp
 | .block id c,hl,hh,hr,s,ae,hp=>by
  unfold dD at hp;refine TW.block (ew oV ic hX hdr c hl (λd hd=>hh d (by simpa [aS] using hd)) (λx hx=>hr x (by simpa [bV] using hx)) s _ hp) λe s1 h1=> ?_;cases e with
  |normal=>exact h1
  |ret=>exact h1
  |exit pG=>
   simp only at h1⊢;split
   next h=>rw[zao h] at h1;exact h1
   rename_i h;rw[zal h] at h1;exact h1
 | .loop c,hl,hh,hr,s,ae,hp=>by
  cases Xf:lk hk (Code.sV c) with
  |some h=>simp_all [dD,aS]
  |none=>simp only[dD,Xf] at hp;exact hp.elim
 | .scope c,hl,hh,hr,s,ae,hp=>by unfold dD at hp;exact TW.scope (ew oV ic hX hdr c hl (λd hd=>hh d (by simpa [aS] using hd)) (λx hx=>hr x (by simpa [bV] using hx)) s ae hp)
 | .exit id,_,_,_,s,ae,hp=>λr uA F G w a Q' hs hK=>wpIn_exit (hK (.exit id) s a w hp ⟨F,G,hs,Ext.refl _ _ _⟩)
 | .ret,_,_,_,s,ae,hp=>λr uA F G w a Q' hs hK=>wpIn_ret (hK .ret s a w hp ⟨F,G,hs,Ext.refl _ _ _⟩)
 | .rangeFunc g ps a b,_,_,hr,s,ae,hp=>by
  cases Xf:lk hk (500000+Code.sV b) with
  |some h=>simp only[dD,Xf] at hp;exact hr ⟨g,ps,a,b⟩ (by simp[bV]) h Xf s ae hp
  |none=>simp only[dD,Xf] at hp;exact hp.elim
 | .goto _,_,_,_,s,ae,hp=>by unfold dD at hp;exact hp.elim
 | .refuse _,_,_,_,s,ae,hp=>by unfold dD at hp;exact hp.elim
def BW(Q:Program)(kf:KF)(HN:List (FuncId×bm))(kp:qD)(hk:List (Nat×(S->K (PX×S))))(dc:FuncId->Nat->Nat):KF:=λf ps R=>
 match Q.funcs[f]? with
 |none=>K.fail
 |some fn=>match fn.body with
  |none=>K.fail
  |some c=>if fn.name== "runtime.NumGoroutine" then K.fail else
   K.bind (dD Q kf HN (kp f) hk (dc f) c ⟨fn.ntmps,fK 0 (lj (kp f 999999) Q fn.params.toList ps),R⟩) λx=>match x.1 with
    | .exit _=>K.fail
    |_=>match dn Q x.2 fn.results.toList with
     |some qs=>CN Q R.length fn.resultTypes.toList qs x.2
     |none=>K.fail
theorem Rk.mk{w0:World}{HN:List (FuncId×bm)}(oV: ∀f h,lk HN f=some h->Rk Q w0 f h){h:bm}{f:FuncId}{kf:KF}{dc:FuncId->Nat->Nat}{hk:List (Nat×(S->K (PX×S)))}(ic:AO kf (fo Q kp))(hX:dC Q w0 kp.X)(hdr:Q.follows .mixedOrders=true)(Nf:nX dc 0 Q.funcs.toList=true)(hu:uniq Q f=true)(huR:BU Q f=true)
  (hl: ∀id h,id<500000->lk hk id=some h-> ∀(val:Nat->Value) (lo:Nat) s ae,h s ae->TW Q ⟨val,w0,lo,true⟩ (.loop (bB Q f id)) s ae)
  (hrf: ∀id h,lk hk (500000+id)=some h-> ∀(val:Nat->Value) (lo:Nat) s ae,h s ae->TW Q ⟨val,w0,lo,true⟩ (nw Q f id).code s ae)
  (hb: ∀ps R ae,h ps R ae->BW Q kf HN kp hk dc f ps R ae):Rk Q w0 f h:=by
 intro ps R ae hr F G w vs hH hlen hv;have hb:=hb ps R ae hr;cases gj:Q.funcs[f]? with
 |none=>simp only[BW,gj] at hb;exact hb.elim
 |some fn=>
  cases hc:fn.body with
  |none=>simp only[BW,gj,hc] at hb;exact hb.elim
  |some c=>
   cases jD:(fn.name== "runtime.NumGoroutine") with
   |true=>simp only[BW,gj,hc,jD,zba] at hb;exact hb.elim
   |false=>
    simp only[BW,gj,hc,jD,zaz,zbk] at hb;left;refine⟨by simp[callFunc,gj,hc];grind,?_⟩;refine lB gj hc ?_;have Qn:vs.length=(lj (kp f 999999) Q fn.params.toList ps).length:=by rw[yM];exact hlen
    have KK:=BR (Q:=Q) (kp f 999999) fn.params.toList ps vs hv;have yN:aG Q ⟨G,w0,w.heap.size,true⟩ F G w {tmps:=(⟨vs⟩:Array Value)++Array.replicate (fn.ntmps-(⟨vs⟩:Array Value).size) undef,defers:=[]} ⟨fn.ntmps,fK 0 (lj (kp f 999999) Q fn.params.toList ps),R⟩:=by refine(fN.lo hH (zak _)).state rfl .nil (by simp;omega) (λt p hp=> ?_);obtain⟨_,h2⟩:=og _ 0 t p hp;grind [fM,cB.of]
    have hTW:=ew (T:=⟨G,w0,w.heap.size,true⟩) oV ic hX hdr (kp1:=kp f) c (kU Nf f fn c gj hc) (λd hd h hh s ae hp=>by
     have e:bB Q f (Code.sV d)=d:=by grind [uniq,bB,jF,dM]
     have:=hl _ h (Nq huR gj hc hd) hh G w.heap.size s ae hp;rwa [e] at this) (λx hx h hh s ae hp=>by
     have:=hrf _ h hh G w.heap.size s ae hp;rwa [Xq huR gj hc hx] at this) _ _ hb
    refine hTW (r:=none) (λ_=>rfl) F G w _ _ yN λe s1 a' w' hp hP=> ?_;obtain⟨F',G',h1,h2⟩:=hP;have fin: ∀qs (y:P×List (Nat×En)),dn Q s1 fn.results.toList=some qs->finish Q R.length fn.resultTypes.toList qs s1=some y->ae y->
      LeavesInM Fence.wide 0 Q fn a'.tmps (λe w'=> ∃v2,e= .returned v2/\ ∃y:P×List (Nat×En),ae y/\ ∃F' G',fN Q ⟨G,w0,0,false⟩ F' G' w' y.2/\aH F' w' G' y.2 v2 y.1/\Ext (Own G R) (Own G' y.2) F F' w w') a'.defers .returning w':=by
     intro qs y hq VP e7;refine yL (T:=⟨G,w0,w.heap.size,true⟩) (own0:=Own G R) (F0:=F) (w1:=w) (zak _) (λw2 h3 h4=> ?_) a'.defers w' h1 h2;obtain⟨us,g1,g2,g3⟩:=sr h3 hq;obtain⟨F2,G2,k1,k2,k3⟩:=BQ h3 VP g2 g3;exact⟨_,g1,_,rfl,y,e7,F2,G2,k1.lo,k2,h4.trans k3⟩
    have AT:e≠ .normal->e≠ .ret->False:=λh1 h2=>by
     cases e with
     |normal=>exact h1 rfl
     |ret=>exact h2 rfl
     |exit id=>exact hp
    have hq: ∃qs y,dn Q s1 fn.results.toList=some qs/\finish Q R.length fn.resultTypes.toList qs s1=some y/\ae y:=by
     cases e with
     |exit id=>grind
     |normal=>
      cases hq:dn Q s1 fn.results.toList with
      |none=>simp only[hq] at hp;exact hp.elim
      |some qs=>simp only[hq] at hp;obtain⟨y,hy,hpo⟩:=KW.dW (p:=λy=>finish Q R.length fn.resultTypes.toList qs s1=some y) (λ_ h=>h) _ hp;grind
     |ret=>
      cases hq:dn Q s1 fn.results.toList with
      |none=>simp only[hq] at hp;exact hp.elim
      |some qs=>simp only[hq] at hp;obtain⟨y,hy,hpo⟩:=KW.dW (p:=λy=>finish Q R.length fn.resultTypes.toList qs s1=some y) (λ_ h=>h) _ hp;grind
    obtain⟨qs,y,hq,VP,hpo⟩:=hq;have:=fin qs y hq VP hpo;cases e with
    |normal=>exact this
    |ret=>exact this
    |exit id=>grind
theorem Nl.ofN{w0:World}{g:TF}{f:FuncId}{h:bm}(hN:Rk Q w0 f h)(hg: ∀ps R y,g ps R=some y->h ps R (λz=>z=y)):Nl Q w0 f g:=by intro _ ps R p R1 hr F G w vs hH hlen hv;refine(hN ps R _ (hg ps R (p,R1) hr) F G w vs hH hlen hv).mono λv w' ⟨y,hy,F',G',h1,h2,h3⟩=>by grind
end
end Pi
