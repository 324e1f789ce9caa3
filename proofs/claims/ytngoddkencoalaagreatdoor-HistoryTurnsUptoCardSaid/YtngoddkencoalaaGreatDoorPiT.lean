/- The text PiT. -/
import Derived.Test.YtngoddkencoalaaGreatDoorEbp
namespace Pi
open Go
def TW(Q:Program)(T:Tg)(c:Code)(s:S)(ae:PX×S->Prop):Prop:=
 ∀ ⦃r:Option Nat⦄(_:T.RN=true->r=none) (F:Nat->Prop) (G:Nat->Value) (w:World) (a:Act) (Q':Exit->Act->World->Prop),aG Q T F G w a s->(∀e s' a' w',ae (e,s')->ja Q T F G w s s' a' w'->Q' e.fC a' w')->c.wpIn (wd r) 0 Q Q' a w
def CT(Q:Program)(s:S)(dst:Option Nat)(p:P):K S:=
 match p with
 | .ref n v 0=>match s.obj n v with
  |some (.iter kt vt left _)=>λae=>
   (∀k x,left k=some x->K.bind (DM Q kt k) (λk=>K.bind (DM Q vt x) λx=>K.dR ((s.setObj n (.iter kt vt (Gp k left) (some (k,x)))).put dst (.cH [.d (.bool true),.d k,.d x]))) ae)/\
   ((∀k,left k=none)->K.dR (s.put dst (.cH [.d (.bool false)])) ae)
  |_=>K.fail
 |_=>K.fail
def qC(o:Oper):Option Operand:=match o.op with | .next it false=>if o.guard.isNone then some it else none |_=>none
def kfN(HN:List (FuncId×bg)):KF:=λf=>match lk HN f with |some h=>h |none=>λ_ _=>K.fail
def MN(HN:List (FuncId×bg))(s:S)(o:Oper):Option (P×List P):=
 match gC o with
 |some (f,xs)=>match s.eg none f with
  | .fn kW cQ=>if(lk HN kW).isSome&&o.guard.isNone then some (.fn kW cQ,xs.map (s.eg none)) else none
  |_=>none
 |none=>none
def eI(Q:Program)(cf:KF)(HN:List (FuncId×bg))(ops:List Oper):List Oper->List (Nat×Bool)->S->K S
 | [],_,s=>K.ret s
 |o::r,kn,s=>match qC o with
  |some it=>K.bind (CT Q s o.dst ((s.ev it).under none)) λs1=>s1.force λs1=>eI Q cf HN ops r [] s1
  |none=>match MN HN s o with
   |some (f,xs)=>K.bind (rO Q (kfN HN) s o.dst f xs) λs1=>s1.force λs1=>eI Q cf HN ops r [] s1
   |none=>K.bind (Ck Q cf ops kn s o) λx=>x.1.force λs1=>eI Q cf HN ops r x.2 s1
def hasNext:List Oper->Bool
 | []=>false
 |o::r=>(qC o).isSome ||hasNext r
def dy(Q:Program)(kf:KF)(HN:List (FuncId×bg))(kp:Nat->Option (List Nat×List Nat))(hk:List (Nat×(S->K (PX×S))))(dc:Nat->Nat):Code->S->K (PX×S)
 | .skip,s=>K.ret (.normal,s)
 | .label _,s=>K.ret (.normal,s)
 | .region id ops draw,s=>K.bind (if draw then Gv Q kf ops.toList (dc id) s else if hasNext ops.toList || !HN.isEmpty then eI Q kf HN ops.toList ops.toList [] s else mv Q kf ops.toList ops.toList [] s) λs1=>K.ret (.normal,s1)
 | .seq a b,s=>K.bind (dy Q kf HN kp hk dc a s) λx=>match x.1 with
  | .normal=>dy Q kf HN kp hk dc b x.2
  |_=>K.ret x
 | .cond c x y,s=>match s.ev c with
  | .d (.bool b)=>K.bind (K.dec b) λr=>if r then dy Q kf HN kp hk dc x s else dy Q kf HN kp hk dc y s
  |_=>K.fail
 | .block id c,s=>K.bind (dy Q kf HN kp hk dc c s) λx=>match x.1 with
  | .exit qi=>if Nat.beq qi id then K.ret (.normal,x.2) else K.ret x
  |_=>K.ret x
 | .loop c,s=>match lk hk (Code.s9 c) with
  |some h=>h s
  |none=>K.fail
 | .scope c,s=>dy Q kf HN kp hk dc c s
 | .exit id,s=>K.ret (.exit id,s)
 | .ret,s=>K.ret (.ret,s)
 | .rangeFunc _ _ _ b,s=>match lk hk (500000+Code.s9 b) with
  |some h=>h s
  |none=>K.fail
 |_,_=>K.fail
structure RF where
 g:Operand
 ps:Array Tmp
 asg:Code
 body:Code
def RF.code(x:RF):Code:= .rangeFunc x.g x.ps x.asg x.body
def bY:Code->List RF
 | .seq a b=>bY a++bY b
 | .cond _ a b=>bY a++bY b
 | .block _ c | .scope c | .loop c=>bY c
 | .rangeFunc g ps a b=>[⟨g,ps,a,b⟩]
 |_=>[]
def RF.id(x:RF):Nat:=Code.s9 x.body
def EB(id:Nat):List RF->Option RF
 | []=>none
 |x::r=>if Nat.beq x.id id then some x else EB id r
def nL(Q:Program)(f:FuncId)(id:Nat):RF:=
 match Q.funcs[f]? with
 |some fn=>(match fn.body with |some c=>(EB id (bY c)).getD ⟨.const undef, #[],.skip,.skip⟩|none=>⟨.const undef, #[],.skip,.skip⟩)
 |none=>⟨.const undef, #[],.skip,.skip⟩
def CU(Q:Program)(f:FuncId):Bool:=
 match Q.funcs[f]? with
 |some fn=>(match fn.body with |some c=>dZ ((bY c).map RF.id)&&(aN c).all λd=>Nat.blt (Code.s9 d) 500000 |none=>true)
 |none=>true
theorem CV{d:RF}: ∀(l:List RF),(l.map RF.id).Nodup->d∈l->EB d.id l=some d
 | [],_,h=>by simp at h
 |c::r,hn,h=>by
  obtain⟨hn1,X8⟩:=zbd.1 hn;unfold EB;rcases zav.1 h with rfl |h
  ·simp
  have: ¬c.id=d.id:=λe=>hn1 (e▸za8 h);rw[zan (by simpa using this)];exact CV r X8 h
theorem qau{Q:Program}{f:FuncId}{fn:Func}{c:Code}{x:RF}(hu:CU Q f=true)(gg:Q.funcs[f]?=some fn)(hc:fn.body=some c)(hx:x∈bY c):nL Q f x.id=x:=by grind [CU,nL,CV,dJ]
theorem Pj{Q:Program}{f:FuncId}{fn:Func}{c:Code}{d:Code}(hu:CU Q f=true)(gg:Q.funcs[f]?=some fn)(hc:fn.body=some c)(hd:d∈aN c):Code.s9 d<500000:=by simp_all [CU,zab,zbm,Nat.blt_eq]
section
variable{Q:Program}{T:Tg}{F:Nat->Prop}{G:Nat->Value}{w:World}{a:Act}{s:S}{r:Option Nat}
theorem TW.mono{c:Code}{p q:PX×S->Prop}(h:TW Q T c s p)(R4: ∀x,p x->q x):TW Q T c s q:=λ_ tc F G w a Q' hs hK=>h tc F G w a Q' hs λe s' a' w' hp=>hK e s' a' w' (R4 _ hp)
theorem TW.of_run{kp:Nat->Option (List Nat×List Nat)}{cf:CF}{lf:Nat}(jH:dw Q T.w0 cf)(hdr:Q.follows .mixedOrders=true){c:Code}{x:PX×S}(h:bQ Q cf kp lf c s=some x){ae:PX×S->Prop}(hp:ae x):TW Q T c s ae:=
 λ_ _ F G w a Q' hs hK=>fD jH hdr c s x.1 x.2 h F G w a Q' hs λa' w' hP=>hK x.1 x.2 a' w' hp hP
theorem HA{r m since last:Nat}{seen:Array Nat}{es:Array MapEntry}{clock:Nat}(ty:TypeId)(hr:w.heap[r]?=some (.mapIter (some m) since seen last))(hm:w.heap[m]?=some (.map es clock))(hold: ∀x∈es.toList,x.born<since)(Mz:since<=last):
  ((∀x∈es.toList,seen.contains x.born=true)/\(Instr.next (.pointer (some ⟨r,0,none⟩)) false ty).run Q w= .ok (.tuple #[.bool false]) w)\/
  ∃e∈es.toList,seen.contains e.born=false/\ ∃w1:World,(w1=w\/w1={w with drawn:=w.drawn+1})/\(Instr.next (.pointer (some ⟨r,0,none⟩)) false ty).run Q w= .ok (.tuple #[.bool true,e.key,e.val]) {w1 with heap:=w1.heap.setIfInBounds r (.mapIter (some m) since (seen.push e.born) clock)}:=by
 have bS:(!seen.isEmpty&& !es.isEmpty&&es.all λx=>decide (x.born>=last))=false:=by
  cases he:es.isEmpty with
  |true=>simp
  |false=>
   have h0:0<es.size:=by grind
   have:es.all (λx=>decide (x.born>=last))=false:=by grind
   rw[this,zcA]
 have e1:(es.filter λe=> !seen.contains e.born).filter (λx=>decide (x.born<since))=es.filter λe=> !seen.contains e.born:=Array.filter_eq_self.2 λx hx=>by have:=hold x (by grind);grind
 have e2:(es.filter λe=> !seen.contains e.born).filter (λx=>decide (x.born>=since))= #[]:=by rw[Array.filter_eq_empty_iff];grind
 have mem: ∀x,x∈(es.filter λe=> !seen.contains e.born)↔x∈es.toList/\seen.contains x.born=false:=λx=>by simp
 simp only[Instr.next,getObj,Sem.run_bind,Sem.run,hr,hm,Result.andThen,bS,zaK,zbt,e1,e2,Array.append_empty];generalize (es.filter λe=> !seen.contains e.born)=L at mem⊢;by_cases h0:L.size=0
 ·have:L= #[]:=Array.eq_empty_of_size_eq_zero h0;subst this;refine .inl ⟨λx hx=> ?_,?_⟩
  ·grind
  simp[choose,Sem.run,Question.forced]
 have dQ:L.isEmpty=false:=by grind
 have hch: ∃(j:Nat) (w1:World),j<L.size/\(w1=w\/w1={w with drawn:=w.drawn+1})/\(choose (Question.mapNext L.size)).run Q w= .ok j w1:=by
  by_cases hf:L.size<=1
  ·exact⟨0,w,by omega,.inl rfl,by simp[choose,Sem.run,Question.forced,hf]⟩
  refine⟨w.tape w.drawn (.mapNext L.size)%L.size,{w with drawn:=w.drawn+1},zc8 _ (by omega),.inr rfl,?_⟩;simp only[choose,Sem.run,Question.forced,zai,hf,zbt,Question.cut]
 obtain⟨j,w1,hj,MG,cb⟩:=hch;obtain⟨m1,m2⟩:=(mem L[j]).1 (by simp);refine .inr ⟨L[j],m1,m2,w1,MG,?_⟩;have hr1:w1.heap[r]?=some (.mapIter (some m) since seen last):=by rcases MG with rfl |rfl<;>exact hr
 have j8:(setObj r (.mapIter (some m) since (seen.push L[j].born) clock)).run Q w1= .ok () {w1 with heap:=w1.heap.setIfInBounds r (.mapIter (some m) since (seen.push L[j].born) clock)}:=by simp[setObj,Sem.run,hr1]
 simp_all
theorem MO(h:aG Q T F G w a s){o:Oper}{it:Operand}(ho:qC o=some it){ae:S->Prop}(hp:CT Q s o.dst ((s.ev it).under none) ae){K:Act->World->Prop}{Q':Exit->Act->World->Prop}
  (hK: ∀s' a' w',ae s'->ja Q T F G w s s' a' w'->K a' w'):o.wpIn (wd r) 0 Q a w K Q':=by
 have sk:o.op= .next it false:=by grind [qC]
 have hv:=aW h (g:=none) trivial it;unfold S.eg at hv;generalize (s.ev it).under none=p at hv hp;have hnx: ∃n aV kt vt left cur,p= .ref n aV 0/\s.obj n aV=some (.iter kt vt left cur):=by
  cases p with
  |ref n aV off=>
   cases off with
   |succ off=>exact hp.elim
   |zero=>
    cases hob:s.obj n aV with
    |none=>simp only[CT,hob] at hp;exact hp.elim
    |some o=>
     cases o with
     |iter kt vt left cur=>grind
     |_=>simp only[CT,hob] at hp;exact hp.elim
  |_=>exact hp.elim
 obtain⟨n,aV,kt,vt,left,cur,rfl,hob⟩:=hnx;simp only[CT,hob] at hp;obtain⟨p1,p2⟩:=hp;obtain⟨e,he,dT,b9⟩:=S.bI hob;have hO:=h.rg n e he;rw[b9] at hO;obtain⟨b,mo,since,seen,last,hg,hh,hO⟩:=hO;have hval:a.eval it= .pointer (some ⟨b,0,none⟩):=by
  generalize a.eval it=v at hv;cases hv with
  |ref _ _ _ _ hr h1=>obtain⟨b',Jr,rfl⟩:=hr.at he dT (by rw[b9];rfl);rw[hg] at Jr;rw[Jr]
 have over:(∀k,left k=none)->(Instr.next (.pointer (some ⟨b,0,none⟩)) false o.type).run Q w= .ok (.tuple #[.bool false]) w->o.wpIn (wd r) 0 Q a w K Q':=λh0 cb=>by
  obtain⟨s1,rV,fa⟩:=KW.dR (p:=λs1=>s.put o.dst (.cH [.d (.bool false)])=some s1) (λ_ h=>h) _ (p2 h0);obtain⟨c1,c2⟩:=cC h rV (v:= .tuple #[.bool false]) (cA.of (.cH [.bool false] [.d (.bool false)] rfl λi v c hv hc=>by
   cases i with
   |zero=>simp at hv hc;subst hv;subst hc;exact .d (.bool false)
   |succ i=>simp at hv))
  refine vw (λc hc=>by rw[sk] at hc;cases hc) (v:= .tuple #[.bool false]) (w':=w) (.inl (by simp[execOp,sk,hval,cb])) (hK s1 _ _ fa ⟨F,G,c1,?_⟩);rw[c2];exact Ext.refl _ _ _
 rcases hO with⟨rfl,h0,_⟩| ⟨m,es,rfl,hF,hm,RW,hI,hc⟩
 ·exact over h0 (by simp[Instr.next,getObj,Sem.run_bind,Sem.run,hh])
 subst RW;have hold: ∀x∈es.toList,x.born<last:=by obtain⟨ks,_,_,_,h5,_⟩:=hI;exact h5
 rcases HA (Q:=Q) o.type hh hm hold (zak _) with⟨h0,cb⟩| ⟨en,D9,S4,w1,MG,cb⟩
 ·exact over (hI.over h0) cb
 have S4:en∈es.toList/\seen.contains en.born=false:=⟨D9,S4⟩
 obtain⟨k,x,hk,yI,hx,hI2⟩:=hI.next S4.1 S4.2;obtain⟨k',rfl,hp2⟩:=oG Q kt k _ (p1 k x hk);obtain⟨x',rfl,hp3⟩:=oG Q vt x _ hp2;obtain⟨s1,rV,fa⟩:=KW.dR (p:=λs1=>(s.setObj n (.iter kt vt (Gp k left) (some (k,x)))).put o.dst (.cH [.d (.bool true),.d k,.d x])=some s1) (λ_ h=>h) _ hp3;have hw1:w1.heap=w.heap/\w1.os=w.os/\w1.tape=w.tape/\w1.output=w.output:=by rcases MG with rfl |rfl<;>exact⟨rfl,rfl,rfl,rfl⟩
 have xn:b<w.heap.size:=(zaz.1 hh).1;have ga:bF (G n) e.obj=some b:=by rw[b9,hg];rfl
 have dQ:m≠b:=λhmb=>by grind
 have gy: ∀b0,b0≠b->(w.heap.setIfInBounds b (.mapIter (some m) last (seen.push en.born) last))[b0]?=w.heap[b0]?:=λb0 dQ=>za5 (zbI dQ);have yV:(w.heap.setIfInBounds b (.mapIter (some m) last (seen.push en.born) last))[b]?=some (.mapIter (some m) last (seen.push en.born) last):=by rw[zbC xn]
 have D8: ∀b0,F b0->b0≠b:=λb0 hf e0=>by subst e0;exact h.nf n e b0 he ga hf
 rw[S.fu he] at rV;have qk4:w.drawn<=w1.drawn:=by grind
 obtain⟨d1,d2⟩:=h.oe (n:=n) (e1:=⟨e.aV,e.tag,.iter kt vt (Gp k left) (some (k,x))⟩) (g1:=G n) (w':={w1 with heap:=w.heap.setIfInBounds b (.mapIter (some m) last (seen.push en.born) last)}) (hdr:=qk4)
  (λe' cS=>by rw[he] at cS;cases cS;exact .inr ⟨rfl,λ_=>⟨by rw[b9];rfl,rfl⟩⟩)
  (λb0 _ bS=>gy b0 λe0=>by grind) (by simp) hw1.2.1 hw1.2.2.1 hw1.2.2.2
  (λb0 D3=> .inr ⟨e,he,by rw[b9];exact D3⟩)
  ⟨b,some m,last,seen.push en.born,last,by rw[ca];exact hg,yV,.inr ⟨m,es,rfl,hF,(gy m dQ).trans hm,rfl,hI2.mono (λ_ h=>h) (λb0 hf=>gy b0 (D8 b0 hf)),λk1 x1 hc1=>by obtain⟨rfl,rfl⟩:=hc1;exact⟨en,S4.1,by simp,yI,hx.mono (λ_ h=>h) (λb0 hf=>gy b0 (D8 b0 hf))⟩⟩⟩
  (λi hi _=>h.tag n e i he hi (by rw[b9];rfl))
 rw[ca] at d1 d2;obtain⟨c1,c2⟩:=cC d1 rV (v:= .tuple #[.bool true,en.key,en.val]) (cA.of (.cH [.bool true,en.key,en.val] _ rfl λi v c hv hc=>by
  match i with
  |0=>simp at hv hc;subst hv;subst hc;exact .d (.bool true)
  |1=>simp at hv hc;subst hv;subst hc;exact .d (aS.RV _ _ yI)
  |2=>simp at hv hc;subst hv;subst hc;exact .d (hx.mono (λ_ h=>h) (λb0 hf=>gy b0 (D8 b0 hf)))
  |i+3=>simp at hv))
 refine vw (λc hc=>by rw[sk] at hc;cases hc) (v:= .tuple #[.bool true,en.key,en.val]) (w':={w1 with heap:=w.heap.setIfInBounds b (.mapIter (some m) last (seen.push en.born) last)}) (.inl ?_) (hK s1 _ _ fa ⟨F,G,c1,?_⟩)
 ·simp only[execOp,sk,hval,Sem.run_bind,cb];simp[hw1.1]
 grind
def S5(Q:Program)(w0:World)(f:FuncId)(h:bg):Prop:=
 ∀ps R ae,h ps R ae-> ∀(F:Nat->Prop) (G:Nat->Value) (w:World) (vs:List Value),fM Q ⟨G,w0,0,false⟩ F G w R->vs.length=ps.length->
  (∀(i:Nat) (v:Value) (c:P),vs[i]?=some v->ps[i]?=some c->aH F w G R v c)->
  kH Q f ⟨vs⟩ w (λv w'=> ∃y:P×List (Nat×En),ae y/\ ∃F' G',fM Q ⟨G,w0,0,false⟩ F' G' w' y.2/\aH F' w' G' y.2 v y.1/\Ext (Own G R) (Own G' y.2) F F' w w')
theorem S6{HN:List (FuncId×bg)}(pq: ∀f h,lk HN f=some h->S5 Q T.w0 f h)(h:aG Q T F G w a s){dst:Option Nat}{pf:P}{ps:List P}{ae:S->Prop}(hs:rO Q (kfN HN) s dst pf ps ae){fv:Value}{vs:List Value}(hf:aH F w G s.rg fv pf)(hl:vs.length=ps.length)
  (hv: ∀(i:Nat) (v:Value) (c:P),vs[i]?=some v->ps[i]?=some c->aH F w G s.rg v c):
  ∃kW cs,fv= .func (.func kW) #[] ⟨cs⟩/\kH Q kW ⟨vs++cs⟩ w (λv w'=> ∃s',ae s'/\ ∃F' G',aG Q T F' G' w' (a.put dst v) s'/\Ext (Own G s.rg) (Own G' s'.rg) F F' w w'):=by
 cases pf with
 |fn kW cQ=>
  cases hf with
  |fn _ cs _ GQ l7=>
   refine⟨kW,cs,rfl,?_⟩;cases GN:cV Q s kW (ps++cQ) with
   |none=>simp only[rO,GN] at hs;exact hs.elim
   |some r=>
    obtain⟨s1,qs⟩:=r;cases kY:dZ (reach s1.rg 1000 qs []) with
    |false=>simp only[rO,GN,kY,zaK,zbt] at hs;exact hs.elim
    |true=>
     cases gV:sub s1.rg (toPos s1.rg (reach s1.rg 1000 qs [])) true 0 (reach s1.rg 1000 qs []) with
     |none=>simp only[rO,GN,kY,zbr,gV] at hs;exact hs.elim
     |some R0=>
      simp only[rO,GN,kY,zbr,gV] at hs;cases hh:lk HN kW with
      |none=>simp only[kfN,hh] at hs;exact hs.elim
      |some BM=>
       simp only[kfN,hh] at hs;have cW: ∀(i:Nat) (v:Value) (c:P),(vs++cs)[i]?=some v->(ps++cQ)[i]?=some c->aH F w G s.rg v c:=λi v c h1 h2=>by grind
       obtain⟨F1,a1,a2,a3,a4,a5,a6⟩:=wx (ps++cQ) s F s1 qs (vs++cs) h GN (by grind) cW;obtain⟨b1,b2,b3⟩:=a1.heap.sub gV kY;have hq:=pq kW BM hh _ R0 _ hs F1 _ w (vs++cs) b1 (by rw[jG];exact a5) (λi v c h1 h2=>by rw[jF] at h2;grind [oJ]);refine hq.mono λv w' ⟨⟨p,R1⟩,fa,F2,G2,c1,c2,c3⟩=> ?_;cases hmd:(dZ (dh R1 (reach R1 1000 (p::fp R1 R1) []))&&Nat.ble (dh R1 (reach R1 1000 (p::fp R1 R1) [])).length 1000) with
       |false=>simp only[hmd,zaK,zbt] at fa;exact fa.elim
       |true=>
        simp only[hmd,zbr] at fa;cases ko:gw R1 (fo R1 s1.rg (reach s1.rg 1000 qs []) (dh R1 (reach R1 1000 (p::fp R1 R1) [])) (site dst*1000)) 0 (reach s1.rg 1000 qs []) s1.rg with
        |none=>simp only[ko] at fa;exact fa.elim
        |some R2=>
         simp only[ko] at fa;cases gl:ln R1 (fo R1 s1.rg (reach s1.rg 1000 qs []) (dh R1 (reach R1 1000 (p::fp R1 R1) [])) (site dst*1000)) (site dst*1000) (dh R1 (reach R1 1000 (p::fp R1 R1) [])) R2 with
         |none=>simp only[gl] at fa;exact fa.elim
         |some R3=>simp only[gl] at fa;obtain⟨s',hs',fa⟩:=KW.dR (p:=λs'=>({s1 with rg:=R3}:S).put dst (Cg _ p)=some s') (λ_ h=>h) _ fa;obtain⟨G3,d1,d2,d3⟩:=su a1 kY (zab _ _▸hmd:_/\_).1 gV c1 c3 (eT R1 _) ko gl;obtain⟨e1,e2⟩:=cC d1 hs' (cA.of (oJ d3 c2));refine⟨s',fa,F2,G3,e1,?_⟩;rw[e2];exact a2.trans d2
 |_=>exact hs.elim
theorem S7{HN:List (FuncId×bg)}(pq: ∀f h,lk HN f=some h->S5 Q T.w0 f h)(h:aG Q T F G w a s){o:Oper}{pf:P}{ps:List P}(ho:MN HN s o=some (pf,ps)){ae:S->Prop}(hp:rO Q (kfN HN) s o.dst pf ps ae){K:Act->World->Prop}{Q':Exit->Act->World->Prop}
  (hK: ∀s' a' w',ae s'->ja Q T F G w s s' a' w'->K a' w'):o.guard=none/\o.wpIn (wd r) 0 Q a w K Q':=by
 unfold MN at ho;split at ho
 next f xs hc=>
  split at ho
  next kW cQ hfe=>
   split at ho
   ·rename_i eP;refine⟨by simp_all,?_⟩;obtain⟨rfl,rfl⟩:=ho;unfold gC at hc;split at hc
    ·rename_i c sk;split at hc
     ·rename_i f' lB;simp at hc;obtain⟨rfl,rfl⟩:=hc;obtain⟨qk5,cs,hfv,aT⟩:=S6 pq h hp (by rw[<-hfe];exact aW h (g:=none) trivial f') (vs:=c.args.toList.map a.eval) (by simp) (λi v p hv hp=>by rw[zaD] at hv hp;simp only[zax] at hv hp;obtain⟨x,hx,rfl⟩:=hv;obtain⟨y,hy,rfl⟩:=hp;rw[hx] at hy;cases hy;exact aW h (g:=none) trivial x);have cb:(execOp a.eval o).run Q w=(callFunc qk5 ⟨c.args.toList.map a.eval++cs⟩).run Q w:=by
       have e:(c.args.map a.eval)++(⟨cs⟩:Array Value)=⟨c.args.toList.map a.eval++cs⟩:=by simp
       simp[execOp,sk,resolve,lB,hfv,Deferred.ofValue,invoke,e]
      refine tO (λc' rU=>by rw[sk] at rU;cases rU) ?_;rw[cb];rcases aT with⟨h1,h2⟩| ⟨v,w',h1,s',rP,F',G',h2,h3⟩
      ·rw[h1];refine⟨λh=>(by cases h),(y5 h2).mono λe w' ⟨v,he,s',rP,F',G',h3,h4⟩=> ?_⟩;subst he;exact hK _ _ _ rP ⟨F',G',h3,h4⟩
      rw[h1];exact hK _ _ _ rP ⟨F',G',h2,h3⟩
     cases hc
    cases hc
   cases ho
  cases ho
 cases ho
theorem oQ{HN:List (FuncId×bg)}(pq: ∀f h,lk HN f=some h->S5 Q T.w0 f h){kf:KF}{cf:Nat->Nat->CF}(ic:BN kf cf)(jH: ∀a b,dw Q T.w0 (cf a b)){ops:List Oper}{Q':Exit->Act->World->Prop}{ae:S->Prop}: ∀(l:List Oper) (kn:List (Nat×Bool)) (F:Nat->Prop) (G:Nat->Value) (w:World) (a:Act) (s:S),kc kn s->aG Q T F G w a s->eI Q kf HN ops l kn s ae->
  (∀s' a' w',ae s'->ja Q T F G w s s' a' w'->Q' .normal a' w')->wpListIn (wd r) 0 Q ops.toArray Q' l a w
 | [],kn,F,G,w,a,s,_,h,hp,hK=>by unfold eI at hp;exact hK s a w hp ⟨F,G,h,Ext.refl _ _ _⟩
 |o::l,kn,F,G,w,a,s,du,h,hp,hK=>by
  cases ho:qC o with
  |some it=>
   simp only[eI,ho] at hp;have MB:o.guard=none:=by
    unfold qC at ho;split at ho
    ·simp_all
    cases ho
   have:o.wpIn (wd r) 0 Q a w (wpListIn (wd r) 0 Q ops.toArray Q' l) Q':=MO h ho (ae:=λs1=>eI Q kf HN ops l [] s1 ae) (by
    have e:(λs1:S=>s1.force λs1=>eI Q kf HN ops l [] s1)=λs1=>eI Q kf HN ops l [] s1:=by funext s1;rw[S.force_eq]
    rw[e] at hp;exact hp) λs1 a1 w1 xU ⟨F1,G1,g1,g2⟩=>oQ pq ic jH l _ F1 G1 w1 a1 s1 (kc.nil s1) g1 xU λs' a' w' rP hP=>hK s' a' w' rP (hP.trans g2)
   exact fA (by rw[zap (by simp[Region.wanted,MB])];exact this)
  |none=>
  cases GQ:MN HN s o with
  |some fx=>
   simp only[eI,ho,GQ] at hp;have e:(λs1:S=>s1.force λs1=>eI Q kf HN ops l [] s1)=λs1=>eI Q kf HN ops l [] s1:=by funext s1;rw[S.force_eq]
   rw[e] at hp;obtain⟨MB,this⟩:=S7 (K:=wpListIn (wd r) 0 Q ops.toArray Q' l) (Q':=Q') pq h GQ (ae:=λs1=>eI Q kf HN ops l [] s1 ae) hp λs1 a1 w1 xU ⟨F1,G1,g1,g2⟩=>oQ pq ic jH l _ F1 G1 w1 a1 s1 (kc.nil s1) g1 xU λs' a' w' rP hP=>hK s' a' w' rP (hP.trans g2);exact fA (by rw[zap (by simp[Region.wanted,MB])];exact this)
  |none=>simp only[eI,ho,GQ] at hp;obtain⟨x,⟨hx,hk⟩,xU⟩:=tV ic du _ hp;rw[S.force_eq] at xU;obtain⟨i,j,hx⟩:=hx.some;have jv:=kZ (r:=r) (jH i j) h hx (K:=wpListIn (wd r) 0 Q ops.toArray Q' l) (Q':=Q') (λa' w' ⟨F',G',g1,g2⟩=>oQ pq ic jH l _ F' G' w' a' x.1 hk g1 xU (λs' a2 w2 rP hp=>hK s' a2 w2 rP (hp.trans g2)));exact fA jv
theorem TW.seq{x y:Code}{p ae:PX×S->Prop}(h1:TW Q T x s p)(h2: ∀s1,p (.normal,s1)->TW Q T y s1 ae)(h3: ∀e s1,e≠ .normal->p (e,s1)->ae (e,s1)):TW Q T (.seq x y) s ae:=λr tc F G w a Q' hs hK=>by
 refine wpIn_seq (h1 tc F G w a _ hs λe s1 a1 w1 hp hP=> ?_);cases e with
 |normal=>obtain⟨F1,G1,g1,g2⟩:=hP;exact h2 s1 hp tc F1 G1 w1 a1 Q' g1 λe2 s2 a2 w2 hp2 hP2=>hK e2 s2 a2 w2 hp2 (ja.trans g2 hP2)
 |exit id=>exact hK _ s1 a1 w1 (h3 _ _ (by simp) hp) hP
 |ret=>exact hK _ s1 a1 w1 (h3 _ _ (by simp) hp) hP
theorem TW.cond{c:Operand}{x y:Code}{b:Bool}{ae:PX×S->Prop}(hb:s.ev c= .d (.bool b))(h:TW Q T (if b then x else y) s ae):TW Q T (.cond c x y) s ae:=λr tc F G w a Q' hs hK=>by
 have hv:a.eval c= .bool b:=by have:=yA hs c;rw[hb] at this;exact aH.cF (p:= .d (.bool b)) this rfl
 refine wpIn_cond hv ?_;cases b with
 |true=>exact h tc F G w a Q' hs hK
 |false=>exact h tc F G w a Q' hs hK
theorem TW.block{id:Nat}{c:Code}{p ae:PX×S->Prop}(h:TW Q T c s p)(hp: ∀e s1,p (e,s1)->match e with | .exit qi=>if Nat.beq qi id then ae (.normal,s1) else ae (e,s1)|_=>ae (e,s1)):TW Q T (.block id c) s ae:=λr tc F G w a Q' hs hK=>by
 refine wpIn_block (h tc F G w a _ hs λe s1 a1 w1 xU hP=> ?_);have:=hp e s1 xU;cases e with
 |normal=>exact hK _ s1 a1 w1 this hP
 |ret=>exact hK _ s1 a1 w1 this hP
 |exit qi=>
  simp only at this;split at this
  next hid=>
   have hid:qi=id:=by simpa using hid
   have:=hK _ s1 a1 w1 this hP;simp only[PX.fC,Exit.inBlock,hid,zbr];exact this
  rename_i hid;have hid: ¬qi=id:=by simpa using hid
  have:=hK _ s1 a1 w1 this hP;simp only[PX.fC,Exit.inBlock,hid,zbt];exact this
theorem TW.scope{c:Code}{ae:PX×S->Prop}(h:TW Q T c s ae):TW Q T (.scope c) s ae:=λr tc F G w a Q' hs hK=>by refine gb (h tc F G w a _ hs λe s1 a1 w1 hp hP=> ?_);have:=hK e s1 a1 w1 hp hP;cases e<;>simpa [PX.fC,Exit.noGoto] using this
theorem TW.loop{c:Code}{keep:Option (List Nat×List Nat)}{I:Nat->S->Prop}{O:PX×S->Prop}
  (hr: ∀n s,I n s->TW Q T c s (λx=>match x.1 with | .normal=> ∃s2,cz keep x.2=some s2/\ ∃m,m<n/\I m s2 |e=> ∃s2,dG keep x.2=some s2/\O (e,s2)))
  {n:Nat} {s0:S} (h0:cz keep s=some s0) (hI:I n s0):TW Q T (.loop c) s O:=λr tc F G w a Q' hs hK=>by
 obtain⟨G0,g1,g2⟩:=fO hs h0;have key: ∀(N n:Nat) (s:S),n<N->I n s-> ∀(F:Nat->Prop) (G:Nat->Value) (w:World) (a:Act),aG Q T F G w a s->(∀e s' a' w',O (e,s')->ja Q T F G w s s' a' w'->Q' e.fC a' w')->Code.roundsIn (wd r) 0 Q c Q' N a w:=by
  intro N
  induction N with
  |zero=>simp
  |succ N ih=>
   intro n s hn hI F G w a hs hK;refine hr n s hI tc F G w a _ hs λe s1 a1 w1 hp hP=> ?_;obtain⟨F1,G1,k1,k2⟩:=hP;cases e with
   |normal=>obtain⟨s2,h2,m,hm,hi⟩:=hp;obtain⟨G2,m1,m2⟩:=fO k1 h2;exact ih m s2 (by omega) hi F1 G2 w1 a1 m1 λe s' a' w' hO hP=>hK e s' a' w' hO (ja.trans (k2.trans m2) hP)
   |exit id=>obtain⟨s2,h2,hO⟩:=hp;obtain⟨G2,m1,m2⟩:=fO (keep:=keep.map λl=>(l.2,l.2)) k1 (by cases keep<;>exact h2);exact hK _ s2 a1 w1 hO ⟨F1,G2,m1,k2.trans m2⟩
   |ret=>obtain⟨s2,h2,hO⟩:=hp;obtain⟨G2,m1,m2⟩:=fO (keep:=keep.map λl=>(l.2,l.2)) k1 (by cases keep<;>exact h2);exact hK _ s2 a1 w1 hO ⟨F1,G2,m1,k2.trans m2⟩
 exact wpIn_loop_rounds (n+1) (key (n+1) n s0 (by omega) hI F G0 w a g1 λe s' a' w' hO hP=>hK e s' a' w' hO (ja.trans g2 hP))
variable{kp:qV}
theorem eo{HN:List (FuncId×bg)}(pq: ∀f h,lk HN f=some h->S5 Q T.w0 f h){kf:KF}(ic:BN kf (fJ Q kp))(hX:dw Q T.w0 kp.X)(hdr:Q.follows .mixedOrders=true){kp1:Nat->Option (List Nat×List Nat)}{hk:List (Nat×(S->K (PX×S)))}{dc:Nat->Nat}: ∀(c:Code),cc dc c=true->
  (∀d∈aN c,∀h,lk hk (Code.s9 d)=some h-> ∀s ae,h s ae->TW Q T (.loop d) s ae)->(∀x∈bY c,∀h,lk hk (500000+x.id)=some h-> ∀s ae,h s ae->TW Q T x.code s ae)-> ∀(s:S) (ae:PX×S->Prop),dy Q kf HN kp1 hk dc c s ae->TW Q T c s ae
 | .skip,_,_,_,s,ae,hp=>λr tc F G w a Q' hs hK=>wpIn_skip (hK .normal s a w hp ⟨F,G,hs,Ext.refl _ _ _⟩)
 | .label _,_,_,_,s,ae,hp=>λr tc F G w a Q' hs hK=>wpIn_label (hK .normal s a w hp ⟨F,G,hs,Ext.refl _ _ _⟩)
 | .region id ops draw,hl,_,_,s,ae,hp=>by
  have jH: ∀a b,dw Q T.w0 (fJ Q kp a b):=λa b=>tY hX hdr b;unfold dy at hp;cases draw with
  |true=>obtain⟨s1,h1,hp⟩:=zr ic (zag (by simpa [cc] using hl)) _ hp;obtain⟨i,j,h1⟩:=h1.some;exact TW.of_run (kp:=kp1) (lf:=0) (jH i j) hdr (x:=(.normal,s1)) (by grind [bQ]) hp
  |false=>
   simp only[zaK,zbt] at hp;split at hp
   ·exact λr tc F G w a Q' hs hK=>wpIn_region_list (by simpa using oQ pq ic jH ops.toList [] F G w a s (kc.nil s) hs hp λs' a' w' rP hP=>hK .normal s' a' w' rP hP)
   obtain⟨s1,h1,hp⟩:=oM ic _ [] _ (kc.nil _) _ hp;obtain⟨i,j,h1⟩:=h1.some;exact TW.of_run (kp:=kp1) (lf:=0) (jH i j) hdr (x:=(.normal,s1)) (by grind [bQ]) hp
 | .seq x y,hl,hh,hr,s,ae,hp=>by
  unfold dy at hp;have xV:cc dc x=true/\cc dc y=true:=by simpa [cc] using hl
  refine TW.seq (eo pq ic hX hdr x xV.1 (λd hd=>hh d (by simp[aN,hd])) (λx hx=>hr x (by simp[bY,hx])) s _ hp) (λs1 h1=>eo pq ic hX hdr y xV.2 (λd hd=>hh d (by simp[aN,hd])) (λx hx=>hr x (by simp[bY,hx])) s1 ae h1) λe s1 he h1=> ?_;cases e with
  |normal=>grind
  |exit id=>exact h1
  |ret=>exact h1
 | .cond c x y,hl,hh,hr,s,ae,hp=>by
  unfold dy at hp;have xV:cc dc x=true/\cc dc y=true:=by simpa [cc] using hl
  have hbx: ∃b,s.ev c= .d (.bool b):=by
   cases hb:s.ev c with
   |d x=>
    cases x with
    |bool b=>simp
    |_=>simp only[hb] at hp;exact hp.elim
   |_=>simp only[hb] at hp;exact hp.elim
  obtain⟨b,hb⟩:=hbx;simp only[hb] at hp;refine TW.cond hb ?_;cases b with
  |true=>exact eo pq ic hX hdr x xV.1 (λd hd=>hh d (by simp[aN,hd])) (λx hx=>hr x (by simp[bY,hx])) s ae hp
  |false=>exact eo pq ic hX hdr y xV.2 (λd hd=>hh d (by simp[aN,hd])) (λx hx=>hr x (by simp[bY,hx])) s ae hp
 | .block id c,hl,hh,hr,s,ae,hp=>by
  unfold dy at hp;refine TW.block (eo pq ic hX hdr c hl (λd hd=>hh d (by simpa [aN] using hd)) (λx hx=>hr x (by simpa [bY] using hx)) s _ hp) λe s1 h1=> ?_;cases e with
  |normal=>exact h1
  |ret=>exact h1
  |exit qi=>
   simp only at h1⊢;split
   next h=>rw[zap h] at h1;exact h1
   rename_i h;rw[zan h] at h1;exact h1
 | .loop c,hl,hh,hr,s,ae,hp=>by
  cases hh1:lk hk (Code.s9 c) with
  |some h=>simp_all [dy,aN]
  |none=>simp only[dy,hh1] at hp;exact hp.elim
 | .scope c,hl,hh,hr,s,ae,hp=>by unfold dy at hp;exact TW.scope (eo pq ic hX hdr c hl (λd hd=>hh d (by simpa [aN] using hd)) (λx hx=>hr x (by simpa [bY] using hx)) s ae hp)
 | .exit id,_,_,_,s,ae,hp=>λr tc F G w a Q' hs hK=>wpIn_exit (hK (.exit id) s a w hp ⟨F,G,hs,Ext.refl _ _ _⟩)
 | .ret,_,_,_,s,ae,hp=>λr tc F G w a Q' hs hK=>wpIn_ret (hK .ret s a w hp ⟨F,G,hs,Ext.refl _ _ _⟩)
 | .rangeFunc g ps a b,_,_,hr,s,ae,hp=>by
  cases hh1:lk hk (500000+Code.s9 b) with
  |some h=>simp only[dy,hh1] at hp;exact hr ⟨g,ps,a,b⟩ (by simp[bY]) h hh1 s ae hp
  |none=>simp only[dy,hh1] at hp;exact hp.elim
 | .goto _,_,_,_,s,ae,hp=>by unfold dy at hp;exact hp.elim
 | .refuse _,_,_,_,s,ae,hp=>by unfold dy at hp;exact hp.elim
def CW(Q:Program)(kf:KF)(HN:List (FuncId×bg))(kp:qV)(hk:List (Nat×(S->K (PX×S))))(dc:FuncId->Nat->Nat):KF:=λf ps R=>
 match Q.funcs[f]? with
 |none=>K.fail
 |some fn=>match fn.body with
  |none=>K.fail
  |some c=>if fn.name== "runtime.NumGoroutine" then K.fail else
   K.bind (dy Q kf HN (kp f) hk (dc f) c ⟨fn.ntmps,fI 0 (lv (kp f 999999) Q fn.params.toList ps),R⟩) λx=>match x.1 with
    | .exit _=>K.fail
    |_=>match dj Q x.2 fn.results.toList with
     |some qs=>DR Q R.length fn.resultTypes.toList qs x.2
     |none=>K.fail
theorem S5.mk{w0:World}{HN:List (FuncId×bg)}(pq: ∀f h,lk HN f=some h->S5 Q w0 f h){h:bg}{f:FuncId}{kf:KF}{dc:FuncId->Nat->Nat}{hk:List (Nat×(S->K (PX×S)))}(ic:BN kf (fJ Q kp))(hX:dw Q w0 kp.X)(hdr:Q.follows .mixedOrders=true)(O7:oC dc 0 Q.funcs.toList=true)(hu:uniq Q f=true)(huR:CU Q f=true)
  (hl: ∀id h,id<500000->lk hk id=some h-> ∀(val:Nat->Value) (lo:Nat) s ae,h s ae->TW Q ⟨val,w0,lo,true⟩ (.loop (bw Q f id)) s ae)
  (hrf: ∀id h,lk hk (500000+id)=some h-> ∀(val:Nat->Value) (lo:Nat) s ae,h s ae->TW Q ⟨val,w0,lo,true⟩ (nL Q f id).code s ae)
  (hb: ∀ps R ae,h ps R ae->CW Q kf HN kp hk dc f ps R ae):S5 Q w0 f h:=by
 intro ps R ae hr F G w vs hH hlen hv;have hb:=hb ps R ae hr;cases gg:Q.funcs[f]? with
 |none=>simp only[CW,gg] at hb;exact hb.elim
 |some fn=>
  cases hc:fn.body with
  |none=>simp only[CW,gg,hc] at hb;exact hb.elim
  |some c=>
   cases lG:(fn.name== "runtime.NumGoroutine") with
   |true=>simp only[CW,gg,hc,lG,zbr] at hb;exact hb.elim
   |false=>
    simp only[CW,gg,hc,lG,zaK,zbt] at hb;left;refine⟨by simp[callFunc,gg,hc];grind,?_⟩;refine lH gg hc ?_;have R9:vs.length=(lv (kp f 999999) Q fn.params.toList ps).length:=by rw[zy];exact hlen
    have Ou:=CP (Q:=Q) (kp f 999999) fn.params.toList ps vs hv;have zz:aG Q ⟨G,w0,w.heap.size,true⟩ F G w {tmps:=(⟨vs⟩:Array Value)++Array.replicate (fn.ntmps-(⟨vs⟩:Array Value).size) undef,defers:=[]} ⟨fn.ntmps,fI 0 (lv (kp f 999999) Q fn.params.toList ps),R⟩:=by refine(fM.lo hH (zak _)).state rfl .nil (by simp;omega) (λt p hp=> ?_);obtain⟨_,h2⟩:=oO _ 0 t p hp;grind [fL,cA.of]
    have hTW:=eo (T:=⟨G,w0,w.heap.size,true⟩) pq ic hX hdr (kp1:=kp f) c (k7 O7 f fn c gg hc) (λd hd h hh s ae hp=>by
     have e:bw Q f (Code.s9 d)=d:=by grind [uniq,bw,jJ,dJ]
     have:=hl _ h (Pj huR gg hc hd) hh G w.heap.size s ae hp;rwa [e] at this) (λx hx h hh s ae hp=>by
     have:=hrf _ h hh G w.heap.size s ae hp;rwa [qau huR gg hc hx] at this) _ _ hb
    refine hTW (r:=none) (λ_=>rfl) F G w _ _ zz λe s1 a' w' hp hP=> ?_;obtain⟨F',G',h1,h2⟩:=hP;have fin: ∀qs (y:P×List (Nat×En)),dj Q s1 fn.results.toList=some qs->finish Q R.length fn.resultTypes.toList qs s1=some y->ae y->
      LeavesInM Fence.wide 0 Q fn a'.tmps (λe w'=> ∃v2,e= .returned v2/\ ∃y:P×List (Nat×En),ae y/\ ∃F' G',fM Q ⟨G,w0,0,false⟩ F' G' w' y.2/\aH F' w' G' y.2 v2 y.1/\Ext (Own G R) (Own G' y.2) F F' w w') a'.defers .returning w':=by
     intro qs y hq Ya fa;refine zx (T:=⟨G,w0,w.heap.size,true⟩) (own0:=Own G R) (F0:=F) (w1:=w) (zak _) (λw2 h3 h4=> ?_) a'.defers w' h1 h2;obtain⟨us,g1,g2,g3⟩:=sE h3 hq;obtain⟨F2,G2,k1,k2,k3⟩:=CO h3 Ya g2 g3;exact⟨_,g1,_,rfl,y,fa,F2,G2,k1.lo,k2,h4.trans k3⟩
    have xq:e≠ .normal->e≠ .ret->False:=λh1 h2=>by
     cases e with
     |normal=>exact h1 rfl
     |ret=>exact h2 rfl
     |exit id=>exact hp
    have hq: ∃qs y,dj Q s1 fn.results.toList=some qs/\finish Q R.length fn.resultTypes.toList qs s1=some y/\ae y:=by
     cases e with
     |exit id=>grind
     |normal=>
      cases hq:dj Q s1 fn.results.toList with
      |none=>simp only[hq] at hp;exact hp.elim
      |some qs=>simp only[hq] at hp;obtain⟨y,hy,hpo⟩:=KW.dR (p:=λy=>finish Q R.length fn.resultTypes.toList qs s1=some y) (λ_ h=>h) _ hp;grind
     |ret=>
      cases hq:dj Q s1 fn.results.toList with
      |none=>simp only[hq] at hp;exact hp.elim
      |some qs=>simp only[hq] at hp;obtain⟨y,hy,hpo⟩:=KW.dR (p:=λy=>finish Q R.length fn.resultTypes.toList qs s1=some y) (λ_ h=>h) _ hp;grind
    obtain⟨qs,y,hq,Ya,hpo⟩:=hq;have:=fin qs y hq Ya hpo;cases e with
    |normal=>exact this
    |ret=>exact this
    |exit id=>grind
theorem Pd.ofN{w0:World}{g:TF}{f:FuncId}{h:bg}(hN:S5 Q w0 f h)(hg: ∀ps R y,g ps R=some y->h ps R (λz=>z=y)):Pd Q w0 f g:=by intro _ ps R p R1 hr F G w vs hH hlen hv;refine(hN ps R _ (hg ps R (p,R1) hr) F G w vs hH hlen hv).mono λv w' ⟨y,hy,F',G',h1,h2,h3⟩=>by grind
end
end Pi
