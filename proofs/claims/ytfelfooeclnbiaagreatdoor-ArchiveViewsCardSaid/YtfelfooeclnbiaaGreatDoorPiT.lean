/- The text PiT. -/
import Derived.Test.YtfelfooeclnbiaaGreatDoorEbp
namespace Pi
open Go
def TW(Q:Program)(T:Tg)(c:Code)(s:S)(ae:PX×S->Prop):Prop:=
 ∀ ⦃r:Option Nat⦄(_:T.Ph=true->r=none) (F:Nat->Prop) (G:Nat->Value) (w:World) (a:Act) (Q':Exit->Act->World->Prop),aB Q T F G w a s->(∀e s' a' w',ae (e,s')->iH Q T F G w s s' a' w'->Q' e.fo a' w')->c.wpIn (wd r) 0 Q Q' a w
def Bb(Q:Program)(s:S)(dst:Option Nat)(p:P):K S:=
 match p with
 | .ref n v 0=>match s.obj n v with
  |some (.iter kt vt left _)=>λae=>
   (∀k x,left k=some x->K.bind (B3 Q kt k) (λk=>K.bind (B3 Q vt x) λx=>K.dR ((s.setObj n (.iter kt vt (Ef k left) (some (k,x)))).put dst (.bI [.d (.bool true),.d k,.d x]))) ae)/\
   ((∀k,left k=none)->K.dR (s.put dst (.bI [.d (.bool false)])) ae)
  |_=>K.fail
 |_=>K.fail
def pK(o:Oper):Option Operand:=match o.op with | .next it false=>if o.guard.isNone then some it else none |_=>none
def kfN(HN:List (FuncId×bh)):KF:=λf=>match lk HN f with |some h=>h |none=>λ_ _=>K.fail
def KA(HN:List (FuncId×bh))(s:S)(o:Oper):Option (P×List P):=
 match gx o with
 |some (f,xs)=>match s.eg none f with
  | .fn kF cF=>if(lk HN kF).isSome&&o.guard.isNone then some (.fn kF cF,xs.map (s.eg none)) else none
  |_=>none
 |none=>none
def ew(Q:Program)(cf:KF)(HN:List (FuncId×bh))(ops:List Oper):List Oper->List (Nat×Bool)->S->K S
 | [],_,s=>K.ret s
 |o::r,kn,s=>match pK o with
  |some it=>K.bind (Bb Q s o.dst ((s.ev it).under none)) λs1=>s1.force λs1=>ew Q cf HN ops r [] s1
  |none=>match KA HN s o with
   |some (f,xs)=>K.bind (qH Q (kfN HN) s o.dst f xs) λs1=>s1.force λs1=>ew Q cf HN ops r [] s1
   |none=>K.bind (Aw Q cf ops kn s o) λx=>x.1.force λs1=>ew Q cf HN ops r x.2 s1
def hasNext:List Oper->Bool
 | []=>false
 |o::r=>(pK o).isSome ||hasNext r
def c8(Q:Program)(kf:KF)(HN:List (FuncId×bh))(kp:Nat->Option (List Nat×List Nat))(hk:List (Nat×(S->K (PX×S))))(dc:Nat->Nat):Code->S->K (PX×S)
 | .skip,s=>K.ret (.normal,s)
 | .label _,s=>K.ret (.normal,s)
 | .region id ops draw,s=>K.bind (if draw then El Q kf ops.toList (dc id) s else if hasNext ops.toList || !HN.isEmpty then ew Q kf HN ops.toList ops.toList [] s else lF Q kf ops.toList ops.toList [] s) λs1=>K.ret (.normal,s1)
 | .seq a b,s=>K.bind (c8 Q kf HN kp hk dc a s) λx=>match x.1 with
  | .normal=>c8 Q kf HN kp hk dc b x.2
  |_=>K.ret x
 | .cond c x y,s=>match s.ev c with
  | .d (.bool b)=>K.bind (K.dec b) λr=>if r then c8 Q kf HN kp hk dc x s else c8 Q kf HN kp hk dc y s
  |_=>K.fail
 | .block id c,s=>K.bind (c8 Q kf HN kp hk dc c s) λx=>match x.1 with
  | .exit pd=>if Nat.beq pd id then K.ret (.normal,x.2) else K.ret x
  |_=>K.ret x
 | .loop c,s=>match lk hk (Code.rZ c) with
  |some h=>h s
  |none=>K.fail
 | .scope c,s=>c8 Q kf HN kp hk dc c s
 | .exit id,s=>K.ret (.exit id,s)
 | .ret,s=>K.ret (.ret,s)
 | .rangeFunc _ _ _ b,s=>match lk hk (500000+Code.rZ b) with
  |some h=>h s
  |none=>K.fail
 |_,_=>K.fail
structure RF where
 g:Operand
 ps:Array Tmp
 asg:Code
 body:Code
def RF.code(x:RF):Code:= .rangeFunc x.g x.ps x.asg x.body
def bZ:Code->List RF
 | .seq a b=>bZ a++bZ b
 | .cond _ a b=>bZ a++bZ b
 | .block _ c | .scope c | .loop c=>bZ c
 | .rangeFunc g ps a b=>[⟨g,ps,a,b⟩]
 |_=>[]
def RF.id(x:RF):Nat:=Code.rZ x.body
def CS(id:Nat):List RF->Option RF
 | []=>none
 |x::r=>if Nat.beq x.id id then some x else CS id r
def mH(Q:Program)(f:FuncId)(id:Nat):RF:=
 match Q.funcs[f]? with
 |some fn=>(match fn.body with |some c=>(CS id (bZ c)).getD ⟨.const undef, #[],.skip,.skip⟩|none=>⟨.const undef, #[],.skip,.skip⟩)
 |none=>⟨.const undef, #[],.skip,.skip⟩
def Bc(Q:Program)(f:FuncId):Bool:=
 match Q.funcs[f]? with
 |some fn=>(match fn.body with |some c=>dJ ((bZ c).map RF.id)&&(aM c).all λd=>Nat.blt (Code.rZ d) 500000 |none=>true)
 |none=>true
theorem Bd{d:RF}: ∀(l:List RF),(l.map RF.id).Nodup->d∈l->CS d.id l=some d
 | [],_,h=>by simp at h
 |c::r,hn,h=>by
  obtain⟨Oj,hn2⟩:=za8.1 hn;unfold CS;rcases zas.1 h with rfl |h
  ·simp
  have: ¬c.id=d.id:=λe=>Oj (e▸zbt h);rw[zap (by simpa using this)];exact Bd r hn2 h
theorem WN{Q:Program}{f:FuncId}{fn:Func}{c:Code}{x:RF}(hu:Bc Q f=true)(gK:Q.funcs[f]?=some fn)(hc:fn.body=some c)(hx:x∈bZ c):mH Q f x.id=x:=by grind [Bc,mH,Bd,dq]
theorem MS{Q:Program}{f:FuncId}{fn:Func}{c:Code}{d:Code}(hu:Bc Q f=true)(gK:Q.funcs[f]?=some fn)(hc:fn.body=some c)(hd:d∈aM c):Code.rZ d<500000:=by simp_all [Bc,zad,zaZ,Nat.blt_eq]
section
variable{Q:Program}{T:Tg}{F:Nat->Prop}{G:Nat->Value}{w:World}{a:Act}{s:S}{r:Option Nat}
theorem TW.mono{c:Code}{p q:PX×S->Prop}(h:TW Q T c s p)(Pu: ∀x,p x->q x):TW Q T c s q:=λ_ ve F G w a Q' hs hK=>h ve F G w a Q' hs λe s' a' w' hp=>hK e s' a' w' (Pu _ hp)
theorem TW.of_run{kp:Nat->Option (List Nat×List Nat)}{cf:CF}{lf:Nat}(jl:eG Q T.w0 cf)(hdr:Q.follows .mixedOrders=true){c:Code}{x:PX×S}(h:bJ Q cf kp lf c s=some x){ae:PX×S->Prop}(hp:ae x):TW Q T c s ae:=
 λ_ _ F G w a Q' hs hK=>fp jl hdr c s x.1 x.2 h F G w a Q' hs λa' w' hP=>hK x.1 x.2 a' w' hp hP
theorem Fk{r m since last:Nat}{seen:Array Nat}{es:Array MapEntry}{clock:Nat}(ty:TypeId)(hr:w.heap[r]?=some (.mapIter (some m) since seen last))(hm:w.heap[m]?=some (.map es clock))(hold: ∀x∈es.toList,x.born<since)(Hm:since<=last):
  ((∀x∈es.toList,seen.contains x.born=true)/\(Instr.next (.pointer (some ⟨r,0,none⟩)) false ty).run Q w= .ok (.tuple #[.bool false]) w)\/
  ∃e∈es.toList,seen.contains e.born=false/\ ∃w1:World,(w1=w\/w1={w with drawn:=w.drawn+1})/\(Instr.next (.pointer (some ⟨r,0,none⟩)) false ty).run Q w= .ok (.tuple #[.bool true,e.key,e.val]) {w1 with heap:=w1.heap.setIfInBounds r (.mapIter (some m) since (seen.push e.born) clock)}:=by
 have bk:(!seen.isEmpty&& !es.isEmpty&&es.all λx=>decide (x.born>=last))=false:=by
  cases he:es.isEmpty with
  |true=>simp
  |false=>
   have h0:0<es.size:=by grind
   have:es.all (λx=>decide (x.born>=last))=false:=by grind
   rw[this,Bool.and_false]
 have e1:(es.filter λe=> !seen.contains e.born).filter (λx=>decide (x.born<since))=es.filter λe=> !seen.contains e.born:=Array.filter_eq_self.2 λx hx=>by have:=hold x (by grind);grind
 have e2:(es.filter λe=> !seen.contains e.born).filter (λx=>decide (x.born>=since))= #[]:=by rw[Array.filter_eq_empty_iff];grind
 have mem: ∀x,x∈(es.filter λe=> !seen.contains e.born)↔x∈es.toList/\seen.contains x.born=false:=λx=>by simp
 simp only[Instr.next,getObj,Sem.run_bind,Sem.run,hr,hm,Result.andThen,bk,zaC,zbq,e1,e2,Array.append_empty];generalize (es.filter λe=> !seen.contains e.born)=L at mem⊢;by_cases h0:L.size=0
 ·have:L= #[]:=Array.eq_empty_of_size_eq_zero h0;subst this;refine .inl ⟨λx hx=> ?_,?_⟩
  ·grind
  simp[choose,Sem.run,Question.forced]
 have cU:L.isEmpty=false:=by grind
 have hch: ∃(j:Nat) (w1:World),j<L.size/\(w1=w\/w1={w with drawn:=w.drawn+1})/\(choose (Question.mapNext L.size)).run Q w= .ok j w1:=by
  by_cases hf:L.size<=1
  ·exact⟨0,w,by omega,.inl rfl,by simp[choose,Sem.run,Question.forced,hf]⟩
  refine⟨w.tape w.drawn (.mapNext L.size)%L.size,{w with drawn:=w.drawn+1},zcL _ (by omega),.inr rfl,?_⟩;simp only[choose,Sem.run,Question.forced,zal,hf,zbq,Question.cut]
 obtain⟨j,w1,hj,Kw,bX⟩:=hch;obtain⟨m1,m2⟩:=(mem L[j]).1 (by simp);refine .inr ⟨L[j],m1,m2,w1,Kw,?_⟩;have hr1:w1.heap[r]?=some (.mapIter (some m) since seen last):=by rcases Kw with rfl |rfl<;>exact hr
 have nC:(setObj r (.mapIter (some m) since (seen.push L[j].born) clock)).run Q w1= .ok () {w1 with heap:=w1.heap.setIfInBounds r (.mapIter (some m) since (seen.push L[j].born) clock)}:=by simp[setObj,Sem.run,hr1]
 simp_all
theorem KB(h:aB Q T F G w a s){o:Oper}{it:Operand}(ho:pK o=some it){ae:S->Prop}(hp:Bb Q s o.dst ((s.ev it).under none) ae){K:Act->World->Prop}{Q':Exit->Act->World->Prop}
  (hK: ∀s' a' w',ae s'->iH Q T F G w s s' a' w'->K a' w'):o.wpIn (wd r) 0 Q a w K Q':=by
 have tM:o.op= .next it false:=by grind [pK]
 have hv:=aS h (g:=none) trivial it;unfold S.eg at hv;generalize (s.ev it).under none=p at hv hp;have hnx: ∃n aR kt vt left cur,p= .ref n aR 0/\s.obj n aR=some (.iter kt vt left cur):=by
  cases p with
  |ref n aR off=>
   cases off with
   |succ off=>exact hp.elim
   |zero=>
    cases hob:s.obj n aR with
    |none=>simp only[Bb,hob] at hp;exact hp.elim
    |some o=>
     cases o with
     |iter kt vt left cur=>grind
     |_=>simp only[Bb,hob] at hp;exact hp.elim
  |_=>exact hp.elim
 obtain⟨n,aR,kt,vt,left,cur,rfl,hob⟩:=hnx;simp only[Bb,hob] at hp;obtain⟨p1,p2⟩:=hp;obtain⟨e,he,dw,bH⟩:=S.bw hob;have hO:=h.rg n e he;rw[bH] at hO;obtain⟨b,mo,since,seen,last,hg,hh,hO⟩:=hO;have hval:a.eval it= .pointer (some ⟨b,0,none⟩):=by
  generalize a.eval it=v at hv;cases hv with
  |ref _ _ _ _ hr h1=>obtain⟨b',AJ,rfl⟩:=hr.at he dw (by rw[bH];rfl);rw[hg] at AJ;rw[AJ]
 have over:(∀k,left k=none)->(Instr.next (.pointer (some ⟨b,0,none⟩)) false o.type).run Q w= .ok (.tuple #[.bool false]) w->o.wpIn (wd r) 0 Q a w K Q':=λh0 bX=>by
  obtain⟨s1,oK,dA⟩:=KW.dR (p:=λs1=>s.put o.dst (.bI [.d (.bool false)])=some s1) (λ_ h=>h) _ (p2 h0);obtain⟨c1,c2⟩:=cr h oK (v:= .tuple #[.bool false]) (cy.of (.bI [.bool false] [.d (.bool false)] rfl λi v c hv hc=>by
   cases i with
   |zero=>simp at hv hc;subst hv;subst hc;exact .d (.bool false)
   |succ i=>simp at hv))
  refine um (λc hc=>by rw[tM] at hc;cases hc) (v:= .tuple #[.bool false]) (w':=w) (.inl (by simp[execOp,tM,hval,bX])) (hK s1 _ _ dA ⟨F,G,c1,?_⟩);rw[c2];exact Ext.refl _ _ _
 rcases hO with⟨rfl,h0,_⟩| ⟨m,es,rfl,hF,hm,oi,hI,hc⟩
 ·exact over h0 (by simp[Instr.next,getObj,Sem.run_bind,Sem.run,hh])
 subst oi;have hold: ∀x∈es.toList,x.born<last:=by obtain⟨ks,_,_,_,h5,_⟩:=hI;exact h5
 rcases Fk (Q:=Q) o.type hh hm hold (zai _) with⟨h0,bX⟩| ⟨en,Cn,Qv,w1,Kw,bX⟩
 ·exact over (hI.over h0) bX
 have Qv:en∈es.toList/\seen.contains en.born=false:=⟨Cn,Qv⟩
 obtain⟨k,x,hk,xg,hx,hI2⟩:=hI.next Qv.1 Qv.2;obtain⟨k',rfl,Qw⟩:=nz Q kt k _ (p1 k x hk);obtain⟨x',rfl,hp3⟩:=nz Q vt x _ Qw;obtain⟨s1,oK,dA⟩:=KW.dR (p:=λs1=>(s.setObj n (.iter kt vt (Ef k left) (some (k,x)))).put o.dst (.bI [.d (.bool true),.d k,.d x])=some s1) (λ_ h=>h) _ hp3;have hw1:w1.heap=w.heap/\w1.os=w.os/\w1.tape=w.tape/\w1.output=w.output:=by rcases Kw with rfl |rfl<;>exact⟨rfl,rfl,rfl,rfl⟩
 have sB:b<w.heap.size:=(zau.1 hh).1;have fV:bm (G n) e.obj=some b:=by rw[bH,hg];rfl
 have cU:m≠b:=λhmb=>by grind
 have kq: ∀b0,b0≠b->(w.heap.setIfInBounds b (.mapIter (some m) last (seen.push en.born) last))[b0]?=w.heap[b0]?:=λb0 cU=>zaV (zbs cU);have xu:(w.heap.setIfInBounds b (.mapIter (some m) last (seen.push en.born) last))[b]?=some (.mapIter (some m) last (seen.push en.born) last):=by rw[zbD sB]
 have Cm: ∀b0,F b0->b0≠b:=λb0 hf e0=>by subst e0;exact h.mg n e b0 he fV hf
 rw[S.fg he] at oK;have qhU:w.drawn<=w1.drawn:=by grind
 obtain⟨d1,d2⟩:=h.mh (n:=n) (e1:=⟨e.aR,e.tag,.iter kt vt (Ef k left) (some (k,x))⟩) (g1:=G n) (w':={w1 with heap:=w.heap.setIfInBounds b (.mapIter (some m) last (seen.push en.born) last)}) (hdr:=qhU)
  (λe' cx=>by rw[he] at cx;cases cx;exact .inr ⟨rfl,λ_=>⟨by rw[bH];rfl,rfl⟩⟩)
  (λb0 _ bk=>kq b0 λe0=>by grind) (by simp) hw1.2.1 hw1.2.2.1 hw1.2.2.2
  (λb0 wC=> .inr ⟨e,he,by rw[bH];exact wC⟩)
  ⟨b,some m,last,seen.push en.born,last,by rw[bx];exact hg,xu,.inr ⟨m,es,rfl,hF,(kq m cU).trans hm,rfl,hI2.mono (λ_ h=>h) (λb0 hf=>kq b0 (Cm b0 hf)),λk1 x1 hc1=>by obtain⟨rfl,rfl⟩:=hc1;exact⟨en,Qv.1,by simp,xg,hx.mono (λ_ h=>h) (λb0 hf=>kq b0 (Cm b0 hf))⟩⟩⟩
  (λi hi _=>h.tag n e i he hi (by rw[bH];rfl))
 rw[bx] at d1 d2;obtain⟨c1,c2⟩:=cr d1 oK (v:= .tuple #[.bool true,en.key,en.val]) (cy.of (.bI [.bool true,en.key,en.val] _ rfl λi v c hv hc=>by
  match i with
  |0=>simp at hv hc;subst hv;subst hc;exact .d (.bool true)
  |1=>simp at hv hc;subst hv;subst hc;exact .d (aU.Pr _ _ xg)
  |2=>simp at hv hc;subst hv;subst hc;exact .d (hx.mono (λ_ h=>h) (λb0 hf=>kq b0 (Cm b0 hf)))
  |i+3=>simp at hv))
 refine um (λc hc=>by rw[tM] at hc;cases hc) (v:= .tuple #[.bool true,en.key,en.val]) (w':={w1 with heap:=w.heap.setIfInBounds b (.mapIter (some m) last (seen.push en.born) last)}) (.inl ?_) (hK s1 _ _ dA ⟨F,G,c1,?_⟩)
 ·simp only[execOp,tM,hval,Sem.run_bind,bX];simp[hw1.1]
 grind
def Vx(Q:Program)(w0:World)(f:FuncId)(h:bh):Prop:=
 ∀ps R ae,h ps R ae-> ∀(F:Nat->Prop) (G:Nat->Value) (w:World) (vs:List Value),eZ Q ⟨G,w0,0,false⟩ F G w R->vs.length=ps.length->
  (∀(i:Nat) (v:Value) (c:P),vs[i]?=some v->ps[i]?=some c->aF F w G R v c)->
  jb Q f ⟨vs⟩ w (λv w'=> ∃y:P×List (Nat×En),ae y/\ ∃F' G',eZ Q ⟨G,w0,0,false⟩ F' G' w' y.2/\aF F' w' G' y.2 v y.1/\Ext (Own G R) (Own G' y.2) F F' w w')
theorem Qx{HN:List (FuncId×bh)}(qb: ∀f h,lk HN f=some h->Vx Q T.w0 f h)(h:aB Q T F G w a s){dst:Option Nat}{pf:P}{ps:List P}{ae:S->Prop}(hs:qH Q (kfN HN) s dst pf ps ae){fv:Value}{vs:List Value}(hf:aF F w G s.rg fv pf)(hl:vs.length=ps.length)
  (hv: ∀(i:Nat) (v:Value) (c:P),vs[i]?=some v->ps[i]?=some c->aF F w G s.rg v c):
  ∃kF cs,fv= .func (.func kF) #[] ⟨cs⟩/\jb Q kF ⟨vs++cs⟩ w (λv w'=> ∃s',ae s'/\ ∃F' G',aB Q T F' G' w' (a.put dst v) s'/\Ext (Own G s.rg) (Own G' s'.rg) F F' w w'):=by
 cases pf with
 |fn kF cF=>
  cases hf with
  |fn _ cs _ H9 ln=>
   refine⟨kF,cs,rfl,?_⟩;cases DP:cL Q s kF (ps++cF) with
   |none=>simp only[qH,DP] at hs;exact hs.elim
   |some r=>
    obtain⟨s1,qs⟩:=r;cases ov:dJ (reach s1.rg 1000 qs []) with
    |false=>simp only[qH,DP,ov,zaC,zbq] at hs;exact hs.elim
    |true=>
     cases jJ:sub s1.rg (toPos s1.rg (reach s1.rg 1000 qs [])) true 0 (reach s1.rg 1000 qs []) with
     |none=>simp only[qH,DP,ov,zbg,jJ] at hs;exact hs.elim
     |some R0=>
      simp only[qH,DP,ov,zbg,jJ] at hs;cases hh:lk HN kF with
      |none=>simp only[kfN,hh] at hs;exact hs.elim
      |some zU=>
       simp only[kfN,hh] at hs;have cN: ∀(i:Nat) (v:Value) (c:P),(vs++cs)[i]?=some v->(ps++cF)[i]?=some c->aF F w G s.rg v c:=λi v c h1 h2=>by grind
       obtain⟨F1,a1,a2,a3,a4,a5,a6⟩:=vq (ps++cF) s F s1 qs (vs++cs) h DP (by grind) cN;obtain⟨b1,b2,b3⟩:=a1.heap.sub jJ ov;have hq:=qb kF zU hh _ R0 _ hs F1 _ w (vs++cs) b1 (by rw[jk];exact a5) (λi v c h1 h2=>by rw[jj] at h2;grind [nD]);refine hq.mono λv w' ⟨⟨p,R1⟩,dA,F2,G2,c1,c2,c3⟩=> ?_;cases Wn:(dJ (cX R1 (reach R1 1000 (p::fe R1 R1) []))&&Nat.ble (cX R1 (reach R1 1000 (p::fe R1 R1) [])).length 1000) with
       |false=>simp only[Wn,zaC,zbq] at dA;exact dA.elim
       |true=>
        simp only[Wn,zbg] at dA;cases jT:gm R1 (fc R1 s1.rg (reach s1.rg 1000 qs []) (cX R1 (reach R1 1000 (p::fe R1 R1) [])) (site dst*1000)) 0 (reach s1.rg 1000 qs []) s1.rg with
        |none=>simp only[jT] at dA;exact dA.elim
        |some R2=>
         simp only[jT] at dA;cases eS:kD R1 (fc R1 s1.rg (reach s1.rg 1000 qs []) (cX R1 (reach R1 1000 (p::fe R1 R1) [])) (site dst*1000)) (site dst*1000) (cX R1 (reach R1 1000 (p::fe R1 R1) [])) R2 with
         |none=>simp only[eS] at dA;exact dA.elim
         |some R3=>simp only[eS] at dA;obtain⟨s',hs',dA⟩:=KW.dR (p:=λs'=>({s1 with rg:=R3}:S).put dst (Ar _ p)=some s') (λ_ h=>h) _ dA;obtain⟨G3,d1,d2,d3⟩:=rl a1 ov (zad _ _▸Wn:_/\_).1 jJ c1 c3 (eK R1 _) jT eS;obtain⟨e1,e2⟩:=cr d1 hs' (cy.of (nD d3 c2));refine⟨s',dA,F2,G3,e1,?_⟩;rw[e2];exact a2.trans d2
 |_=>exact hs.elim
theorem Qy{HN:List (FuncId×bh)}(qb: ∀f h,lk HN f=some h->Vx Q T.w0 f h)(h:aB Q T F G w a s){o:Oper}{pf:P}{ps:List P}(ho:KA HN s o=some (pf,ps)){ae:S->Prop}(hp:qH Q (kfN HN) s o.dst pf ps ae){K:Act->World->Prop}{Q':Exit->Act->World->Prop}
  (hK: ∀s' a' w',ae s'->iH Q T F G w s s' a' w'->K a' w'):o.guard=none/\o.wpIn (wd r) 0 Q a w K Q':=by
 unfold KA at ho;split at ho
 next f xs hc=>
  split at ho
  next kF cF hfe=>
   split at ho
   ·rename_i dZ;refine⟨by simp_all,?_⟩;obtain⟨rfl,rfl⟩:=ho;unfold gx at hc;split at hc
    ·rename_i c tM;split at hc
     ·rename_i f' kO;simp at hc;obtain⟨rfl,rfl⟩:=hc;obtain⟨qhV,cs,hfv,aW⟩:=Qx qb h hp (by rw[<-hfe];exact aS h (g:=none) trivial f') (vs:=c.args.toList.map a.eval) (by simp) (λi v p hv hp=>by rw[zaD] at hv hp;simp only[zav] at hv hp;obtain⟨x,hx,rfl⟩:=hv;obtain⟨y,hy,rfl⟩:=hp;rw[hx] at hy;cases hy;exact aS h (g:=none) trivial x);have bX:(execOp a.eval o).run Q w=(callFunc qhV ⟨c.args.toList.map a.eval++cs⟩).run Q w:=by
       have e:(c.args.map a.eval)++(⟨cs⟩:Array Value)=⟨c.args.toList.map a.eval++cs⟩:=by simp
       simp[execOp,tM,resolve,kO,hfv,Deferred.ofValue,invoke,e]
      refine sH (λc' zm=>by rw[tM] at zm;cases zm) ?_;rw[bX];rcases aW with⟨h1,h2⟩| ⟨v,w',h1,s',mB,F',G',h2,h3⟩
      ·rw[h1];refine⟨λh=>(by cases h),(xA h2).mono λe w' ⟨v,he,s',mB,F',G',h3,h4⟩=> ?_⟩;subst he;exact hK _ _ _ mB ⟨F',G',h3,h4⟩
      rw[h1];exact hK _ _ _ mB ⟨F',G',h2,h3⟩
     cases hc
    cases hc
   cases ho
  cases ho
 cases ho
theorem nJ{HN:List (FuncId×bh)}(qb: ∀f h,lk HN f=some h->Vx Q T.w0 f h){kf:KF}{cf:Nat->Nat->CF}(iu:zV kf cf)(jl: ∀a b,eG Q T.w0 (cf a b)){ops:List Oper}{Q':Exit->Act->World->Prop}{ae:S->Prop}: ∀(l:List Oper) (kn:List (Nat×Bool)) (F:Nat->Prop) (G:Nat->Value) (w:World) (a:Act) (s:S),jL kn s->aB Q T F G w a s->ew Q kf HN ops l kn s ae->
  (∀s' a' w',ae s'->iH Q T F G w s s' a' w'->Q' .normal a' w')->wpListIn (wd r) 0 Q ops.toArray Q' l a w
 | [],kn,F,G,w,a,s,_,h,hp,hK=>by unfold ew at hp;exact hK s a w hp ⟨F,G,h,Ext.refl _ _ _⟩
 |o::l,kn,F,G,w,a,s,dy,h,hp,hK=>by
  cases ho:pK o with
  |some it=>
   simp only[ew,ho] at hp;have Kr:o.guard=none:=by
    unfold pK at ho;split at ho
    ·simp_all
    cases ho
   have:o.wpIn (wd r) 0 Q a w (wpListIn (wd r) 0 Q ops.toArray Q' l) Q':=KB h ho (ae:=λs1=>ew Q kf HN ops l [] s1 ae) (by
    have e:(λs1:S=>s1.force λs1=>ew Q kf HN ops l [] s1)=λs1=>ew Q kf HN ops l [] s1:=by funext s1;rw[S.force_eq]
    rw[e] at hp;exact hp) λs1 a1 w1 uu ⟨F1,G1,g1,g2⟩=>nJ qb iu jl l _ F1 G1 w1 a1 s1 (jL.nil s1) g1 uu λs' a' w' mB hP=>hK s' a' w' mB (hP.trans g2)
   exact fk (by rw[zaq (by simp[Region.wanted,Kr])];exact this)
  |none=>
  cases H9:KA HN s o with
  |some fx=>
   simp only[ew,ho,H9] at hp;have e:(λs1:S=>s1.force λs1=>ew Q kf HN ops l [] s1)=λs1=>ew Q kf HN ops l [] s1:=by funext s1;rw[S.force_eq]
   rw[e] at hp;obtain⟨Kr,this⟩:=Qy (K:=wpListIn (wd r) 0 Q ops.toArray Q' l) (Q':=Q') qb h H9 (ae:=λs1=>ew Q kf HN ops l [] s1 ae) hp λs1 a1 w1 uu ⟨F1,G1,g1,g2⟩=>nJ qb iu jl l _ F1 G1 w1 a1 s1 (jL.nil s1) g1 uu λs' a' w' mB hP=>hK s' a' w' mB (hP.trans g2);exact fk (by rw[zaq (by simp[Region.wanted,Kr])];exact this)
  |none=>simp only[ew,ho,H9] at hp;obtain⟨x,⟨hx,hk⟩,uu⟩:=sN iu dy _ hp;rw[S.force_eq] at uu;obtain⟨i,j,hx⟩:=hx.some;have jy:=ku (r:=r) (jl i j) h hx (K:=wpListIn (wd r) 0 Q ops.toArray Q' l) (Q':=Q') (λa' w' ⟨F',G',g1,g2⟩=>nJ qb iu jl l _ F' G' w' a' x.1 hk g1 uu (λs' a2 w2 mB hp=>hK s' a2 w2 mB (hp.trans g2)));exact fk jy
theorem TW.seq{x y:Code}{p ae:PX×S->Prop}(h1:TW Q T x s p)(h2: ∀s1,p (.normal,s1)->TW Q T y s1 ae)(h3: ∀e s1,e≠ .normal->p (e,s1)->ae (e,s1)):TW Q T (.seq x y) s ae:=λr ve F G w a Q' hs hK=>by
 refine wpIn_seq (h1 ve F G w a _ hs λe s1 a1 w1 hp hP=> ?_);cases e with
 |normal=>obtain⟨F1,G1,g1,g2⟩:=hP;exact h2 s1 hp ve F1 G1 w1 a1 Q' g1 λe2 s2 a2 w2 Qw hP2=>hK e2 s2 a2 w2 Qw (iH.trans g2 hP2)
 |exit id=>exact hK _ s1 a1 w1 (h3 _ _ (by simp) hp) hP
 |ret=>exact hK _ s1 a1 w1 (h3 _ _ (by simp) hp) hP
theorem TW.cond{c:Operand}{x y:Code}{b:Bool}{ae:PX×S->Prop}(hb:s.ev c= .d (.bool b))(h:TW Q T (if b then x else y) s ae):TW Q T (.cond c x y) s ae:=λr ve F G w a Q' hs hK=>by
 have hv:a.eval c= .bool b:=by have:=w9 hs c;rw[hb] at this;exact aF.cp (p:= .d (.bool b)) this rfl
 refine wpIn_cond hv ?_;cases b with
 |true=>exact h ve F G w a Q' hs hK
 |false=>exact h ve F G w a Q' hs hK
theorem TW.block{id:Nat}{c:Code}{p ae:PX×S->Prop}(h:TW Q T c s p)(hp: ∀e s1,p (e,s1)->match e with | .exit pd=>if Nat.beq pd id then ae (.normal,s1) else ae (e,s1)|_=>ae (e,s1)):TW Q T (.block id c) s ae:=λr ve F G w a Q' hs hK=>by
 refine wpIn_block (h ve F G w a _ hs λe s1 a1 w1 uu hP=> ?_);have:=hp e s1 uu;cases e with
 |normal=>exact hK _ s1 a1 w1 this hP
 |ret=>exact hK _ s1 a1 w1 this hP
 |exit pd=>
  simp only at this;split at this
  next hid=>
   have hid:pd=id:=by simpa using hid
   have:=hK _ s1 a1 w1 this hP;simp only[PX.fo,Exit.inBlock,hid,zbg];exact this
  rename_i hid;have hid: ¬pd=id:=by simpa using hid
  have:=hK _ s1 a1 w1 this hP;simp only[PX.fo,Exit.inBlock,hid,zbq];exact this
theorem TW.scope{c:Code}{ae:PX×S->Prop}(h:TW Q T c s ae):TW Q T (.scope c) s ae:=λr ve F G w a Q' hs hK=>by refine fW (h ve F G w a _ hs λe s1 a1 w1 hp hP=> ?_);have:=hK e s1 a1 w1 hp hP;cases e<;>simpa [PX.fo,Exit.noGoto] using this
theorem TW.loop{c:Code}{keep:Option (List Nat×List Nat)}{I:Nat->S->Prop}{O:PX×S->Prop}
  (hr: ∀n s,I n s->TW Q T c s (λx=>match x.1 with | .normal=> ∃s2,cH keep x.2=some s2/\ ∃m,m<n/\I m s2 |e=> ∃s2,eE keep x.2=some s2/\O (e,s2)))
  {n:Nat} {s0:S} (h0:cH keep s=some s0) (hI:I n s0):TW Q T (.loop c) s O:=λr ve F G w a Q' hs hK=>by
 obtain⟨G0,g1,g2⟩:=fL hs h0;have key: ∀(N n:Nat) (s:S),n<N->I n s-> ∀(F:Nat->Prop) (G:Nat->Value) (w:World) (a:Act),aB Q T F G w a s->(∀e s' a' w',O (e,s')->iH Q T F G w s s' a' w'->Q' e.fo a' w')->Code.roundsIn (wd r) 0 Q c Q' N a w:=by
  intro N
  induction N with
  |zero=>simp
  |succ N ih=>
   intro n s hn hI F G w a hs hK;refine hr n s hI ve F G w a _ hs λe s1 a1 w1 hp hP=> ?_;obtain⟨F1,G1,k1,k2⟩:=hP;cases e with
   |normal=>obtain⟨s2,h2,m,hm,hi⟩:=hp;obtain⟨G2,m1,m2⟩:=fL k1 h2;exact ih m s2 (by omega) hi F1 G2 w1 a1 m1 λe s' a' w' hO hP=>hK e s' a' w' hO (iH.trans (k2.trans m2) hP)
   |exit id=>obtain⟨s2,h2,hO⟩:=hp;obtain⟨G2,m1,m2⟩:=fL (keep:=keep.map λl=>(l.2,l.2)) k1 (by cases keep<;>exact h2);exact hK _ s2 a1 w1 hO ⟨F1,G2,m1,k2.trans m2⟩
   |ret=>obtain⟨s2,h2,hO⟩:=hp;obtain⟨G2,m1,m2⟩:=fL (keep:=keep.map λl=>(l.2,l.2)) k1 (by cases keep<;>exact h2);exact hK _ s2 a1 w1 hO ⟨F1,G2,m1,k2.trans m2⟩
 exact wpIn_loop_rounds (n+1) (key (n+1) n s0 (by omega) hI F G0 w a g1 λe s' a' w' hO hP=>hK e s' a' w' hO (iH.trans g2 hP))
variable{kp:sr}
theorem eN{HN:List (FuncId×bh)}(qb: ∀f h,lk HN f=some h->Vx Q T.w0 f h){kf:KF}(iu:zV kf (fG Q kp))(hX:eG Q T.w0 kp.X)(hdr:Q.follows .mixedOrders=true){kp1:Nat->Option (List Nat×List Nat)}{hk:List (Nat×(S->K (PX×S)))}{dc:Nat->Nat}: ∀(c:Code),b8 dc c=true->
  (∀d∈aM c,∀h,lk hk (Code.rZ d)=some h-> ∀s ae,h s ae->TW Q T (.loop d) s ae)->(∀x∈bZ c,∀h,lk hk (500000+x.id)=some h-> ∀s ae,h s ae->TW Q T x.code s ae)-> ∀(s:S) (ae:PX×S->Prop),c8 Q kf HN kp1 hk dc c s ae->TW Q T c s ae
 | .skip,_,_,_,s,ae,hp=>λr ve F G w a Q' hs hK=>wpIn_skip (hK .normal s a w hp ⟨F,G,hs,Ext.refl _ _ _⟩)
 | .label _,_,_,_,s,ae,hp=>λr ve F G w a Q' hs hK=>wpIn_label (hK .normal s a w hp ⟨F,G,hs,Ext.refl _ _ _⟩)
 | .region id ops draw,hl,_,_,s,ae,hp=>by
  have jl: ∀a b,eG Q T.w0 (fG Q kp a b):=λa b=>sP hX hdr b;unfold c8 at hp;cases draw with
  |true=>obtain⟨s1,h1,hp⟩:=xV iu (zah (by simpa [b8] using hl)) _ hp;obtain⟨i,j,h1⟩:=h1.some;exact TW.of_run (kp:=kp1) (lf:=0) (jl i j) hdr (x:=(.normal,s1)) (by grind [bJ]) hp
  |false=>
   simp only[zaC,zbq] at hp;split at hp
   ·exact λr ve F G w a Q' hs hK=>wpIn_region_list (by simpa using nJ qb iu jl ops.toList [] F G w a s (jL.nil s) hs hp λs' a' w' mB hP=>hK .normal s' a' w' mB hP)
   obtain⟨s1,h1,hp⟩:=nG iu _ [] _ (jL.nil _) _ hp;obtain⟨i,j,h1⟩:=h1.some;exact TW.of_run (kp:=kp1) (lf:=0) (jl i j) hdr (x:=(.normal,s1)) (by grind [bJ]) hp
 | .seq x y,hl,hh,hr,s,ae,hp=>by
  unfold c8 at hp;have CL:b8 dc x=true/\b8 dc y=true:=by simpa [b8] using hl
  refine TW.seq (eN qb iu hX hdr x CL.1 (λd hd=>hh d (by simp[aM,hd])) (λx hx=>hr x (by simp[bZ,hx])) s _ hp) (λs1 h1=>eN qb iu hX hdr y CL.2 (λd hd=>hh d (by simp[aM,hd])) (λx hx=>hr x (by simp[bZ,hx])) s1 ae h1) λe s1 he h1=> ?_;cases e with
  |normal=>grind
  |exit id=>exact h1
  |ret=>exact h1
 | .cond c x y,hl,hh,hr,s,ae,hp=>by
  unfold c8 at hp;have CL:b8 dc x=true/\b8 dc y=true:=by simpa [b8] using hl
  have hbx: ∃b,s.ev c= .d (.bool b):=by
   cases hb:s.ev c with
   |d x=>
    cases x with
    |bool b=>simp
    |_=>simp only[hb] at hp;exact hp.elim
   |_=>simp only[hb] at hp;exact hp.elim
  obtain⟨b,hb⟩:=hbx;simp only[hb] at hp;refine TW.cond hb ?_;cases b with
  |true=>exact eN qb iu hX hdr x CL.1 (λd hd=>hh d (by simp[aM,hd])) (λx hx=>hr x (by simp[bZ,hx])) s ae hp
  |false=>exact eN qb iu hX hdr y CL.2 (λd hd=>hh d (by simp[aM,hd])) (λx hx=>hr x (by simp[bZ,hx])) s ae hp
 | .block id c,hl,hh,hr,s,ae,hp=>by
  unfold c8 at hp;refine TW.block (eN qb iu hX hdr c hl (λd hd=>hh d (by simpa [aM] using hd)) (λx hx=>hr x (by simpa [bZ] using hx)) s _ hp) λe s1 h1=> ?_;cases e with
  |normal=>exact h1
  |ret=>exact h1
  |exit pd=>
   simp only at h1⊢;split
   next h=>rw[zaq h] at h1;exact h1
   rename_i h;rw[zap h] at h1;exact h1
 | .loop c,hl,hh,hr,s,ae,hp=>by
  cases Wy:lk hk (Code.rZ c) with
  |some h=>simp_all [c8,aM]
  |none=>simp only[c8,Wy] at hp;exact hp.elim
 | .scope c,hl,hh,hr,s,ae,hp=>by unfold c8 at hp;exact TW.scope (eN qb iu hX hdr c hl (λd hd=>hh d (by simpa [aM] using hd)) (λx hx=>hr x (by simpa [bZ] using hx)) s ae hp)
 | .exit id,_,_,_,s,ae,hp=>λr ve F G w a Q' hs hK=>wpIn_exit (hK (.exit id) s a w hp ⟨F,G,hs,Ext.refl _ _ _⟩)
 | .ret,_,_,_,s,ae,hp=>λr ve F G w a Q' hs hK=>wpIn_ret (hK .ret s a w hp ⟨F,G,hs,Ext.refl _ _ _⟩)
 | .rangeFunc g ps a b,_,_,hr,s,ae,hp=>by
  cases Wy:lk hk (500000+Code.rZ b) with
  |some h=>simp only[c8,Wy] at hp;exact hr ⟨g,ps,a,b⟩ (by simp[bZ]) h Wy s ae hp
  |none=>simp only[c8,Wy] at hp;exact hp.elim
 | .goto _,_,_,_,s,ae,hp=>by unfold c8 at hp;exact hp.elim
 | .refuse _,_,_,_,s,ae,hp=>by unfold c8 at hp;exact hp.elim
def Bf(Q:Program)(kf:KF)(HN:List (FuncId×bh))(kp:sr)(hk:List (Nat×(S->K (PX×S))))(dc:FuncId->Nat->Nat):KF:=λf ps R=>
 match Q.funcs[f]? with
 |none=>K.fail
 |some fn=>match fn.body with
  |none=>K.fail
  |some c=>if fn.name== "runtime.NumGoroutine" then K.fail else
   K.bind (c8 Q kf HN (kp f) hk (dc f) c ⟨fn.ntmps,fF 0 (kJ (kp f 999999) Q fn.params.toList ps),R⟩) λx=>match x.1 with
    | .exit _=>K.fail
    |_=>match cY Q x.2 fn.results.toList with
     |some qs=>B8 Q R.length fn.resultTypes.toList qs x.2
     |none=>K.fail
theorem Vx.mk{w0:World}{HN:List (FuncId×bh)}(qb: ∀f h,lk HN f=some h->Vx Q w0 f h){h:bh}{f:FuncId}{kf:KF}{dc:FuncId->Nat->Nat}{hk:List (Nat×(S->K (PX×S)))}(iu:zV kf (fG Q kp))(hX:eG Q w0 kp.X)(hdr:Q.follows .mixedOrders=true)(MH:nv dc 0 Q.funcs.toList=true)(hu:uniq Q f=true)(huR:Bc Q f=true)
  (hl: ∀id h,id<500000->lk hk id=some h-> ∀(val:Nat->Value) (lo:Nat) s ae,h s ae->TW Q ⟨val,w0,lo,true⟩ (.loop (bE Q f id)) s ae)
  (hrf: ∀id h,lk hk (500000+id)=some h-> ∀(val:Nat->Value) (lo:Nat) s ae,h s ae->TW Q ⟨val,w0,lo,true⟩ (mH Q f id).code s ae)
  (hb: ∀ps R ae,h ps R ae->Bf Q kf HN kp hk dc f ps R ae):Vx Q w0 f h:=by
 intro ps R ae hr F G w vs hH hlen hv;have hb:=hb ps R ae hr;cases gK:Q.funcs[f]? with
 |none=>simp only[Bf,gK] at hb;exact hb.elim
 |some fn=>
  cases hc:fn.body with
  |none=>simp only[Bf,gK,hc] at hb;exact hb.elim
  |some c=>
   cases kU:(fn.name== "runtime.NumGoroutine") with
   |true=>simp only[Bf,gK,hc,kU,zbg] at hb;exact hb.elim
   |false=>
    simp only[Bf,gK,hc,kU,zaC,zbq] at hb;left;refine⟨by simp[callFunc,gK,hc];grind,?_⟩;refine kV gK hc ?_;have hl':vs.length=(kJ (kp f 999999) Q fn.params.toList ps).length:=by rw[x6];exact hlen
    have Em:=A9 (Q:=Q) (kp f 999999) fn.params.toList ps vs hv;have x7:aB Q ⟨G,w0,w.heap.size,true⟩ F G w {tmps:=(⟨vs⟩:Array Value)++Array.replicate (fn.ntmps-(⟨vs⟩:Array Value).size) undef,defers:=[]} ⟨fn.ntmps,fF 0 (kJ (kp f 999999) Q fn.params.toList ps),R⟩:=by refine(eZ.lo hH (zai _)).state rfl .nil (by simp;omega) (λt p hp=> ?_);obtain⟨_,h2⟩:=nI _ 0 t p hp;grind [fJ,cy.of]
    have hTW:=eN (T:=⟨G,w0,w.heap.size,true⟩) qb iu hX hdr (kp1:=kp f) c (kx MH f fn c gK hc) (λd hd h hh s ae hp=>by
     have e:bE Q f (Code.rZ d)=d:=by grind [uniq,bE,jn,dq]
     have:=hl _ h (MS huR gK hc hd) hh G w.heap.size s ae hp;rwa [e] at this) (λx hx h hh s ae hp=>by
     have:=hrf _ h hh G w.heap.size s ae hp;rwa [WN huR gK hc hx] at this) _ _ hb
    refine hTW (r:=none) (λ_=>rfl) F G w _ _ x7 λe s1 a' w' hp hP=> ?_;obtain⟨F',G',h1,h2⟩:=hP;have fin: ∀qs (y:P×List (Nat×En)),cY Q s1 fn.results.toList=some qs->finish Q R.length fn.resultTypes.toList qs s1=some y->ae y->
      LeavesInM Fence.wide 0 Q fn a'.tmps (λe w'=> ∃v2,e= .returned v2/\ ∃y:P×List (Nat×En),ae y/\ ∃F' G',eZ Q ⟨G,w0,0,false⟩ F' G' w' y.2/\aF F' w' G' y.2 v2 y.1/\Ext (Own G R) (Own G' y.2) F F' w w') a'.defers .returning w':=by
     intro qs y hq Vo dA;refine xZ (T:=⟨G,w0,w.heap.size,true⟩) (own0:=Own G R) (F0:=F) (w1:=w) (zai _) (λw2 h3 h4=> ?_) a'.defers w' h1 h2;obtain⟨us,g1,g2,g3⟩:=rv h3 hq;obtain⟨F2,G2,k1,k2,k3⟩:=A8 h3 Vo g2 g3;exact⟨_,g1,_,rfl,y,dA,F2,G2,k1.lo,k2,h4.trans k3⟩
    have qiW:e≠ .normal->e≠ .ret->False:=λh1 h2=>by
     cases e with
     |normal=>exact h1 rfl
     |ret=>exact h2 rfl
     |exit id=>exact hp
    have hq: ∃qs y,cY Q s1 fn.results.toList=some qs/\finish Q R.length fn.resultTypes.toList qs s1=some y/\ae y:=by
     cases e with
     |exit id=>grind
     |normal=>
      cases hq:cY Q s1 fn.results.toList with
      |none=>simp only[hq] at hp;exact hp.elim
      |some qs=>simp only[hq] at hp;obtain⟨y,hy,hpo⟩:=KW.dR (p:=λy=>finish Q R.length fn.resultTypes.toList qs s1=some y) (λ_ h=>h) _ hp;grind
     |ret=>
      cases hq:cY Q s1 fn.results.toList with
      |none=>simp only[hq] at hp;exact hp.elim
      |some qs=>simp only[hq] at hp;obtain⟨y,hy,hpo⟩:=KW.dR (p:=λy=>finish Q R.length fn.resultTypes.toList qs s1=some y) (λ_ h=>h) _ hp;grind
    obtain⟨qs,y,hq,Vo,hpo⟩:=hq;have:=fin qs y hq Vo hpo;cases e with
    |normal=>exact this
    |ret=>exact this
    |exit id=>grind
end
end Pi
