/- The text PiT. -/
import Derived.Test.YtngoddkencoalaaGreatDoorEbp
namespace Pi
open Go
def TW(Q:Program)(T:Tg)(c:Code)(s:S)(ae:PX×S->Prop):Prop:=
 ∀ ⦃r:Option Nat⦄(_:T.O9=true->r=none) (F:Nat->Prop) (G:Nat->Value) (w:World) (a:Act) (Q':Exit->Act->World->Prop),aD Q T F G w a s->(∀e s' a' w',ae (e,s')->iN Q T F G w s s' a' w'->Q' e.fq a' w')->c.wpIn (wd r) 0 Q Q' a w
def Bd(Q:Program)(s:S)(dst:Option Nat)(p:P):K S:=
 match p with
 | .ref n v 0=>match s.obj n v with
  |some (.iter kt vt left _)=>λae=>
   (∀k x,left k=some x->K.bind (B6 Q kt k) (λk=>K.bind (B6 Q vt x) λx=>K.dP ((s.setObj n (.iter kt vt (Ej k left) (some (k,x)))).put dst (.cX [.d (.bool true),.d k,.d x]))) ae)/\
   ((∀k,left k=none)->K.dP (s.put dst (.cX [.d (.bool false)])) ae)
  |_=>K.fail
 |_=>K.fail
def pB(o:Oper):Option Operand:=match o.op with | .next it false=>if o.guard.isNone then some it else none |_=>none
def kfN(HN:List (FuncId×br)):KF:=λf=>match lk HN f with |some h=>h |none=>λ_ _=>K.fail
def KC(HN:List (FuncId×br))(s:S)(o:Oper):Option (P×List P):=
 match gy o with
 |some (f,xs)=>match s.eg none f with
  | .fn ku cI=>if(lk HN ku).isSome&&o.guard.isNone then some (.fn ku cI,xs.map (s.eg none)) else none
  |_=>none
 |none=>none
def eE(Q:Program)(cf:KF)(HN:List (FuncId×br))(ops:List Oper):List Oper->List (Nat×Bool)->S->K S
 | [],_,s=>K.ret s
 |o::r,kn,s=>match pB o with
  |some it=>K.bind (Bd Q s o.dst ((s.ev it).under none)) λs1=>s1.force λs1=>eE Q cf HN ops r [] s1
  |none=>match KC HN s o with
   |some (f,xs)=>K.bind (qP Q (kfN HN) s o.dst f xs) λs1=>s1.force λs1=>eE Q cf HN ops r [] s1
   |none=>K.bind (AH Q cf ops kn s o) λx=>x.1.force λs1=>eE Q cf HN ops r x.2 s1
def hasNext:List Oper->Bool
 | []=>false
 |o::r=>(pB o).isSome ||hasNext r
def dv(Q:Program)(kf:KF)(HN:List (FuncId×br))(kp:Nat->Option (List Nat×List Nat))(hk:List (Nat×(S->K (PX×S))))(dc:Nat->Nat):Code->S->K (PX×S)
 | .skip,s=>K.ret (.normal,s)
 | .label _,s=>K.ret (.normal,s)
 | .region id ops draw,s=>K.bind (if draw then Er Q kf ops.toList (dc id) s else if hasNext ops.toList || !HN.isEmpty then eE Q kf HN ops.toList ops.toList [] s else lO Q kf ops.toList ops.toList [] s) λs1=>K.ret (.normal,s1)
 | .seq a b,s=>K.bind (dv Q kf HN kp hk dc a s) λx=>match x.1 with
  | .normal=>dv Q kf HN kp hk dc b x.2
  |_=>K.ret x
 | .cond c x y,s=>match s.ev c with
  | .d (.bool b)=>K.bind (K.dec b) λr=>if r then dv Q kf HN kp hk dc x s else dv Q kf HN kp hk dc y s
  |_=>K.fail
 | .block id c,s=>K.bind (dv Q kf HN kp hk dc c s) λx=>match x.1 with
  | .exit o6=>if Nat.beq o6 id then K.ret (.normal,x.2) else K.ret x
  |_=>K.ret x
 | .loop c,s=>match lk hk (Code.r5 c) with
  |some h=>h s
  |none=>K.fail
 | .scope c,s=>dv Q kf HN kp hk dc c s
 | .exit id,s=>K.ret (.exit id,s)
 | .ret,s=>K.ret (.ret,s)
 | .rangeFunc _ _ _ b,s=>match lk hk (500000+Code.r5 b) with
  |some h=>h s
  |none=>K.fail
 |_,_=>K.fail
structure RF where
 g:Operand
 ps:Array Tmp
 asg:Code
 body:Code
def RF.code(x:RF):Code:= .rangeFunc x.g x.ps x.asg x.body
def bR:Code->List RF
 | .seq a b=>bR a++bR b
 | .cond _ a b=>bR a++bR b
 | .block _ c | .scope c | .loop c=>bR c
 | .rangeFunc g ps a b=>[⟨g,ps,a,b⟩]
 |_=>[]
def RF.id(x:RF):Nat:=Code.r5 x.body
def CW(id:Nat):List RF->Option RF
 | []=>none
 |x::r=>if Nat.beq x.id id then some x else CW id r
def mO(Q:Program)(f:FuncId)(id:Nat):RF:=
 match Q.funcs[f]? with
 |some fn=>(match fn.body with |some c=>(CW id (bR c)).getD ⟨.const undef, #[],.skip,.skip⟩|none=>⟨.const undef, #[],.skip,.skip⟩)
 |none=>⟨.const undef, #[],.skip,.skip⟩
def Bf(Q:Program)(f:FuncId):Bool:=
 match Q.funcs[f]? with
 |some fn=>(match fn.body with |some c=>dW ((bR c).map RF.id)&&(aS c).all λd=>Nat.blt (Code.r5 d) 500000 |none=>true)
 |none=>true
theorem Bg{d:RF}: ∀(l:List RF),(l.map RF.id).Nodup->d∈l->CW d.id l=some d
 | [],_,h=>by simp at h
 |c::r,hn,h=>by
  obtain⟨hn1,Va⟩:=za8.1 hn;unfold CW;rcases zav.1 h with rfl |h
  ·simp
  have: ¬c.id=d.id:=λe=>hn1 (e▸za7 h);rw[zam (by simpa using this)];exact Bg r Va h
theorem WH{Q:Program}{f:FuncId}{fn:Func}{c:Code}{x:RF}(hu:Bf Q f=true)(fW:Q.funcs[f]?=some fn)(hc:fn.body=some c)(hx:x∈bR c):mO Q f x.id=x:=by grind [Bf,mO,Bg,dF]
theorem MO{Q:Program}{f:FuncId}{fn:Func}{c:Code}{d:Code}(hu:Bf Q f=true)(fW:Q.funcs[f]?=some fn)(hc:fn.body=some c)(hd:d∈aS c):Code.r5 d<500000:=by simp_all [Bf,zab,zbk,Nat.blt_eq]
section
variable{Q:Program}{T:Tg}{F:Nat->Prop}{G:Nat->Value}{w:World}{a:Act}{s:S}{r:Option Nat}
theorem TW.mono{c:Code}{p q:PX×S->Prop}(h:TW Q T c s p)(Pn: ∀x,p x->q x):TW Q T c s q:=λ_ tF F G w a Q' hs hK=>h tF F G w a Q' hs λe s' a' w' hp=>hK e s' a' w' (Pn _ hp)
theorem TW.of_run{kp:Nat->Option (List Nat×List Nat)}{cf:CF}{lf:Nat}(jl:du Q T.w0 cf)(hdr:Q.follows .mixedOrders=true){c:Code}{x:PX×S}(h:bB Q cf kp lf c s=some x){ae:PX×S->Prop}(hp:ae x):TW Q T c s ae:=
 λ_ _ F G w a Q' hs hK=>ft jl hdr c s x.1 x.2 h F G w a Q' hs λa' w' hP=>hK x.1 x.2 a' w' hp hP
theorem Fs{r m since last:Nat}{seen:Array Nat}{es:Array MapEntry}{clock:Nat}(ty:TypeId)(hr:w.heap[r]?=some (.mapIter (some m) since seen last))(hm:w.heap[m]?=some (.map es clock))(hold: ∀x∈es.toList,x.born<since)(Ko:since<=last):
  ((∀x∈es.toList,seen.contains x.born=true)/\(Instr.next (.pointer (some ⟨r,0,none⟩)) false ty).run Q w= .ok (.tuple #[.bool false]) w)\/
  ∃e∈es.toList,seen.contains e.born=false/\ ∃w1:World,(w1=w\/w1={w with drawn:=w.drawn+1})/\(Instr.next (.pointer (some ⟨r,0,none⟩)) false ty).run Q w= .ok (.tuple #[.bool true,e.key,e.val]) {w1 with heap:=w1.heap.setIfInBounds r (.mapIter (some m) since (seen.push e.born) clock)}:=by
 have b7:(!seen.isEmpty&& !es.isEmpty&&es.all λx=>decide (x.born>=last))=false:=by
  cases he:es.isEmpty with
  |true=>simp
  |false=>
   have h0:0<es.size:=by grind
   have:es.all (λx=>decide (x.born>=last))=false:=by grind
   rw[this,zcL]
 have e1:(es.filter λe=> !seen.contains e.born).filter (λx=>decide (x.born<since))=es.filter λe=> !seen.contains e.born:=Array.filter_eq_self.2 λx hx=>by have:=hold x (by grind);grind
 have e2:(es.filter λe=> !seen.contains e.born).filter (λx=>decide (x.born>=since))= #[]:=by rw[Array.filter_eq_empty_iff];grind
 have mem: ∀x,x∈(es.filter λe=> !seen.contains e.born)↔x∈es.toList/\seen.contains x.born=false:=λx=>by simp
 simp only[Instr.next,getObj,Sem.run_bind,Sem.run,hr,hm,Result.andThen,b7,zaB,zbj,e1,e2,Array.append_empty];generalize (es.filter λe=> !seen.contains e.born)=L at mem⊢;by_cases h0:L.size=0
 ·have:L= #[]:=Array.eq_empty_of_size_eq_zero h0;subst this;refine .inl ⟨λx hx=> ?_,?_⟩
  ·grind
  simp[choose,Sem.run,Question.forced]
 have dI:L.isEmpty=false:=by grind
 have hch: ∃(j:Nat) (w1:World),j<L.size/\(w1=w\/w1={w with drawn:=w.drawn+1})/\(choose (Question.mapNext L.size)).run Q w= .ok j w1:=by
  by_cases hf:L.size<=1
  ·exact⟨0,w,by omega,.inl rfl,by simp[choose,Sem.run,Question.forced,hf]⟩
  refine⟨w.tape w.drawn (.mapNext L.size)%L.size,{w with drawn:=w.drawn+1},zcU _ (by omega),.inr rfl,?_⟩;simp only[choose,Sem.run,Question.forced,zah,hf,zbj,Question.cut]
 obtain⟨j,w1,hj,Kv,bX⟩:=hch;obtain⟨m1,m2⟩:=(mem L[j]).1 (by simp);refine .inr ⟨L[j],m1,m2,w1,Kv,?_⟩;have hr1:w1.heap[r]?=some (.mapIter (some m) since seen last):=by rcases Kv with rfl |rfl<;>exact hr
 have jM:(setObj r (.mapIter (some m) since (seen.push L[j].born) clock)).run Q w1= .ok () {w1 with heap:=w1.heap.setIfInBounds r (.mapIter (some m) since (seen.push L[j].born) clock)}:=by simp[setObj,Sem.run,hr1]
 simp_all
theorem KD(h:aD Q T F G w a s){o:Oper}{it:Operand}(ho:pB o=some it){ae:S->Prop}(hp:Bd Q s o.dst ((s.ev it).under none) ae){K:Act->World->Prop}{Q':Exit->Act->World->Prop}
  (hK: ∀s' a' w',ae s'->iN Q T F G w s s' a' w'->K a' w'):o.wpIn (wd r) 0 Q a w K Q':=by
 have sB:o.op= .next it false:=by grind [pB]
 have hv:=a7 h (g:=none) trivial it;unfold S.eg at hv;generalize (s.ev it).under none=p at hv hp;have hnx: ∃n aY kt vt left cur,p= .ref n aY 0/\s.obj n aY=some (.iter kt vt left cur):=by
  cases p with
  |ref n aY off=>
   cases off with
   |succ off=>exact hp.elim
   |zero=>
    cases hob:s.obj n aY with
    |none=>simp only[Bd,hob] at hp;exact hp.elim
    |some o=>
     cases o with
     |iter kt vt left cur=>grind
     |_=>simp only[Bd,hob] at hp;exact hp.elim
  |_=>exact hp.elim
 obtain⟨n,aY,kt,vt,left,cur,rfl,hob⟩:=hnx;simp only[Bd,hob] at hp;obtain⟨p1,p2⟩:=hp;obtain⟨e,he,dR,bV⟩:=S.bJ hob;have hO:=h.rg n e he;rw[bV] at hO;obtain⟨b,mo,since,seen,last,hg,hh,hO⟩:=hO;have hval:a.eval it= .pointer (some ⟨b,0,none⟩):=by
  generalize a.eval it=v at hv;cases hv with
  |ref _ _ _ _ hr h1=>obtain⟨b',GZ,rfl⟩:=hr.at he dR (by rw[bV];rfl);rw[hg] at GZ;rw[GZ]
 have over:(∀k,left k=none)->(Instr.next (.pointer (some ⟨b,0,none⟩)) false o.type).run Q w= .ok (.tuple #[.bool false]) w->o.wpIn (wd r) 0 Q a w K Q':=λh0 bX=>by
  obtain⟨s1,r8,eW⟩:=KW.dP (p:=λs1=>s.put o.dst (.cX [.d (.bool false)])=some s1) (λ_ h=>h) _ (p2 h0);obtain⟨c1,c2⟩:=cz h r8 (v:= .tuple #[.bool false]) (cx.of (.cX [.bool false] [.d (.bool false)] rfl λi v c hv hc=>by
   cases i with
   |zero=>simp at hv hc;subst hv;subst hc;exact .d (.bool false)
   |succ i=>simp at hv))
  refine tV (λc hc=>by rw[sB] at hc;cases hc) (v:= .tuple #[.bool false]) (w':=w) (.inl (by simp[execOp,sB,hval,bX])) (hK s1 _ _ eW ⟨F,G,c1,?_⟩);rw[c2];exact Ext.refl _ _ _
 rcases hO with⟨rfl,h0,_⟩| ⟨m,es,rfl,hF,hm,Pj,hI,hc⟩
 ·exact over h0 (by simp[Instr.next,getObj,Sem.run_bind,Sem.run,hh])
 subst Pj;have hold: ∀x∈es.toList,x.born<last:=by obtain⟨ks,_,_,_,h5,_⟩:=hI;exact h5
 rcases Fs (Q:=Q) o.type hh hm hold (zaj _) with⟨h0,bX⟩| ⟨en,Cu,Qv,w1,Kv,bX⟩
 ·exact over (hI.over h0) bX
 have Qv:en∈es.toList/\seen.contains en.born=false:=⟨Cu,Qv⟩
 obtain⟨k,x,hk,xf,hx,hI2⟩:=hI.next Qv.1 Qv.2;obtain⟨k',rfl,hp2⟩:=nC Q kt k _ (p1 k x hk);obtain⟨x',rfl,hp3⟩:=nC Q vt x _ hp2;obtain⟨s1,r8,eW⟩:=KW.dP (p:=λs1=>(s.setObj n (.iter kt vt (Ej k left) (some (k,x)))).put o.dst (.cX [.d (.bool true),.d k,.d x])=some s1) (λ_ h=>h) _ hp3;have hw1:w1.heap=w.heap/\w1.os=w.os/\w1.tape=w.tape/\w1.output=w.output:=by rcases Kv with rfl |rfl<;>exact⟨rfl,rfl,rfl,rfl⟩
 have vM:b<w.heap.size:=(zar.1 hh).1;have fT:bH (G n) e.obj=some b:=by rw[bV,hg];rfl
 have dI:m≠b:=λhmb=>by grind
 have gn: ∀b0,b0≠b->(w.heap.setIfInBounds b (.mapIter (some m) last (seen.push en.born) last))[b0]?=w.heap[b0]?:=λb0 dI=>zaY (zbD dI);have xu:(w.heap.setIfInBounds b (.mapIter (some m) last (seen.push en.born) last))[b]?=some (.mapIter (some m) last (seen.push en.born) last):=by rw[zbx vM]
 have Ct: ∀b0,F b0->b0≠b:=λb0 hf e0=>by subst e0;exact h.my n e b0 he fT hf
 rw[S.fj he] at r8;have qhY:w.drawn<=w1.drawn:=by grind
 obtain⟨d1,d2⟩:=h.ni (n:=n) (e1:=⟨e.aY,e.tag,.iter kt vt (Ej k left) (some (k,x))⟩) (g1:=G n) (w':={w1 with heap:=w.heap.setIfInBounds b (.mapIter (some m) last (seen.push en.born) last)}) (hdr:=qhY)
  (λe' cK=>by rw[he] at cK;cases cK;exact .inr ⟨rfl,λ_=>⟨by rw[bV];rfl,rfl⟩⟩)
  (λb0 _ b7=>gn b0 λe0=>by grind) (by simp) hw1.2.1 hw1.2.2.1 hw1.2.2.2
  (λb0 Co=> .inr ⟨e,he,by rw[bV];exact Co⟩)
  ⟨b,some m,last,seen.push en.born,last,by rw[bW];exact hg,xu,.inr ⟨m,es,rfl,hF,(gn m dI).trans hm,rfl,hI2.mono (λ_ h=>h) (λb0 hf=>gn b0 (Ct b0 hf)),λk1 x1 hc1=>by obtain⟨rfl,rfl⟩:=hc1;exact⟨en,Qv.1,by simp,xf,hx.mono (λ_ h=>h) (λb0 hf=>gn b0 (Ct b0 hf))⟩⟩⟩
  (λi hi _=>h.tag n e i he hi (by rw[bV];rfl))
 rw[bW] at d1 d2;obtain⟨c1,c2⟩:=cz d1 r8 (v:= .tuple #[.bool true,en.key,en.val]) (cx.of (.cX [.bool true,en.key,en.val] _ rfl λi v c hv hc=>by
  match i with
  |0=>simp at hv hc;subst hv;subst hc;exact .d (.bool true)
  |1=>simp at hv hc;subst hv;subst hc;exact .d (a8.Ph _ _ xf)
  |2=>simp at hv hc;subst hv;subst hc;exact .d (hx.mono (λ_ h=>h) (λb0 hf=>gn b0 (Ct b0 hf)))
  |i+3=>simp at hv))
 refine tV (λc hc=>by rw[sB] at hc;cases hc) (v:= .tuple #[.bool true,en.key,en.val]) (w':={w1 with heap:=w.heap.setIfInBounds b (.mapIter (some m) last (seen.push en.born) last)}) (.inl ?_) (hK s1 _ _ eW ⟨F,G,c1,?_⟩)
 ·simp only[execOp,sB,hval,Sem.run_bind,bX];simp[hw1.1]
 grind
def Qw(Q:Program)(w0:World)(f:FuncId)(h:br):Prop:=
 ∀ps R ae,h ps R ae-> ∀(F:Nat->Prop) (G:Nat->Value) (w:World) (vs:List Value),fE Q ⟨G,w0,0,false⟩ F G w R->vs.length=ps.length->
  (∀(i:Nat) (v:Value) (c:P),vs[i]?=some v->ps[i]?=some c->aF F w G R v c)->
  j9 Q f ⟨vs⟩ w (λv w'=> ∃y:P×List (Nat×En),ae y/\ ∃F' G',fE Q ⟨G,w0,0,false⟩ F' G' w' y.2/\aF F' w' G' y.2 v y.1/\Ext (Own G R) (Own G' y.2) F F' w w')
theorem Qx{HN:List (FuncId×br)}(oi: ∀f h,lk HN f=some h->Qw Q T.w0 f h)(h:aD Q T F G w a s){dst:Option Nat}{pf:P}{ps:List P}{ae:S->Prop}(hs:qP Q (kfN HN) s dst pf ps ae){fv:Value}{vs:List Value}(hf:aF F w G s.rg fv pf)(hl:vs.length=ps.length)
  (hv: ∀(i:Nat) (v:Value) (c:P),vs[i]?=some v->ps[i]?=some c->aF F w G s.rg v c):
  ∃ku cs,fv= .func (.func ku) #[] ⟨cs⟩/\j9 Q ku ⟨vs++cs⟩ w (λv w'=> ∃s',ae s'/\ ∃F' G',aD Q T F' G' w' (a.put dst v) s'/\Ext (Own G s.rg) (Own G' s'.rg) F F' w w'):=by
 cases pf with
 |fn ku cI=>
  cases hf with
  |fn _ cs _ G7 jI=>
   refine⟨ku,cs,rfl,?_⟩;cases EJ:cO Q s ku (ps++cI) with
   |none=>simp only[qP,EJ] at hs;exact hs.elim
   |some r=>
    obtain⟨s1,qs⟩:=r;cases ky:dW (reach s1.rg 1000 qs []) with
    |false=>simp only[qP,EJ,ky,zaB,zbj] at hs;exact hs.elim
    |true=>
     cases jN:sub s1.rg (toPos s1.rg (reach s1.rg 1000 qs [])) true 0 (reach s1.rg 1000 qs []) with
     |none=>simp only[qP,EJ,ky,zbb,jN] at hs;exact hs.elim
     |some R0=>
      simp only[qP,EJ,ky,zbb,jN] at hs;cases hh:lk HN ku with
      |none=>simp only[kfN,hh] at hs;exact hs.elim
      |some z7=>
       simp only[kfN,hh] at hs;have cP: ∀(i:Nat) (v:Value) (c:P),(vs++cs)[i]?=some v->(ps++cI)[i]?=some c->aF F w G s.rg v c:=λi v c h1 h2=>by grind
       obtain⟨F1,a1,a2,a3,a4,a5,a6⟩:=uQ (ps++cI) s F s1 qs (vs++cs) h EJ (by grind) cP;obtain⟨b1,b2,b3⟩:=a1.heap.sub jN ky;have hq:=oi ku z7 hh _ R0 _ hs F1 _ w (vs++cs) b1 (by rw[jk];exact a5) (λi v c h1 h2=>by rw[jj] at h2;grind [nF]);refine hq.mono λv w' ⟨⟨p,R1⟩,eW,F2,G2,c1,c2,c3⟩=> ?_;cases Wl:(dW (da R1 (reach R1 1000 (p::fe R1 R1) []))&&Nat.ble (da R1 (reach R1 1000 (p::fe R1 R1) [])).length 1000) with
       |false=>simp only[Wl,zaB,zbj] at eW;exact eW.elim
       |true=>
        simp only[Wl,zbb] at eW;cases jY:gl R1 (fc R1 s1.rg (reach s1.rg 1000 qs []) (da R1 (reach R1 1000 (p::fe R1 R1) [])) (site dst*1000)) 0 (reach s1.rg 1000 qs []) s1.rg with
        |none=>simp only[jY] at eW;exact eW.elim
        |some R2=>
         simp only[jY] at eW;cases fY:kI R1 (fc R1 s1.rg (reach s1.rg 1000 qs []) (da R1 (reach R1 1000 (p::fe R1 R1) [])) (site dst*1000)) (site dst*1000) (da R1 (reach R1 1000 (p::fe R1 R1) [])) R2 with
         |none=>simp only[fY] at eW;exact eW.elim
         |some R3=>simp only[fY] at eW;obtain⟨s',hs',eW⟩:=KW.dP (p:=λs'=>({s1 with rg:=R3}:S).put dst (AB _ p)=some s') (λ_ h=>h) _ eW;obtain⟨G3,d1,d2,d3⟩:=rv a1 ky (zab _ _▸Wl:_/\_).1 jN c1 c3 (eP R1 _) jY fY;obtain⟨e1,e2⟩:=cz d1 hs' (cx.of (nF d3 c2));refine⟨s',eW,F2,G3,e1,?_⟩;rw[e2];exact a2.trans d2
 |_=>exact hs.elim
theorem Qy{HN:List (FuncId×br)}(oi: ∀f h,lk HN f=some h->Qw Q T.w0 f h)(h:aD Q T F G w a s){o:Oper}{pf:P}{ps:List P}(ho:KC HN s o=some (pf,ps)){ae:S->Prop}(hp:qP Q (kfN HN) s o.dst pf ps ae){K:Act->World->Prop}{Q':Exit->Act->World->Prop}
  (hK: ∀s' a' w',ae s'->iN Q T F G w s s' a' w'->K a' w'):o.guard=none/\o.wpIn (wd r) 0 Q a w K Q':=by
 unfold KC at ho;split at ho
 next f xs hc=>
  split at ho
  next ku cI hfe=>
   split at ho
   ·rename_i fh;refine⟨by simp_all,?_⟩;obtain⟨rfl,rfl⟩:=ho;unfold gy at hc;split at hc
    ·rename_i c sB;split at hc
     ·rename_i f' kS;simp at hc;obtain⟨rfl,rfl⟩:=hc;obtain⟨qhZ,cs,hfv,bw⟩:=Qx oi h hp (by rw[<-hfe];exact a7 h (g:=none) trivial f') (vs:=c.args.toList.map a.eval) (by simp) (λi v p hv hp=>by rw[zaJ] at hv hp;simp only[zaw] at hv hp;obtain⟨x,hx,rfl⟩:=hv;obtain⟨y,hy,rfl⟩:=hp;rw[hx] at hy;cases hy;exact a7 h (g:=none) trivial x);have bX:(execOp a.eval o).run Q w=(callFunc qhZ ⟨c.args.toList.map a.eval++cs⟩).run Q w:=by
       have e:(c.args.map a.eval)++(⟨cs⟩:Array Value)=⟨c.args.toList.map a.eval++cs⟩:=by simp
       simp[execOp,sB,resolve,kS,hfv,Deferred.ofValue,invoke,e]
      refine sH (λc' qV=>by rw[sB] at qV;cases qV) ?_;rw[bX];rcases bw with⟨h1,h2⟩| ⟨v,w',h1,s',qQ,F',G',h2,h3⟩
      ·rw[h1];refine⟨λh=>(by cases h),(xA h2).mono λe w' ⟨v,he,s',qQ,F',G',h3,h4⟩=> ?_⟩;subst he;exact hK _ _ _ qQ ⟨F',G',h3,h4⟩
      rw[h1];exact hK _ _ _ qQ ⟨F',G',h2,h3⟩
     cases hc
    cases hc
   cases ho
  cases ho
 cases ho
theorem nM{HN:List (FuncId×br)}(oi: ∀f h,lk HN f=some h->Qw Q T.w0 f h){kf:KF}{cf:Nat->Nat->CF}(hQ:z8 kf cf)(jl: ∀a b,du Q T.w0 (cf a b)){ops:List Oper}{Q':Exit->Act->World->Prop}{ae:S->Prop}: ∀(l:List Oper) (kn:List (Nat×Bool)) (F:Nat->Prop) (G:Nat->Value) (w:World) (a:Act) (s:S),jP kn s->aD Q T F G w a s->eE Q kf HN ops l kn s ae->
  (∀s' a' w',ae s'->iN Q T F G w s s' a' w'->Q' .normal a' w')->wpListIn (wd r) 0 Q ops.toArray Q' l a w
 | [],kn,F,G,w,a,s,_,h,hp,hK=>by unfold eE at hp;exact hK s a w hp ⟨F,G,h,Ext.refl _ _ _⟩
 |o::l,kn,F,G,w,a,s,dQ,h,hp,hK=>by
  cases ho:pB o with
  |some it=>
   simp only[eE,ho] at hp;have Kq:o.guard=none:=by
    unfold pB at ho;split at ho
    ·simp_all
    cases ho
   have:o.wpIn (wd r) 0 Q a w (wpListIn (wd r) 0 Q ops.toArray Q' l) Q':=KD h ho (ae:=λs1=>eE Q kf HN ops l [] s1 ae) (by
    have e:(λs1:S=>s1.force λs1=>eE Q kf HN ops l [] s1)=λs1=>eE Q kf HN ops l [] s1:=by funext s1;rw[S.force_eq]
    rw[e] at hp;exact hp) λs1 a1 w1 wE ⟨F1,G1,g1,g2⟩=>nM oi hQ jl l _ F1 G1 w1 a1 s1 (jP.nil s1) g1 wE λs' a' w' qQ hP=>hK s' a' w' qQ (hP.trans g2)
   exact fo (by rw[zao (by simp[Region.wanted,Kq])];exact this)
  |none=>
  cases G7:KC HN s o with
  |some fx=>
   simp only[eE,ho,G7] at hp;have e:(λs1:S=>s1.force λs1=>eE Q kf HN ops l [] s1)=λs1=>eE Q kf HN ops l [] s1:=by funext s1;rw[S.force_eq]
   rw[e] at hp;obtain⟨Kq,this⟩:=Qy (K:=wpListIn (wd r) 0 Q ops.toArray Q' l) (Q':=Q') oi h G7 (ae:=λs1=>eE Q kf HN ops l [] s1 ae) hp λs1 a1 w1 wE ⟨F1,G1,g1,g2⟩=>nM oi hQ jl l _ F1 G1 w1 a1 s1 (jP.nil s1) g1 wE λs' a' w' qQ hP=>hK s' a' w' qQ (hP.trans g2);exact fo (by rw[zao (by simp[Region.wanted,Kq])];exact this)
  |none=>simp only[eE,ho,G7] at hp;obtain⟨x,⟨hx,hk⟩,wE⟩:=sN hQ dQ _ hp;rw[S.force_eq] at wE;obtain⟨i,j,hx⟩:=hx.some;have kO:=kz (r:=r) (jl i j) h hx (K:=wpListIn (wd r) 0 Q ops.toArray Q' l) (Q':=Q') (λa' w' ⟨F',G',g1,g2⟩=>nM oi hQ jl l _ F' G' w' a' x.1 hk g1 wE (λs' a2 w2 qQ hp=>hK s' a2 w2 qQ (hp.trans g2)));exact fo kO
theorem TW.seq{x y:Code}{p ae:PX×S->Prop}(h1:TW Q T x s p)(h2: ∀s1,p (.normal,s1)->TW Q T y s1 ae)(h3: ∀e s1,e≠ .normal->p (e,s1)->ae (e,s1)):TW Q T (.seq x y) s ae:=λr tF F G w a Q' hs hK=>by
 refine wpIn_seq (h1 tF F G w a _ hs λe s1 a1 w1 hp hP=> ?_);cases e with
 |normal=>obtain⟨F1,G1,g1,g2⟩:=hP;exact h2 s1 hp tF F1 G1 w1 a1 Q' g1 λe2 s2 a2 w2 hp2 hP2=>hK e2 s2 a2 w2 hp2 (iN.trans g2 hP2)
 |exit id=>exact hK _ s1 a1 w1 (h3 _ _ (by simp) hp) hP
 |ret=>exact hK _ s1 a1 w1 (h3 _ _ (by simp) hp) hP
theorem TW.cond{c:Operand}{x y:Code}{b:Bool}{ae:PX×S->Prop}(hb:s.ev c= .d (.bool b))(h:TW Q T (if b then x else y) s ae):TW Q T (.cond c x y) s ae:=λr tF F G w a Q' hs hK=>by
 have hv:a.eval c= .bool b:=by have:=w8 hs c;rw[hb] at this;exact aF.cA (p:= .d (.bool b)) this rfl
 refine wpIn_cond hv ?_;cases b with
 |true=>exact h tF F G w a Q' hs hK
 |false=>exact h tF F G w a Q' hs hK
theorem TW.block{id:Nat}{c:Code}{p ae:PX×S->Prop}(h:TW Q T c s p)(hp: ∀e s1,p (e,s1)->match e with | .exit o6=>if Nat.beq o6 id then ae (.normal,s1) else ae (e,s1)|_=>ae (e,s1)):TW Q T (.block id c) s ae:=λr tF F G w a Q' hs hK=>by
 refine wpIn_block (h tF F G w a _ hs λe s1 a1 w1 wE hP=> ?_);have:=hp e s1 wE;cases e with
 |normal=>exact hK _ s1 a1 w1 this hP
 |ret=>exact hK _ s1 a1 w1 this hP
 |exit o6=>
  simp only at this;split at this
  next hid=>
   have hid:o6=id:=by simpa using hid
   have:=hK _ s1 a1 w1 this hP;simp only[PX.fq,Exit.inBlock,hid,zbb];exact this
  rename_i hid;have hid: ¬o6=id:=by simpa using hid
  have:=hK _ s1 a1 w1 this hP;simp only[PX.fq,Exit.inBlock,hid,zbj];exact this
theorem TW.scope{c:Code}{ae:PX×S->Prop}(h:TW Q T c s ae):TW Q T (.scope c) s ae:=λr tF F G w a Q' hs hK=>by refine fU (h tF F G w a _ hs λe s1 a1 w1 hp hP=> ?_);have:=hK e s1 a1 w1 hp hP;cases e<;>simpa [PX.fq,Exit.noGoto] using this
theorem TW.loop{c:Code}{keep:Option (List Nat×List Nat)}{I:Nat->S->Prop}{O:PX×S->Prop}
  (hr: ∀n s,I n s->TW Q T c s (λx=>match x.1 with | .normal=> ∃s2,cw keep x.2=some s2/\ ∃m,m<n/\I m s2 |e=> ∃s2,dC keep x.2=some s2/\O (e,s2)))
  {n:Nat} {s0:S} (h0:cw keep s=some s0) (hI:I n s0):TW Q T (.loop c) s O:=λr tF F G w a Q' hs hK=>by
 obtain⟨G0,g1,g2⟩:=fG hs h0;have key: ∀(N n:Nat) (s:S),n<N->I n s-> ∀(F:Nat->Prop) (G:Nat->Value) (w:World) (a:Act),aD Q T F G w a s->(∀e s' a' w',O (e,s')->iN Q T F G w s s' a' w'->Q' e.fq a' w')->Code.roundsIn (wd r) 0 Q c Q' N a w:=by
  intro N
  induction N with
  |zero=>simp
  |succ N ih=>
   intro n s hn hI F G w a hs hK;refine hr n s hI tF F G w a _ hs λe s1 a1 w1 hp hP=> ?_;obtain⟨F1,G1,k1,k2⟩:=hP;cases e with
   |normal=>obtain⟨s2,h2,m,hm,hi⟩:=hp;obtain⟨G2,m1,m2⟩:=fG k1 h2;exact ih m s2 (by omega) hi F1 G2 w1 a1 m1 λe s' a' w' hO hP=>hK e s' a' w' hO (iN.trans (k2.trans m2) hP)
   |exit id=>obtain⟨s2,h2,hO⟩:=hp;obtain⟨G2,m1,m2⟩:=fG (keep:=keep.map λl=>(l.2,l.2)) k1 (by cases keep<;>exact h2);exact hK _ s2 a1 w1 hO ⟨F1,G2,m1,k2.trans m2⟩
   |ret=>obtain⟨s2,h2,hO⟩:=hp;obtain⟨G2,m1,m2⟩:=fG (keep:=keep.map λl=>(l.2,l.2)) k1 (by cases keep<;>exact h2);exact hK _ s2 a1 w1 hO ⟨F1,G2,m1,k2.trans m2⟩
 exact wpIn_loop_rounds (n+1) (key (n+1) n s0 (by omega) hI F G0 w a g1 λe s' a' w' hO hP=>hK e s' a' w' hO (iN.trans g2 hP))
variable{kp:pZ}
theorem dZ{HN:List (FuncId×br)}(oi: ∀f h,lk HN f=some h->Qw Q T.w0 f h){kf:KF}(hQ:z8 kf (ff Q kp))(hX:du Q T.w0 kp.X)(hdr:Q.follows .mixedOrders=true){kp1:Nat->Option (List Nat×List Nat)}{hk:List (Nat×(S->K (PX×S)))}{dc:Nat->Nat}: ∀(c:Code),b8 dc c=true->
  (∀d∈aS c,∀h,lk hk (Code.r5 d)=some h-> ∀s ae,h s ae->TW Q T (.loop d) s ae)->(∀x∈bR c,∀h,lk hk (500000+x.id)=some h-> ∀s ae,h s ae->TW Q T x.code s ae)-> ∀(s:S) (ae:PX×S->Prop),dv Q kf HN kp1 hk dc c s ae->TW Q T c s ae
 | .skip,_,_,_,s,ae,hp=>λr tF F G w a Q' hs hK=>wpIn_skip (hK .normal s a w hp ⟨F,G,hs,Ext.refl _ _ _⟩)
 | .label _,_,_,_,s,ae,hp=>λr tF F G w a Q' hs hK=>wpIn_label (hK .normal s a w hp ⟨F,G,hs,Ext.refl _ _ _⟩)
 | .region id ops draw,hl,_,_,s,ae,hp=>by
  have jl: ∀a b,du Q T.w0 (ff Q kp a b):=λa b=>sQ hX hdr b;unfold dv at hp;cases draw with
  |true=>obtain⟨s1,h1,hp⟩:=xV hQ (zaf (by simpa [b8] using hl)) _ hp;obtain⟨i,j,h1⟩:=h1.some;exact TW.of_run (kp:=kp1) (lf:=0) (jl i j) hdr (x:=(.normal,s1)) (by grind [bB]) hp
  |false=>
   simp only[zaB,zbj] at hp;split at hp
   ·exact λr tF F G w a Q' hs hK=>wpIn_region_list (by simpa using nM oi hQ jl ops.toList [] F G w a s (jP.nil s) hs hp λs' a' w' qQ hP=>hK .normal s' a' w' qQ hP)
   obtain⟨s1,h1,hp⟩:=nI hQ _ [] _ (jP.nil _) _ hp;obtain⟨i,j,h1⟩:=h1.some;exact TW.of_run (kp:=kp1) (lf:=0) (jl i j) hdr (x:=(.normal,s1)) (by grind [bB]) hp
 | .seq x y,hl,hh,hr,s,ae,hp=>by
  unfold dv at hp;have G9:b8 dc x=true/\b8 dc y=true:=by simpa [b8] using hl
  refine TW.seq (dZ oi hQ hX hdr x G9.1 (λd hd=>hh d (by simp[aS,hd])) (λx hx=>hr x (by simp[bR,hx])) s _ hp) (λs1 h1=>dZ oi hQ hX hdr y G9.2 (λd hd=>hh d (by simp[aS,hd])) (λx hx=>hr x (by simp[bR,hx])) s1 ae h1) λe s1 he h1=> ?_;cases e with
  |normal=>grind
  |exit id=>exact h1
  |ret=>exact h1
 | .cond c x y,hl,hh,hr,s,ae,hp=>by
  unfold dv at hp;have G9:b8 dc x=true/\b8 dc y=true:=by simpa [b8] using hl
  have hbx: ∃b,s.ev c= .d (.bool b):=by
   cases hb:s.ev c with
   |d x=>
    cases x with
    |bool b=>simp
    |_=>simp only[hb] at hp;exact hp.elim
   |_=>simp only[hb] at hp;exact hp.elim
  obtain⟨b,hb⟩:=hbx;simp only[hb] at hp;refine TW.cond hb ?_;cases b with
  |true=>exact dZ oi hQ hX hdr x G9.1 (λd hd=>hh d (by simp[aS,hd])) (λx hx=>hr x (by simp[bR,hx])) s ae hp
  |false=>exact dZ oi hQ hX hdr y G9.2 (λd hd=>hh d (by simp[aS,hd])) (λx hx=>hr x (by simp[bR,hx])) s ae hp
 | .block id c,hl,hh,hr,s,ae,hp=>by
  unfold dv at hp;refine TW.block (dZ oi hQ hX hdr c hl (λd hd=>hh d (by simpa [aS] using hd)) (λx hx=>hr x (by simpa [bR] using hx)) s _ hp) λe s1 h1=> ?_;cases e with
  |normal=>exact h1
  |ret=>exact h1
  |exit o6=>
   simp only at h1⊢;split
   next h=>rw[zao h] at h1;exact h1
   rename_i h;rw[zam h] at h1;exact h1
 | .loop c,hl,hh,hr,s,ae,hp=>by
  cases Wv:lk hk (Code.r5 c) with
  |some h=>simp_all [dv,aS]
  |none=>simp only[dv,Wv] at hp;exact hp.elim
 | .scope c,hl,hh,hr,s,ae,hp=>by unfold dv at hp;exact TW.scope (dZ oi hQ hX hdr c hl (λd hd=>hh d (by simpa [aS] using hd)) (λx hx=>hr x (by simpa [bR] using hx)) s ae hp)
 | .exit id,_,_,_,s,ae,hp=>λr tF F G w a Q' hs hK=>wpIn_exit (hK (.exit id) s a w hp ⟨F,G,hs,Ext.refl _ _ _⟩)
 | .ret,_,_,_,s,ae,hp=>λr tF F G w a Q' hs hK=>wpIn_ret (hK .ret s a w hp ⟨F,G,hs,Ext.refl _ _ _⟩)
 | .rangeFunc g ps a b,_,_,hr,s,ae,hp=>by
  cases Wv:lk hk (500000+Code.r5 b) with
  |some h=>simp only[dv,Wv] at hp;exact hr ⟨g,ps,a,b⟩ (by simp[bR]) h Wv s ae hp
  |none=>simp only[dv,Wv] at hp;exact hp.elim
 | .goto _,_,_,_,s,ae,hp=>by unfold dv at hp;exact hp.elim
 | .refuse _,_,_,_,s,ae,hp=>by unfold dv at hp;exact hp.elim
def Bh(Q:Program)(kf:KF)(HN:List (FuncId×br))(kp:pZ)(hk:List (Nat×(S->K (PX×S))))(dc:FuncId->Nat->Nat):KF:=λf ps R=>
 match Q.funcs[f]? with
 |none=>K.fail
 |some fn=>match fn.body with
  |none=>K.fail
  |some c=>if fn.name== "runtime.NumGoroutine" then K.fail else
   K.bind (dv Q kf HN (kp f) hk (dc f) c ⟨fn.ntmps,fB 0 (kM (kp f 999999) Q fn.params.toList ps),R⟩) λx=>match x.1 with
    | .exit _=>K.fail
    |_=>match db Q x.2 fn.results.toList with
     |some qs=>Cb Q R.length fn.resultTypes.toList qs x.2
     |none=>K.fail
theorem Qw.mk{w0:World}{HN:List (FuncId×br)}(oi: ∀f h,lk HN f=some h->Qw Q w0 f h){h:br}{f:FuncId}{kf:KF}{dc:FuncId->Nat->Nat}{hk:List (Nat×(S->K (PX×S)))}(hQ:z8 kf (ff Q kp))(hX:du Q w0 kp.X)(hdr:Q.follows .mixedOrders=true)(ME:nz dc 0 Q.funcs.toList=true)(hu:uniq Q f=true)(huR:Bf Q f=true)
  (hl: ∀id h,id<500000->lk hk id=some h-> ∀(val:Nat->Value) (lo:Nat) s ae,h s ae->TW Q ⟨val,w0,lo,true⟩ (.loop (bA Q f id)) s ae)
  (hrf: ∀id h,lk hk (500000+id)=some h-> ∀(val:Nat->Value) (lo:Nat) s ae,h s ae->TW Q ⟨val,w0,lo,true⟩ (mO Q f id).code s ae)
  (hb: ∀ps R ae,h ps R ae->Bh Q kf HN kp hk dc f ps R ae):Qw Q w0 f h:=by
 intro ps R ae hr F G w vs hH hlen hv;have hb:=hb ps R ae hr;cases fW:Q.funcs[f]? with
 |none=>simp only[Bh,fW] at hb;exact hb.elim
 |some fn=>
  cases hc:fn.body with
  |none=>simp only[Bh,fW,hc] at hb;exact hb.elim
  |some c=>
   cases jm:(fn.name== "runtime.NumGoroutine") with
   |true=>simp only[Bh,fW,hc,jm,zbb] at hb;exact hb.elim
   |false=>
    simp only[Bh,fW,hc,jm,zaB,zbj] at hb;left;refine⟨by simp[callFunc,fW,hc];grind,?_⟩;refine kX fW hc ?_;have Ps:vs.length=(kM (kp f 999999) Q fn.params.toList ps).length:=by rw[x6];exact hlen
    have Kb:=Bb (Q:=Q) (kp f 999999) fn.params.toList ps vs hv;have x7:aD Q ⟨G,w0,w.heap.size,true⟩ F G w {tmps:=(⟨vs⟩:Array Value)++Array.replicate (fn.ntmps-(⟨vs⟩:Array Value).size) undef,defers:=[]} ⟨fn.ntmps,fB 0 (kM (kp f 999999) Q fn.params.toList ps),R⟩:=by refine(fE.lo hH (zaj _)).state rfl .nil (by simp;omega) (λt p hp=> ?_);obtain⟨_,h2⟩:=nK _ 0 t p hp;grind [fD,cx.of]
    have hTW:=dZ (T:=⟨G,w0,w.heap.size,true⟩) oi hQ hX hdr (kp1:=kp f) c (kA ME f fn c fW hc) (λd hd h hh s ae hp=>by
     have e:bA Q f (Code.r5 d)=d:=by grind [uniq,bA,jo,dF]
     have:=hl _ h (MO huR fW hc hd) hh G w.heap.size s ae hp;rwa [e] at this) (λx hx h hh s ae hp=>by
     have:=hrf _ h hh G w.heap.size s ae hp;rwa [WH huR fW hc hx] at this) _ _ hb
    refine hTW (r:=none) (λ_=>rfl) F G w _ _ x7 λe s1 a' w' hp hP=> ?_;obtain⟨F',G',h1,h2⟩:=hP;have fin: ∀qs (y:P×List (Nat×En)),db Q s1 fn.results.toList=some qs->finish Q R.length fn.resultTypes.toList qs s1=some y->ae y->
      LeavesInM Fence.wide 0 Q fn a'.tmps (λe w'=> ∃v2,e= .returned v2/\ ∃y:P×List (Nat×En),ae y/\ ∃F' G',fE Q ⟨G,w0,0,false⟩ F' G' w' y.2/\aF F' w' G' y.2 v2 y.1/\Ext (Own G R) (Own G' y.2) F F' w w') a'.defers .returning w':=by
     intro qs y hq Vc eW;refine xZ (T:=⟨G,w0,w.heap.size,true⟩) (own0:=Own G R) (F0:=F) (w1:=w) (zaj _) (λw2 h3 h4=> ?_) a'.defers w' h1 h2;obtain⟨us,g1,g2,g3⟩:=rF h3 hq;obtain⟨F2,G2,k1,k2,k3⟩:=Ba h3 Vc g2 g3;exact⟨_,g1,_,rfl,y,eW,F2,G2,k1.lo,k2,h4.trans k3⟩
    have Iv:e≠ .normal->e≠ .ret->False:=λh1 h2=>by
     cases e with
     |normal=>exact h1 rfl
     |ret=>exact h2 rfl
     |exit id=>exact hp
    have hq: ∃qs y,db Q s1 fn.results.toList=some qs/\finish Q R.length fn.resultTypes.toList qs s1=some y/\ae y:=by
     cases e with
     |exit id=>grind
     |normal=>
      cases hq:db Q s1 fn.results.toList with
      |none=>simp only[hq] at hp;exact hp.elim
      |some qs=>simp only[hq] at hp;obtain⟨y,hy,hpo⟩:=KW.dP (p:=λy=>finish Q R.length fn.resultTypes.toList qs s1=some y) (λ_ h=>h) _ hp;grind
     |ret=>
      cases hq:db Q s1 fn.results.toList with
      |none=>simp only[hq] at hp;exact hp.elim
      |some qs=>simp only[hq] at hp;obtain⟨y,hy,hpo⟩:=KW.dP (p:=λy=>finish Q R.length fn.resultTypes.toList qs s1=some y) (λ_ h=>h) _ hp;grind
    obtain⟨qs,y,hq,Vc,hpo⟩:=hq;have:=fin qs y hq Vc hpo;cases e with
    |normal=>exact this
    |ret=>exact this
    |exit id=>grind
theorem MK.ofN{w0:World}{g:TF}{f:FuncId}{h:br}(hN:Qw Q w0 f h)(hg: ∀ps R y,g ps R=some y->h ps R (λz=>z=y)):MK Q w0 f g:=by intro _ ps R p R1 hr F G w vs hH hlen hv;refine(hN ps R _ (hg ps R (p,R1) hr) F G w vs hH hlen hv).mono λv w' ⟨y,hy,F',G',h1,h2,h3⟩=>by grind
end
end Pi
