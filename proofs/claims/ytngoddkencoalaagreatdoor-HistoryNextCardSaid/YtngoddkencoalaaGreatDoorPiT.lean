/- The text PiT. -/
import Derived.Test.YtngoddkencoalaaGreatDoorEbp
namespace Pi
open Go
def TW (Q:Program) (T:Tg) (c:Code) (s:S) (post:PX×S->Prop):Prop:=
 ∀ ⦃r:Option Nat⦄(_:T.O1=true->r=none) (F:Nat->Prop) (G:Nat->Value) (w:World) (a:Act) (Q':Exit->Act->World->Prop),aC Q T F G w a s->(∀e s' a' w',post (e,s')->iM Q T F G w s s' a' w'->Q' e.fo a' w')->c.wpIn (wd r) 0 Q Q' a w
def A7 (Q:Program) (s:S) (dst:Option Nat) (p:P):K S:=
 match p with
 | .ref n v 0=>match s.obj n v with
  |some (.iter kt vt left _)=>fun post=>
   (∀k x,left k=some x->K.bind (B3 Q kt k) (fun k=>K.bind (B3 Q vt x) fun x=>K.dN ((s.setObj n (.iter kt vt (Ee k left) (some (k,x)))).put dst (.cV [.d (.bool true),.d k,.d x]))) post)/\
   ((∀k,left k=none)->K.dN (s.put dst (.cV [.d (.bool false)])) post)
  |_=>K.fail
 |_=>K.fail
def pC (o:Oper):Option Operand:=match o.op with | .next it false=>if o.guard.isNone then some it else none |_=>none
def kfN (HN:List (FuncId×bq)):KF:=fun f=>match lk HN f with |some h=>h |none=>fun _ _=>K.fail
def Kx (HN:List (FuncId×bq)) (s:S) (o:Oper):Option (P×List P):=
 match gx o with
 |some (f,xs)=>match s.eg none f with
  | .fn ku cG=>if(lk HN ku).isSome&&o.guard.isNone then some (.fn ku cG,xs.map (s.eg none)) else none
  |_=>none
 |none=>none
def eE (Q:Program) (cf:KF) (HN:List (FuncId×bq)) (ops:List Oper):List Oper->List (Nat×Bool)->S->K S
 | [],_,s=>K.ret s
 |o::r,kn,s=>match pC o with
  |some it=>K.bind (A7 Q s o.dst ((s.ev it).under none)) fun s1=>s1.force fun s1=>eE Q cf HN ops r [] s1
  |none=>match Kx HN s o with
   |some (f,xs)=>K.bind (qJ Q (kfN HN) s o.dst f xs) fun s1=>s1.force fun s1=>eE Q cf HN ops r [] s1
   |none=>K.bind (Az Q cf ops kn s o) fun x=>x.1.force fun s1=>eE Q cf HN ops r x.2 s1
def hasNext:List Oper->Bool
 | []=>false
 |o::r=>(pC o).isSome ||hasNext r
def du (Q:Program) (kf:KF) (HN:List (FuncId×bq)) (kp:Nat->Option (List Nat×List Nat)) (hk:List (Nat×(S->K (PX×S)))) (dc:Nat->Nat):Code->S->K (PX×S)
 | .skip,s=>K.ret (.normal,s)
 | .label _,s=>K.ret (.normal,s)
 | .region id ops draw,s=>K.bind (if draw then Ek Q kf ops.toList (dc id) s else if hasNext ops.toList || !HN.isEmpty then eE Q kf HN ops.toList ops.toList [] s else lN Q kf ops.toList ops.toList [] s) fun s1=>K.ret (.normal,s1)
 | .seq a b,s=>K.bind (du Q kf HN kp hk dc a s) fun x=>match x.1 with
  | .normal=>du Q kf HN kp hk dc b x.2
  |_=>K.ret x
 | .cond c x y,s=>match s.ev c with
  | .d (.bool b)=>K.bind (K.dec b) fun r=>if r then du Q kf HN kp hk dc x s else du Q kf HN kp hk dc y s
  |_=>K.fail
 | .block id c,s=>K.bind (du Q kf HN kp hk dc c s) fun x=>match x.1 with
  | .exit o7=>if Nat.beq o7 id then K.ret (.normal,x.2) else K.ret x
  |_=>K.ret x
 | .loop c,s=>match lk hk (Code.rX c) with
  |some h=>h s
  |none=>K.fail
 | .scope c,s=>du Q kf HN kp hk dc c s
 | .exit id,s=>K.ret (.exit id,s)
 | .ret,s=>K.ret (.ret,s)
 | .rangeFunc _ _ _ b,s=>match lk hk (500000+Code.rX b) with
  |some h=>h s
  |none=>K.fail
 |_,_=>K.fail
structure RF where
 g:Operand
 ps:Array Tmp
 asg:Code
 body:Code
def RF.code (x:RF):Code:= .rangeFunc x.g x.ps x.asg x.body
def bR:Code->List RF
 | .seq a b=>bR a++bR b
 | .cond _ a b=>bR a++bR b
 | .block _ c | .scope c | .loop c=>bR c
 | .rangeFunc g ps a b=>[⟨g,ps,a,b⟩]
 |_=>[]
def RF.id (x:RF):Nat:=Code.rX x.body
def CT (id:Nat):List RF->Option RF
 | []=>none
 |x::r=>if Nat.beq x.id id then some x else CT id r
def mK (Q:Program) (f:FuncId) (id:Nat):RF:=
 match Q.funcs[f]? with
 |some fn=>(match fn.body with |some c=>(CT id (bR c)).getD ⟨.const undef, #[],.skip,.skip⟩|none=>⟨.const undef, #[],.skip,.skip⟩)
 |none=>⟨.const undef, #[],.skip,.skip⟩
def A8 (Q:Program) (f:FuncId):Bool:=
 match Q.funcs[f]? with
 |some fn=>(match fn.body with |some c=>dU ((bR c).map RF.id)&&(aR c).all fun d=>Nat.blt (Code.rX d) 500000 |none=>true)
 |none=>true
theorem A9 {d:RF}: ∀(l:List RF),(l.map RF.id).Nodup->d∈l->CT d.id l=some d
 | [],_,h=>by simp at h
 |c::r,hn,h=>by
  obtain⟨hn1,UW⟩:=za7.1 hn
  unfold CT
  rcases zav.1 h with rfl |h
  ·simp
  ·have: ¬c.id=d.id:=fun e=>hn1 (e▸za6 h)
   rw[zam (by simpa using this)]
   exact A9 r UW h
theorem Wt {Q:Program} {f:FuncId} {fn:Func} {c:Code} {x:RF} (hu:A8 Q f=true) (fX:Q.funcs[f]?=some fn) (hc:fn.body=some c) (hx:x∈bR c):mK Q f x.id=x:=by
 grind [A8,mK,A9,dD]
theorem MD {Q:Program} {f:FuncId} {fn:Func} {c:Code} {d:Code} (hu:A8 Q f=true) (fX:Q.funcs[f]?=some fn) (hc:fn.body=some c) (hd:d∈aR c):Code.rX d<500000:=by
 simp_all [A8,zab,zbk,Nat.blt_eq]
section
variable {Q:Program} {T:Tg} {F:Nat->Prop} {G:Nat->Value} {w:World} {a:Act} {s:S} {r:Option Nat}
theorem TW.mono {c:Code} {p q:PX×S->Prop} (h:TW Q T c s p) (Pd: ∀x,p x->q x):TW Q T c s q:=fun _ tv F G w a Q' hs hK=>h tv F G w a Q' hs fun e s' a' w' hp=>hK e s' a' w' (Pd _ hp)
theorem TW.of_run {kp:Nat->Option (List Nat×List Nat)} {cf:CF} {lf:Nat} (jq:dt Q T.w0 cf) (hdr:Q.follows .mixedOrders=true) {c:Code} {x:PX×S} (h:bz Q cf kp lf c s=some x) {post:PX×S->Prop} (hp:post x):TW Q T c s post:=
 fun _ _ F G w a Q' hs hK=>fp jq hdr c s x.1 x.2 h F G w a Q' hs fun a' w' hP=>hK x.1 x.2 a' w' hp hP
theorem Fl {r m since last:Nat} {seen:Array Nat} {es:Array MapEntry} {clock:Nat} (ty:TypeId) (hr:w.heap[r]?=some (.mapIter (some m) since seen last)) (hm:w.heap[m]?=some (.map es clock)) (hold: ∀x∈es.toList,x.born<since) (Kj:since<=last):
  ((∀x∈es.toList,seen.contains x.born=true)/\(Instr.next (.pointer (some ⟨r,0,none⟩)) false ty).run Q w= .ok (.tuple #[.bool false]) w)\/
  ∃e∈es.toList,seen.contains e.born=false/\ ∃w1:World,(w1=w\/w1={w with drawn:=w.drawn+1})/\(Instr.next (.pointer (some ⟨r,0,none⟩)) false ty).run Q w= .ok (.tuple #[.bool true,e.key,e.val]) {w1 with heap:=w1.heap.setIfInBounds r (.mapIter (some m) since (seen.push e.born) clock)}:=by
 have bZ:(!seen.isEmpty&& !es.isEmpty&&es.all fun x=>decide (x.born>=last))=false:=by
  cases he:es.isEmpty with
  |true=>simp
  |false=>
   have h0:0<es.size:=by
    grind
   have:es.all (fun x=>decide (x.born>=last))=false:=by
    grind
   rw[this,zcJ]
 have e1:(es.filter fun e=> !seen.contains e.born).filter (fun x=>decide (x.born<since))=es.filter fun e=> !seen.contains e.born:=Array.filter_eq_self.2 fun x hx=>by
  have:=hold x (by grind)
  grind
 have e2:(es.filter fun e=> !seen.contains e.born).filter (fun x=>decide (x.born>=since))= #[]:=by
  rw[Array.filter_eq_empty_iff]
  grind
 have mem: ∀x,x∈(es.filter fun e=> !seen.contains e.born)↔x∈es.toList/\seen.contains x.born=false:=fun x=>by
  simp
 simp only[Instr.next,getObj,Sem.run_bind,Sem.run,hr,hm,Result.andThen,bZ,zaz,zbd,e1,e2,Array.append_empty]
 generalize (es.filter fun e=> !seen.contains e.born)=L at mem⊢
 by_cases h0:L.size=0
 ·have:L= #[]:=Array.eq_empty_of_size_eq_zero h0
  subst this
  refine .inl ⟨fun x hx=> ?_,?_⟩
  ·grind
  ·simp[choose,Sem.run,Question.forced]
 ·have dG:L.isEmpty=false:=by grind
  have hch: ∃(j:Nat) (w1:World),j<L.size/\(w1=w\/w1={w with drawn:=w.drawn+1})/\(choose (Question.mapNext L.size)).run Q w= .ok j w1:=by
   by_cases hf:L.size<=1
   ·exact⟨0,w,by omega,.inl rfl,by simp[choose,Sem.run,Question.forced,hf]⟩
   ·refine⟨w.tape w.drawn (.mapNext L.size)%L.size,{w with drawn:=w.drawn+1},zcS _ (by omega),.inr rfl,?_⟩
    simp only[choose,Sem.run,Question.forced,zah,hf,zbd,Question.cut]
  obtain⟨j,w1,hj,Kq,bX⟩:=hch
  obtain⟨m1,m2⟩:=(mem L[j]).1 (by simp)
  refine .inr ⟨L[j],m1,m2,w1,Kq,?_⟩
  have hr1:w1.heap[r]?=some (.mapIter (some m) since seen last):=by rcases Kq with rfl |rfl<;>exact hr
  have jK:(setObj r (.mapIter (some m) since (seen.push L[j].born) clock)).run Q w1= .ok () {w1 with heap:=w1.heap.setIfInBounds r (.mapIter (some m) since (seen.push L[j].born) clock)}:=by
   simp[setObj,Sem.run,hr1]
  simp_all
theorem Ky (h:aC Q T F G w a s) {o:Oper} {it:Operand} (ho:pC o=some it) {post:S->Prop} (hp:A7 Q s o.dst ((s.ev it).under none) post) {K:Act->World->Prop} {Q':Exit->Act->World->Prop}
  (hK: ∀s' a' w',post s'->iM Q T F G w s s' a' w'->K a' w'):o.wpIn (wd r) 0 Q a w K Q':=by
 have sr:o.op= .next it false:=by
  grind [pC]
 have hv:=aY h (g:=none) trivial it
 unfold S.eg at hv
 generalize (s.ev it).under none=p at hv hp
 have hnx: ∃n aX kt vt left cur,p= .ref n aX 0/\s.obj n aX=some (.iter kt vt left cur):=by
  cases p with
  |ref n aX off=>
   cases off with
   |succ off=>exact hp.elim
   |zero=>
    cases hob:s.obj n aX with
    |none=>simp only[A7,hob] at hp;exact hp.elim
    |some o=>
     cases o with
     |iter kt vt left cur=>grind
     |_=>simp only[A7,hob] at hp;exact hp.elim
  |_=>exact hp.elim
 obtain⟨n,aX,kt,vt,left,cur,rfl,hob⟩:=hnx
 simp only[A7,hob] at hp
 ·
  ·obtain⟨p1,p2⟩:=hp
   obtain⟨e,he,dP,bV⟩:=S.bH hob
   have hO:=h.rg n e he
   rw[bV] at hO
   obtain⟨b,mo,since,seen,last,hg,hh,hO⟩:=hO
   have hval:a.eval it= .pointer (some ⟨b,0,none⟩):=by
    generalize a.eval it=v at hv
    cases hv with
    |ref _ _ _ _ hr h1=>
     obtain⟨b',GR,rfl⟩:=hr.at he dP (by rw[bV];rfl)
     rw[hg] at GR
     rw[GR]
   have over:(∀k,left k=none)->(Instr.next (.pointer (some ⟨b,0,none⟩)) false o.type).run Q w= .ok (.tuple #[.bool false]) w->o.wpIn (wd r) 0 Q a w K Q':=fun h0 bX=>by
    obtain⟨s1,r0,eV⟩:=KW.dN (p:=fun s1=>s.put o.dst (.cV [.d (.bool false)])=some s1) (fun _ h=>h) _ (p2 h0)
    obtain⟨c1,c2⟩:=cv h r0 (v:= .tuple #[.bool false]) (ct.of (.cV [.bool false] [.d (.bool false)] rfl fun i v c hv hc=>by
     cases i with
     |zero=>simp at hv hc;subst hv;subst hc;exact .d (.bool false)
     |succ i=>simp at hv))
    refine tO (fun c hc=>by rw[sr] at hc;cases hc) (v:= .tuple #[.bool false]) (w':=w) (.inl (by simp[execOp,sr,hval,bX])) (hK s1 _ _ eV ⟨F,G,c1,?_⟩)
    rw[c2]
    exact Ext.refl _ _ _
   rcases hO with⟨rfl,h0,_⟩| ⟨m,es,rfl,hF,hm,Pa,hI,hc⟩
   ·exact over h0 (by simp[Instr.next,getObj,Sem.run_bind,Sem.run,hh])
   ·subst Pa
    have hold: ∀x∈es.toList,x.born<last:=by obtain⟨ks,_,_,_,h5,_⟩:=hI;exact h5
    rcases Fl (Q:=Q) o.type hh hm hold (zaj _) with⟨h0,bX⟩| ⟨en,Cq,Qm,w1,Kq,bX⟩
    ·exact over (hI.over h0) bX
    ·have Qm:en∈es.toList/\seen.contains en.born=false:=⟨Cq,Qm⟩
     obtain⟨k,x,hk,w7,hx,hI2⟩:=hI.next Qm.1 Qm.2
     obtain⟨k',rfl,hp2⟩:=ny Q kt k _ (p1 k x hk)
     obtain⟨x',rfl,hp3⟩:=ny Q vt x _ hp2
     obtain⟨s1,r0,eV⟩:=KW.dN (p:=fun s1=>(s.setObj n (.iter kt vt (Ee k left) (some (k,x)))).put o.dst (.cV [.d (.bool true),.d k,.d x])=some s1) (fun _ h=>h) _ hp3
     have hw1:w1.heap=w.heap/\w1.os=w.os/\w1.tape=w.tape/\w1.output=w.output:=by rcases Kq with rfl |rfl<;>exact⟨rfl,rfl,rfl,rfl⟩
     have vB:b<w.heap.size:=(zar.1 hh).1
     have fU:bF (G n) e.obj=some b:=by rw[bV,hg];rfl
     have dG:m≠b:=fun hmb=>by
      grind
     have gm: ∀b0,b0≠b->(w.heap.setIfInBounds b (.mapIter (some m) last (seen.push en.born) last))[b0]?=w.heap[b0]?:=fun b0 dG=>zaX (zbC dG)
     have xj:(w.heap.setIfInBounds b (.mapIter (some m) last (seen.push en.born) last))[b]?=some (.mapIter (some m) last (seen.push en.born) last):=by rw[zbv vB]
     have Cp: ∀b0,F b0->b0≠b:=fun b0 hf e0=>by
      subst e0
      exact h.mq n e b0 he fU hf
     rw[S.fg he] at r0
     have qhT:w.drawn<=w1.drawn:=by grind
     obtain⟨d1,d2⟩:=h.mY (n:=n) (e1:=⟨e.aX,e.tag,.iter kt vt (Ee k left) (some (k,x))⟩) (g1:=G n) (w':={w1 with heap:=w.heap.setIfInBounds b (.mapIter (some m) last (seen.push en.born) last)}) (hdr:=qhT)
      (fun e' cI=>by
       rw[he] at cI
       cases cI
       exact .inr ⟨rfl,fun _=>⟨by rw[bV];rfl,rfl⟩⟩)
      (fun b0 _ bZ=>gm b0 fun e0=>by
       grind) (by simp) hw1.2.1 hw1.2.2.1 hw1.2.2.2
      (fun b0 Cl=> .inr ⟨e,he,by rw[bV];exact Cl⟩)
      ⟨b,some m,last,seen.push en.born,last,by rw[bW];exact hg,xj,.inr ⟨m,es,rfl,hF,(gm m dG).trans hm,rfl,hI2.mono (fun _ h=>h) (fun b0 hf=>gm b0 (Cp b0 hf)),fun k1 x1 hc1=>by
       obtain⟨rfl,rfl⟩:=hc1
       exact⟨en,Qm.1,by simp,w7,hx.mono (fun _ h=>h) (fun b0 hf=>gm b0 (Cp b0 hf))⟩⟩⟩
      (fun i hi _=>h.tag n e i he hi (by rw[bV];rfl))
     rw[bW] at d1 d2
     obtain⟨c1,c2⟩:=cv d1 r0 (v:= .tuple #[.bool true,en.key,en.val]) (ct.of (.cV [.bool true,en.key,en.val] _ rfl fun i v c hv hc=>by
      match i with
      |0=>simp at hv hc;subst hv;subst hc;exact .d (.bool true)
      |1=>simp at hv hc;subst hv;subst hc;exact .d (a7.O9 _ _ w7)
      |2=>simp at hv hc;subst hv;subst hc;exact .d (hx.mono (fun _ h=>h) (fun b0 hf=>gm b0 (Cp b0 hf)))
      |i+3=>simp at hv))
     refine tO (fun c hc=>by rw[sr] at hc;cases hc) (v:= .tuple #[.bool true,en.key,en.val]) (w':={w1 with heap:=w.heap.setIfInBounds b (.mapIter (some m) last (seen.push en.born) last)}) (.inl ?_) (hK s1 _ _ eV ⟨F,G,c1,?_⟩)
     ·simp only[execOp,sr,hval,Sem.run_bind,bX]
      simp[hw1.1]
     grind
def Qn (Q:Program) (w0:World) (f:FuncId) (h:bq):Prop:=
 ∀ps R post,h ps R post-> ∀(F:Nat->Prop) (G:Nat->Value) (w:World) (vs:List Value),fG Q ⟨G,w0,0,false⟩ F G w R->vs.length=ps.length->
  (∀(i:Nat) (v:Value) (c:P),vs[i]?=some v->ps[i]?=some c->aF F w G R v c)->
  j8 Q f ⟨vs⟩ w (fun v w'=> ∃y:P×List (Nat×En),post y/\ ∃F' G',fG Q ⟨G,w0,0,false⟩ F' G' w' y.2/\aF F' w' G' y.2 v y.1/\Ext (Own G R) (Own G' y.2) F F' w w')
theorem Qo {HN:List (FuncId×bq)} (oc: ∀f h,lk HN f=some h->Qn Q T.w0 f h) (h:aC Q T F G w a s) {dst:Option Nat} {pf:P} {ps:List P} {post:S->Prop} (hs:qJ Q (kfN HN) s dst pf ps post) {fv:Value} {vs:List Value} (hf:aF F w G s.rg fv pf) (hl:vs.length=ps.length)
  (hv: ∀(i:Nat) (v:Value) (c:P),vs[i]?=some v->ps[i]?=some c->aF F w G s.rg v c):
  ∃ku cs,fv= .func (.func ku) #[] ⟨cs⟩/\j8 Q ku ⟨vs++cs⟩ w (fun v w'=> ∃s',post s'/\ ∃F' G',aC Q T F' G' w' (a.put dst v) s'/\Ext (Own G s.rg) (Own G' s'.rg) F F' w w'):=by
 cases pf with
 |fn ku cG=>
  cases hf with
  |fn _ cs _ GU jG=>
   refine⟨ku,cs,rfl,?_⟩
   cases EE:cL Q s ku (ps++cG) with
   |none=>simp only[qJ,EE] at hs;exact hs.elim
   |some r=>
    obtain⟨s1,qs⟩:=r
    cases ky:dU (reach s1.rg 1000 qs []) with
    |false=>simp only[qJ,EE,ky,zaz,zbd] at hs;exact hs.elim
    |true=>
     cases jL:sub s1.rg (toPos s1.rg (reach s1.rg 1000 qs [])) true 0 (reach s1.rg 1000 qs []) with
     |none=>simp only[qJ,EE,ky,zba,jL] at hs;exact hs.elim
     |some R0=>
      simp only[qJ,EE,ky,zba,jL] at hs
      cases hh:lk HN ku with
      |none=>simp only[kfN,hh] at hs;exact hs.elim
      |some zS=>
       simp only[kfN,hh] at hs
       have cN: ∀(i:Nat) (v:Value) (c:P),(vs++cs)[i]?=some v->(ps++cG)[i]?=some c->aF F w G s.rg v c:=fun i v c h1 h2=>by
        grind
       obtain⟨F1,a1,a2,a3,a4,a5,a6⟩:=uL (ps++cG) s F s1 qs (vs++cs) h EE (by grind) cN
       obtain⟨b1,b2,b3⟩:=a1.heap.sub jL ky
       have hq:=oc ku zS hh _ R0 _ hs F1 _ w (vs++cs) b1 (by rw[jo];exact a5) (fun i v c h1 h2=>by
        rw[jn] at h2
        grind [nB])
       refine hq.mono fun v w' ⟨⟨p,R1⟩,eV,F2,G2,c1,c2,c3⟩=> ?_
       cases V7:(dU (c8 R1 (reach R1 1000 (p::fb R1 R1) []))&&Nat.ble (c8 R1 (reach R1 1000 (p::fb R1 R1) [])).length 1000) with
       |false=>simp only[V7,zaz,zbd] at eV;exact eV.elim
       |true=>
        simp only[V7,zba] at eV
        cases jV:gk R1 (fa R1 s1.rg (reach s1.rg 1000 qs []) (c8 R1 (reach R1 1000 (p::fb R1 R1) [])) (site dst*1000)) 0 (reach s1.rg 1000 qs []) s1.rg with
        |none=>simp only[jV] at eV;exact eV.elim
        |some R2=>
         simp only[jV] at eV
         cases fZ:kI R1 (fa R1 s1.rg (reach s1.rg 1000 qs []) (c8 R1 (reach R1 1000 (p::fb R1 R1) [])) (site dst*1000)) (site dst*1000) (c8 R1 (reach R1 1000 (p::fb R1 R1) [])) R2 with
         |none=>simp only[fZ] at eV;exact eV.elim
         |some R3=>
          simp only[fZ] at eV
          obtain⟨s',hs',eV⟩:=KW.dN (p:=fun s'=>({s1 with rg:=R3}:S).put dst (Av _ p)=some s') (fun _ h=>h) _ eV
          obtain⟨G3,d1,d2,d3⟩:=rk a1 ky (zab _ _▸V7:_/\_).1 jL c1 c3 (eO R1 _) jV fZ
          obtain⟨e1,e2⟩:=cv d1 hs' (ct.of (nB d3 c2))
          refine⟨s',eV,F2,G3,e1,?_⟩
          rw[e2]
          exact a2.trans d2
 |_=>exact hs.elim
theorem Qp {HN:List (FuncId×bq)} (oc: ∀f h,lk HN f=some h->Qn Q T.w0 f h) (h:aC Q T F G w a s) {o:Oper} {pf:P} {ps:List P} (ho:Kx HN s o=some (pf,ps)) {post:S->Prop} (hp:qJ Q (kfN HN) s o.dst pf ps post) {K:Act->World->Prop} {Q':Exit->Act->World->Prop}
  (hK: ∀s' a' w',post s'->iM Q T F G w s s' a' w'->K a' w'):o.guard=none/\o.wpIn (wd r) 0 Q a w K Q':=by
 unfold Kx at ho
 split at ho
 ·rename_i f xs hc
  split at ho
  ·rename_i ku cG hfe
   split at ho
   ·rename_i ff
    refine⟨by simp_all,?_⟩
    obtain⟨rfl,rfl⟩:=ho
    unfold gx at hc
    split at hc
    ·rename_i c sr
     split at hc
     ·rename_i f' kS
      simp at hc
      obtain⟨rfl,rfl⟩:=hc
      obtain⟨qhU,cs,hfv,br⟩:=Qo oc h hp (by rw[<-hfe];exact aY h (g:=none) trivial f') (vs:=c.args.toList.map a.eval) (by simp) (fun i v p hv hp=>by
       rw[zaJ] at hv hp
       simp only[zaw] at hv hp
       obtain⟨x,hx,rfl⟩:=hv
       obtain⟨y,hy,rfl⟩:=hp
       rw[hx] at hy
       cases hy
       exact aY h (g:=none) trivial x)
      have bX:(execOp a.eval o).run Q w=(callFunc qhU ⟨c.args.toList.map a.eval++cs⟩).run Q w:=by
       have e:(c.args.map a.eval)++(⟨cs⟩:Array Value)=⟨c.args.toList.map a.eval++cs⟩:=by simp
       simp[execOp,sr,resolve,kS,hfv,Deferred.ofValue,invoke,e]
      refine sA (fun c' qP=>by rw[sr] at qP;cases qP) ?_
      rw[bX]
      rcases br with⟨h1,h2⟩| ⟨v,w',h1,s',qK,F',G',h2,h3⟩
      ·rw[h1]
       refine⟨fun h=>(by cases h),(xq h2).mono fun e w' ⟨v,he,s',qK,F',G',h3,h4⟩=> ?_⟩
       subst he
       exact hK _ _ _ qK ⟨F',G',h3,h4⟩
      ·rw[h1]
       exact hK _ _ _ qK ⟨F',G',h2,h3⟩
     ·cases hc
    ·cases hc
   ·cases ho
  ·cases ho
 ·cases ho
theorem nI {HN:List (FuncId×bq)} (oc: ∀f h,lk HN f=some h->Qn Q T.w0 f h) {kf:KF} {cf:Nat->Nat->CF} (hJ:zT kf cf) (jq: ∀a b,dt Q T.w0 (cf a b)) {ops:List Oper} {Q':Exit->Act->World->Prop} {post:S->Prop}: ∀(l:List Oper) (kn:List (Nat×Bool)) (F:Nat->Prop) (G:Nat->Value) (w:World) (a:Act) (s:S),jN kn s->aC Q T F G w a s->eE Q kf HN ops l kn s post->
  (∀s' a' w',post s'->iM Q T F G w s s' a' w'->Q' .normal a' w')->wpListIn (wd r) 0 Q ops.toArray Q' l a w
 | [],kn,F,G,w,a,s,_,h,hp,hK=>by
  unfold eE at hp
  exact hK s a w hp ⟨F,G,h,Ext.refl _ _ _⟩
 |o::l,kn,F,G,w,a,s,dO,h,hp,hK=>by
  cases ho:pC o with
  |some it=>
   simp only[eE,ho] at hp
   have Kl:o.guard=none:=by
    unfold pC at ho
    split at ho
    ·simp_all
    ·cases ho
   have:o.wpIn (wd r) 0 Q a w (wpListIn (wd r) 0 Q ops.toArray Q' l) Q':=Ky h ho (post:=fun s1=>eE Q kf HN ops l [] s1 post) (by
    have e:(fun s1:S=>s1.force fun s1=>eE Q kf HN ops l [] s1)=fun s1=>eE Q kf HN ops l [] s1:=by funext s1;rw[S.force_eq]
    rw[e] at hp
    exact hp) fun s1 a1 w1 wo ⟨F1,G1,g1,g2⟩=>nI oc hJ jq l _ F1 G1 w1 a1 s1 (jN.nil s1) g1 wo fun s' a' w' qK hP=>hK s' a' w' qK (hP.trans g2)
   exact fk (by rw[zao (by simp[Region.wanted,Kl])];exact this)
  |none=>
  cases GU:Kx HN s o with
  |some fx=>
   simp only[eE,ho,GU] at hp
   have e:(fun s1:S=>s1.force fun s1=>eE Q kf HN ops l [] s1)=fun s1=>eE Q kf HN ops l [] s1:=by funext s1;rw[S.force_eq]
   rw[e] at hp
   obtain⟨Kl,this⟩:=Qp (K:=wpListIn (wd r) 0 Q ops.toArray Q' l) (Q':=Q') oc h GU (post:=fun s1=>eE Q kf HN ops l [] s1 post) hp fun s1 a1 w1 wo ⟨F1,G1,g1,g2⟩=>nI oc hJ jq l _ F1 G1 w1 a1 s1 (jN.nil s1) g1 wo fun s' a' w' qK hP=>hK s' a' w' qK (hP.trans g2)
   exact fk (by rw[zao (by simp[Region.wanted,Kl])];exact this)
  |none=>
   simp only[eE,ho,GU] at hp
   obtain⟨x,⟨hx,hk⟩,wo⟩:=sH hJ dO _ hp
   rw[S.force_eq] at wo
   obtain⟨i,j,hx⟩:=hx.some
   have kO:=kz (r:=r) (jq i j) h hx (K:=wpListIn (wd r) 0 Q ops.toArray Q' l) (Q':=Q') (fun a' w' ⟨F',G',g1,g2⟩=>
    nI oc hJ jq l _ F' G' w' a' x.1 hk g1 wo (fun s' a2 w2 qK hp=>hK s' a2 w2 qK (hp.trans g2)))
   exact fk kO
theorem TW.seq {x y:Code} {p post:PX×S->Prop} (h1:TW Q T x s p) (h2: ∀s1,p (.normal,s1)->TW Q T y s1 post) (h3: ∀e s1,e≠ .normal->p (e,s1)->post (e,s1)):TW Q T (.seq x y) s post:=fun r tv F G w a Q' hs hK=>by
 refine wpIn_seq (h1 tv F G w a _ hs fun e s1 a1 w1 hp hP=> ?_)
 cases e with
 |normal=>
  obtain⟨F1,G1,g1,g2⟩:=hP
  exact h2 s1 hp tv F1 G1 w1 a1 Q' g1 fun e2 s2 a2 w2 hp2 hP2=>hK e2 s2 a2 w2 hp2 (iM.trans g2 hP2)
 |exit id=>exact hK _ s1 a1 w1 (h3 _ _ (by simp) hp) hP
 |ret=>exact hK _ s1 a1 w1 (h3 _ _ (by simp) hp) hP
theorem TW.cond {c:Operand} {x y:Code} {b:Bool} {post:PX×S->Prop} (hb:s.ev c= .d (.bool b)) (h:TW Q T (if b then x else y) s post):TW Q T (.cond c x y) s post:=fun r tv F G w a Q' hs hK=>by
 have hv:a.eval c= .bool b:=by
  have:=wV hs c
  rw[hb] at this
  exact aF.cy (p:= .d (.bool b)) this rfl
 refine wpIn_cond hv ?_
 cases b with
 |true=>exact h tv F G w a Q' hs hK
 |false=>exact h tv F G w a Q' hs hK
theorem TW.block {id:Nat} {c:Code} {p post:PX×S->Prop} (h:TW Q T c s p) (hp: ∀e s1,p (e,s1)->match e with | .exit o7=>if Nat.beq o7 id then post (.normal,s1) else post (e,s1)|_=>post (e,s1)):TW Q T (.block id c) s post:=fun r tv F G w a Q' hs hK=>by
 refine wpIn_block (h tv F G w a _ hs fun e s1 a1 w1 wo hP=> ?_)
 have:=hp e s1 wo
 cases e with
 |normal=>exact hK _ s1 a1 w1 this hP
 |ret=>exact hK _ s1 a1 w1 this hP
 |exit o7=>
  simp only at this
  split at this
  ·rename_i hid
   have hid:o7=id:=by simpa using hid
   have:=hK _ s1 a1 w1 this hP
   simp only[PX.fo,Exit.inBlock,hid,zba]
   exact this
  ·rename_i hid
   have hid: ¬o7=id:=by simpa using hid
   have:=hK _ s1 a1 w1 this hP
   simp only[PX.fo,Exit.inBlock,hid,zbd]
   exact this
theorem TW.scope {c:Code} {post:PX×S->Prop} (h:TW Q T c s post):TW Q T (.scope c) s post:=fun r tv F G w a Q' hs hK=>by
 refine fV (h tv F G w a _ hs fun e s1 a1 w1 hp hP=> ?_)
 have:=hK e s1 a1 w1 hp hP
 cases e<;>simpa [PX.fo,Exit.noGoto] using this
theorem TW.loop {c:Code} {keep:Option (List Nat×List Nat)} {I:Nat->S->Prop} {O:PX×S->Prop}
  (hr: ∀n s,I n s->TW Q T c s (fun x=>match x.1 with | .normal=> ∃s2,cr keep x.2=some s2/\ ∃m,m<n/\I m s2 |e=> ∃s2,dA keep x.2=some s2/\O (e,s2)))
  {n:Nat} {s0:S} (h0:cr keep s=some s0) (hI:I n s0):TW Q T (.loop c) s O:=fun r tv F G w a Q' hs hK=>by
 obtain⟨G0,g1,g2⟩:=fI hs h0
 have key: ∀(N n:Nat) (s:S),n<N->I n s-> ∀(F:Nat->Prop) (G:Nat->Value) (w:World) (a:Act),aC Q T F G w a s->(∀e s' a' w',O (e,s')->iM Q T F G w s s' a' w'->Q' e.fo a' w')->Code.roundsIn (wd r) 0 Q c Q' N a w:=by
  intro N
  induction N with
  |zero=>simp
  |succ N ih=>
   intro n s hn hI F G w a hs hK
   refine hr n s hI tv F G w a _ hs fun e s1 a1 w1 hp hP=> ?_
   obtain⟨F1,G1,k1,k2⟩:=hP
   cases e with
   |normal=>
    obtain⟨s2,h2,m,hm,hi⟩:=hp
    obtain⟨G2,m1,m2⟩:=fI k1 h2
    exact ih m s2 (by omega) hi F1 G2 w1 a1 m1 fun e s' a' w' hO hP=>hK e s' a' w' hO (iM.trans (k2.trans m2) hP)
   |exit id=>
    obtain⟨s2,h2,hO⟩:=hp
    obtain⟨G2,m1,m2⟩:=fI (keep:=keep.map fun l=>(l.2,l.2)) k1 (by cases keep<;>exact h2)
    exact hK _ s2 a1 w1 hO ⟨F1,G2,m1,k2.trans m2⟩
   |ret=>
    obtain⟨s2,h2,hO⟩:=hp
    obtain⟨G2,m1,m2⟩:=fI (keep:=keep.map fun l=>(l.2,l.2)) k1 (by cases keep<;>exact h2)
    exact hK _ s2 a1 w1 hO ⟨F1,G2,m1,k2.trans m2⟩
 exact wpIn_loop_rounds (n+1) (key (n+1) n s0 (by omega) hI F G0 w a g1 fun e s' a' w' hO hP=>hK e s' a' w' hO (iM.trans g2 hP))
variable {kp:pZ}
theorem dX {HN:List (FuncId×bq)} (oc: ∀f h,lk HN f=some h->Qn Q T.w0 f h) {kf:KF} (hJ:zT kf (fc Q kp)) (hX:dt Q T.w0 kp.X) (hdr:Q.follows .mixedOrders=true) {kp1:Nat->Option (List Nat×List Nat)} {hk:List (Nat×(S->K (PX×S)))} {dc:Nat->Nat}: ∀(c:Code),b8 dc c=true->
  (∀d∈aR c,∀h,lk hk (Code.rX d)=some h-> ∀s post,h s post->TW Q T (.loop d) s post)->(∀x∈bR c,∀h,lk hk (500000+x.id)=some h-> ∀s post,h s post->TW Q T x.code s post)-> ∀(s:S) (post:PX×S->Prop),du Q kf HN kp1 hk dc c s post->TW Q T c s post
 | .skip,_,_,_,s,post,hp=>fun r tv F G w a Q' hs hK=>wpIn_skip (hK .normal s a w hp ⟨F,G,hs,Ext.refl _ _ _⟩)
 | .label _,_,_,_,s,post,hp=>fun r tv F G w a Q' hs hK=>wpIn_label (hK .normal s a w hp ⟨F,G,hs,Ext.refl _ _ _⟩)
 | .region id ops draw,hl,_,_,s,post,hp=>by
  have jq: ∀a b,dt Q T.w0 (fc Q kp a b):=fun a b=>sK hX hdr b
  unfold du at hp
  cases draw with
  |true=>
   obtain⟨s1,h1,hp⟩:=xN hJ (zaf (by simpa [b8] using hl)) _ hp
   obtain⟨i,j,h1⟩:=h1.some
   exact TW.of_run (kp:=kp1) (lf:=0) (jq i j) hdr (x:=(.normal,s1)) (by grind [bz]) hp
  |false=>
   simp only[zaz,zbd] at hp
   split at hp
   ·exact fun r tv F G w a Q' hs hK=>wpIn_region_list (by simpa using nI oc hJ jq ops.toList [] F G w a s (jN.nil s) hs hp fun s' a' w' qK hP=>hK .normal s' a' w' qK hP)
   ·obtain⟨s1,h1,hp⟩:=nE hJ _ [] _ (jN.nil _) _ hp
    obtain⟨i,j,h1⟩:=h1.some
    exact TW.of_run (kp:=kp1) (lf:=0) (jq i j) hdr (x:=(.normal,s1)) (by grind [bz]) hp
 | .seq x y,hl,hh,hr,s,post,hp=>by
  unfold du at hp
  have GW:b8 dc x=true/\b8 dc y=true:=by simpa [b8] using hl
  refine TW.seq (dX oc hJ hX hdr x GW.1 (fun d hd=>hh d (by simp[aR,hd])) (fun x hx=>hr x (by simp[bR,hx])) s _ hp) (fun s1 h1=>dX oc hJ hX hdr y GW.2 (fun d hd=>hh d (by simp[aR,hd])) (fun x hx=>hr x (by simp[bR,hx])) s1 post h1) fun e s1 he h1=> ?_
  cases e with
  |normal=>grind
  |exit id=>exact h1
  |ret=>exact h1
 | .cond c x y,hl,hh,hr,s,post,hp=>by
  unfold du at hp
  have GW:b8 dc x=true/\b8 dc y=true:=by simpa [b8] using hl
  have hbx: ∃b,s.ev c= .d (.bool b):=by
   cases hb:s.ev c with
   |d x=>
    cases x with
    |bool b=>simp
    |_=>simp only[hb] at hp;exact hp.elim
   |_=>simp only[hb] at hp;exact hp.elim
  obtain⟨b,hb⟩:=hbx
  simp only[hb] at hp
  refine TW.cond hb ?_
  cases b with
  |true=>exact dX oc hJ hX hdr x GW.1 (fun d hd=>hh d (by simp[aR,hd])) (fun x hx=>hr x (by simp[bR,hx])) s post hp
  |false=>exact dX oc hJ hX hdr y GW.2 (fun d hd=>hh d (by simp[aR,hd])) (fun x hx=>hr x (by simp[bR,hx])) s post hp
 | .block id c,hl,hh,hr,s,post,hp=>by
  unfold du at hp
  refine TW.block (dX oc hJ hX hdr c hl (fun d hd=>hh d (by simpa [aR] using hd)) (fun x hx=>hr x (by simpa [bR] using hx)) s _ hp) fun e s1 h1=> ?_
  cases e with
  |normal=>exact h1
  |ret=>exact h1
  |exit o7=>
   simp only at h1⊢
   split
   ·rename_i h;rw[zao h] at h1;exact h1
   ·rename_i h;rw[zam h] at h1;exact h1
 | .loop c,hl,hh,hr,s,post,hp=>by
  cases Wi:lk hk (Code.rX c) with
  |some h=>simp_all [du,aR]
  |none=>simp only[du,Wi] at hp;exact hp.elim
 | .scope c,hl,hh,hr,s,post,hp=>by
  unfold du at hp
  exact TW.scope (dX oc hJ hX hdr c hl (fun d hd=>hh d (by simpa [aR] using hd)) (fun x hx=>hr x (by simpa [bR] using hx)) s post hp)
 | .exit id,_,_,_,s,post,hp=>fun r tv F G w a Q' hs hK=>wpIn_exit (hK (.exit id) s a w hp ⟨F,G,hs,Ext.refl _ _ _⟩)
 | .ret,_,_,_,s,post,hp=>fun r tv F G w a Q' hs hK=>wpIn_ret (hK .ret s a w hp ⟨F,G,hs,Ext.refl _ _ _⟩)
 | .rangeFunc g ps a b,_,_,hr,s,post,hp=>by
  cases Wi:lk hk (500000+Code.rX b) with
  |some h=>simp only[du,Wi] at hp;exact hr ⟨g,ps,a,b⟩ (by simp[bR]) h Wi s post hp
  |none=>simp only[du,Wi] at hp;exact hp.elim
 | .goto _,_,_,_,s,post,hp=>by unfold du at hp;exact hp.elim
 | .refuse _,_,_,_,s,post,hp=>by unfold du at hp;exact hp.elim
def Ba (Q:Program) (kf:KF) (HN:List (FuncId×bq)) (kp:pZ) (hk:List (Nat×(S->K (PX×S)))) (dc:FuncId->Nat->Nat):KF:=fun f ps R=>
 match Q.funcs[f]? with
 |none=>K.fail
 |some fn=>match fn.body with
  |none=>K.fail
  |some c=>if fn.name== "runtime.NumGoroutine" then K.fail else
   K.bind (du Q kf HN (kp f) hk (dc f) c ⟨fn.ntmps,fD 0 (kM (kp f 999999) Q fn.params.toList ps),R⟩) fun x=>match x.1 with
    | .exit _=>K.fail
    |_=>match da Q x.2 fn.results.toList with
     |some qs=>B8 Q R.length fn.resultTypes.toList qs x.2
     |none=>K.fail
theorem Qn.mk {w0:World} {HN:List (FuncId×bq)} (oc: ∀f h,lk HN f=some h->Qn Q w0 f h) {h:bq} {f:FuncId} {kf:KF} {dc:FuncId->Nat->Nat} {hk:List (Nat×(S->K (PX×S)))} (hJ:zT kf (fc Q kp)) (hX:dt Q w0 kp.X) (hdr:Q.follows .mixedOrders=true) (Mu:nv dc 0 Q.funcs.toList=true) (hu:uniq Q f=true) (huR:A8 Q f=true)
  (hl: ∀id h,id<500000->lk hk id=some h-> ∀(val:Nat->Value) (lo:Nat) s post,h s post->TW Q ⟨val,w0,lo,true⟩ (.loop (bx Q f id)) s post)
  (hrf: ∀id h,lk hk (500000+id)=some h-> ∀(val:Nat->Value) (lo:Nat) s post,h s post->TW Q ⟨val,w0,lo,true⟩ (mK Q f id).code s post)
  (hb: ∀ps R post,h ps R post->Ba Q kf HN kp hk dc f ps R post):Qn Q w0 f h:=by
 intro ps R post hr F G w vs hH hlen hv
 have hb:=hb ps R post hr
 cases fX:Q.funcs[f]? with
 |none=>simp only[Ba,fX] at hb;exact hb.elim
 |some fn=>
  cases hc:fn.body with
  |none=>simp only[Ba,fX,hc] at hb;exact hb.elim
  |some c=>
   cases jr:(fn.name== "runtime.NumGoroutine") with
   |true=>simp only[Ba,fX,hc,jr,zba] at hb;exact hb.elim
   |false=>
    simp only[Ba,fX,hc,jr,zaz,zbd] at hb
    left
    refine⟨by simp[callFunc,fX,hc];grind,?_⟩
    refine kX fX hc ?_
    have Pj:vs.length=(kM (kp f 999999) Q fn.params.toList ps).length:=by rw[xS];exact hlen
    have J6:=A5 (Q:=Q) (kp f 999999) fn.params.toList ps vs hv
    have xT:aC Q ⟨G,w0,w.heap.size,true⟩ F G w {tmps:=(⟨vs⟩:Array Value)++Array.replicate (fn.ntmps-(⟨vs⟩:Array Value).size) undef,defers:=[]} ⟨fn.ntmps,fD 0 (kM (kp f 999999) Q fn.params.toList ps),R⟩:=by
     refine(fG.lo hH (zaj _)).state rfl .nil (by simp;omega) (fun t p hp=> ?_)
     obtain⟨_,h2⟩:=nG _ 0 t p hp
     grind [fF,ct.of]
    have hTW:=dX (T:=⟨G,w0,w.heap.size,true⟩) oc hJ hX hdr (kp1:=kp f) c (kA Mu f fn c fX hc) (fun d hd h hh s post hp=>by
     have e:bx Q f (Code.rX d)=d:=by
      grind [uniq,bx,jt,dD]
     have:=hl _ h (MD huR fX hc hd) hh G w.heap.size s post hp
     rwa [e] at this) (fun x hx h hh s post hp=>by
     have:=hrf _ h hh G w.heap.size s post hp
     rwa [Wt huR fX hc hx] at this) _ _ hb
    refine hTW (r:=none) (fun _=>rfl) F G w _ _ xT fun e s1 a' w' hp hP=> ?_
    obtain⟨F',G',h1,h2⟩:=hP
    have fin: ∀qs (y:P×List (Nat×En)),da Q s1 fn.results.toList=some qs->finish Q R.length fn.resultTypes.toList qs s1=some y->post y->
      LeavesInM Fence.wide 0 Q fn a'.tmps (fun e w'=> ∃v2,e= .returned v2/\ ∃y:P×List (Nat×En),post y/\ ∃F' G',fG Q ⟨G,w0,0,false⟩ F' G' w' y.2/\aF F' w' G' y.2 v2 y.1/\Ext (Own G R) (Own G' y.2) F F' w w') a'.defers .returning w':=by
     intro qs y hq UY eV
     refine xR (T:=⟨G,w0,w.heap.size,true⟩) (own0:=Own G R) (F0:=F) (w1:=w) (zaj _) (fun w2 h3 h4=> ?_) a'.defers w' h1 h2
     obtain⟨us,g1,g2,g3⟩:=rv h3 hq
     obtain⟨F2,G2,k1,k2,k3⟩:=A4 h3 UY g2 g3
     exact⟨_,g1,_,rfl,y,eV,F2,G2,k1.lo,k2,h4.trans k3⟩
    have Ik:e≠ .normal->e≠ .ret->False:=fun h1 h2=>by
     cases e with
     |normal=>exact h1 rfl
     |ret=>exact h2 rfl
     |exit id=>exact hp
    have hq: ∃qs y,da Q s1 fn.results.toList=some qs/\finish Q R.length fn.resultTypes.toList qs s1=some y/\post y:=by
     cases e with
     |exit id=>grind
     |normal=>
      cases hq:da Q s1 fn.results.toList with
      |none=>simp only[hq] at hp;exact hp.elim
      |some qs=>
       simp only[hq] at hp
       obtain⟨y,hy,hpo⟩:=KW.dN (p:=fun y=>finish Q R.length fn.resultTypes.toList qs s1=some y) (fun _ h=>h) _ hp
       grind
     |ret=>
      cases hq:da Q s1 fn.results.toList with
      |none=>simp only[hq] at hp;exact hp.elim
      |some qs=>
       simp only[hq] at hp
       obtain⟨y,hy,hpo⟩:=KW.dN (p:=fun y=>finish Q R.length fn.resultTypes.toList qs s1=some y) (fun _ h=>h) _ hp
       grind
    obtain⟨qs,y,hq,UY,hpo⟩:=hq
    have:=fin qs y hq UY hpo
    cases e with
    |normal=>exact this
    |ret=>exact this
    |exit id=>grind
theorem MA.ofN {w0:World} {g:TF} {f:FuncId} {h:bq} (hN:Qn Q w0 f h) (hg: ∀ps R y,g ps R=some y->h ps R (fun z=>z=y)):MA Q w0 f g:=by
 intro _ ps R p R1 hr F G w vs hH hlen hv
 refine(hN ps R _ (hg ps R (p,R1) hr) F G w vs hH hlen hv).mono fun v w' ⟨y,hy,F',G',h1,h2,h3⟩=>by grind
end
end Pi
