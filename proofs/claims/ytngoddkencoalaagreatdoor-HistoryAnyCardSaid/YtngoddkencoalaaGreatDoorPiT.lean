/- The text PiT. -/
import Derived.Test.YtngoddkencoalaaGreatDoorPiBulk
namespace Pi
open Go
def TW (Q:Program) (T:Tg) (c:Code) (s:S) (post:PX×S->Prop):Prop:=
 ∀ ⦃r:Option Nat⦄(_:T.Nb=true->r=none) (F:Nat->Prop) (G:Nat->Value) (w:World) (a:Act) (Q':Exit->Act->World->Prop),aB Q T F G w a s->(∀e s' a' w',post (e,s')->iv Q T F G w s s' a' w'->Q' e.fe a' w')->c.wpIn (wd r) 0 Q Q' a w
def Af (Q:Program) (s:S) (dst:Option Nat) (p:P):K S:=
 match p with
 | .ref n v 0=>match s.obj n v with
  |some (.iter kt vt left _)=>fun post=>
   (∀k x,left k=some x->K.bind (A3 Q kt k) (fun k=>K.bind (A3 Q vt x) fun x=>K.dH ((s.setObj n (.iter kt vt (Di k left) (some (k,x)))).put dst (.da [.d (.bool true),.d k,.d x]))) post)/\
   ((∀k,left k=none)->K.dH (s.put dst (.da [.d (.bool false)])) post)
  |_=>K.fail
 |_=>K.fail
def oS (o:Oper):Option Operand:=match o.op with | .next it false=>if o.guard.isNone then some it else none |_=>none
def kfN (HN:List (FuncId×bm)):KF:=fun f=>match lk HN f with |some h=>h |none=>fun _ _=>K.fail
def IG (HN:List (FuncId×bm)) (s:S) (o:Oper):Option (P×List P):=
 match fY o with
 |some (f,xs)=>match s.eg none f with
  | .fn ju cy=>if(lk HN ju).isSome&&o.guard.isNone then some (.fn ju cy,xs.map (s.eg none)) else none
  |_=>none
 |none=>none
def eu (Q:Program) (cf:KF) (HN:List (FuncId×bm)) (ops:List Oper):List Oper->List (Nat×Bool)->S->K S
 | [],_,s=>K.ret s
 |o::r,kn,s=>match oS o with
  |some it=>K.bind (Af Q s o.dst ((s.ev it).under none)) fun s1=>s1.force fun s1=>eu Q cf HN ops r [] s1
  |none=>match IG HN s o with
   |some (f,xs)=>K.bind (ql Q (kfN HN) s o.dst f xs) fun s1=>s1.force fun s1=>eu Q cf HN ops r [] s1
   |none=>K.bind (zA Q cf ops kn s o) fun x=>x.1.force fun s1=>eu Q cf HN ops r x.2 s1
def hasNext:List Oper->Bool
 | []=>false
 |o::r=>(oS o).isSome ||hasNext r
def de (Q:Program) (kf:KF) (HN:List (FuncId×bm)) (kp:Nat->Option (List Nat×List Nat)) (hk:List (Nat×(S->K (PX×S)))) (dc:Nat->Nat):Code->S->K (PX×S)
 | .skip,s=>K.ret (.normal,s)
 | .label _,s=>K.ret (.normal,s)
 | .region id ops draw,s=>K.bind (if draw then Dp Q kf ops.toList (dc id) s else if hasNext ops.toList || !HN.isEmpty then eu Q kf HN ops.toList ops.toList [] s else kY Q kf ops.toList ops.toList [] s) fun s1=>K.ret (.normal,s1)
 | .seq a b,s=>K.bind (de Q kf HN kp hk dc a s) fun x=>match x.1 with
  | .normal=>de Q kf HN kp hk dc b x.2
  |_=>K.ret x
 | .cond c x y,s=>match s.ev c with
  | .d (.bool b)=>K.bind (K.dec b) fun r=>if r then de Q kf HN kp hk dc x s else de Q kf HN kp hk dc y s
  |_=>K.fail
 | .block id c,s=>K.bind (de Q kf HN kp hk dc c s) fun x=>match x.1 with
  | .exit ou=>if Nat.beq ou id then K.ret (.normal,x.2) else K.ret x
  |_=>K.ret x
 | .loop c,s=>match lk hk (Code.rM c) with
  |some h=>h s
  |none=>K.fail
 | .scope c,s=>de Q kf HN kp hk dc c s
 | .exit id,s=>K.ret (.exit id,s)
 | .ret,s=>K.ret (.ret,s)
 | .rangeFunc _ _ _ b,s=>match lk hk (500000+Code.rM b) with
  |some h=>h s
  |none=>K.fail
 |_,_=>K.fail
structure RF where
 g:Operand
 ps:Array Tmp
 asg:Code
 body:Code
def RF.code (x:RF):Code:= .rangeFunc x.g x.ps x.asg x.body
def bP:Code->List RF
 | .seq a b=>bP a++bP b
 | .cond _ a b=>bP a++bP b
 | .block _ c | .scope c | .loop c=>bP c
 | .rangeFunc g ps a b=>[⟨g,ps,a,b⟩]
 |_=>[]
def RF.id (x:RF):Nat:=Code.rM x.body
def BV (id:Nat):List RF->Option RF
 | []=>none
 |x::r=>if Nat.beq x.id id then some x else BV id r
def lZ (Q:Program) (f:FuncId) (id:Nat):RF:=
 match Q.funcs[f]? with
 |some fn=>(match fn.body with |some c=>(BV id (bP c)).getD ⟨.const undef, #[],.skip,.skip⟩|none=>⟨.const undef, #[],.skip,.skip⟩)
 |none=>⟨.const undef, #[],.skip,.skip⟩
def Ag (Q:Program) (f:FuncId):Bool:=
 match Q.funcs[f]? with
 |some fn=>(match fn.body with |some c=>dN ((bP c).map RF.id)&&(aN c).all fun d=>Nat.blt (Code.rM d) 500000 |none=>true)
 |none=>true
theorem Ah {d:RF}: ∀(l:List RF),(l.map RF.id).Nodup->d∈l->BV d.id l=some d
 | [],_,h=>by simp at h
 |c::r,hn,h=>by
  obtain⟨hn1,J5⟩:=List.nodup_cons.1 hn
  unfold BV
  rcases List.mem_cons.1 h with rfl |h
  ·simp
  ·have: ¬c.id=d.id:=fun e=>hn1 (e▸List.mem_map_of_mem h)
   rw[if_neg (by simpa using this)]
   exact Ah r J5 h
theorem TT {Q:Program} {f:FuncId} {fn:Func} {c:Code} {x:RF} (hu:Ag Q f=true) (eJ:Q.funcs[f]?=some fn) (hc:fn.body=some c) (hx:x∈bP c):lZ Q f x.id=x:=by
 unfold Ag at hu
 rw[eJ] at hu
 simp only[hc,Bool.and_eq_true] at hu
 replace hu:=hu.1
 unfold lZ
 rw[eJ]
 simp only[hc,Ah _ (dw _ hu) hx,Option.getD_some]
theorem KT {Q:Program} {f:FuncId} {fn:Func} {c:Code} {d:Code} (hu:Ag Q f=true) (eJ:Q.funcs[f]?=some fn) (hc:fn.body=some c) (hd:d∈aN c):Code.rM d<500000:=by
 unfold Ag at hu
 rw[eJ] at hu
 simp only[hc,Bool.and_eq_true,List.all_eq_true] at hu
 simpa [Nat.blt_eq] using hu.2 d hd
section
variable {Q:Program} {T:Tg} {F:Nat->Prop} {G:Nat->Value} {w:World} {a:Act} {s:S} {r:Option Nat}
theorem TW.mono {c:Code} {p q:PX×S->Prop} (h:TW Q T c s p) (Ns: ∀x,p x->q x):TW Q T c s q:=fun _ sN F G w a Q' hs hK=>h sN F G w a Q' hs fun e s' a' w' hp=>hK e s' a' w' (Ns _ hp)
theorem TW.of_run {kp:Nat->Option (List Nat×List Nat)} {cf:CF} {lf:Nat} (iV:db Q T.w0 cf) (hdr:Q.follows .mixedOrders=true) {c:Code} {x:PX×S} (h:bz Q cf kp lf c s=some x) {post:PX×S->Prop} (hp:post x):TW Q T c s post:=
 fun _ _ F G w a Q' hs hK=>ff iV hdr c s x.1 x.2 h F G w a Q' hs fun a' w' hP=>hK x.1 x.2 a' w' hp hP
theorem Ee {r m since last:Nat} {seen:Array Nat} {es:Array MapEntry} {clock:Nat} (ty:TypeId) (hr:w.heap[r]?=some (.mapIter (some m) since seen last)) (hm:w.heap[m]?=some (.map es clock)) (hold: ∀x∈es.toList,x.born<since) (Gp:since<=last):
  ((∀x∈es.toList,seen.contains x.born=true)/\(Instr.next (.pointer (some ⟨r,0,none⟩)) false ty).run Q w= .ok (.tuple #[.bool false]) w)\/
  ∃e∈es.toList,seen.contains e.born=false/\ ∃w1:World,(w1=w\/w1={w with drawn:=w.drawn+1})/\(Instr.next (.pointer (some ⟨r,0,none⟩)) false ty).run Q w= .ok (.tuple #[.bool true,e.key,e.val]) {w1 with heap:=w1.heap.setIfInBounds r (.mapIter (some m) since (seen.push e.born) clock)}:=by
 have b9:(!seen.isEmpty&& !es.isEmpty&&es.all fun x=>decide (x.born>=last))=false:=by
  cases he:es.isEmpty with
  |true=>simp
  |false=>
   have h0:0<es.size:=by
    refine Nat.pos_of_ne_zero fun h=> ?_
    simp[Array.isEmpty,h] at he
   have:es.all (fun x=>decide (x.born>=last))=false:=by
    rw[Array.all_eq_false]
    refine⟨0,h0,?_⟩
    have:=hold es[0] (by simp)
    simp
    omega
   rw[this,Bool.and_false]
 have e1:(es.filter fun e=> !seen.contains e.born).filter (fun x=>decide (x.born<since))=es.filter fun e=> !seen.contains e.born:=Array.filter_eq_self.2 fun x hx=>by
  have:=hold x (by simpa using(Array.mem_filter.1 hx).1)
  simpa using this
 have e2:(es.filter fun e=> !seen.contains e.born).filter (fun x=>decide (x.born>=since))= #[]:=by
  rw[Array.filter_eq_empty_iff]
  intro x hx
  have:=hold x (by simpa using(Array.mem_filter.1 hx).1)
  simp
  omega
 have mem: ∀x,x∈(es.filter fun e=> !seen.contains e.born)↔x∈es.toList/\seen.contains x.born=false:=fun x=>by
  rw[Array.mem_filter];simp
 simp only[Instr.next,getObj,Sem.run_bind,Sem.run,hr,hm,Result.andThen,b9,Bool.false_eq_true,if_false,e1,e2,Array.append_empty]
 generalize (es.filter fun e=> !seen.contains e.born)=L at mem⊢
 by_cases h0:L.size=0
 ·have:L= #[]:=Array.eq_empty_of_size_eq_zero h0
  subst this
  refine .inl ⟨fun x hx=> ?_,?_⟩
  ·cases hs:seen.contains x.born with
   |true=>rfl
   |false=>exact absurd ((mem x).2 ⟨hx,hs⟩) (by simp)
  ·simp[choose,Sem.run,Question.forced]
 ·have dz:L.isEmpty=false:=by simp[Array.isEmpty,h0]
  have hch: ∃(j:Nat) (w1:World),j<L.size/\(w1=w\/w1={w with drawn:=w.drawn+1})/\(choose (Question.mapNext L.size)).run Q w= .ok j w1:=by
   by_cases hf:L.size<=1
   ·exact⟨0,w,by omega,.inl rfl,by simp[choose,Sem.run,Question.forced,hf]⟩
   ·refine⟨w.tape w.drawn (.mapNext L.size)%L.size,{w with drawn:=w.drawn+1},Nat.mod_lt _ (by omega),.inr rfl,?_⟩
    simp only[choose,Sem.run,Question.forced,decide_eq_true_eq,hf,if_false,Question.cut]
  obtain⟨j,w1,hj,Mu,bE⟩:=hch
  obtain⟨m1,m2⟩:=(mem L[j]).1 (by simp)
  refine .inr ⟨L[j],m1,m2,w1,Mu,?_⟩
  have hr1:w1.heap[r]?=some (.mapIter (some m) since seen last):=by rcases Mu with rfl |rfl<;>exact hr
  have gU:(setObj r (.mapIter (some m) since (seen.push L[j].born) clock)).run Q w1= .ok () {w1 with heap:=w1.heap.setIfInBounds r (.mapIter (some m) since (seen.push L[j].born) clock)}:=by
   simp[setObj,Sem.run,hr1]
  simp only[dz,Bool.false_eq_true,if_false,Array.empty_append,Array.size_map,bE,Array.getElem?_map,Array.getElem?_eq_getElem hj,Option.map_some,Sem.run_bind,gU,Result.andThen]
  rfl
theorem II (h:aB Q T F G w a s) {o:Oper} {it:Operand} (ho:oS o=some it) {post:S->Prop} (hp:Af Q s o.dst ((s.ev it).under none) post) {K:Act->World->Prop} {Q':Exit->Act->World->Prop}
  (hK: ∀s' a' w',post s'->iv Q T F G w s s' a' w'->K a' w'):o.wpIn (wd r) 0 Q a w K Q':=by
 have tQ:o.op= .next it false:=by
  unfold oS at ho
  split at ho
  ·rename_i it' tQ
   split at ho
   ·simp at ho;subst ho;exact tQ
   ·cases ho
  ·cases ho
 have hv:=aV h (g:=none) trivial it
 unfold S.eg at hv
 generalize (s.ev it).under none=p at hv hp
 have TU: ∃n aU kt vt left cur,p= .ref n aU 0/\s.obj n aU=some (.iter kt vt left cur):=by
  cases p with
  |ref n aU off=>
   cases off with
   |succ off=>exact hp.elim
   |zero=>
    cases Xd:s.obj n aU with
    |none=>simp only[Af,Xd] at hp;exact hp.elim
    |some o=>
     cases o with
     |iter kt vt left cur=>exact⟨n,aU,kt,vt,left,cur,rfl,Xd⟩
     |_=>simp only[Af,Xd] at hp;exact hp.elim
  |_=>exact hp.elim
 obtain⟨n,aU,kt,vt,left,cur,rfl,Xd⟩:=TU
 simp only[Af,Xd] at hp
 ·
  ·obtain⟨p1,p2⟩:=hp
   obtain⟨e,he,dI,bR⟩:=S.bF Xd
   have hO:=h.rg n e he
   rw[bR] at hO
   obtain⟨b,mo,since,seen,last,hg,hh,hO⟩:=hO
   have hval:a.eval it= .pointer (some ⟨b,0,none⟩):=by
    generalize a.eval it=v at hv
    cases hv with
    |ref _ _ _ _ hr h1=>
     obtain⟨b',J8,rfl⟩:=hr.at he dI (by rw[bR];rfl)
     rw[hg] at J8
     simp at J8
     rw[J8]
   have over:(∀k,left k=none)->(Instr.next (.pointer (some ⟨b,0,none⟩)) false o.type).run Q w= .ok (.tuple #[.bool false]) w->o.wpIn (wd r) 0 Q a w K Q':=fun h0 bE=>by
    obtain⟨s1,pX,eB⟩:=KW.dH (p:=fun s1=>s.put o.dst (.da [.d (.bool false)])=some s1) (fun _ h=>h) _ (p2 h0)
    obtain⟨c1,c2⟩:=ct h pX (v:= .tuple #[.bool false]) (cr.of (.da [.bool false] [.d (.bool false)] rfl fun i v c hv hc=>by
     cases i with
     |zero=>simp at hv hc;subst hv;subst hc;exact .d (.bool false)
     |succ i=>simp at hv))
    refine s5 (fun c hc=>by rw[tQ] at hc;cases hc) (v:= .tuple #[.bool false]) (w':=w) (.inl (by simp[execOp,tQ,hval,bE])) (hK s1 _ _ eB ⟨F,G,c1,?_⟩)
    rw[c2]
    exact Ext.refl _ _ _
   rcases hO with⟨rfl,h0,_⟩| ⟨m,es,rfl,hF,hm,Np,hI,hc⟩
   ·exact over h0 (by simp[Instr.next,getObj,Sem.run_bind,Sem.run,hh])
   ·subst Np
    have hold: ∀x∈es.toList,x.born<last:=by obtain⟨ks,_,_,_,h5,_⟩:=hI;exact h5
    rcases Ee (Q:=Q) o.type hh hm hold (Nat.le_refl _) with⟨h0,bE⟩| ⟨en,yQ,Ou,w1,Mu,bE⟩
    ·exact over (hI.over h0) bE
    ·have Ou:en∈es.toList/\seen.contains en.born=false:=⟨yQ,Ou⟩
     obtain⟨k,x,hk,wb,hx,hI2⟩:=hI.next Ou.1 Ou.2
     obtain⟨k',rfl,My⟩:=mM Q kt k _ (p1 k x hk)
     obtain⟨x',rfl,hp3⟩:=mM Q vt x _ My
     obtain⟨s1,pX,eB⟩:=KW.dH (p:=fun s1=>(s.setObj n (.iter kt vt (Di k left) (some (k,x)))).put o.dst (.da [.d (.bool true),.d k,.d x])=some s1) (fun _ h=>h) _ hp3
     have Xe:w1.heap=w.heap/\w1.os=w.os/\w1.tape=w.tape/\w1.output=w.output:=by rcases Mu with rfl |rfl<;>exact⟨rfl,rfl,rfl,rfl⟩
     have uT:b<w.heap.size:=(Array.getElem?_eq_some_iff.1 hh).1
     have ep:bu (G n) e.obj=some b:=by rw[bR,hg];rfl
     have dz:m≠b:=fun hmb=>by
      subst hmb
      exact h.lr n e m he ep hF
     have fJ: ∀b0,b0≠b->(w.heap.setIfInBounds b (.mapIter (some m) last (seen.push en.born) last))[b0]?=w.heap[b0]?:=fun b0 dz=>Array.getElem?_setIfInBounds_ne (Ne.symm dz)
     have wz:(w.heap.setIfInBounds b (.mapIter (some m) last (seen.push en.born) last))[b]?=some (.mapIter (some m) last (seen.push en.born) last):=by rw[Array.getElem?_setIfInBounds_self_of_lt uT]
     have Bu: ∀b0,F b0->b0≠b:=fun b0 hf e0=>by
      subst e0
      exact h.lr n e b0 he ep hf
     rw[S.e9 he] at pX
     have qf7:w.drawn<=w1.drawn:=by
        rcases Mu with rfl |rfl
        ·exact Nat.le_refl _
        ·exact Nat.le_succ _
     obtain⟨d1,d2⟩:=h.mn (n:=n) (e1:=⟨e.aU,e.tag,.iter kt vt (Di k left) (some (k,x))⟩) (g1:=G n) (w':={w1 with heap:=w.heap.setIfInBounds b (.mapIter (some m) last (seen.push en.born) last)}) (hdr:=qf7)
      (fun e' cF=>by
       rw[he] at cF
       cases cF
       exact .inr ⟨rfl,fun _=>⟨by rw[bR];rfl,rfl⟩⟩)
      (fun b0 _ b9=>fJ b0 fun e0=>by
       subst e0
       exact b9 ⟨e,he,ep⟩) (by simp) Xe.2.1 Xe.2.2.1 Xe.2.2.2
      (fun b0 Bp=> .inr ⟨e,he,by rw[bR];exact Bp⟩)
      ⟨b,some m,last,seen.push en.born,last,by rw[bU];exact hg,wz,.inr ⟨m,es,rfl,hF,(fJ m dz).trans hm,rfl,hI2.mono (fun _ h=>h) (fun b0 hf=>fJ b0 (Bu b0 hf)),fun k1 x1 hc1=>by
       simp only[Option.some.injEq,Prod.mk.injEq] at hc1
       obtain⟨rfl,rfl⟩:=hc1
       exact⟨en,Ou.1,by simp,wb,hx.mono (fun _ h=>h) (fun b0 hf=>fJ b0 (Bu b0 hf))⟩⟩⟩
      (fun i hi _=>h.tag n e i he hi (by rw[bR];rfl))
     rw[bU] at d1 d2
     obtain⟨c1,c2⟩:=ct d1 pX (v:= .tuple #[.bool true,en.key,en.val]) (cr.of (.da [.bool true,en.key,en.val] _ rfl fun i v c hv hc=>by
      match i with
      |0=>simp at hv hc;subst hv;subst hc;exact .d (.bool true)
      |1=>simp at hv hc;subst hv;subst hc;exact .d (aW.Nn _ _ wb)
      |2=>simp at hv hc;subst hv;subst hc;exact .d (hx.mono (fun _ h=>h) (fun b0 hf=>fJ b0 (Bu b0 hf)))
      |i+3=>simp at hv))
     refine s5 (fun c hc=>by rw[tQ] at hc;cases hc) (v:= .tuple #[.bool true,en.key,en.val]) (w':={w1 with heap:=w.heap.setIfInBounds b (.mapIter (some m) last (seen.push en.born) last)}) (.inl ?_) (hK s1 _ _ eB ⟨F,G,c1,?_⟩)
     ·simp only[execOp,tQ,hval,Sem.run_bind,bE]
      simp[Xe.1]
     ·rw[c2]
      exact d2
def Ov (Q:Program) (w0:World) (f:FuncId) (h:bm):Prop:=
 ∀ps R post,h ps R post-> ∀(F:Nat->Prop) (G:Nat->Value) (w:World) (vs:List Value),fo Q ⟨G,w0,0,false⟩ F G w R->vs.length=ps.length->
  (∀(i:Nat) (v:Value) (c:P),vs[i]?=some v->ps[i]?=some c->aD F w G R v c)->
  jD Q f ⟨vs⟩ w (fun v w'=> ∃y:P×List (Nat×En),post y/\ ∃F' G',fo Q ⟨G,w0,0,false⟩ F' G' w' y.2/\aD F' w' G' y.2 v y.1/\Ext (Own G R) (Own G' y.2) F F' w w')
theorem Ow {HN:List (FuncId×bm)} (nJ: ∀f h,lk HN f=some h->Ov Q T.w0 f h) (h:aB Q T F G w a s) {dst:Option Nat} {pf:P} {ps:List P} {post:S->Prop} (hs:ql Q (kfN HN) s dst pf ps post) {fv:Value} {vs:List Value} (hf:aD F w G s.rg fv pf) (hl:vs.length=ps.length)
  (hv: ∀(i:Nat) (v:Value) (c:P),vs[i]?=some v->ps[i]?=some c->aD F w G s.rg v c):
  ∃ju cs,fv= .func (.func ju) #[] ⟨cs⟩/\jD Q ju ⟨vs++cs⟩ w (fun v w'=> ∃s',post s'/\ ∃F' G',aB Q T F' G' w' (a.put dst v) s'/\Ext (Own G s.rg) (Own G' s'.rg) F F' w w'):=by
 cases pf with
 |fn ju cy=>
  cases hf with
  |fn _ cs _ C3 iQ=>
   refine⟨ju,cs,rfl,?_⟩
   cases yN:cG Q s ju (ps++cy) with
   |none=>simp only[ql,yN] at hs;exact hs.elim
   |some r=>
    obtain⟨s1,qs⟩:=r
    cases lx:dN (reach s1.rg 1000 qs []) with
    |false=>simp only[ql,yN,lx,Bool.false_eq_true,if_false] at hs;exact hs.elim
    |true=>
     cases lV:sub s1.rg (toPos s1.rg (reach s1.rg 1000 qs [])) true 0 (reach s1.rg 1000 qs []) with
     |none=>simp only[ql,yN,lx,if_true,lV] at hs;exact hs.elim
     |some R0=>
      simp only[ql,yN,lx,if_true,lV] at hs
      cases hh:lk HN ju with
      |none=>simp only[kfN,hh] at hs;exact hs.elim
      |some yX=>
       simp only[kfN,hh] at hs
       have b8: ∀(i:Nat) (v:Value) (c:P),(vs++cs)[i]?=some v->(ps++cy)[i]?=some c->aD F w G s.rg v c:=fun i v c h1 h2=>by
        by_cases hi:i<vs.length
        ·rw[List.getElem?_append_left hi] at h1
         rw[List.getElem?_append_left (by omega)] at h2
         exact hv i v c h1 h2
        ·rw[List.getElem?_append_right (by omega)] at h1 h2
         rw[<-hl] at h2
         exact iQ _ v c h1 h2
       obtain⟨F1,a1,a2,a3,a4,a5,a6⟩:=tW (ps++cy) s F s1 qs (vs++cs) h yN (by simp[hl,C3]) b8
       obtain⟨b1,b2,b3⟩:=a1.heap.sub lV lx
       simp only[if_true] at b1
       have hq:=nJ ju yX hh _ R0 _ hs F1 _ w (vs++cs) b1 (by rw[iU];exact a5) (fun i v c h1 h2=>by
        rw[iT] at h2
        simp only[Option.map_eq_some_iff] at h2
        obtain⟨q,hq,rfl⟩:=h2
        exact mP b2 (a6 i v q h1 hq))
       refine hq.mono fun v w' ⟨⟨p,R1⟩,eB,F2,G2,c1,c2,c3⟩=> ?_
       simp only at eB c1 c2 c3
       cases Ty:(dN (cS R1 (reach R1 1000 (p::eY R1 R1) []))&&Nat.ble (cS R1 (reach R1 1000 (p::eY R1 R1) [])).length 1000) with
       |false=>simp only[Ty,Bool.false_eq_true,if_false] at eB;exact eB.elim
       |true=>
        simp only[Ty,if_true] at eB
        cases jx:fT R1 (eX R1 s1.rg (reach s1.rg 1000 qs []) (cS R1 (reach R1 1000 (p::eY R1 R1) [])) (site dst*1000)) 0 (reach s1.rg 1000 qs []) s1.rg with
        |none=>simp only[jx] at eB;exact eB.elim
        |some R2=>
         simp only[jx] at eB
         cases gF:jV R1 (eX R1 s1.rg (reach s1.rg 1000 qs []) (cS R1 (reach R1 1000 (p::eY R1 R1) [])) (site dst*1000)) (site dst*1000) (cS R1 (reach R1 1000 (p::eY R1 R1) [])) R2 with
         |none=>simp only[gF] at eB;exact eB.elim
         |some R3=>
          simp only[gF] at eB
          obtain⟨s',hs',eB⟩:=KW.dH (p:=fun s'=>({s1 with rg:=R3}:S).put dst (zw _ p)=some s') (fun _ h=>h) _ eB
          obtain⟨G3,d1,d2,d3⟩:=q4 a1 lx (Bool.and_eq_true _ _▸Ty:_/\_).1 lV c1 c3 (eE R1 _) jx gF
          obtain⟨e1,e2⟩:=ct d1 hs' (cr.of (mP d3 c2))
          refine⟨s',eB,F2,G3,e1,?_⟩
          rw[e2]
          exact a2.trans d2
 |_=>exact hs.elim
theorem Ox {HN:List (FuncId×bm)} (nJ: ∀f h,lk HN f=some h->Ov Q T.w0 f h) (h:aB Q T F G w a s) {o:Oper} {pf:P} {ps:List P} (ho:IG HN s o=some (pf,ps)) {post:S->Prop} (hp:ql Q (kfN HN) s o.dst pf ps post) {K:Act->World->Prop} {Q':Exit->Act->World->Prop}
  (hK: ∀s' a' w',post s'->iv Q T F G w s s' a' w'->K a' w'):o.guard=none/\o.wpIn (wd r) 0 Q a w K Q':=by
 unfold IG at ho
 split at ho
 ·rename_i f xs hc
  split at ho
  ·rename_i ju cy Y6
   split at ho
   ·rename_i dF
    simp only[Bool.and_eq_true] at dF
    refine⟨by simpa using dF.2,?_⟩
    simp only[Option.some.injEq,Prod.mk.injEq] at ho
    obtain⟨rfl,rfl⟩:=ho
    unfold fY at hc
    split at hc
    ·rename_i c tQ
     split at hc
     ·rename_i f' gD
      simp at hc
      obtain⟨rfl,rfl⟩:=hc
      obtain⟨qf8,cs,hfv,cp⟩:=Ow nJ h hp (by rw[<-Y6];exact aV h (g:=none) trivial f') (vs:=c.args.toList.map a.eval) (by simp) (fun i v p hv hp=>by
       rw[List.getElem?_map] at hv hp
       simp only[Option.map_eq_some_iff] at hv hp
       obtain⟨x,hx,rfl⟩:=hv
       obtain⟨y,hy,rfl⟩:=hp
       rw[hx] at hy
       cases hy
       exact aV h (g:=none) trivial x)
      have bE:(execOp a.eval o).run Q w=(callFunc qf8 ⟨c.args.toList.map a.eval++cs⟩).run Q w:=by
       have e:(c.args.map a.eval)++(⟨cs⟩:Array Value)=⟨c.args.toList.map a.eval++cs⟩:=by apply Array.toList_inj.1;simp
       simp[execOp,tQ,resolve,gD,hfv,Deferred.ofValue,invoke,e]
      refine r9 (fun c' qt=>by rw[tQ] at qt;cases qt) ?_
      rw[bE]
      rcases cp with⟨h1,h2⟩| ⟨v,w',h1,s',r3,F',G',h2,h3⟩
      ·rw[h1]
       refine⟨fun h=>(by cases h),(wF h2).mono fun e w' ⟨v,he,s',r3,F',G',h3,h4⟩=> ?_⟩
       subst he
       exact hK _ _ _ r3 ⟨F',G',h3,h4⟩
      ·rw[h1]
       exact hK _ _ _ r3 ⟨F',G',h2,h3⟩
     ·cases hc
    ·cases hc
   ·cases ho
  ·cases ho
 ·cases ho
theorem mY {HN:List (FuncId×bm)} (nJ: ∀f h,lk HN f=some h->Ov Q T.w0 f h) {kf:KF} {cf:Nat->Nat->CF} (fG:yZ kf cf) (iV: ∀a b,db Q T.w0 (cf a b)) {ops:List Oper} {Q':Exit->Act->World->Prop} {post:S->Prop}: ∀(l:List Oper) (kn:List (Nat×Bool)) (F:Nat->Prop) (G:Nat->Value) (w:World) (a:Act) (s:S),jm kn s->aB Q T F G w a s->eu Q kf HN ops l kn s post->
  (∀s' a' w',post s'->iv Q T F G w s s' a' w'->Q' .normal a' w')->wpListIn (wd r) 0 Q ops.toArray Q' l a w
 | [],kn,F,G,w,a,s,_,h,hp,hK=>by
  unfold eu at hp
  exact hK s a w hp ⟨F,G,h,Ext.refl _ _ _⟩
 |o::l,kn,F,G,w,a,s,eb,h,hp,hK=>by
  cases ho:oS o with
  |some it=>
   simp only[eu,ho] at hp
   have Gt:o.guard=none:=by
    unfold oS at ho
    split at ho
    ·split at ho
     ·rename_i hg;simpa using hg
     ·cases ho
    ·cases ho
   have:o.wpIn (wd r) 0 Q a w (wpListIn (wd r) 0 Q ops.toArray Q' l) Q':=II h ho (post:=fun s1=>eu Q kf HN ops l [] s1 post) (by
    have e:(fun s1:S=>s1.force fun s1=>eu Q kf HN ops l [] s1)=fun s1=>eu Q kf HN ops l [] s1:=by funext s1;rw[S.force_eq]
    rw[e] at hp
    exact hp) fun s1 a1 w1 sO ⟨F1,G1,g1,g2⟩=>mY nJ fG iV l _ F1 G1 w1 a1 s1 (jm.nil s1) g1 sO fun s' a' w' r3 hP=>hK s' a' w' r3 (hP.trans g2)
   exact fb (by rw[if_pos (by simp[Region.wanted,Gt])];exact this)
  |none=>
  cases C3:IG HN s o with
  |some fx=>
   obtain⟨pf,ps⟩:=fx
   simp only[eu,ho,C3] at hp
   have e:(fun s1:S=>s1.force fun s1=>eu Q kf HN ops l [] s1)=fun s1=>eu Q kf HN ops l [] s1:=by funext s1;rw[S.force_eq]
   rw[e] at hp
   obtain⟨Gt,this⟩:=Ox (K:=wpListIn (wd r) 0 Q ops.toArray Q' l) (Q':=Q') nJ h C3 (post:=fun s1=>eu Q kf HN ops l [] s1 post) hp fun s1 a1 w1 sO ⟨F1,G1,g1,g2⟩=>mY nJ fG iV l _ F1 G1 w1 a1 s1 (jm.nil s1) g1 sO fun s' a' w' r3 hP=>hK s' a' w' r3 (hP.trans g2)
   exact fb (by rw[if_pos (by simp[Region.wanted,Gt])];exact this)
  |none=>
   simp only[eu,ho,C3] at hp
   obtain⟨x,⟨hx,hk⟩,sO⟩:=sf fG eb _ hp
   rw[S.force_eq] at sO
   obtain⟨i,j,hx⟩:=hx.some
   have jj:=jN (r:=r) (iV i j) h hx (K:=wpListIn (wd r) 0 Q ops.toArray Q' l) (Q':=Q') (fun a' w' ⟨F',G',g1,g2⟩=>
    mY nJ fG iV l _ F' G' w' a' x.1 hk g1 sO (fun s' a2 w2 r3 hp=>hK s' a2 w2 r3 (hp.trans g2)))
   exact fb jj
theorem TW.seq {x y:Code} {p post:PX×S->Prop} (h1:TW Q T x s p) (h2: ∀s1,p (.normal,s1)->TW Q T y s1 post) (h3: ∀e s1,e≠ .normal->p (e,s1)->post (e,s1)):TW Q T (.seq x y) s post:=fun r sN F G w a Q' hs hK=>by
 refine wpIn_seq (h1 sN F G w a _ hs fun e s1 a1 w1 hp hP=> ?_)
 cases e with
 |normal=>
  obtain⟨F1,G1,g1,g2⟩:=hP
  exact h2 s1 hp sN F1 G1 w1 a1 Q' g1 fun e2 s2 a2 w2 My hP2=>hK e2 s2 a2 w2 My (iv.trans g2 hP2)
 |exit id=>exact hK _ s1 a1 w1 (h3 _ _ (by simp) hp) hP
 |ret=>exact hK _ s1 a1 w1 (h3 _ _ (by simp) hp) hP
theorem TW.cond {c:Operand} {x y:Code} {b:Bool} {post:PX×S->Prop} (hb:s.ev c= .d (.bool b)) (h:TW Q T (if b then x else y) s post):TW Q T (.cond c x y) s post:=fun r sN F G w a Q' hs hK=>by
 have hv:a.eval c= .bool b:=by
  have:=vW hs c
  rw[hb] at this
  exact aD.cw (p:= .d (.bool b)) this rfl
 refine wpIn_cond hv ?_
 cases b with
 |true=>exact h sN F G w a Q' hs hK
 |false=>exact h sN F G w a Q' hs hK
theorem TW.block {id:Nat} {c:Code} {p post:PX×S->Prop} (h:TW Q T c s p) (hp: ∀e s1,p (e,s1)->match e with | .exit ou=>if Nat.beq ou id then post (.normal,s1) else post (e,s1)|_=>post (e,s1)):TW Q T (.block id c) s post:=fun r sN F G w a Q' hs hK=>by
 refine wpIn_block (h sN F G w a _ hs fun e s1 a1 w1 sO hP=> ?_)
 have:=hp e s1 sO
 cases e with
 |normal=>exact hK _ s1 a1 w1 this hP
 |ret=>exact hK _ s1 a1 w1 this hP
 |exit ou=>
  simp only at this
  split at this
  ·rename_i hid
   have hid:ou=id:=by simpa using hid
   have:=hK _ s1 a1 w1 this hP
   simp only[PX.fe,Exit.inBlock,hid,if_true]
   exact this
  ·rename_i hid
   have hid: ¬ou=id:=by simpa using hid
   have:=hK _ s1 a1 w1 this hP
   simp only[PX.fe,Exit.inBlock,hid,if_false]
   exact this
theorem TW.scope {c:Code} {post:PX×S->Prop} (h:TW Q T c s post):TW Q T (.scope c) s post:=fun r sN F G w a Q' hs hK=>by
 refine fD (h sN F G w a _ hs fun e s1 a1 w1 hp hP=> ?_)
 have:=hK e s1 a1 w1 hp hP
 cases e<;>simpa [PX.fe,Exit.noGoto] using this
theorem TW.loop {c:Code} {keep:Option (List Nat×List Nat)} {I:Nat->S->Prop} {O:PX×S->Prop}
  (hr: ∀n s,I n s->TW Q T c s (fun x=>match x.1 with | .normal=> ∃s2,cq keep x.2=some s2/\ ∃m,m<n/\I m s2 |e=> ∃s2,dt keep x.2=some s2/\O (e,s2)))
  {n:Nat} {s0:S} (h0:cq keep s=some s0) (hI:I n s0):TW Q T (.loop c) s O:=fun r sN F G w a Q' hs hK=>by
 obtain⟨G0,g1,g2⟩:=fq hs h0
 have key: ∀(N n:Nat) (s:S),n<N->I n s-> ∀(F:Nat->Prop) (G:Nat->Value) (w:World) (a:Act),aB Q T F G w a s->(∀e s' a' w',O (e,s')->iv Q T F G w s s' a' w'->Q' e.fe a' w')->Code.roundsIn (wd r) 0 Q c Q' N a w:=by
  intro N
  induction N with
  |zero=>intro n s h;omega
  |succ N ih=>
   intro n s hn hI F G w a hs hK
   rw[roundsIn_succ]
   refine hr n s hI sN F G w a _ hs fun e s1 a1 w1 hp hP=> ?_
   obtain⟨F1,G1,k1,k2⟩:=hP
   cases e with
   |normal=>
    obtain⟨s2,h2,m,hm,hi⟩:=hp
    obtain⟨G2,m1,m2⟩:=fq k1 h2
    exact ih m s2 (by omega) hi F1 G2 w1 a1 m1 fun e s' a' w' hO hP=>hK e s' a' w' hO (iv.trans (k2.trans m2) hP)
   |exit id=>
    obtain⟨s2,h2,hO⟩:=hp
    obtain⟨G2,m1,m2⟩:=fq (keep:=keep.map fun l=>(l.2,l.2)) k1 (by cases keep<;>exact h2)
    exact hK _ s2 a1 w1 hO ⟨F1,G2,m1,k2.trans m2⟩
   |ret=>
    obtain⟨s2,h2,hO⟩:=hp
    obtain⟨G2,m1,m2⟩:=fq (keep:=keep.map fun l=>(l.2,l.2)) k1 (by cases keep<;>exact h2)
    exact hK _ s2 a1 w1 hO ⟨F1,G2,m1,k2.trans m2⟩
 exact wpIn_loop_rounds (n+1) (key (n+1) n s0 (by omega) hI F G0 w a g1 fun e s' a' w' hO hP=>hK e s' a' w' hO (iv.trans g2 hP))
variable {kp:py}
theorem dQ {HN:List (FuncId×bm)} (nJ: ∀f h,lk HN f=some h->Ov Q T.w0 f h) {kf:KF} (fG:yZ kf (eZ Q kp)) (hX:db Q T.w0 kp.X) (hdr:Q.follows .mixedOrders=true) {kp1:Nat->Option (List Nat×List Nat)} {hk:List (Nat×(S->K (PX×S)))} {dc:Nat->Nat}: ∀(c:Code),bW dc c=true->
  (∀d∈aN c,∀h,lk hk (Code.rM d)=some h-> ∀s post,h s post->TW Q T (.loop d) s post)->(∀x∈bP c,∀h,lk hk (500000+x.id)=some h-> ∀s post,h s post->TW Q T x.code s post)-> ∀(s:S) (post:PX×S->Prop),de Q kf HN kp1 hk dc c s post->TW Q T c s post
 | .skip,_,_,_,s,post,hp=>fun r sN F G w a Q' hs hK=>wpIn_skip (hK .normal s a w hp ⟨F,G,hs,Ext.refl _ _ _⟩)
 | .label _,_,_,_,s,post,hp=>fun r sN F G w a Q' hs hK=>wpIn_label (hK .normal s a w hp ⟨F,G,hs,Ext.refl _ _ _⟩)
 | .region id ops draw,hl,_,_,s,post,hp=>by
  have iV: ∀a b,db Q T.w0 (eZ Q kp a b):=fun a b=>sj hX hdr b
  unfold de at hp
  cases draw with
  |true=>
   obtain⟨s1,h1,hp⟩:=wZ fG (Nat.eq_of_beq_eq_true (by simpa [bW] using hl)) _ hp
   obtain⟨i,j,h1⟩:=h1.some
   exact TW.of_run (kp:=kp1) (lf:=0) (iV i j) hdr (x:=(.normal,s1)) (by simp only[bz,if_true,h1]) hp
  |false=>
   simp only[Bool.false_eq_true,if_false] at hp
   split at hp
   ·exact fun r sN F G w a Q' hs hK=>wpIn_region_list (by simpa using mY nJ fG iV ops.toList [] F G w a s (jm.nil s) hs hp fun s' a' w' r3 hP=>hK .normal s' a' w' r3 hP)
   ·obtain⟨s1,h1,hp⟩:=mT fG _ [] _ (jm.nil _) _ hp
    obtain⟨i,j,h1⟩:=h1.some
    exact TW.of_run (kp:=kp1) (lf:=0) (iV i j) hdr (x:=(.normal,s1)) (by simp only[bz,Bool.false_eq_true,if_false,h1]) hp
 | .seq x y,hl,hh,hr,s,post,hp=>by
  unfold de at hp
  have GL:bW dc x=true/\bW dc y=true:=by simpa [bW] using hl
  refine TW.seq (dQ nJ fG hX hdr x GL.1 (fun d hd=>hh d (by simp[aN,hd])) (fun x hx=>hr x (by simp[bP,hx])) s _ hp) (fun s1 h1=>dQ nJ fG hX hdr y GL.2 (fun d hd=>hh d (by simp[aN,hd])) (fun x hx=>hr x (by simp[bP,hx])) s1 post h1) fun e s1 he h1=> ?_
  cases e with
  |normal=>exact absurd rfl he
  |exit id=>exact h1
  |ret=>exact h1
 | .cond c x y,hl,hh,hr,s,post,hp=>by
  unfold de at hp
  have GL:bW dc x=true/\bW dc y=true:=by simpa [bW] using hl
  have hbx: ∃b,s.ev c= .d (.bool b):=by
   cases hb:s.ev c with
   |d x=>
    cases x with
    |bool b=>exact⟨b,rfl⟩
    |_=>simp only[hb] at hp;exact hp.elim
   |_=>simp only[hb] at hp;exact hp.elim
  obtain⟨b,hb⟩:=hbx
  simp only[hb] at hp
  obtain⟨r,rfl,hp⟩:=KW.dec (b:=b) (p:=fun r=>b=r) rfl _ hp
  refine TW.cond hb ?_
  cases b with
  |true=>exact dQ nJ fG hX hdr x GL.1 (fun d hd=>hh d (by simp[aN,hd])) (fun x hx=>hr x (by simp[bP,hx])) s post hp
  |false=>exact dQ nJ fG hX hdr y GL.2 (fun d hd=>hh d (by simp[aN,hd])) (fun x hx=>hr x (by simp[bP,hx])) s post hp
 | .block id c,hl,hh,hr,s,post,hp=>by
  unfold de at hp
  refine TW.block (dQ nJ fG hX hdr c hl (fun d hd=>hh d (by simpa [aN] using hd)) (fun x hx=>hr x (by simpa [bP] using hx)) s _ hp) fun e s1 h1=> ?_
  cases e with
  |normal=>exact h1
  |ret=>exact h1
  |exit ou=>
   simp only at h1⊢
   split
   ·rename_i h;rw[if_pos h] at h1;exact h1
   ·rename_i h;rw[if_neg h] at h1;exact h1
 | .loop c,hl,hh,hr,s,post,hp=>by
  cases KK:lk hk (Code.rM c) with
  |some h=>simp only[de,KK] at hp;exact hh c (by simp[aN]) h KK s post hp
  |none=>simp only[de,KK] at hp;exact hp.elim
 | .scope c,hl,hh,hr,s,post,hp=>by
  unfold de at hp
  exact TW.scope (dQ nJ fG hX hdr c hl (fun d hd=>hh d (by simpa [aN] using hd)) (fun x hx=>hr x (by simpa [bP] using hx)) s post hp)
 | .exit id,_,_,_,s,post,hp=>fun r sN F G w a Q' hs hK=>wpIn_exit (hK (.exit id) s a w hp ⟨F,G,hs,Ext.refl _ _ _⟩)
 | .ret,_,_,_,s,post,hp=>fun r sN F G w a Q' hs hK=>wpIn_ret (hK .ret s a w hp ⟨F,G,hs,Ext.refl _ _ _⟩)
 | .rangeFunc g ps a b,_,_,hr,s,post,hp=>by
  cases KK:lk hk (500000+Code.rM b) with
  |some h=>simp only[de,KK] at hp;exact hr ⟨g,ps,a,b⟩ (by simp[bP]) h KK s post hp
  |none=>simp only[de,KK] at hp;exact hp.elim
 | .goto _,_,_,_,s,post,hp=>by unfold de at hp;exact hp.elim
 | .refuse _,_,_,_,s,post,hp=>by unfold de at hp;exact hp.elim
def Ai (Q:Program) (kf:KF) (HN:List (FuncId×bm)) (kp:py) (hk:List (Nat×(S->K (PX×S)))) (dc:FuncId->Nat->Nat):KF:=fun f ps R=>
 match Q.funcs[f]? with
 |none=>K.fail
 |some fn=>match fn.body with
  |none=>K.fail
  |some c=>if fn.name== "runtime.NumGoroutine" then K.fail else
   K.bind (de Q kf HN (kp f) hk (dc f) c ⟨fn.ntmps,fj 0 (jZ (kp f 999999) Q fn.params.toList ps),R⟩) fun x=>match x.1 with
    | .exit _=>K.fail
    |_=>match cT Q x.2 fn.results.toList with
     |some qs=>A8 Q R.length fn.resultTypes.toList qs x.2
     |none=>K.fail
theorem Ov.mk {w0:World} {HN:List (FuncId×bm)} (nJ: ∀f h,lk HN f=some h->Ov Q w0 f h) {h:bm} {f:FuncId} {kf:KF} {dc:FuncId->Nat->Nat} {hk:List (Nat×(S->K (PX×S)))} (fG:yZ kf (eZ Q kp)) (hX:db Q w0 kp.X) (hdr:Q.follows .mixedOrders=true) (KL:mJ dc 0 Q.funcs.toList=true) (hu:uniq Q f=true) (huR:Ag Q f=true)
  (hl: ∀id h,id<500000->lk hk id=some h-> ∀(val:Nat->Value) (lo:Nat) s post,h s post->TW Q ⟨val,w0,lo,true⟩ (.loop (bt Q f id)) s post)
  (hrf: ∀id h,lk hk (500000+id)=some h-> ∀(val:Nat->Value) (lo:Nat) s post,h s post->TW Q ⟨val,w0,lo,true⟩ (lZ Q f id).code s post)
  (hb: ∀ps R post,h ps R post->Ai Q kf HN kp hk dc f ps R post):Ov Q w0 f h:=by
 intro ps R post hr F G w vs hH hlen hv
 have hb:=hb ps R post hr
 cases eJ:Q.funcs[f]? with
 |none=>simp only[Ai,eJ] at hb;exact hb.elim
 |some fn=>
  cases hc:fn.body with
  |none=>simp only[Ai,eJ,hc] at hb;exact hb.elim
  |some c=>
   cases gJ:(fn.name== "runtime.NumGoroutine") with
   |true=>simp only[Ai,eJ,hc,gJ,if_true] at hb;exact hb.elim
   |false=>
    simp only[Ai,eJ,hc,gJ,Bool.false_eq_true,if_false] at hb
    left
    refine⟨by simp[callFunc,eJ,hc];simpa using gJ,?_⟩
    refine km eJ hc ?_
    have Nw:vs.length=(jZ (kp f 999999) Q fn.params.toList ps).length:=by rw[w9];exact hlen
    have Ga:=Ad (Q:=Q) (kp f 999999) fn.params.toList ps vs hv
    have xa:aB Q ⟨G,w0,w.heap.size,true⟩ F G w {tmps:=(⟨vs⟩:Array Value)++Array.replicate (fn.ntmps-(⟨vs⟩:Array Value).size) undef,defers:=[]} ⟨fn.ntmps,fj 0 (jZ (kp f 999999) Q fn.params.toList ps),R⟩:=by
     refine(fo.lo hH (Nat.le_refl _)).state rfl .nil (by simp;omega) (fun t p hp=> ?_)
     obtain⟨_,h2⟩:=mV _ 0 t p hp
     simp at h2
     have bk:t<vs.length:=by have:=(List.getElem?_eq_some_iff.1 h2).1;omega
     have e:((⟨vs⟩:Array Value)++Array.replicate (fn.ntmps-(⟨vs⟩:Array Value).size) undef).getD t undef=vs[t]:=by
      rw[fm]
      simp[List.getElem?_append_left bk,bk]
     rw[e]
     exact cr.of (Ga t _ p (List.getElem?_eq_getElem bk) h2)
    have hTW:=dQ (T:=⟨G,w0,w.heap.size,true⟩) nJ fG hX hdr (kp1:=kp f) c (jP KL f fn c eJ hc) (fun d hd h hh s post hp=>by
     have e:bt Q f (Code.rM d)=d:=by
      unfold uniq at hu
      rw[eJ] at hu
      simp only[hc] at hu
      unfold bt
      rw[eJ]
      simp only[hc,iY _ (dw _ hu) hd,Option.getD_some]
     have:=hl _ h (KT huR eJ hc hd) hh G w.heap.size s post hp
     rwa [e] at this) (fun x hx h hh s post hp=>by
     have:=hrf _ h hh G w.heap.size s post hp
     rwa [TT huR eJ hc hx] at this) _ _ hb
    refine hTW (r:=none) (fun _=>rfl) F G w _ _ xa fun e s1 a' w' hp hP=> ?_
    obtain⟨F',G',h1,h2⟩:=hP
    have fin: ∀qs (y:P×List (Nat×En)),cT Q s1 fn.results.toList=some qs->finish Q R.length fn.resultTypes.toList qs s1=some y->post y->
      LeavesInM Fence.wide 0 Q fn a'.tmps (fun e w'=> ∃v2,e= .returned v2/\ ∃y:P×List (Nat×En),post y/\ ∃F' G',fo Q ⟨G,w0,0,false⟩ F' G' w' y.2/\aD F' w' G' y.2 v2 y.1/\Ext (Own G R) (Own G' y.2) F F' w w') a'.defers .returning w':=by
     intro qs y hq Sg eB
     refine w8 (T:=⟨G,w0,w.heap.size,true⟩) (own0:=Own G R) (F0:=F) (w1:=w) (Nat.le_refl _) (fun w2 h3 h4=> ?_) a'.defers w' h1 h2
     obtain⟨us,g1,g2,g3⟩:=ra h3 hq
     obtain⟨F2,G2,k1,k2,k3⟩:=Ac h3 Sg g2 g3
     exact⟨_,g1,_,rfl,y,eB,F2,G2,k1.lo,k2,h4.trans k3⟩
    have y8:e≠ .normal->e≠ .ret->False:=fun h1 h2=>by
     cases e with
     |normal=>exact h1 rfl
     |ret=>exact h2 rfl
     |exit id=>exact hp
    have hq: ∃qs y,cT Q s1 fn.results.toList=some qs/\finish Q R.length fn.resultTypes.toList qs s1=some y/\post y:=by
     cases e with
     |exit id=>exact hp.elim
     |normal=>
      cases hq:cT Q s1 fn.results.toList with
      |none=>simp only[hq] at hp;exact hp.elim
      |some qs=>
       simp only[hq] at hp
       obtain⟨y,hy,hpo⟩:=KW.dH (p:=fun y=>finish Q R.length fn.resultTypes.toList qs s1=some y) (fun _ h=>h) _ hp
       exact⟨qs,y,rfl,hy,hpo⟩
     |ret=>
      cases hq:cT Q s1 fn.results.toList with
      |none=>simp only[hq] at hp;exact hp.elim
      |some qs=>
       simp only[hq] at hp
       obtain⟨y,hy,hpo⟩:=KW.dH (p:=fun y=>finish Q R.length fn.resultTypes.toList qs s1=some y) (fun _ h=>h) _ hp
       exact⟨qs,y,rfl,hy,hpo⟩
    obtain⟨qs,y,hq,Sg,hpo⟩:=hq
    have:=fin qs y hq Sg hpo
    cases e with
    |normal=>exact this
    |ret=>exact this
    |exit id=>exact hp.elim
theorem KQ.ofN {w0:World} {g:TF} {f:FuncId} {h:bm} (hN:Ov Q w0 f h) (hg: ∀ps R y,g ps R=some y->h ps R (fun z=>z=y)):KQ Q w0 f g:=by
 intro _ ps R p R1 hr F G w vs hH hlen hv
 refine(hN ps R _ (hg ps R (p,R1) hr) F G w vs hH hlen hv).mono fun v w' ⟨y,hy,F',G',h1,h2,h3⟩=>by subst hy;exact⟨F',G',h1,h2,h3⟩
end
end Pi
