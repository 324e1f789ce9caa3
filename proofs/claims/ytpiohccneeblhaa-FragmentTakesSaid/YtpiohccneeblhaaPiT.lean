/- The text PiT. -/
import Derived.Test.YtpiohccneeblhaaEbo
namespace Pi
open Go
def TW(Q:Program)(T:Tg)(c:Code)(s:S)(ae:PX×S->Prop):Prop:=
 ∀ ⦃r:Option Nat⦄(_:T.DT=true->r=none) (F:Nat->Prop) (G:Nat->Value) (w:World) (a:Act) (Q':Exit->Act->World->Prop),aq Q T F G w a s->(∀e s' a' w',ae (e,s')->fh Q T F G w s s' a' w'->Q' e.dx a' w')->c.wpIn (wd r) 0 Q Q' a w
def kP(Q:Program)(s:S)(dst:Option Nat)(p:P):K S:=
 match p with
 | .ref n v 0=>match s.obj n v with
  |some (.iter kt vt left _)=>λae=>
   (∀k x,left k=some x->K.bind (rb Q kt k) (λk=>K.bind (rb Q vt x) λx=>K.cb ((s.setObj n (.iter kt vt (uU k left) (some (k,x)))).put dst (.fL [.d (.bool true),.d k,.d x]))) ae)/\
   ((∀k,left k=none)->K.cb (s.put dst (.fL [.d (.bool false)])) ae)
  |_=>K.fail
 |_=>K.fail
def kQ(o:Oper):Option Operand:=match o.op with | .next it false=>if o.guard.isNone then some it else none |_=>none
def JG(HN:List (FuncId×cR)):KF:=λf=>match lk HN f with |some h=>h |none=>λ_ _=>K.fail
def zf(HN:List (FuncId×cR))(s:S)(o:Oper):Option (P×List P):=
 match dT o with
 |some (f,xs)=>match s.eg none f with
  | .fn fN bF=>if(lk HN fN).isSome&&o.guard.isNone then some (.fn fN bF,xs.map (s.eg none)) else none
  |_=>none
 |none=>none
def cX(nx:S->Option Nat->P->K S)(Q:Program)(cf:KF)(HN:List (FuncId×cR))(ops:List Oper):List Oper->List (Nat×Bool)->S->K S
 | [],_,s=>K.ret s
 |o::r,kn,s=>match kQ o with
  |some it=>K.bind (nx s o.dst ((s.ev it).under none)) λs1=>s1.force λs1=>cX nx Q cf HN ops r [] s1
  |none=>match zf HN s o with
   |some (f,xs)=>K.bind (lA Q (JG HN) s o.dst f xs) λs1=>s1.force λs1=>cX nx Q cf HN ops r [] s1
   |none=>K.bind (rY Q cf ops kn s o) λx=>x.1.force λs1=>cX nx Q cf HN ops r x.2 s1
def hasNext:List Oper->Bool
 | []=>false
 |o::r=>(kQ o).isSome ||hasNext r
def cN(nx:S->Option Nat->P->K S)(Q:Program)(kf:KF)(HN:List (FuncId×cR))(kp:Nat->Option (List Nat×List Nat))(hk:List (Nat×(S->K (PX×S))))(dc:Nat->Nat):Code->S->K (PX×S)
 | .skip,s=>K.ret (.normal,s)
 | .label _,s=>K.ret (.normal,s)
 | .region id ops draw,s=>K.bind (if draw then u9 Q kf ops.toList (dc id) s else if hasNext ops.toList || !HN.isEmpty then cX nx Q kf HN ops.toList ops.toList [] s else ib Q kf ops.toList ops.toList [] s) λs1=>K.ret (.normal,s1)
 | .seq a b,s=>K.bind (cN nx Q kf HN kp hk dc a s) λx=>match x.1 with
  | .normal=>cN nx Q kf HN kp hk dc b x.2
  |_=>K.ret x
 | .cond c x y,s=>match s.ev c with
  | .d (.bool b)=>K.bind (K.dec b) λr=>if r then cN nx Q kf HN kp hk dc x s else cN nx Q kf HN kp hk dc y s
  |_=>K.fail
 | .block id c,s=>K.bind (cN nx Q kf HN kp hk dc c s) λx=>match x.1 with
  | .exit kl=>if Nat.beq kl id then K.ret (.normal,x.2) else K.ret x
  |_=>K.ret x
 | .loop c,s=>match lk hk (Code.lz c) with
  |some h=>h s
  |none=>K.fail
 | .scope c,s=>cN nx Q kf HN kp hk dc c s
 | .exit id,s=>K.ret (.exit id,s)
 | .ret,s=>K.ret (.ret,s)
 | .rangeFunc _ _ _ b,s=>match lk hk (500000+Code.lz b) with
  |some h=>h s
  |none=>K.fail
 |_,_=>K.fail
structure RF where
 g:Operand
 ps:Array Tmp
 asg:Code
 body:Code
def RF.code(x:RF):Code:= .rangeFunc x.g x.ps x.asg x.body
def bu:Code->List RF
 | .seq a b=>bu a++bu b
 | .cond _ a b=>bu a++bu b
 | .block _ c | .scope c | .loop c=>bu c
 | .rangeFunc g ps a b=>[⟨g,ps,a,b⟩]
 |_=>[]
def RF.id(x:RF):Nat:=Code.lz x.body
def uu(id:Nat):List RF->Option RF
 | []=>none
 |x::r=>if Nat.beq x.id id then some x else uu id r
def CZ(Q:Program)(f:FuncId)(id:Nat):RF:=
 match Q.funcs[f]? with
 |some fn=>(match fn.body with |some c=>(uu id (bu c)).getD ⟨.const undef, #[],.skip,.skip⟩|none=>⟨.const undef, #[],.skip,.skip⟩)
 |none=>⟨.const undef, #[],.skip,.skip⟩
def qB(Q:Program)(f:FuncId):Bool:=
 match Q.funcs[f]? with
 |some fn=>(match fn.body with |some c=>cD ((bu c).map RF.id)&&(aw c).all λd=>Nat.blt (Code.lz d) 500000 |none=>true)
 |none=>true
theorem sM{d:RF}: ∀(l:List RF),(l.map RF.id).Nodup->d∈l->uu d.id l=some d
 | [],_,h=>by simp at h
 |c::r,hn,h=>by
  obtain⟨N4,H8⟩:=zax.1 hn;unfold uu;rcases zan.1 h with rfl |h
  ·simp
  have: ¬c.id=d.id:=λe=>N4 (e▸zbo h);rw[zaC (by simpa using this)];exact sM r H8 h
theorem Fa{Q:Program}{f:FuncId}{fn:Func}{c:Code}{x:RF}(hu:qB Q f=true)(fg:Q.funcs[f]?=some fn)(hc:fn.body=some c)(hx:x∈bu c):CZ Q f x.id=x:=by grind [qB,CZ,sM,cS]
theorem AL{Q:Program}{f:FuncId}{fn:Func}{c:Code}{d:Code}(hu:qB Q f=true)(fg:Q.funcs[f]?=some fn)(hc:fn.body=some c)(hd:d∈aw c):Code.lz d<500000:=by simp_all [qB,zad,zaX,Nat.blt_eq]
section
variable{Q:Program}{T:Tg}{F:Nat->Prop}{G:Nat->Value}{w:World}{a:Act}{s:S}{r:Option Nat}
theorem TW.mono{c:Code}{p q:PX×S->Prop}(h:TW Q T c s p)(Ew: ∀x,p x->q x):TW Q T c s q:=λ_ pD F G w a Q' hs hK=>h pD F G w a Q' hs λe s' a' w' hp=>hK e s' a' w' (Ew _ hp)
theorem TW.uv{kp:Nat->Option (List Nat×List Nat)}{cf:CF}{lf:Nat}(fG:cL Q T.w0 cf)(hdr:Q.follows .mixedOrders=true){c:Code}{x:PX×S}(h:aT Q cf kp lf c s=some x){ae:PX×S->Prop}(hp:ae x):TW Q T c s ae:=
 λ_ _ F G w a Q' hs hK=>dy fG hdr c s x.1 x.2 h F G w a Q' hs λa' w' hP=>hK x.1 x.2 a' w' hp hP
theorem wv{r m since last:Nat}{seen:Array Nat}{es:Array MapEntry}{clock:Nat}(ty:TypeId)(hr:w.heap[r]?=some (.mapIter (some m) since seen last))(hm:w.heap[m]?=some (.map es clock))(hold: ∀x∈es.toList,x.born<since)(w5:since<=last):
  ((∀x∈es.toList,seen.contains x.born=true)/\(Instr.next (.pointer (some ⟨r,0,none⟩)) false ty).run Q w= .ok (.tuple #[.bool false]) w)\/
  ∃e∈es.toList,seen.contains e.born=false/\ ∃w1:World,(w1=w\/w1={w with drawn:=w.drawn+1})/\(Instr.next (.pointer (some ⟨r,0,none⟩)) false ty).run Q w= .ok (.tuple #[.bool true,e.key,e.val]) {w1 with heap:=w1.heap.setIfInBounds r (.mapIter (some m) since (seen.push e.born) clock)}:=by
 have bg:(!seen.isEmpty&& !es.isEmpty&&es.all λx=>decide (x.born>=last))=false:=by
  cases he:es.isEmpty with
  |true=>simp
  |false=>
   have h0:0<es.size:=by grind
   have:es.all (λx=>decide (x.born>=last))=false:=by grind
   rw[this,Bool.and_false]
 have e1:(es.filter λe=> !seen.contains e.born).filter (λx=>decide (x.born<since))=es.filter λe=> !seen.contains e.born:=Array.filter_eq_self.2 λx hx=>by have:=hold x (by grind);grind
 have e2:(es.filter λe=> !seen.contains e.born).filter (λx=>decide (x.born>=since))= #[]:=by rw[Array.filter_eq_empty_iff];grind
 have mem: ∀x,x∈(es.filter λe=> !seen.contains e.born)↔x∈es.toList/\seen.contains x.born=false:=λx=>by simp
 simp only[Instr.next,getObj,Sem.run_bind,Sem.run,hr,hm,Result.andThen,bg,zar,za2,e1,e2,Array.append_empty];generalize (es.filter λe=> !seen.contains e.born)=L at mem⊢;by_cases h0:L.size=0
 ·have:L= #[]:=Array.eq_empty_of_size_eq_zero h0;subst this;refine .inl ⟨λx hx=> ?_,?_⟩
  ·grind
  simp[choose,Sem.run,Question.forced]
 have b9:L.isEmpty=false:=by grind
 have Pk: ∃(j:Nat) (w1:World),j<L.size/\(w1=w\/w1={w with drawn:=w.drawn+1})/\(choose (Question.mapNext L.size)).run Q w= .ok j w1:=by
  by_cases hf:L.size<=1
  ·exact⟨0,w,by omega,.inl rfl,by simp[choose,Sem.run,Question.forced,hf]⟩
  refine⟨w.tape w.drawn (.mapNext L.size)%L.size,{w with drawn:=w.drawn+1},zcy _ (by omega),.inr rfl,?_⟩;simp only[choose,Sem.run,Question.forced,zaP,hf,za2,Question.cut]
 obtain⟨j,w1,hj,AF,aX⟩:=Pk;obtain⟨m1,m2⟩:=(mem L[j]).1 (by simp);refine .inr ⟨L[j],m1,m2,w1,AF,?_⟩;have Pl:w1.heap[r]?=some (.mapIter (some m) since seen last):=by rcases AF with rfl |rfl<;>exact hr
 have jr:(setObj r (.mapIter (some m) since (seen.push L[j].born) clock)).run Q w1= .ok () {w1 with heap:=w1.heap.setIfInBounds r (.mapIter (some m) since (seen.push L[j].born) clock)}:=by simp[setObj,Sem.run,Pl]
 simp_all
theorem zg(h:aq Q T F G w a s){o:Oper}{it:Operand}(ho:kQ o=some it){ae:S->Prop}(hp:kP Q s o.dst ((s.ev it).under none) ae){K:Act->World->Prop}{Q':Exit->Act->World->Prop}
  (hK: ∀s' a' w',ae s'->fh Q T F G w s s' a' w'->K a' w'):o.wpIn (wd r) 0 Q a w K Q':=by
 have mZ:o.op= .next it false:=by grind [kQ]
 have hv:=aA h (g:=none) trivial it;unfold S.eg at hv;generalize (s.ev it).under none=p at hv hp;have w8: ∃n ay kt vt left cur,p= .ref n ay 0/\s.obj n ay=some (.iter kt vt left cur):=by
  cases p with
  |ref n ay off=>
   cases off with
   |succ off=>exact hp.elim
   |zero=>
    cases zY:s.obj n ay with
    |none=>simp only[kP,zY] at hp;exact hp.elim
    |some o=>
     cases o with
     |iter kt vt left cur=>grind
     |_=>simp only[kP,zY] at hp;exact hp.elim
  |_=>exact hp.elim
 obtain⟨n,ay,kt,vt,left,cur,rfl,zY⟩:=w8;simp only[kP,zY] at hp;obtain⟨p1,p2⟩:=hp;obtain⟨e,he,bL,aP⟩:=S.aI zY;have hO:=h.rg n e he;rw[aP] at hO;obtain⟨b,mo,since,seen,last,hg,hh,hO⟩:=hO;have hval:a.eval it= .pointer (some ⟨b,0,none⟩):=by
  generalize a.eval it=v at hv;cases hv with
  |ref _ _ _ _ hr h1=>obtain⟨b',Bb,rfl⟩:=hr.at he bL (by rw[aP];rfl);rw[hg] at Bb;rw[Bb]
 have over:(∀k,left k=none)->(Instr.next (.pointer (some ⟨b,0,none⟩)) false o.type).run Q w= .ok (.tuple #[.bool false]) w->o.wpIn (wd r) 0 Q a w K Q':=λh0 aX=>by
  obtain⟨s1,mD,eA⟩:=KW.cb (p:=λs1=>s.put o.dst (.fL [.d (.bool false)])=some s1) (λ_ h=>h) _ (p2 h0);obtain⟨c1,c2⟩:=bf h mD (v:= .tuple #[.bool false]) (br.of (.fL [.bool false] [.d (.bool false)] rfl λi v c hv hc=>by
   cases i with
   |zero=>simp at hv hc;subst hv;subst hc;exact .d (.bool false)
   |succ i=>simp at hv))
  refine nv (λc hc=>by rw[mZ] at hc;cases hc) (v:= .tuple #[.bool false]) (w':=w) (.inl (by simp[execOp,mZ,hval,aX])) (hK s1 _ _ eA ⟨F,G,c1,?_⟩);rw[c2];exact Ext.refl _ _ _
 rcases hO with⟨rfl,h0,_⟩| ⟨m,es,rfl,hF,hm,B4,hI,hc⟩
 ·exact over h0 (by simp[Instr.next,getObj,Sem.run_bind,Sem.run,hh])
 subst B4;have hold: ∀x∈es.toList,x.born<last:=by obtain⟨ks,_,_,_,h5,_⟩:=hI;exact h5
 rcases wv (Q:=Q) o.type hh hm hold (zae _) with⟨h0,aX⟩| ⟨en,tO,C0,w1,AF,aX⟩
 ·exact over (hI.over h0) aX
 have C0:en∈es.toList/\seen.contains en.born=false:=⟨tO,C0⟩
 obtain⟨k,x,hk,ll,hx,Pm⟩:=hI.next C0.1 C0.2;obtain⟨k',rfl,Gf⟩:=ij Q kt k _ (p1 k x hk);obtain⟨x',rfl,Ho⟩:=ij Q vt x _ Gf;obtain⟨s1,mD,eA⟩:=KW.cb (p:=λs1=>(s.setObj n (.iter kt vt (uU k left) (some (k,x)))).put o.dst (.fL [.d (.bool true),.d k,.d x])=some s1) (λ_ h=>h) _ Ho;have Im:w1.heap=w.heap/\w1.os=w.os/\w1.tape=w.tape/\w1.output=w.output:=by rcases AF with rfl |rfl<;>exact⟨rfl,rfl,rfl,rfl⟩
 have tI:b<w.heap.size:=(zap.1 hh).1;have cz:ax (G n) e.obj b:=by rw[aP,hg];simp[ax,aj]
 have b9:m≠b:=λQv=>by grind
 have je: ∀b0,b0≠b->(w.heap.setIfInBounds b (.mapIter (some m) last (seen.push en.born) last))[b0]?=w.heap[b0]?:=λb0 b9=>zaD (za4 b9);have mC:(w.heap.setIfInBounds b (.mapIter (some m) last (seen.push en.born) last))[b]?=some (.mapIter (some m) last (seen.push en.born) last):=by rw[zaW tI]
 have pR: ∀b0,F b0->b0≠b:=λb0 hf e0=>by subst e0;exact h.gG n e b0 he cz hf
 rw[S.bb he] at mD;have Mu:w.drawn<=w1.drawn:=by grind
 obtain⟨d1,d2⟩:=h.iG (n:=n) (e1:=⟨e.ay,e.tag,.iter kt vt (uU k left) (some (k,x))⟩) (g1:=G n) (w':={w1 with heap:=w.heap.setIfInBounds b (.mapIter (some m) last (seen.push en.born) last)}) (hdr:=Mu)
  (λe' bc=>by rw[he] at bc;cases bc;exact .inr ⟨rfl,λ_=>⟨by rw[aP];rfl,rfl⟩⟩)
  (λb0 _ bg=>je b0 λe0=>by grind) (by simp) Im.2.1 Im.2.2.1 Im.2.2.2
  (λb0 tH=> .inr ⟨e,he,by rw[aP];exact tH⟩)
  ⟨b,some m,last,seen.push en.born,last,by rw[aJ];exact hg,mC,.inr ⟨m,es,rfl,hF,(je m b9).trans hm,rfl,Pm.mono (λ_ h=>h) (λb0 hf=>je b0 (pR b0 hf)),λk1 x1 Pn=>by obtain⟨rfl,rfl⟩:=Pn;exact⟨en,C0.1,by simp,ll,hx.mono (λ_ h=>h) (λb0 hf=>je b0 (pR b0 hf))⟩⟩⟩
  (λi hi _=>h.tag n e i he hi (by rw[aP];rfl))
 rw[aJ] at d1 d2;obtain⟨c1,c2⟩:=bf d1 mD (v:= .tuple #[.bool true,en.key,en.val]) (br.of (.fL [.bool true,en.key,en.val] _ rfl λi v c hv hc=>by
  match i with
  |0=>simp at hv hc;subst hv;subst hc;exact .d (.bool true)
  |1=>simp at hv hc;subst hv;subst hc;exact .d (az.B3 _ _ ll)
  |2=>simp at hv hc;subst hv;subst hc;exact .d (hx.mono (λ_ h=>h) (λb0 hf=>je b0 (pR b0 hf)))
  |i+3=>simp at hv))
 refine nv (λc hc=>by rw[mZ] at hc;cases hc) (v:= .tuple #[.bool true,en.key,en.val]) (w':={w1 with heap:=w.heap.setIfInBounds b (.mapIter (some m) last (seen.push en.born) last)}) (.inl ?_) (hK s1 _ _ eA ⟨F,G,c1,?_⟩)
 ·simp only[execOp,mZ,hval,Sem.run_bind,aX];simp[Im.1]
 grind
def w9(Q:Program)(w0:World)(f:FuncId)(h:cR):Prop:=
 ∀ps R ae,h ps R ae-> ∀(F:Nat->Prop) (G:Nat->Value) (w:World) (vs:List Value),aL Q ⟨G,w0,0,false⟩ F G w R->vs.length=ps.length->
  (∀(i:Nat) (v:Value) (c:P),vs[i]?=some v->ps[i]?=some c->ao F w G R v c)->
  bC Q f ⟨vs⟩ w (λv w'=> ∃y:P×List (Nat×En),ae y/\ ∃F' G',aL Q ⟨G,w0,0,false⟩ F' G' w' y.2/\ao F' w' G' y.2 v y.1/\Ext (Own G R) (Own G' y.2) F F' w w')
theorem C1{HN:List (FuncId×cR)}(og: ∀f h,lk HN f=some h->w9 Q T.w0 f h)(h:aq Q T F G w a s){dst:Option Nat}{pf:P}{ps:List P}{ae:S->Prop}(hs:lA Q (JG HN) s dst pf ps ae){fv:Value}{vs:List Value}(hf:ao F w G s.rg fv pf)(hl:vs.length=ps.length)
  (hv: ∀(i:Nat) (v:Value) (c:P),vs[i]?=some v->ps[i]?=some c->ao F w G s.rg v c):
  ∃fN cs,fv= .func (.func fN) #[] ⟨cs⟩/\bC Q fN ⟨vs++cs⟩ w (λv w'=> ∃s',ae s'/\ ∃F' G',aq Q T F' G' w' (a.put dst v) s'/\Ext (Own G s.rg) (Own G' s'.rg) F F' w w'):=by
 cases pf with
 |fn fN bF=>
  cases hf with
  |fn _ cs _ Ab fO=>
   refine⟨fN,cs,rfl,?_⟩;cases vA:bJ Q s fN (ps++bF) with
   |none=>simp only[lA,vA] at hs;exact hs.elim
   |some r=>
    obtain⟨s1,qs⟩:=r;cases hY:cD (reach s1.rg 1000 qs []) with
    |false=>simp only[lA,vA,hY,zar,za2] at hs;exact hs.elim
    |true=>
     cases iU:sub s1.rg (toPos s1.rg (reach s1.rg 1000 qs [])) true 0 (reach s1.rg 1000 qs []) with
     |none=>simp only[lA,vA,hY,zaT,iU] at hs;exact hs.elim
     |some R0=>
      simp only[lA,vA,hY,zaT,iU] at hs;cases hh:lk HN fN with
      |none=>simp only[JG,hh] at hs;exact hs.elim
      |some rI=>
       simp only[JG,hh] at hs;have bp: ∀(i:Nat) (v:Value) (c:P),(vs++cs)[i]?=some v->(ps++bF)[i]?=some c->ao F w G s.rg v c:=λi v c h1 h2=>by grind
       obtain⟨F1,a1,a2,a3,a4,a5,a6⟩:=nK (ps++bF) s F s1 qs (vs++cs) h vA (by grind) bp;obtain⟨b1,b2,b3⟩:=a1.heap.sub iU hY;have hq:=og fN rI hh _ R0 _ hs F1 _ w (vs++cs) b1 (by rw[fE];exact a5) (λi v c h1 h2=>by rw[fD] at h2;grind [gS]);refine hq.mono λv w' ⟨⟨p,R1⟩,eA,F2,G2,c1,c2,c3⟩=> ?_;cases EN:(cD (bT R1 (reach R1 1000 (p::cE R1 R1) []))&&Nat.ble (bT R1 (reach R1 1000 (p::cE R1 R1) [])).length 1000) with
       |false=>simp only[EN,zar,za2] at eA;exact eA.elim
       |true=>
        simp only[EN,zaT] at eA;cases fX:dN R1 (dm R1 s1.rg (reach s1.rg 1000 qs []) (bT R1 (reach R1 1000 (p::cE R1 R1) [])) (site dst*1000)) 0 (reach s1.rg 1000 qs []) s1.rg with
        |none=>simp only[fX] at eA;exact eA.elim
        |some R2=>
         simp only[fX] at eA;cases bV:gB R1 (dm R1 s1.rg (reach s1.rg 1000 qs []) (bT R1 (reach R1 1000 (p::cE R1 R1) [])) (site dst*1000)) (site dst*1000) (bT R1 (reach R1 1000 (p::cE R1 R1) [])) R2 with
         |none=>simp only[bV] at eA;exact eA.elim
         |some R3=>simp only[bV] at eA;obtain⟨s',Po,eA⟩:=KW.cb (p:=λs'=>({s1 with rg:=R3}:S).put dst (mY _ p)=some s') (λ_ h=>h) _ eA;obtain⟨G3,d1,d2,d3⟩:=lS a1 hY (zad _ _▸EN:_/\_).1 iU c1 c3 (c7 R1 _) fX bV;obtain⟨e1,e2⟩:=bf d1 Po (br.of (gS d3 c2));refine⟨s',eA,F2,G3,e1,?_⟩;rw[e2];exact a2.trans d2
 |_=>exact hs.elim
theorem C2{HN:List (FuncId×cR)}(og: ∀f h,lk HN f=some h->w9 Q T.w0 f h)(h:aq Q T F G w a s){o:Oper}{pf:P}{ps:List P}(ho:zf HN s o=some (pf,ps)){ae:S->Prop}(hp:lA Q (JG HN) s o.dst pf ps ae){K:Act->World->Prop}{Q':Exit->Act->World->Prop}
  (hK: ∀s' a' w',ae s'->fh Q T F G w s s' a' w'->K a' w'):o.guard=none/\o.wpIn (wd r) 0 Q a w K Q':=by
 unfold zf at ho;split at ho
 next f xs hc=>
  split at ho
  next fN bF Mv=>
   split at ho
   ·rename_i cu;refine⟨by simp_all,?_⟩;obtain⟨rfl,rfl⟩:=ho;unfold dT at hc;split at hc
    ·rename_i c mZ;split at hc
     ·rename_i f' fR;simp at hc;obtain⟨rfl,rfl⟩:=hc;obtain⟨Mw,cs,Md,iF⟩:=C1 og h hp (by rw[<-Mv];exact aA h (g:=none) trivial f') (vs:=c.args.toList.map a.eval) (by simp) (λi v p hv hp=>by rw[zah] at hv hp;simp only[zaj] at hv hp;obtain⟨x,hx,rfl⟩:=hv;obtain⟨y,hy,rfl⟩:=hp;rw[hx] at hy;cases hy;exact aA h (g:=none) trivial x);have aX:(execOp a.eval o).run Q w=(callFunc Mw ⟨c.args.toList.map a.eval++cs⟩).run Q w:=by
       have e:(c.args.map a.eval)++(⟨cs⟩:Array Value)=⟨c.args.toList.map a.eval++cs⟩:=by simp
       simp[execOp,mZ,resolve,fR,Md,Deferred.ofValue,invoke,e]
      refine mF (λc' tN=>by rw[mZ] at tN;cases tN) ?_;rw[aX];rcases iF with⟨h1,h2⟩| ⟨v,w',h1,s',km,F',G',h2,h3⟩
      ·rw[h1];refine⟨λh=>(by cases h),(pZ h2).mono λe w' ⟨v,he,s',km,F',G',h3,h4⟩=> ?_⟩;subst he;exact hK _ _ _ km ⟨F',G',h3,h4⟩
      rw[h1];exact hK _ _ _ km ⟨F',G',h2,h3⟩
     cases hc
    cases hc
   cases ho
  cases ho
 cases ho
theorem jz{nx:S->Option Nat->P->K S}(w8: ∀s dst p ae,nx s dst p ae->kP Q s dst p ae){HN:List (FuncId×cR)}(og: ∀f h,lk HN f=some h->w9 Q T.w0 f h){kf:KF}{cf:Nat->Nat->CF}(eE:oN kf cf)(fG: ∀a b,cL Q T.w0 (cf a b)){ops:List Oper}{Q':Exit->Act->World->Prop}{ae:S->Prop}: ∀(l:List Oper) (kn:List (Nat×Bool)) (F:Nat->Prop) (G:Nat->Value) (w:World) (a:Act) (s:S),fT kn s->aq Q T F G w a s->cX nx Q kf HN ops l kn s ae->
  (∀s' a' w',ae s'->fh Q T F G w s s' a' w'->Q' .normal a' w')->wpListIn (wd r) 0 Q ops.toArray Q' l a w
 | [],kn,F,G,w,a,s,_,h,hp,hK=>by unfold cX at hp;exact hK s a w hp ⟨F,G,h,Ext.refl _ _ _⟩
 |o::l,kn,F,G,w,a,s,o5,h,hp,hK=>by
  cases ho:kQ o with
  |some it=>
   simp only[cX,ho] at hp;have Bh:o.guard=none:=by
    unfold kQ at ho;split at ho
    ·simp_all
    cases ho
   have:o.wpIn (wd r) 0 Q a w (wpListIn (wd r) 0 Q ops.toArray Q' l) Q':=zg h ho (ae:=λs1=>cX nx Q kf HN ops l [] s1 ae) (by
    have e:(λs1:S=>s1.force λs1=>cX nx Q kf HN ops l [] s1)=λs1=>cX nx Q kf HN ops l [] s1:=by funext s1;rw[S.force_eq]
    rw[e] at hp;exact w8 _ _ _ _ hp) λs1 a1 w1 qW ⟨F1,G1,g1,g2⟩=>jz w8 og eE fG l _ F1 G1 w1 a1 s1 (fT.nil s1) g1 qW λs' a' w' km hP=>hK s' a' w' km (hP.trans g2)
   exact du (by rw[zat (by simp[Region.wanted,Bh])];exact this)
  |none=>
  cases Ab:zf HN s o with
  |some fx=>
   simp only[cX,ho,Ab] at hp;have e:(λs1:S=>s1.force λs1=>cX nx Q kf HN ops l [] s1)=λs1=>cX nx Q kf HN ops l [] s1:=by funext s1;rw[S.force_eq]
   rw[e] at hp;obtain⟨Bh,this⟩:=C2 (K:=wpListIn (wd r) 0 Q ops.toArray Q' l) (Q':=Q') og h Ab (ae:=λs1=>cX nx Q kf HN ops l [] s1 ae) hp λs1 a1 w1 qW ⟨F1,G1,g1,g2⟩=>jz w8 og eE fG l _ F1 G1 w1 a1 s1 (fT.nil s1) g1 qW λs' a' w' km hP=>hK s' a' w' km (hP.trans g2);exact du (by rw[zat (by simp[Region.wanted,Bh])];exact this)
  |none=>simp only[cX,ho,Ab] at hp;obtain⟨x,⟨hx,hk⟩,qW⟩:=mK eE o5 _ hp;rw[S.force_eq] at qW;obtain⟨i,j,hx⟩:=hx.some;have iO:=gq (r:=r) (fG i j) h hx (K:=wpListIn (wd r) 0 Q ops.toArray Q' l) (Q':=Q') (λa' w' ⟨F',G',g1,g2⟩=>jz w8 og eE fG l _ F' G' w' a' x.1 hk g1 qW (λs' a2 w2 km hp=>hK s' a2 w2 km (hp.trans g2)));exact du iO
theorem TW.seq{x y:Code}{p ae:PX×S->Prop}(h1:TW Q T x s p)(h2: ∀s1,p (.normal,s1)->TW Q T y s1 ae)(h3: ∀e s1,e≠ .normal->p (e,s1)->ae (e,s1)):TW Q T (.seq x y) s ae:=λr pD F G w a Q' hs hK=>by
 refine wpIn_seq (h1 pD F G w a _ hs λe s1 a1 w1 hp hP=> ?_);cases e with
 |normal=>obtain⟨F1,G1,g1,g2⟩:=hP;exact h2 s1 hp pD F1 G1 w1 a1 Q' g1 λe2 s2 a2 w2 Gf Mx=>hK e2 s2 a2 w2 Gf (fh.trans g2 Mx)
 |exit id=>exact hK _ s1 a1 w1 (h3 _ _ (by simp) hp) hP
 |ret=>exact hK _ s1 a1 w1 (h3 _ _ (by simp) hp) hP
theorem TW.cond{c:Operand}{x y:Code}{b:Bool}{ae:PX×S->Prop}(hb:s.ev c= .d (.bool b))(h:TW Q T (if b then x else y) s ae):TW Q T (.cond c x y) s ae:=λr pD F G w a Q' hs hK=>by
 have hv:a.eval c= .bool b:=by have:=pw hs c;rw[hb] at this;exact ao.bq (p:= .d (.bool b)) this rfl
 refine wpIn_cond hv ?_;cases b with
 |true=>exact h pD F G w a Q' hs hK
 |false=>exact h pD F G w a Q' hs hK
theorem TW.block{id:Nat}{c:Code}{p ae:PX×S->Prop}(h:TW Q T c s p)(hp: ∀e s1,p (e,s1)->match e with | .exit kl=>if Nat.beq kl id then ae (.normal,s1) else ae (e,s1)|_=>ae (e,s1)):TW Q T (.block id c) s ae:=λr pD F G w a Q' hs hK=>by
 refine wpIn_block (h pD F G w a _ hs λe s1 a1 w1 qW hP=> ?_);have:=hp e s1 qW;cases e with
 |normal=>exact hK _ s1 a1 w1 this hP
 |ret=>exact hK _ s1 a1 w1 this hP
 |exit kl=>
  simp only at this;split at this
  next nW=>
   have nW:kl=id:=by simpa using nW
   have:=hK _ s1 a1 w1 this hP;simp only[PX.dx,Exit.inBlock,nW,zaT];exact this
  rename_i nW;have nW: ¬kl=id:=by simpa using nW
  have:=hK _ s1 a1 w1 this hP;simp only[PX.dx,Exit.inBlock,nW,za2];exact this
theorem TW.scope{c:Code}{ae:PX×S->Prop}(h:TW Q T c s ae):TW Q T (.scope c) s ae:=λr pD F G w a Q' hs hK=>by refine dI (h pD F G w a _ hs λe s1 a1 w1 hp hP=> ?_);have:=hK e s1 a1 w1 hp hP;cases e<;>simpa [PX.dx,Exit.noGoto] using this
theorem TW.loop{c:Code}{keep:Option (List Nat×List Nat)}{I:Nat->S->Prop}{O:PX×S->Prop}
  (hr: ∀n s,I n s->TW Q T c s (λx=>match x.1 with | .normal=> ∃s2,cw keep x.2=some s2/\ ∃m,m<n/\I m s2 |e=> ∃s2,eI keep x.2=some s2/\O (e,s2)))
  {n:Nat} {s0:S} (h0:cw keep s=some s0) (hI:I n s0):TW Q T (.loop c) s O:=λr pD F G w a Q' hs hK=>by
 obtain⟨G0,g1,g2⟩:=dD hs h0;have key: ∀(N n:Nat) (s:S),n<N->I n s-> ∀(F:Nat->Prop) (G:Nat->Value) (w:World) (a:Act),aq Q T F G w a s->(∀e s' a' w',O (e,s')->fh Q T F G w s s' a' w'->Q' e.dx a' w')->Code.roundsIn (wd r) 0 Q c Q' N a w:=by
  intro N
  induction N with
  |zero=>simp
  |succ N ih=>
   intro n s hn hI F G w a hs hK;refine hr n s hI pD F G w a _ hs λe s1 a1 w1 hp hP=> ?_;obtain⟨F1,G1,k1,k2⟩:=hP;cases e with
   |normal=>obtain⟨s2,h2,m,hm,hi⟩:=hp;obtain⟨G2,m1,m2⟩:=dD k1 h2;exact ih m s2 (by omega) hi F1 G2 w1 a1 m1 λe s' a' w' hO hP=>hK e s' a' w' hO (fh.trans (k2.trans m2) hP)
   |exit id=>obtain⟨s2,h2,hO⟩:=hp;obtain⟨G2,m1,m2⟩:=dD (keep:=keep.map λl=>(l.2,l.2)) k1 (by cases keep<;>exact h2);exact hK _ s2 a1 w1 hO ⟨F1,G2,m1,k2.trans m2⟩
   |ret=>obtain⟨s2,h2,hO⟩:=hp;obtain⟨G2,m1,m2⟩:=dD (keep:=keep.map λl=>(l.2,l.2)) k1 (by cases keep<;>exact h2);exact hK _ s2 a1 w1 hO ⟨F1,G2,m1,k2.trans m2⟩
 exact wpIn_loop_rounds (n+1) (key (n+1) n s0 (by omega) hI F G0 w a g1 λe s' a' w' hO hP=>hK e s' a' w' hO (fh.trans g2 hP))
variable{kp:tf}
theorem eB{nx:S->Option Nat->P->K S}(w8: ∀s dst p ae,nx s dst p ae->kP Q s dst p ae){HN:List (FuncId×cR)}(og: ∀f h,lk HN f=some h->w9 Q T.w0 f h){kf:KF}(eE:oN kf (dh Q kp))(hX:cL Q T.w0 kp.X)(hdr:Q.follows .mixedOrders=true){kp1:Nat->Option (List Nat×List Nat)}{hk:List (Nat×(S->K (PX×S)))}{dc:Nat->Nat}: ∀(c:Code),bB dc c=true->
  (∀d∈aw c,∀h,lk hk (Code.lz d)=some h-> ∀s ae,h s ae->TW Q T (.loop d) s ae)->(∀x∈bu c,∀h,lk hk (500000+x.id)=some h-> ∀s ae,h s ae->TW Q T x.code s ae)-> ∀(s:S) (ae:PX×S->Prop),cN nx Q kf HN kp1 hk dc c s ae->TW Q T c s ae
 | .skip,_,_,_,s,ae,hp=>λr pD F G w a Q' hs hK=>wpIn_skip (hK .normal s a w hp ⟨F,G,hs,Ext.refl _ _ _⟩)
 | .label _,_,_,_,s,ae,hp=>λr pD F G w a Q' hs hK=>wpIn_label (hK .normal s a w hp ⟨F,G,hs,Ext.refl _ _ _⟩)
 | .region id ops draw,hl,_,_,s,ae,hp=>by
  have fG: ∀a b,cL Q T.w0 (dh Q kp a b):=λa b=>mM hX hdr b;unfold cN at hp;cases draw with
  |true=>obtain⟨s1,h1,hp⟩:=qq eE (zab (by simpa [bB] using hl)) _ hp;obtain⟨i,j,h1⟩:=h1.some;exact TW.uv (kp:=kp1) (lf:=0) (fG i j) hdr (x:=(.normal,s1)) (by grind [aT]) hp
  |false=>
   simp only[zar,za2] at hp;split at hp
   ·exact λr pD F G w a Q' hs hK=>wpIn_region_list (by simpa using jz w8 og eE fG ops.toList [] F G w a s (fT.nil s) hs hp λs' a' w' km hP=>hK .normal s' a' w' km hP)
   obtain⟨s1,h1,hp⟩:=jv eE _ [] _ (fT.nil _) _ hp;obtain⟨i,j,h1⟩:=h1.some;exact TW.uv (kp:=kp1) (lf:=0) (fG i j) hdr (x:=(.normal,s1)) (by grind [aT]) hp
 | .seq x y,hl,hh,hr,s,ae,hp=>by
  unfold cN at hp;have w7:bB dc x=true/\bB dc y=true:=by simpa [bB] using hl
  refine TW.seq (eB w8 og eE hX hdr x w7.1 (λd hd=>hh d (by simp[aw,hd])) (λx hx=>hr x (by simp[bu,hx])) s _ hp) (λs1 h1=>eB w8 og eE hX hdr y w7.2 (λd hd=>hh d (by simp[aw,hd])) (λx hx=>hr x (by simp[bu,hx])) s1 ae h1) λe s1 he h1=> ?_;cases e with
  |normal=>grind
  |exit id=>exact h1
  |ret=>exact h1
 | .cond c x y,hl,hh,hr,s,ae,hp=>by
  unfold cN at hp;have w7:bB dc x=true/\bB dc y=true:=by simpa [bB] using hl
  have Io: ∃b,s.ev c= .d (.bool b):=by
   cases hb:s.ev c with
   |d x=>
    cases x with
    |bool b=>simp
    |_=>simp only[hb] at hp;exact hp.elim
   |_=>simp only[hb] at hp;exact hp.elim
  obtain⟨b,hb⟩:=Io;simp only[hb] at hp;refine TW.cond hb ?_;cases b with
  |true=>exact eB w8 og eE hX hdr x w7.1 (λd hd=>hh d (by simp[aw,hd])) (λx hx=>hr x (by simp[bu,hx])) s ae hp
  |false=>exact eB w8 og eE hX hdr y w7.2 (λd hd=>hh d (by simp[aw,hd])) (λx hx=>hr x (by simp[bu,hx])) s ae hp
 | .block id c,hl,hh,hr,s,ae,hp=>by
  unfold cN at hp;refine TW.block (eB w8 og eE hX hdr c hl (λd hd=>hh d (by simpa [aw] using hd)) (λx hx=>hr x (by simpa [bu] using hx)) s _ hp) λe s1 h1=> ?_;cases e with
  |normal=>exact h1
  |ret=>exact h1
  |exit kl=>
   simp only at h1⊢;split
   next h=>rw[zat h] at h1;exact h1
   rename_i h;rw[zaC h] at h1;exact h1
 | .loop c,hl,hh,hr,s,ae,hp=>by
  cases EY:lk hk (Code.lz c) with
  |some h=>simp_all [cN,aw]
  |none=>simp only[cN,EY] at hp;exact hp.elim
 | .scope c,hl,hh,hr,s,ae,hp=>by unfold cN at hp;exact TW.scope (eB w8 og eE hX hdr c hl (λd hd=>hh d (by simpa [aw] using hd)) (λx hx=>hr x (by simpa [bu] using hx)) s ae hp)
 | .exit id,_,_,_,s,ae,hp=>λr pD F G w a Q' hs hK=>wpIn_exit (hK (.exit id) s a w hp ⟨F,G,hs,Ext.refl _ _ _⟩)
 | .ret,_,_,_,s,ae,hp=>λr pD F G w a Q' hs hK=>wpIn_ret (hK .ret s a w hp ⟨F,G,hs,Ext.refl _ _ _⟩)
 | .rangeFunc g ps a b,_,_,hr,s,ae,hp=>by
  cases EY:lk hk (500000+Code.lz b) with
  |some h=>simp only[cN,EY] at hp;exact hr ⟨g,ps,a,b⟩ (by simp[bu]) h EY s ae hp
  |none=>simp only[cN,EY] at hp;exact hp.elim
 | .goto _,_,_,_,s,ae,hp=>by unfold cN at hp;exact hp.elim
 | .refuse _,_,_,_,s,ae,hp=>by unfold cN at hp;exact hp.elim
theorem TW.C3(hX:cL Q T.w0 kp.X)(hdr:Q.follows .mixedOrders=true){kp1:Nat->Option (List Nat×List Nat)}{c:Code}{x:PX×S}(h:Ev λa b=>eK (aT Q (dh Q kp a b) kp1 a c) (kp1 (Code.lz c)) a s=some x){ae:PX×S->Prop}(hp:ae x):TW Q T (.loop c) s ae:=by obtain⟨i,j,h⟩:=h.some;exact TW.uv (kp:=kp1) (lf:=i) (mM (kp:=kp) (lf:=i) hX hdr j) hdr (x:=x) (by grind [aT]) hp
def sN(nx:S->Option Nat->P->K S)(Q:Program)(kf:KF)(HN:List (FuncId×cR))(kp:tf)(hk:List (Nat×(S->K (PX×S))))(dc:FuncId->Nat->Nat):KF:=λf ps R=>
 match Q.funcs[f]? with
 |none=>K.fail
 |some fn=>match fn.body with
  |none=>K.fail
  |some c=>if fn.name== "runtime.NumGoroutine" then K.fail else
   K.bind (cN nx Q kf HN (kp f) hk (dc f) c ⟨fn.ntmps,dB 0 (gF (kp f 999999) Q fn.params.toList ps),R⟩) λx=>match x.1 with
    | .exit _=>K.fail
    |_=>match bU Q x.2 fn.results.toList with
     |some qs=>tu Q R.length fn.resultTypes.toList qs x.2
     |none=>K.fail
theorem w9.Pp{nx:S->Option Nat->P->K S}(w8: ∀s dst p ae,nx s dst p ae->kP Q s dst p ae){w0:World}{HN:List (FuncId×cR)}(og: ∀f h,lk HN f=some h->w9 Q w0 f h){h:cR}{f:FuncId}{kf:KF}{dc:FuncId->Nat->Nat}{hk:List (Nat×(S->K (PX×S)))}(eE:oN kf (dh Q kp))(hX:cL Q w0 kp.X)(hdr:Q.follows .mixedOrders=true)(yb:iB dc 0 Q.funcs.toList=true)(hu:uniq Q f=true)(Ip:qB Q f=true)
  (hl: ∀id h,id<500000->lk hk id=some h-> ∀(val:Nat->Value) (lo:Nat) s ae,h s ae->TW Q ⟨val,w0,lo,true⟩ (.loop (bz Q f id)) s ae)
  (My: ∀id h,lk hk (500000+id)=some h-> ∀(val:Nat->Value) (lo:Nat) s ae,h s ae->TW Q ⟨val,w0,lo,true⟩ (CZ Q f id).code s ae)
  (hb: ∀ps R ae,h ps R ae->sN nx Q kf HN kp hk dc f ps R ae):w9 Q w0 f h:=by
 intro ps R ae hr F G w vs hH hlen hv;have hb:=hb ps R ae hr;cases fg:Q.funcs[f]? with
 |none=>simp only[sN,fg] at hb;exact hb.elim
 |some fn=>
  cases hc:fn.body with
  |none=>simp only[sN,fg,hc] at hb;exact hb.elim
  |some c=>
   cases iY:(fn.name== "runtime.NumGoroutine") with
   |true=>simp only[sN,fg,hc,iY,zaT] at hb;exact hb.elim
   |false=>
    simp only[sN,fg,hc,iY,zar,za2] at hb;left;refine⟨by simp[callFunc,fg,hc];grind,?_⟩;refine gV fg hc ?_;have KO:vs.length=(gF (kp f 999999) Q fn.params.toList ps).length:=by rw[qx];exact hlen
    have BR:=sK (Q:=Q) (kp f 999999) fn.params.toList ps vs hv;have qy:aq Q ⟨G,w0,w.heap.size,true⟩ F G w {tmps:=(⟨vs⟩:Array Value)++Array.replicate (fn.ntmps-(⟨vs⟩:Array Value).size) undef,defers:=[]} ⟨fn.ntmps,dB 0 (gF (kp f 999999) Q fn.params.toList ps),R⟩:=by refine(aL.lo hH (zae _)).state rfl .nil (by simp;omega) (λt p hp=> ?_);obtain⟨_,h2⟩:=jy _ 0 t p hp;grind [cK,br.of]
    have Mz:=eB (T:=⟨G,w0,w.heap.size,true⟩) w8 og eE hX hdr (kp1:=kp f) c (gu yb f fn c fg hc) (λd hd h hh s ae hp=>by
     have e:bz Q f (Code.lz d)=d:=by grind [uniq,bz,im,cS]
     have:=hl _ h (AL Ip fg hc hd) hh G w.heap.size s ae hp;rwa [e] at this) (λx hx h hh s ae hp=>by
     have:=My _ h hh G w.heap.size s ae hp;rwa [Fa Ip fg hc hx] at this) _ _ hb
    refine Mz (r:=none) (λ_=>rfl) F G w _ _ qy λe s1 a' w' hp hP=> ?_;obtain⟨F',G',h1,h2⟩:=hP;have fin: ∀qs (y:P×List (Nat×En)),bU Q s1 fn.results.toList=some qs->finish Q R.length fn.resultTypes.toList qs s1=some y->ae y->
      LeavesInM Fence.wide 0 Q fn a'.tmps (λe w'=> ∃v2,e= .returned v2/\ ∃y:P×List (Nat×En),ae y/\ ∃F' G',aL Q ⟨G,w0,0,false⟩ F' G' w' y.2/\ao F' w' G' y.2 v2 y.1/\Ext (Own G R) (Own G' y.2) F F' w w') a'.defers .returning w':=by
     intro qs y hq yL eA;refine qw (T:=⟨G,w0,w.heap.size,true⟩) (own0:=Own G R) (F0:=F) (w1:=w) (zae _) (λw2 h3 h4=> ?_) a'.defers w' h1 h2;obtain⟨us,g1,g2,g3⟩:=lZ h3 hq;obtain⟨F2,G2,k1,k2,k3⟩:=sJ h3 yL g2 g3;exact⟨_,g1,_,rfl,y,eA,F2,G2,k1.lo,k2,h4.trans k3⟩
    have Pq:e≠ .normal->e≠ .ret->False:=λh1 h2=>by
     cases e with
     |normal=>exact h1 rfl
     |ret=>exact h2 rfl
     |exit id=>exact hp
    have hq: ∃qs y,bU Q s1 fn.results.toList=some qs/\finish Q R.length fn.resultTypes.toList qs s1=some y/\ae y:=by
     cases e with
     |exit id=>grind
     |normal=>
      cases hq:bU Q s1 fn.results.toList with
      |none=>simp only[hq] at hp;exact hp.elim
      |some qs=>simp only[hq] at hp;obtain⟨y,hy,MA⟩:=KW.cb (p:=λy=>finish Q R.length fn.resultTypes.toList qs s1=some y) (λ_ h=>h) _ hp;grind
     |ret=>
      cases hq:bU Q s1 fn.results.toList with
      |none=>simp only[hq] at hp;exact hp.elim
      |some qs=>simp only[hq] at hp;obtain⟨y,hy,MA⟩:=KW.cb (p:=λy=>finish Q R.length fn.resultTypes.toList qs s1=some y) (λ_ h=>h) _ hp;grind
    obtain⟨qs,y,hq,yL,MA⟩:=hq;have:=fin qs y hq yL MA;cases e with
    |normal=>exact this
    |ret=>exact this
    |exit id=>grind
abbrev C4(Q:Program):=cN (kP Q) Q
abbrev Gg(Q:Program):=sN (kP Q) Q
theorem AN{HN:List (FuncId×cR)}(og: ∀f h,lk HN f=some h->w9 Q T.w0 f h){kf:KF}(eE:oN kf (dh Q kp))(hX:cL Q T.w0 kp.X)(hdr:Q.follows .mixedOrders=true){kp1:Nat->Option (List Nat×List Nat)}{hk:List (Nat×(S->K (PX×S)))}{dc:Nat->Nat}(c:Code)(hl:bB dc c=true)
  (hh: ∀d∈aw c,∀h,lk hk (Code.lz d)=some h-> ∀s ae,h s ae->TW Q T (.loop d) s ae) (hr: ∀x∈bu c,∀h,lk hk (500000+x.id)=some h-> ∀s ae,h s ae->TW Q T x.code s ae) (s:S) (ae:PX×S->Prop) (hp:C4 Q kf HN kp1 hk dc c s ae):TW Q T c s ae:=
 eB (λ_ _ _ _ h=>h) og eE hX hdr c hl hh hr s ae hp
theorem w9.mk{w0:World}{HN:List (FuncId×cR)}(og: ∀f h,lk HN f=some h->w9 Q w0 f h){h:cR}{f:FuncId}{kf:KF}{dc:FuncId->Nat->Nat}{hk:List (Nat×(S->K (PX×S)))}(eE:oN kf (dh Q kp))(hX:cL Q w0 kp.X)(hdr:Q.follows .mixedOrders=true)(yb:iB dc 0 Q.funcs.toList=true)(hu:uniq Q f=true)(Ip:qB Q f=true)
 (hl: ∀id h,id<500000->lk hk id=some h-> ∀(val:Nat->Value) (lo:Nat) s ae,h s ae->TW Q ⟨val,w0,lo,true⟩ (.loop (bz Q f id)) s ae)
 (My: ∀id h,lk hk (500000+id)=some h-> ∀(val:Nat->Value) (lo:Nat) s ae,h s ae->TW Q ⟨val,w0,lo,true⟩ (CZ Q f id).code s ae)
 (hb: ∀ps R ae,h ps R ae->Gg Q kf HN kp hk dc f ps R ae):w9 Q w0 f h:=w9.Pp (nx:=kP Q) (λ_ _ _ _ h=>h) og eE hX hdr yb hu Ip hl My hb
theorem E8.K5{w0:World}{g:TF}{f:FuncId}{h:cR}(hN:w9 Q w0 f h)(hg: ∀ps R y,g ps R=some y->h ps R (λz=>z=y)):E8 Q w0 f g:=by intro _ ps R p R1 hr F G w vs hH hlen hv;refine(hN ps R _ (hg ps R (p,R1) hr) F G w vs hH hlen hv).mono λv w' ⟨y,hy,F',G',h1,h2,h3⟩=>by grind
end
end Pi
