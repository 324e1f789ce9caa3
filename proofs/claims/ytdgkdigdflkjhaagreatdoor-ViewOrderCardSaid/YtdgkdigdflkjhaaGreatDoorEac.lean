/- The texts PiT PiRf PiY PiYr PiDeep PiTurn PiR. -/
import Derived.Test.YtdgkdigdflkjhaaGreatDoorEab
import Derived.RangeFuncSeq
import Derived.RangeFuncOwn
open Option renaming some→Z,none→Y
open Bool renaming false→C,true→O
open List renaming length→J
open Go renaming TypeId→I,Value→W,Program→M
open List renaming map→aa,take→ab,replicate→ee,take_succ_eq_append_getElem→i6,count→ss,reverse→th,set→tz
open Prod renaming fst→ba,snd→bl
open Nat renaming beq→bo,ble→gr,eq_of_beq_eq_true→mi,testBit→mm
open Int renaming toNat→dd,tmod→so
open ByteArray renaming mk→gz
open Option renaming isSome→ir,map→i7
open Array renaming replicate→pt,range→te
open Pi.D renaming int→ue,aq→vc,aj→AC,agg→AM,nth→BC,str→FS,bool→ID,sl→IM,dq→NO,cq→Q1,c8→Q3
open Pi.En renaming mk→we
open Pi.PX renaming normal→xz,exit→CE,ret→Q2
open Pi.S renaming mk→AD
open Pi.Obj renaming arr→AS,box→GT,map→HH,iter→Q4
open Pi.P renaming d→Cs,sl→If,ref→RK
open Go.Op renaming operands→Do,bytesLess→IT,equalIn→PM
open Go.IntKind renaming i64→DD
open Pi.K renaming fail→GE,bind→IH
open Pi.KW renaming fail→H1,bind→IR,ret→IS,dN→PP
open Pi.Ext renaming refl→Mo
open Pi.Names renaming refl→Nm
open Pi.Code renaming nv→No
open Go.Instr renaming sliceBound→Of,sliceBounds→OF
open Go.Builtin renaming zeroCells→OK
namespace Pi
open Go
def TW Q T (c:Code) s (E:PX×S->Prop):=
 ∀ ⦃r:Option Nat⦄(_:T.V8=O->r=Y) (F:Nat->Prop) (G:Nat->W) (w:World) (a:Act) (Q':Exit->Act->World->Prop),ax Q T F G w a s->(∀e s' h w',E (e,s')->jc Q T F G w s s' h w'->Q' e.gu h w')->c.wpIn (wd r) 0 Q Q' a w
def fN(Q:M)(s:S)(dst:Option Nat)(p:P):K S:=
 match p with
 | .ref n v 0=>match s.obj n v with
  |Z (.iter kt vt left _)=>λE=>
   (∀k x,left k=Z x->IH (NB Q kt k) (λk=>IH (VX Q vt x) λx=>K.dN ((s.setObj n (.iter kt vt (iq k left) (Z (k,x)))).put dst (.cy [.d (.bool O),.d k,.d x]))) E)/\
   ((∀k,left k=Y)->K.dN (s.put dst (.cy [.d (.bool C)])) E)
  |_=>GE
 | .cy [.ref n v 0]=>match s.obj n v with
  |Z (.ji l pos)=>IH (K.dec (decide (pos<J l))) λb=>if b then K.dN ((s.setObj n (.ji l (pos+(Utf8.decode ⟨⟨l⟩⟩ pos).2))).put dst (.cy [.d (.bool O),.d (.int DD (pos:Int)),.d (.int .i32 (Utf8.decode ⟨⟨l⟩⟩ pos).1)])) else K.dN (s.put dst (.cy [.d (.bool C)]))
  |_=>GE
 |_=>GE
def vB(o:Oper)(p:P):P:=match o.op with | .next _ O=> .cy [p]|_=>(match p with | .ref n v k=> .ref n v k |_=> .bad)
def oz(o:Oper):=match o.op with | .next h _=>if o.guard.isNone then Z h else Y |_=>Y
def kfN(l:List (FuncId×bc)):KF:=λf=>match lk l f with |Z h=>h |Y=>λ_ _=>GE
def KI(h:List (FuncId×bc))(s:S)(o:Oper):Option (P×List P):=
 match iv o with
 |Z (f,xs)=>match s.eg Y f with
  | .fn kL dA=>if(lk h kL).isSome&&o.guard.isNone then Z (.fn kL dA,xs.map (s.eg Y)) else Y
  |_=>Y
 |Y=>Y
def cu(nx:S->Option Nat->P->K S)(Q:M)(cf:KF)(h:List (FuncId×bc))(ops:List Oper):List Oper->List (Nat×Bool)->S->K S
 | [],_,s=>K.ret s
 |o::r,kn,s=>match oz o with
  |Z it=>IH (nx s o.dst (vB o ((s.ev it).under Y))) λs1=>s1.force λs1=>cu nx Q cf h ops r [] s1
  |Y=>match KI h s o with
   |Z (f,xs)=>IH (sX Q (kfN h) s o.dst f xs) λs1=>s1.force λs1=>cu nx Q cf h ops r [] s1
   |Y=>IH (Eu Q cf ops kn s o) λx=>x.1.force λs1=>cu nx Q cf h ops r x.2 s1
def hasNext:List Oper->Bool
 | []=>C
 |o::r=>(oz o).isSome ||hasNext r
def ec(nx:S->Option Nat->P->K S)(Q:M)(kf:KF)(l:List (FuncId×bc))(kp:Nat->Option (List Nat×List Nat))(hk:List (Nat×(S->K (PX×S))))(dc:Nat->Nat):Code->S->K (PX×S)
 | .skip,s=>K.ret (.normal,s)
 | .label _,s=>K.ret (.normal,s)
 | .region id ops draw,s=>IH (if draw then Ew Q kf ops.toList (dc id) s else if hasNext ops.toList || !l.isEmpty then cu nx Q kf l ops.toList ops.toList [] s else ly Q kf ops.toList ops.toList [] s) λs1=>K.ret (.normal,s1)
 | .seq a b,s=>IH (ec nx Q kf l kp hk dc a s) λx=>match x.1 with
  | .normal=>ec nx Q kf l kp hk dc b x.2
  |_=>K.ret x
 | .cond c x y,s=>match s.ev c with
  | .d (.bool b)=>IH (K.dec b) λr=>if r then ec nx Q kf l kp hk dc x s else ec nx Q kf l kp hk dc y s
  |_=>GE
 | .block id c,s=>IH (ec nx Q kf l kp hk dc c s) λx=>match x.1 with
  | .exit oN=>if bo oN id then K.ret (.normal,x.2) else K.ret x
  |_=>K.ret x
 | .loop c,s=>match lk hk (No c) with
  |Z h=>h s
  |Y=>GE
 | .scope c,s=>ec nx Q kf l kp hk dc c s
 | .exit id,s=>K.ret (.exit id,s)
 | .ret,s=>K.ret (.ret,s)
 | .rangeFunc _ _ _ b,s=>match lk hk (500000+No b) with
  |Z h=>h s
  |Y=>GE
 |_,_=>GE
structure RF where
 g:Operand
 ps:Array Tmp
 asg:Code
 body:Code
def RF.code(x:RF):Code:= .rangeFunc x.g x.ps x.asg x.body
def cr:Code->List RF
 | .seq a b=>cr a++cr b
 | .cond _ a b=>cr a++cr b
 | .block _ c | .scope c | .loop c=>cr c
 | .rangeFunc g ps a b=>[⟨g,ps,a,b⟩]
 |_=>[]
def RF.id(x:RF):=No x.body
def Hq(id:Nat):List RF->Option RF
 | []=>Y
 |x::r=>if bo x.id id then Z x else Hq id r
def oA(Q:M)(f:FuncId)(id:Nat):RF:=
 match Q.funcs[f]? with
 |Z fn=>(match fn.body with |Z c=>(Hq id (cr c)).getD ⟨.const undef, #[],.skip,.skip⟩|Y=>⟨.const undef, #[],.skip,.skip⟩)
 |Y=>⟨.const undef, #[],.skip,.skip⟩
def vC(Q:M)(f:FuncId):Bool:=
 match Q.funcs[f]? with
 |Z fn=>(match fn.body with |Z c=>eI ((cr c).map RF.id)&&(aH c).all λd=>Nat.blt (No d) 500000 |Y=>O)
 |Y=>O
theorem E0{d}: ∀l,(l.map RF.id).Nodup->d∈l->Hq d.id l=Z d
 | [],_,h=>by simp at h
 |c::r,hn,h=>by
  obtain⟨A,H⟩:=zaU.1 hn;unfold Hq;rcases zao.1 h with rfl |h
  ·simp
  have: ¬c.id=d.id:=λe=>A (e▸za5 h);rw[zat (by simpa using this)];exact E0 r H h
theorem qcL{Q f fn c}{x}(hu:vC Q f=O)(A:Q.funcs[f]?=Z fn)(l:fn.body=Z c)(h:x∈cr c):oA Q f x.id=x:=by grind [vC,oA,E0,dj]
theorem E1{Q f fn c}{d}(hu:vC Q f=O)(l:Q.funcs[f]?=Z fn)(h:fn.body=Z c)(hd:d∈aH c):No d<500000:=by simp_all [vC]
section
variable{Q:M}{T:Tg}{F:Nat->Prop}{G:Nat->W}{w:World}{a:Act}{s:S}{r:Option Nat}
theorem TW.mono{c p q}(h:TW Q T c s p)(l: ∀x,p x->q x):TW Q T c s q:=λ_ A F G w a Q' H U=>h A F G w a Q' H λe s' X w' L=>U e s' X w' (l _ L)
theorem TW.of_run{kp cf lf}(U:b7 Q T.w0 cf)(hdr:Q.follows .mixedOrders=O){c x}(h:cv Q cf kp lf c s=Z x){E}(A:E x):TW Q T c s E:=
 λ_ _ F G w a Q' l L=>gw U hdr c s x.1 x.2 h F G w a Q' l λX w' H=>L x.1 x.2 X w' A H
theorem KJ{r m l last h es A} ty (hr:w.heap[r]?=Z (.mapIter (Z m) l h last))(hm:w.heap[m]?=Z (.map es A))(U: ∀x∈es.toList,x.born<l)(GK:l<=last):
  ((∀x∈es.toList,h.contains x.born=O)/\(Instr.next (.pointer (Z ⟨r,0,Y⟩)) C ty).run Q w= .ok (.tuple #[.bool C]) w)\/
  ∃e∈es.toList,h.contains e.born=C/\ ∃w1,(w1=w\/w1={w with drawn:=w.drawn+1})/\(Instr.next (.pointer (Z ⟨r,0,Y⟩)) C ty).run Q w= .ok (.tuple #[.bool O,e.key,e.val]) {w1 with heap:=w1.heap.setIfInBounds r (.mapIter (Z m) l (h.push e.born) A)}:=by
 have cD:(!h.isEmpty&& !es.isEmpty&&es.all λx=>decide (x.born>=last))=C:=by
  cases he:es.isEmpty with
  |true=>simp
  |false=>
   have h0:0<es.size:=by grind
   have:es.all (λx=>decide (x.born>=last))=C:=by grind
   rw[this,Bool.and_false]
 have e1:(es.filter λe=> !h.contains e.born).filter (λx=>decide (x.born<l))=es.filter λe=> !h.contains e.born:=Array.filter_eq_self.2 λx hx=>by have:=U x (by grind);grind
 have e2:(es.filter λe=> !h.contains e.born).filter (λx=>decide (x.born>=l))= #[]:=by rw[Array.filter_eq_empty_iff];grind
 have H: ∀x,x∈(es.filter λe=> !h.contains e.born)↔x∈es.toList/\h.contains x.born=C:=λx=>by simp
 simp only[Instr.next,getObj,Sem.run_bind,Sem.run,hr,hm,Result.andThen,cD,zaF,zbk,e1,e2,Array.append_empty];generalize (es.filter λe=> !h.contains e.born)=L at H⊢;by_cases h0:L.size=0
 ·have:L= #[]:=Array.eq_empty_of_size_eq_zero h0;subst this;refine .inl ⟨λx hx=> ?_,?_⟩
  ·grind
  simp[choose,Sem.run,Question.forced]
 have cU:L.isEmpty=C:=by grind
 have hch: ∃(j:Nat) (w1:World),j<L.size/\(w1=w\/w1={w with drawn:=w.drawn+1})/\(choose (Question.mapNext L.size)).run Q w= .ok j w1:=by
  by_cases hf:L.size<=1
  ·exact⟨0,w,by omega,.inl rfl,by simp[choose,Sem.run,Question.forced,hf]⟩
  refine⟨w.tape w.drawn (.mapNext L.size)%L.size,{w with drawn:=w.drawn+1},zc5 _ (by omega),.inr rfl,?_⟩;simp only[choose,Sem.run,Question.forced,zam,hf,zbk,Question.cut]
 obtain⟨j,w1,hj,Xa,cE⟩:=hch;obtain⟨m1,m2⟩:=(H L[j]).1 (by simp);refine .inr ⟨L[j],m1,m2,w1,Xa,?_⟩;have X:w1.heap[r]?=Z (.mapIter (Z m) l h last):=by rcases Xa with rfl |rfl<;>exact hr
 have mq:(setObj r (.mapIter (Z m) l (h.push L[j].born) A)).run Q w1= .ok () {w1 with heap:=w1.heap.setIfInBounds r (.mapIter (Z m) l (h.push L[j].born) A)}:=by simp[setObj,Sem.run,X]
 simp_all
theorem Xl(h:ax Q T F G w a s){o:Oper}{it}(r6:o.op= .next it O){E}(U:fN Q s o.dst (.cy [(s.ev it).under Y]) E){K0 Q'}
  (hK: ∀s' a' w',E s'->jc Q T F G w s s' a' w'->K0 a' w'):o.wpIn (wd r) 0 Q a w K0 Q':=by
 have H:=bg h (g:=Y) trivial it;unfold S.eg at H;generalize (s.ev it).under Y=p at H U;have zP: ∃n aU l A,p= .ref n aU 0/\s.obj n aU=Z (.ji l A):=by
  cases p with
  |ref n aU off=>
   cases off with
   |succ off=>exact U.elim
   |zero=>
    cases yH:s.obj n aU with
    |none=>simp only[fN,yH] at U;exact U.elim
    |some o=>
     cases o with
     |ji l A=>exact⟨n,aU,l,A,rfl,yH⟩
     |_=>simp only[fN,yH] at U;exact U.elim
  |_=>exact U.elim
 obtain⟨n,aU,l,A,rfl,yH⟩:=zP;simp only[fN,yH] at U;obtain⟨e,he,dR,bZ⟩:=S.bY yH;have hO:=h.rg n e he;rw[bZ] at hO;obtain⟨b,hg,hh⟩:=hO;have X:a.eval it= .pointer (Z ⟨b,0,Y⟩):=by
  generalize a.eval it=v at H;cases H with
  |ref _ _ _ _ hr h1=>obtain⟨b',DB,rfl⟩:=hr.at he dR (by rw[bZ];rfl);rw[hg] at DB;rw[DB]
 have dy:(⟨⟨l⟩⟩:ByteArray).size=J l:=rfl;by_cases aZ:A<J l
 ·have U:K.dN ((s.setObj n (.ji l (A+(Utf8.decode ⟨⟨l⟩⟩ A).2))).put o.dst (.cy [.d (.bool O),.d (.int DD (A:Int)),.d (.int .i32 (Utf8.decode ⟨⟨l⟩⟩ A).1)])) E:=by simpa [IH,K.dec,aZ] using U
  obtain⟨s1,oU,dV⟩:=PP (p:=λs1=>(s.setObj n (.ji l (A+(Utf8.decode ⟨⟨l⟩⟩ A).2))).put o.dst (.cy [.d (.bool O),.d (.int DD (A:Int)),.d (.int .i32 (Utf8.decode ⟨⟨l⟩⟩ A).1)])=Z s1) (λ_ h=>h) _ U;have rj:=(zar.1 hh).1;have dO:a7 (G n) e.obj b:=by rw[bZ,hg];simp[a7,aI]
  have ix: ∀b0,b0≠b->(w.heap.setIfInBounds b (.stringIter ⟨⟨l⟩⟩ (A+(Utf8.decode ⟨⟨l⟩⟩ A).2)))[b0]?=w.heap[b0]?:=λb0 cU=>zaO (za0 cU);have rq:(w.heap.setIfInBounds b (.stringIter ⟨⟨l⟩⟩ (A+(Utf8.decode ⟨⟨l⟩⟩ A).2)))[b]?=Z (.stringIter ⟨⟨l⟩⟩ (A+(Utf8.decode ⟨⟨l⟩⟩ A).2)):=by rw[za2 rj]
  rw[S.fb he] at oU;obtain⟨d1,d2⟩:=h.gj (n:=n) (e1:=⟨e.aU,e.tag,.ji l (A+(Utf8.decode ⟨⟨l⟩⟩ A).2)⟩) (g1:=G n) (w':={w with heap:=w.heap.setIfInBounds b (.stringIter ⟨⟨l⟩⟩ (A+(Utf8.decode ⟨⟨l⟩⟩ A).2))}) (hdr:=zag _)
   (λe' cP=>by rw[he] at cP;cases cP;exact .inr ⟨rfl,λ_=>⟨by rw[bZ];rfl,rfl⟩⟩)
   (λb0 _ cD=>ix b0 λe0=>cD ⟨e,he,by rw[e0];exact dO⟩) (by simp) rfl rfl rfl
   (λb0 xd=> .inr ⟨e,he,by rw[bZ];exact xd⟩)
   ⟨b,by rw[bH];exact hg,rq⟩
   (λi hi _=>h.tag n e i he hi (by rw[bZ];rfl))
  rw[bH] at d1 d2;obtain⟨c1,c2⟩:=cL d1 oU (v:= .tuple #[.bool O,.int DD (A:Int),.int .i32 (Utf8.decode ⟨⟨l⟩⟩ A).1]) (bR.of (.cy [.bool O,.int DD (A:Int),.int .i32 (Utf8.decode ⟨⟨l⟩⟩ A).1] _ rfl λi v c H L=>by
   match i with
   |0=>simp at H L;subst H;subst L;exact .d (.bool O)
   |1=>simp at H L;subst H;subst L;exact .d (.int _ _)
   |2=>simp at H L;subst H;subst L;exact .d (.int _ _)
   |i+3=>simp at H))
  refine lR (λc L=>by rw[r6] at L;cases L) (v:= .tuple #[.bool O,.int DD (A:Int),.int .i32 (Utf8.decode ⟨⟨l⟩⟩ A).1]) (w':={w with heap:=w.heap.setIfInBounds b (.stringIter ⟨⟨l⟩⟩ (A+(Utf8.decode ⟨⟨l⟩⟩ A).2))}) (.inl ?_) (hK s1 _ _ dV ⟨F,G,c1,?_⟩)
  ·simp only[execOp,r6,X];simp[Instr.next,getObj,setObj,Sem.run_bind,Sem.run,hh,dy,aZ,goInt]
  rw[c2];exact d2
 have U:K.dN (s.put o.dst (.cy [.d (.bool C)])) E:=by simpa [IH,K.dec,aZ] using U
 obtain⟨s1,oU,dV⟩:=PP (p:=λs1=>s.put o.dst (.cy [.d (.bool C)])=Z s1) (λ_ h=>h) _ U;obtain⟨c1,c2⟩:=cL h oU (v:= .tuple #[.bool C]) (bR.of (.cy [.bool C] [.d (.bool C)] rfl λi v c H L=>by
  cases i with
  |zero=>simp at H L;subst H;subst L;exact .d (.bool C)
  |succ i=>simp at H))
 refine lR (λc L=>by rw[r6] at L;cases L) (v:= .tuple #[.bool C]) (w':=w) (.inl ?_) (hK s1 _ _ dV ⟨F,G,c1,?_⟩)
 ·simp only[execOp,r6,X];simp[Instr.next,getObj,Sem.run_bind,Sem.run,hh,dy,aZ]
 rw[c2];exact Mo _ _ _
theorem Hr(h:ax Q T F G w a s){o X}(ho:oz o=Z X){E}(U:fN Q s o.dst (vB o ((s.ev X).under Y)) E){K Q'}
  (hK: ∀s' a' w',E s'->jc Q T F G w s s' a' w'->K a' w'):o.wpIn (wd r) 0 Q a w K Q':=by
 have Dy:o.op= .next X O\/o.op= .next X C:=by
  unfold oz at ho;split at ho
  next it' fl h2=>
   split at ho
   ·cases ho;cases fl
    ·exact .inr h2
    exact .inl h2
   cases ho
  cases ho
 rcases Dy with r6 |r6
 ·exact Xl h r6 (by simpa [vB,r6] using U) hK
 replace U:fN Q s o.dst (match(s.ev X).under Y with | .ref n v k=> .ref n v k |_=> .bad) E:=by simpa only[vB,r6] using U
 have H:=bg h (g:=Y) trivial X;unfold S.eg at H;generalize (s.ev X).under Y=p at H U;have zP: ∃n aU kt vt left cur,p= .ref n aU 0/\s.obj n aU=Z (.iter kt vt left cur):=by
  cases p with
  |ref n aU off=>
   cases off with
   |succ off=>exact U.elim
   |zero=>
    cases yH:s.obj n aU with
    |none=>simp only[fN,yH] at U;exact U.elim
    |some o=>
     cases o with
     |iter kt vt left cur=>grind
     |_=>simp only[fN,yH] at U;exact U.elim
  |_=>exact U.elim
 obtain⟨n,aU,kt,vt,left,cur,rfl,yH⟩:=zP;simp only[fN,yH] at U;obtain⟨p1,p2⟩:=U;obtain⟨e,he,dR,bZ⟩:=S.bY yH;have hO:=h.rg n e he;rw[bZ] at hO;obtain⟨b,mo,since,l,last,hg,hh,hO⟩:=hO;have hval:a.eval X= .pointer (Z ⟨b,0,Y⟩):=by
  generalize a.eval X=v at H;cases H with
  |ref _ _ _ _ hr h1=>obtain⟨b',DB,rfl⟩:=hr.at he dR (by rw[bZ];rfl);rw[hg] at DB;rw[DB]
 have over:(∀k,left k=Y)->(Instr.next (.pointer (Z ⟨b,0,Y⟩)) C o.type).run Q w= .ok (.tuple #[.bool C]) w->o.wpIn (wd r) 0 Q a w K Q':=λh0 cE=>by
  obtain⟨s1,oU,dV⟩:=PP (p:=λs1=>s.put o.dst (.cy [.d (.bool C)])=Z s1) (λ_ h=>h) _ (p2 h0);obtain⟨c1,c2⟩:=cL h oU (v:= .tuple #[.bool C]) (bR.of (.cy [.bool C] [.d (.bool C)] rfl λi v c H L=>by
   cases i with
   |zero=>simp at H L;subst H;subst L;exact .d (.bool C)
   |succ i=>simp at H))
  refine lR (λc L=>by rw[r6] at L;cases L) (v:= .tuple #[.bool C]) (w':=w) (.inl (by simp[execOp,r6,hval,cE])) (hK s1 _ _ dV ⟨F,G,c1,?_⟩);rw[c2];exact Mo _ _ _
 rcases hO with⟨rfl,h0,_⟩| ⟨m,es,rfl,hF,hm,Wh,hI,L⟩
 ·exact over h0 (by simp[Instr.next,getObj,Sem.run_bind,Sem.run,hh])
 subst Wh;have hold: ∀x∈es.toList,x.born<last:=by obtain⟨ks,_,_,_,h5,_⟩:=hI;exact h5
 rcases KJ (Q:=Q) o.type hh hm hold (zag _) with⟨h0,cE⟩| ⟨en,GJ,Xm,w1,Xa,cE⟩
 ·exact over (hI.over h0) cE
 have Xm:en∈es.toList/\l.contains en.born=C:=⟨GJ,Xm⟩
 obtain⟨k,x,hk,xa,hx,hI2⟩:=hI.next Xm.1 Xm.2;obtain⟨k',rfl,BB⟩:=ve Q kt k _ (p1 k x hk);obtain⟨x',rfl,Vg⟩:=GA Q vt x _ BB;obtain⟨s1,oU,dV⟩:=PP (p:=λs1=>(s.setObj n (.iter kt vt (iq k left) (Z (k,x)))).put o.dst (.cy [.d (.bool O),.d k,.d x])=Z s1) (λ_ h=>h) _ Vg;have hw1:w1.heap=w.heap/\w1.os=w.os/\w1.tape=w.tape/\w1.output=w.output:=by rcases Xa with rfl |rfl<;>exact⟨rfl,rfl,rfl,rfl⟩
 have rj:=(zar.1 hh).1;have dO:a7 (G n) e.obj b:=by rw[bZ,hg];simp[a7,aI]
 have cU:m≠b:=λhmb=>by grind
 have ix: ∀A,A≠b->(w.heap.setIfInBounds b (.mapIter (Z m) last (l.push en.born) last))[A]?=w.heap[A]?:=λA cU=>zaO (za0 cU);have rq:(w.heap.setIfInBounds b (.mapIter (Z m) last (l.push en.born) last))[b]?=Z (.mapIter (Z m) last (l.push en.born) last):=by rw[za2 rj]
 have zk: ∀A,F A->A≠b:=λA hf e0=>by subst e0;exact h.jb n e A he dO hf
 rw[S.fb he] at oU;have qrl:w.drawn<=w1.drawn:=by grind
 obtain⟨d1,d2⟩:=h.gj (n:=n) (e1:=⟨e.aU,e.tag,.iter kt vt (iq k left) (Z (k,x))⟩) (g1:=G n) (w':={w1 with heap:=w.heap.setIfInBounds b (.mapIter (Z m) last (l.push en.born) last)}) (hdr:=qrl)
  (λe' cP=>by rw[he] at cP;cases cP;exact .inr ⟨rfl,λ_=>⟨by rw[bZ];rfl,rfl⟩⟩)
  (λA _ cD=>ix A λe0=>by grind) (by simp) hw1.2.1 hw1.2.2.1 hw1.2.2.2
  (λA xd=> .inr ⟨e,he,by rw[bZ];exact xd⟩)
  ⟨b,Z m,last,l.push en.born,last,by rw[bH];exact hg,rq,.inr ⟨m,es,rfl,hF,(ix m cU).trans hm,rfl,hI2.mono (λ_ h=>h) (λA hf=>ix A (zk A hf)),λk1 x1 hc1=>by obtain⟨rfl,rfl⟩:=hc1;exact⟨en,Xm.1,by simp,xa,hx.mono (λ_ h=>h) (λA hf=>ix A (zk A hf))⟩⟩⟩
  (λi hi _=>h.tag n e i he hi (by rw[bZ];rfl))
 rw[bH] at d1 d2;obtain⟨c1,c2⟩:=cL d1 oU (v:= .tuple #[.bool O,en.key,en.val]) (bR.of (.cy [.bool O,en.key,en.val] _ rfl λi v c H L=>by
  match i with
  |0=>simp at H L;subst H;subst L;exact .d (.bool O)
  |1=>simp at H L;subst H;subst L;exact .d (bf.Wg _ _ xa)
  |2=>simp at H L;subst H;subst L;exact .d (hx.mono (λ_ h=>h) (λA hf=>ix A (zk A hf)))
  |i+3=>simp at H))
 refine lR (λc L=>by rw[r6] at L;cases L) (v:= .tuple #[.bool O,en.key,en.val]) (w':={w1 with heap:=w.heap.setIfInBounds b (.mapIter (Z m) last (l.push en.born) last)}) (.inl ?_) (hK s1 _ _ dV ⟨F,G,c1,?_⟩)
 ·simp only[execOp,r6,hval,Sem.run_bind,cE];simp[hw1.1]
 grind
def zm Q w0 f (h:bc):=
 ∀ps R E,h ps R E-> ∀(F:Nat->Prop) (G:Nat->W) (w:World) (vs:List W),de Q ⟨G,w0,0,C⟩ F G w R->J vs=J ps->
  (∀(i:Nat) (v:W) (c:P),vs[i]?=Z v->ps[i]?=Z c->aL F w G R v c)->
  jq Q f ⟨vs⟩ w (λv w'=> ∃y:P×List (Nat×En),E y/\ ∃F' l,de Q ⟨G,w0,0,C⟩ F' l w' y.2/\aL F' w' l y.2 v y.1/\Ext (Own G R) (Own l y.2) F F' w w')
theorem Xn{HN:List (FuncId×bc)}(jd: ∀f h,lk HN f=Z h->zm Q T.w0 f h)(h:ax Q T F G w a s){dst pf ps E}(A:sX Q (kfN HN) s dst pf ps E){fv vs}(hf:aL F w G s.rg fv pf)(hl:J vs=J ps)
  (hv: ∀(i:Nat) (v:W) (c:P),vs[i]?=Z v->ps[i]?=Z c->aL F w G s.rg v c):
  ∃L cs,fv= .func (.func L) #[] ⟨cs⟩/\jq Q L ⟨vs++cs⟩ w (λv w'=> ∃s',E s'/\ ∃F' G',ax Q T F' G' w' (a.put dst v) s'/\Ext (Own G s.rg) (Own G' s'.rg) F F' w w'):=by
 cases pf with
 |fn L dA=>
  cases hf with
  |fn _ cs _ A1 kM=>
   refine⟨L,cs,rfl,?_⟩;cases I3:dC Q s L (ps++dA) with
   |none=>simp only[sX,I3] at A;exact A.elim
   |some r=>
    obtain⟨s1,qs⟩:=r;cases X:eI (reach s1.rg 1000 qs []) with
    |false=>simp only[sX,I3,X,zaF,zbk] at A;exact A.elim
    |true=>
     cases mx:sub s1.rg (toPos s1.rg (reach s1.rg 1000 qs [])) O 0 (reach s1.rg 1000 qs []) with
     |none=>simp only[sX,I3,X,zbj,mx] at A;exact A.elim
     |some R0=>
      simp only[sX,I3,X,zbj,mx] at A;cases hh:lk HN L with
      |none=>simp only[kfN,hh] at A;exact A.elim
      |some xp=>
       simp only[kfN,hh] at A;have cW: ∀(i:Nat) (v:W) (c:P),(vs++cs)[i]?=Z v->(ps++dA)[i]?=Z c->aL F w G s.rg v c:=λi v c h1 h2=>by grind
       obtain⟨F1,a1,a2,a3,a4,a5,a6⟩:=yo (ps++dA) s F s1 qs (vs++cs) h I3 (by grind) cW;obtain⟨b1,b2,b3⟩:=a1.heap.sub mx X;have hq:=jd L xp hh _ R0 _ A F1 _ w (vs++cs) b1 (by rw[kC];exact a5) (λi v c h1 h2=>by rw[kB] at h2;grind [pL]);refine hq.mono λv w' ⟨⟨p,l⟩,H,F2,G2,c1,c2,c3⟩=> ?_;cases U:(eI (dT l (reach l 1000 (p::gg l l) []))&&gr (J (dT l (reach l 1000 (p::gg l l) []))) 1000) with
       |false=>simp only[U,zaF,zbk] at H;exact H.elim
       |true=>
        simp only[U,zbj] at H;cases lb:ig l (gf l s1.rg (reach s1.rg 1000 qs []) (dT l (reach l 1000 (p::gg l l) [])) (site dst*1000)) 0 (reach s1.rg 1000 qs []) s1.rg with
        |none=>simp only[lb] at H;exact H.elim
        |some R2=>
         simp only[lb] at H;cases fh:lZ l (gf l s1.rg (reach s1.rg 1000 qs []) (dT l (reach l 1000 (p::gg l l) [])) (site dst*1000)) (site dst*1000) (dT l (reach l 1000 (p::gg l l) [])) R2 with
         |none=>simp only[fh] at H;exact H.elim
         |some R3=>simp only[fh] at H;obtain⟨s',hs',H⟩:=PP (p:=λs'=>({s1 with rg:=R3}:S).put dst (AE _ p)=Z s') (λ_ h=>h) _ H;obtain⟨G3,d1,d2,d3⟩:=tQ a1 X (zac _ _▸U:_/\_).1 mx c1 c3 (fC l _) lb fh;obtain⟨e1,e2⟩:=cL d1 hs' (bR.of (pL d3 c2));refine⟨s',H,F2,G3,e1,?_⟩;rw[e2];exact a2.trans d2
 |_=>exact A.elim
theorem KK{HN:List (FuncId×bc)}(jd: ∀f h,lk HN f=Z h->zm Q T.w0 f h)(h:ax Q T F G w a s){o pf ps}(l:KI HN s o=Z (pf,ps)){E}(H:sX Q (kfN HN) s o.dst pf ps E){K Q'}
  (hK: ∀s' a' w',E s'->jc Q T F G w s s' a' w'->K a' w'):o.guard=Y/\o.wpIn (wd r) 0 Q a w K Q':=by
 unfold KI at l;split at l
 next f xs A=>
  split at l
  next kL dA hfe=>
   split at l
   ·rename_i fa;refine⟨by simp_all,?_⟩;obtain⟨rfl,rfl⟩:=l;unfold iv at A;split at A
    ·rename_i c r6;split at A
     ·rename_i f' kW;simp at A;obtain⟨rfl,rfl⟩:=A;obtain⟨L,cs,hfv,bF⟩:=Xn jd h H (by rw[<-hfe];exact bg h (g:=Y) trivial f') (vs:=c.args.toList.map a.eval) (by simp) (λi v p X H=>by rw[zaw] at X H;simp only[zap] at X H;obtain⟨x,hx,rfl⟩:=X;obtain⟨y,hy,rfl⟩:=H;rw[hx] at hy;cases hy;exact bg h (g:=Y) trivial x);have cE:(execOp a.eval o).run Q w=(callFunc L ⟨c.args.toList.map a.eval++cs⟩).run Q w:=by
       have e:(c.args.map a.eval)++(⟨cs⟩:Array W)=⟨c.args.toList.map a.eval++cs⟩:=by simp
       simp[execOp,r6,resolve,kW,hfv,Deferred.ofValue,invoke,e]
      refine vp (λc' nJ=>by rw[r6] at nJ;cases nJ) ?_;rw[cE];rcases bF with⟨h1,h2⟩| ⟨v,w',h1,s',U,F',G',h2,h3⟩
      ·rw[h1];refine⟨λh=>(by cases h),(Ba h2).mono λe w' ⟨v,he,s',U,F',G',h3,h4⟩=> ?_⟩;subst he;exact hK _ _ _ U ⟨F',G',h3,h4⟩
      rw[h1];exact hK _ _ _ U ⟨F',G',h2,h3⟩
     cases A
    cases A
   cases l
  cases l
 cases l
theorem pT{nx}(zP: ∀s dst p E,nx s dst p E->fN Q s dst p E){H:List (FuncId×bc)}(jd: ∀f h,lk H f=Z h->zm Q T.w0 f h){kf cf}(eZ:tW kf cf)(gm: ∀a b,b7 Q T.w0 (cf a b)){ops Q' E}: ∀l kn F G w a s,iA kn s->ax Q T F G w a s->cu nx Q kf H ops l kn s E->
  (∀s' L w',E s'->jc Q T F G w s s' L w'->Q' .normal L w')->wpListIn (wd r) 0 Q ops.toArray Q' l a w
 | [],kn,F,G,w,a,s,_,h,A,hK=>by unfold cu at A;exact hK s a w A ⟨F,G,h,Mo _ _ _⟩
 |o::l,kn,F,G,w,a,s,eb,h,A,hK=>by
  cases U:oz o with
  |some it=>
   simp only[cu,U] at A;have M4:o.guard=Y:=by
    unfold oz at U;split at U
    ·simp_all
    cases U
   have:o.wpIn (wd r) 0 Q a w (wpListIn (wd r) 0 Q ops.toArray Q' l) Q':=Hr h U (E:=λs1=>cu nx Q kf H ops l [] s1 E) (by
    have e:(λs1:S=>s1.force λs1=>cu nx Q kf H ops l [] s1)=λs1=>cu nx Q kf H ops l [] s1:=by funext s1;rw[S.force_eq]
    rw[e] at A;exact zP _ _ _ _ A) λs1 a1 w1 X ⟨F1,G1,g1,g2⟩=>pT zP jd eZ gm l _ F1 G1 w1 a1 s1 (iA.nil s1) g1 X λs' L w' jU hP=>hK s' L w' jU (hP.trans g2)
   exact cJ (by rw[zau (by simp[Region.wanted,M4])];exact this)
  |none=>
  cases A1:KI H s o with
  |some fx=>
   simp only[cu,U,A1] at A;have e:(λs1:S=>s1.force λs1=>cu nx Q kf H ops l [] s1)=λs1=>cu nx Q kf H ops l [] s1:=by funext s1;rw[S.force_eq]
   rw[e] at A;obtain⟨M4,this⟩:=KK (K:=wpListIn (wd r) 0 Q ops.toArray Q' l) (Q':=Q') jd h A1 (E:=λs1=>cu nx Q kf H ops l [] s1 E) A λs1 a1 w1 X ⟨F1,G1,g1,g2⟩=>pT zP jd eZ gm l _ F1 G1 w1 a1 s1 (iA.nil s1) g1 X λs' L w' jU hP=>hK s' L w' jU (hP.trans g2);exact cJ (by rw[zau (by simp[Region.wanted,M4])];exact this)
  |none=>simp only[cu,U,A1] at A;obtain⟨x,⟨hx,hk⟩,X⟩:=rF eZ eb _ A;rw[S.force_eq] at X;obtain⟨i,j,hx⟩:=hx.some;have iM:=eU (r:=r) (gm i j) h hx (K:=wpListIn (wd r) 0 Q ops.toArray Q' l) (Q':=Q') (λL w' ⟨F',G',g1,g2⟩=>pT zP jd eZ gm l _ F' G' w' L x.1 hk g1 X (λs' a2 w2 jU A=>hK s' a2 w2 jU (A.trans g2)));exact cJ iM
theorem TW.seq{x y p E}(h1:TW Q T x s p)(h2: ∀s1,p (.normal,s1)->TW Q T y s1 E)(X: ∀e s1,e≠ .normal->p (e,s1)->E (e,s1)):TW Q T (.seq x y) s E:=λr U F G w a Q' hs H=>by
 refine wpIn_seq (h1 U F G w a _ hs λe s1 L w1 h A=> ?_);cases e with
 |normal=>obtain⟨F1,G1,g1,g2⟩:=A;exact h2 s1 h U F1 G1 w1 L Q' g1 λe2 s2 a2 w2 BB l=>H e2 s2 a2 w2 BB (jc.trans g2 l)
 |exit id=>exact H _ s1 L w1 (X _ _ (by simp) h) A
 |ret=>exact H _ s1 L w1 (X _ _ (by simp) h) A
theorem TW.cond{c x y b E}(U:s.ev c= .d (.bool b))(h:TW Q T (if b then x else y) s E):TW Q T (.cond c x y) s E:=λr A F G w a Q' l H=>by
 have L:a.eval c= .bool b:=by have:=AG l c;rw[U] at this;exact aL.cY (p:= .d (.bool b)) this rfl
 refine wpIn_cond L ?_;cases b with
 |true=>exact h A F G w a Q' l H
 |false=>exact h A F G w a Q' l H
theorem TW.block{id:Nat}{c p E}(h:TW Q T c s p)(hp: ∀e s1,p (e,s1)->match e with | .exit oN=>if bo oN id then E (.normal,s1) else E (e,s1)|_=>E (e,s1)):TW Q T (.block id c) s E:=λr X F G w a Q' hs H=>by
 refine wpIn_block (h X F G w a _ hs λe s1 L w1 U A=> ?_);have:=hp e s1 U;cases e with
 |normal=>exact H _ s1 L w1 this A
 |ret=>exact H _ s1 L w1 this A
 |exit oN=>
  simp only at this;split at this
  next l=>
   have l:oN=id:=by simpa using l
   have:=H _ s1 L w1 this A;simp only[PX.gu,Exit.inBlock,l,zbj];exact this
  rename_i l;have l: ¬oN=id:=by simpa using l
  have:=H _ s1 L w1 this A;simp only[PX.gu,Exit.inBlock,l,zbk];exact this
theorem TW.scope{c E}(h:TW Q T c s E):TW Q T (.scope c) s E:=λr l F G w a Q' A U=>by refine gU (h l F G w a _ A λe s1 X w1 H L=> ?_);have:=U e s1 X w1 H L;cases e<;>simpa [PX.gu,Exit.noGoto] using this
theorem TW.loop{c keep}{I:Nat->S->Prop}{O}
  (hr: ∀n s,I n s->TW Q T c s (λx=>match x.1 with | .normal=> ∃s2,cQ keep x.2=Z s2/\ ∃m,m<n/\I m s2 |e=> ∃s2,dD keep x.2=Z s2/\O (e,s2)))
  {n s0} (h0:cQ keep s=Z s0) (hI:I n s0):TW Q T (.loop c) s O:=λr oi F G w a Q' hs X=>by
 obtain⟨G0,g1,g2⟩:=eA hs h0;have key: ∀(N n:Nat) (s:S),n<N->I n s-> ∀(F:Nat->Prop) (G:Nat->W) (w:World) (a:Act),ax Q T F G w a s->(∀e s' A w',O (e,s')->jc Q T F G w s s' A w'->Q' e.gu A w')->Code.roundsIn (wd r) 0 Q c Q' N a w:=by
  intro N
  induction N with
  |zero=>simp
  |succ N ih=>
   intro n s hn hI F G w a hs X;refine hr n s hI oi F G w a _ hs λe s1 a1 w1 hp U=> ?_;obtain⟨F1,G1,k1,k2⟩:=U;cases e with
   |normal=>obtain⟨s2,h2,m,hm,hi⟩:=hp;obtain⟨G2,L,H⟩:=eA k1 h2;exact ih m s2 (by omega) hi F1 G2 w1 a1 L λe s' A w' h U=>X e s' A w' h (jc.trans (k2.trans H) U)
   |exit id=>obtain⟨s2,h2,h⟩:=hp;obtain⟨G2,L,H⟩:=eA (keep:=keep.map λl=>(l.2,l.2)) k1 (by cases keep<;>exact h2);exact X _ s2 a1 w1 h ⟨F1,G2,L,k2.trans H⟩
   |ret=>obtain⟨s2,h2,h⟩:=hp;obtain⟨G2,L,H⟩:=eA (keep:=keep.map λl=>(l.2,l.2)) k1 (by cases keep<;>exact h2);exact X _ s2 a1 w1 h ⟨F1,G2,L,k2.trans H⟩
 exact wpIn_loop_rounds (n+1) (key (n+1) n s0 (by omega) hI F G0 w a g1 λe s' A w' h U=>X e s' A w' h (jc.trans g2 U))
variable{kp:qB}
theorem gG{nx}(zP: ∀s dst p E,nx s dst p E->fN Q s dst p E){HN:List (FuncId×bc)}(jd: ∀f h,lk HN f=Z h->zm Q T.w0 f h){kf}(eZ:tW kf (eL Q kp))(hX:b7 Q T.w0 kp.X)(hdr:Q.follows .mixedOrders=O){kp1 hk dc}: ∀c,cC dc c=O->
  (∀d∈aH c,∀h,lk hk (No d)=Z h-> ∀s E,h s E->TW Q T (.loop d) s E)->(∀x∈cr c,∀h,lk hk (500000+x.id)=Z h-> ∀s E,h s E->TW Q T x.code s E)-> ∀s E,ec nx Q kf HN kp1 hk dc c s E->TW Q T c s E
 | .skip,_,_,_,s,E,l=>λr oi F G w a Q' L U=>wpIn_skip (U .normal s a w l ⟨F,G,L,Mo _ _ _⟩)
 | .label _,_,_,_,s,E,l=>λr oi F G w a Q' L U=>wpIn_label (U .normal s a w l ⟨F,G,L,Mo _ _ _⟩)
 | .region id ops draw,hl,_,_,s,E,l=>by
  have gm: ∀a b,b7 Q T.w0 (eL Q kp a b):=λa b=>lC hX hdr b;unfold ec at l;cases draw with
  |true=>obtain⟨s1,A,l⟩:=Bu eZ (zad (by simpa [cC] using hl)) _ l;obtain⟨i,j,A⟩:=A.some;exact TW.of_run (kp:=kp1) (lf:=0) (gm i j) hdr (x:=(.normal,s1)) (by grind [cv]) l
  |false=>
   simp only[zaF,zbk] at l;split at l
   ·exact λr oi F G w a Q' L U=>wpIn_region_list (by simpa using pT zP jd eZ gm ops.toList [] F G w a s (iA.nil s) L l λs' a' w' jU hP=>U .normal s' a' w' jU hP)
   obtain⟨s1,A,l⟩:=pP eZ _ [] _ (iA.nil _) _ l;obtain⟨i,j,A⟩:=A.some;exact TW.of_run (kp:=kp1) (lf:=0) (gm i j) hdr (x:=(.normal,s1)) (by grind [cv]) l
 | .seq x y,hl,hh,hr,s,E,l=>by
  unfold ec at l;have Db:cC dc x=O/\cC dc y=O:=by simpa [cC] using hl
  refine TW.seq (gG zP jd eZ hX hdr x Db.1 (λd hd=>hh d (by simp[aH,hd])) (λx H=>hr x (by simp[cr,H])) s _ l) (λs1 A=>gG zP jd eZ hX hdr y Db.2 (λd hd=>hh d (by simp[aH,hd])) (λx H=>hr x (by simp[cr,H])) s1 E A) λe s1 he A=> ?_;cases e with
  |normal=>grind
  |exit id=>exact A
  |ret=>exact A
 | .cond c x y,hl,hh,hr,s,E,l=>by
  unfold ec at l;have Db:cC dc x=O/\cC dc y=O:=by simpa [cC] using hl
  have hbx: ∃b,s.ev c= .d (.bool b):=by
   cases hb:s.ev c with
   |d x=>
    cases x with
    |bool b=>simp
    |_=>simp only[hb] at l;exact l.elim
   |_=>simp only[hb] at l;exact l.elim
  obtain⟨b,hb⟩:=hbx;simp only[hb] at l;refine TW.cond hb ?_;cases b with
  |true=>exact gG zP jd eZ hX hdr x Db.1 (λd hd=>hh d (by simp[aH,hd])) (λx H=>hr x (by simp[cr,H])) s E l
  |false=>exact gG zP jd eZ hX hdr y Db.2 (λd hd=>hh d (by simp[aH,hd])) (λx H=>hr x (by simp[cr,H])) s E l
 | .block id c,hl,hh,hr,s,E,l=>by
  unfold ec at l;refine TW.block (gG zP jd eZ hX hdr c hl (λd hd=>hh d (by simpa [aH] using hd)) (λx H=>hr x (by simpa [cr] using H)) s _ l) λe s1 A=> ?_;cases e with
  |normal=>exact A
  |ret=>exact A
  |exit oN=>
   simp only at A⊢;split
   next h=>rw[zau h] at A;exact A
   rename_i h;rw[zat h] at A;exact A
 | .loop c,hl,hh,hr,s,E,l=>by
  cases M5:lk hk (No c) with
  |some h=>simp_all [ec,aH]
  |none=>simp only[ec,M5] at l;exact l.elim
 | .scope c,hl,hh,hr,s,E,l=>by unfold ec at l;exact TW.scope (gG zP jd eZ hX hdr c hl (λd hd=>hh d (by simpa [aH] using hd)) (λx H=>hr x (by simpa [cr] using H)) s E l)
 | .exit id,_,_,_,s,E,l=>λr oi F G w a Q' L U=>wpIn_exit (U (.exit id) s a w l ⟨F,G,L,Mo _ _ _⟩)
 | .ret,_,_,_,s,E,l=>λr oi F G w a Q' L U=>wpIn_ret (U .ret s a w l ⟨F,G,L,Mo _ _ _⟩)
 | .rangeFunc g ps a b,_,_,hr,s,E,l=>by
  cases M5:lk hk (500000+No b) with
  |some h=>simp only[ec,M5] at l;exact hr ⟨g,ps,a,b⟩ (by simp[cr]) h M5 s E l
  |none=>simp only[ec,M5] at l;exact l.elim
 | .goto _,_,_,_,s,E,l=>by unfold ec at l;exact l.elim
 | .refuse _,_,_,_,s,E,l=>by unfold ec at l;exact l.elim
def E2(nx:S->Option Nat->P->K S)(Q:M)(kf:KF)(h:List (FuncId×bc))(kp:qB)(hk:List (Nat×(S->K (PX×S))))(dc:FuncId->Nat->Nat):KF:=λf ps R=>
 match Q.funcs[f]? with
 |Y=>GE
 |Z fn=>match fn.body with
  |Y=>GE
  |Z c=>if fn.name== "runtime.NumGoroutine" then GE else
   IH (ec nx Q kf h (kp f) hk (dc f) c ⟨fn.ntmps,eO 0 (iw (kp f 999999) Q fn.params.toList ps),R⟩) λx=>match x.1 with
    | .exit _=>GE
    |_=>match cO Q x.2 fn.results.toList with
     |Z qs=>uZ Q (J R) fn.resultTypes.toList qs x.2
     |Y=>GE
theorem zm.mkG{nx}(zP: ∀s dst p E,nx s dst p E->fN Q s dst p E){w0}{HN:List (FuncId×bc)}(jd: ∀f h,lk HN f=Z h->zm Q w0 f h){h f kf dc}{hk}(eZ:tW kf (eL Q kp))(hX:b7 Q w0 kp.X)(hdr:Q.follows .mixedOrders=O)(Kt:l7 dc 0 Q.funcs.toList=O)(hu:uniq Q f=O)(huR:vC Q f=O)
  (hl: ∀id h,id<500000->lk hk id=Z h-> ∀(val:Nat->W) (lo:Nat) s E,h s E->TW Q ⟨val,w0,lo,O⟩ (.loop (bA Q f id)) s E)
  (hrf: ∀id h,lk hk (500000+id)=Z h-> ∀(val:Nat->W) (lo:Nat) s E,h s E->TW Q ⟨val,w0,lo,O⟩ (oA Q f id).code s E)
  (H: ∀ps R E,h ps R E->E2 nx Q kf HN kp hk dc f ps R E):zm Q w0 f h:=by
 intro ps R E hr F G w vs hH hlen hv;have H:=H ps R E hr;cases L:Q.funcs[f]? with
 |none=>simp only[E2,L] at H;exact H.elim
 |some fn=>
  cases U:fn.body with
  |none=>simp only[E2,L,U] at H;exact H.elim
  |some c=>
   cases iO:(fn.name== "runtime.NumGoroutine") with
   |true=>simp only[E2,L,U,iO,zbj] at H;exact H.elim
   |false=>
    simp only[E2,L,U,iO,zaF,zbk] at H;left;refine⟨by simp[callFunc,L,U];grind,?_⟩;refine js L U ?_;have hl':J vs=J (iw (kp f 999999) Q fn.params.toList ps):=by rw[tY];exact hlen
    have Ey:=xv (Q:=Q) (kp f 999999) fn.params.toList ps vs hv;have tZ:ax Q ⟨G,w0,w.heap.size,O⟩ F G w {tmps:=(⟨vs⟩:Array W)++pt (fn.ntmps-(⟨vs⟩:Array W).size) undef,defers:=[]} ⟨fn.ntmps,eO 0 (iw (kp f 999999) Q fn.params.toList ps),R⟩:=by refine(de.lo hH (zag _)).state rfl .nil (by simp;omega) (λt p l=> ?_);obtain⟨_,h2⟩:=mA _ 0 t p l;grind [fB,bR.of]
    have hTW:=gG (T:=⟨G,w0,w.heap.size,O⟩) zP jd eZ hX hdr (kp1:=kp f) c (iP Kt f fn c L U) (λd hd h hh s E l=>by
     have e:bA Q f (No d)=d:=by grind [uniq,bA,iQ,dj]
     have:=hl _ h (E1 huR L U hd) hh G w.heap.size s E l;rwa [e] at this) (λx hx h hh s E l=>by
     have:=hrf _ h hh G w.heap.size s E l;rwa [qcL huR L U hx] at this) _ _ H
    refine hTW (r:=Y) (λ_=>rfl) F G w _ _ tZ λe s1 a' w' l hP=> ?_;obtain⟨F',G',h1,h2⟩:=hP;have fin: ∀qs (y:P×List (Nat×En)),cO Q s1 fn.results.toList=Z qs->finish Q (J R) fn.resultTypes.toList qs s1=Z y->E y->
      LeavesInM Fence.wide 0 Q fn a'.tmps (λe w'=> ∃v2,e= .returned v2/\ ∃y:P×List (Nat×En),E y/\ ∃F' G',de Q ⟨G,w0,0,C⟩ F' G' w' y.2/\aL F' w' G' y.2 v2 y.1/\Ext (Own G R) (Own G' y.2) F F' w w') a'.defers .returning w':=by
     intro qs y A Vb dV;refine vw (T:=⟨G,w0,w.heap.size,O⟩) (own0:=Own G R) (F0:=F) (w1:=w) (zag _) (λw2 h3 h4=> ?_) a'.defers w' h1 h2;obtain⟨us,g1,g2,g3⟩:=pR h3 A;obtain⟨F2,G2,k1,k2,k3⟩:=xu h3 Vb g2 g3;exact⟨_,g1,_,rfl,y,dV,F2,G2,k1.lo,k2,h4.trans k3⟩
    have qtt:e≠ .normal->e≠ .ret->False:=λh1 h2=>by
     cases e with
     |normal=>exact h1 rfl
     |ret=>exact h2 rfl
     |exit id=>exact l
    have A: ∃qs y,cO Q s1 fn.results.toList=Z qs/\finish Q (J R) fn.resultTypes.toList qs s1=Z y/\E y:=by
     cases e with
     |exit id=>grind
     |normal=>
      cases A:cO Q s1 fn.results.toList with
      |none=>simp only[A] at l;exact l.elim
      |some qs=>simp only[A] at l;obtain⟨y,hy,hpo⟩:=PP (p:=λy=>finish Q (J R) fn.resultTypes.toList qs s1=Z y) (λ_ h=>h) _ l;grind
     |ret=>
      cases A:cO Q s1 fn.results.toList with
      |none=>simp only[A] at l;exact l.elim
      |some qs=>simp only[A] at l;obtain⟨y,hy,hpo⟩:=PP (p:=λy=>finish Q (J R) fn.resultTypes.toList qs s1=Z y) (λ_ h=>h) _ l;grind
    obtain⟨qs,y,A,Vb,hpo⟩:=A;have:=fin qs y A Vb hpo;cases e with
    |normal=>exact this
    |ret=>exact this
    |exit id=>grind
abbrev Hs Q:=ec (fN Q) Q
abbrev qf9 Q:=E2 (fN Q) Q
theorem sd{l:List (FuncId×bc)}(A: ∀f h,lk l f=Z h->zm Q T.w0 f h){kf}(eZ:tW kf (eL Q kp))(hX:b7 Q T.w0 kp.X)(hdr:Q.follows .mixedOrders=O){kp1 hk dc} c (U:cC dc c=O)
  (hh: ∀d∈aH c,∀h,lk hk (No d)=Z h-> ∀s E,h s E->TW Q T (.loop d) s E) (H: ∀x∈cr c,∀h,lk hk (500000+x.id)=Z h-> ∀s E,h s E->TW Q T x.code s E) s E (L:Hs Q kf l kp1 hk dc c s E):TW Q T c s E:=
 gG (λ_ _ _ _ h=>h) A eZ hX hdr c U hh H s E L
theorem zm.mk{w0}{H:List (FuncId×bc)}(L: ∀f h,lk H f=Z h->zm Q w0 f h){h f kf dc}{hk}(eZ:tW kf (eL Q kp))(hX:b7 Q w0 kp.X)(hdr:Q.follows .mixedOrders=O)(Kt:l7 dc 0 Q.funcs.toList=O)(hu:uniq Q f=O)(l:vC Q f=O)
 (U: ∀id h,id<500000->lk hk id=Z h-> ∀(val:Nat->W) (lo:Nat) s E,h s E->TW Q ⟨val,w0,lo,O⟩ (.loop (bA Q f id)) s E)
 (A: ∀id h,lk hk (500000+id)=Z h-> ∀(val:Nat->W) (lo:Nat) s E,h s E->TW Q ⟨val,w0,lo,O⟩ (oA Q f id).code s E)
 (hb: ∀ps R E,h ps R E->qf9 Q kf H kp hk dc f ps R E):zm Q w0 f h:=zm.mkG (nx:=fN Q) (λ_ _ _ _ h=>h) L eZ hX hdr Kt hu l U A hb
theorem zN.ofN{w0 g f h}(U:zm Q w0 f h)(L: ∀ps R y,g ps R=Z y->h ps R (λz=>z=y)):zN Q w0 f g:=by intro _ ps R p R1 H F G w vs X l A;refine(U ps R _ (L ps R (p,R1) H) F G w vs X l A).mono λv w' ⟨y,hy,F',G',h1,h2,h3⟩=>by grind
end
end Pi
namespace Pi
open Go
def mC:S->List Nat->List P->Option S
 |s,[],[]=>Z s
 |s,t::ts,p::ps=>match s.put (Z t) p with |Z s1=>mC s1 ts ps |Y=>Y
 |_,_,_=>Y
section
variable{Q:M}{T:Tg}{F:Nat->Prop}{G:Nat->W}{w:World}{a:Act}{s:S}
def ta(F:Nat->Prop) G R (h:List Deferred) l:= ¬F l/\ ¬Own G R l/\ ∀d∈h,d≠{target:= .collected l,args:= #[]}
theorem fD(w:World) l o {b}(h:b≠l):(w.putObj l o).heap[b]?=w.heap[b]?:=World.putObj_heap_other h
theorem ax.Ht(h:ax Q T F G w a s){l}(H:ta F G s.rg a.defers l) o:ax Q T F G (w.putObj l o) a s:=by
 have U: ∀b,b≠l->(w.putObj l o).heap[b]?=w.heap[b]?:=λb A=>fD w l o A;have L: ∀b,F b->(w.putObj l o).heap[b]?=w.heap[b]?:=λb A=>U b λe=>H.1 (e▸A);have dy:(w.putObj l o).heap.size=w.heap.size:=by simp
 refine⟨⟨h.oR.1,λd hd=> ?_⟩,h.size,λt p hp=>bR.mono (λ_ h=>h) L (Nm _ _) (h.tm t p hp),
  λn e X=>(h.rg n e X).mono (λ_ h=>h) L (Nm _ _) rfl (λb A=>U b λe'=>H.2.1 ⟨n,e,X,e'▸A⟩),h.own,h.jb,λb A=>by rw[dy];exact h.gL b A,h.tag,
  λb A=>⟨(h.z b A).1,(L b (h.z b A).1).trans (h.z b A).2⟩,h.dr,by rw[dy];exact h.sz⟩
 obtain⟨D,h1,h0,h2,h3,h4⟩:=h.oR.2 d hd;exact⟨D,h1,h0,(U D λe=>H.2.2 d hd (by rw[h1,e])).trans h2,h3,h4⟩
theorem E3: ∀A ps vs s s1 l,ax Q T F G w ⟨l,[]⟩ s->mC s A ps=Z s1->J vs=J ps->
  (∀(i:Nat) (v:W) (c:P),vs[i]?=Z v->ps[i]?=Z c->aL F w G s.rg v c)->ax Q T F G w ⟨(A.zip vs).foldl (λt (x:Nat×W)=>t.setIfInBounds x.1 x.2) l,[]⟩ s1/\s1.rg=s.rg
 | [],[],vs,s,s1,l,h,hs,hl,hv=>by simp[mC] at hs;subst hs;exact⟨h,rfl⟩
 | [],_::_,vs,s,s1,l,h,hs,hl,hv=>by simp[mC] at hs
 |_::_,[],vs,s,s1,l,h,hs,hl,hv=>by simp[mC] at hs
 |t::A,p::ps,[],s,s1,l,h,hs,hl,hv=>by simp at hl
 |t::A,p::ps,v::vs,s,s1,l,h,hs,hl,hv=>by
  simp only[mC] at hs;split at hs
  next s2 h2=>obtain⟨L,H⟩:=cL h h2 (bR.of (hv 0 v p (by simp) (by simp)));obtain⟨X,U⟩:=E3 A ps vs s2 s1 _ L hs (by simpa using hl) (λi u c hu hc=>by rw[H];exact hv (i+1) u c (by simpa using hu) (by simpa using hc));exact⟨X,U.trans H⟩
  cases hs
def QE(s:S):Option (S×List Nat):=
 let ns:=reach s.rg 1000 (s.tm.map (·.2)) []
 if eI ns then(match sub s.rg (toPos s.rg ns) O 0 ns with
  |Z R0=>Z (⟨s.n,sW (toPos s.rg ns) (s.tm.map (·.1)) s.tm,R0⟩,ns)
  |Y=>Y) else Y
def BD(s:S)(ns:List Nat)(h:List (Nat×En))(base:Nat):Option S:=
 let ms:=dT h (reach h 1000 (gg h h) [])
 if eI ms then(match ig h (gf h s.rg ns ms base) 0 ns s.rg with
  |Z R2=>(match lZ h (gf h s.rg ns ms base) base ms R2 with
   |Z R3=>Z {s with rg:=R3}
   |Y=>Y)
  |Y=>Y) else Y
def lD(ps:List Nat)(base:Nat)(keep:Option (List Nat×List Nat))(asg body:S->(PX×S->Prop)->Prop)(s:S)(h:List P)(E:PX×S->Prop):Prop:=
 match QE s with
 |Y=>False
 |Z (s0,ns)=>match mC s0 ps h with
  |Y=>False
  |Z s1=>asg s1 λx=>match x.1 with
   | .normal=>body x.2 λy=>match BD s ns y.2.rg base with
    |Z s3=>match cQ keep s3 with
     |Z s4=>E (y.1,s4)
     |Y=>False
    |Y=>False
   |_=>False
def PX.jump:PX->Option Code
 | .normal=>Y
 | .exit id=>Z (.exit id)
 | .ret=>Z .ret
theorem qlH{r n P}{c:Code}{Q'}(h:c.wpIn (wd r) 0 P Q' a w):c.wpIn (wd r) n P Q' a w:=
 λb k cs A l _=>h b k cs A l (qct r _)
theorem lE(w:World) l o A:(w.putObj l o).putObj l A=w.putObj l A:=by
 simp only[World.putObj];congr 1;apply zc0;intro i;simp only[zdi];split
 next h=>subst h;simp
 rfl
theorem Ext.Ht{o1 L F1 X w w'}(h:Ext o1 L F1 X w w'){l}(U:l<w.heap.size) o:Ext o1 L F1 X (w.putObj l o) (w'.putObj l o):=by
 have e1:(w.putObj l o).heap.size=w.heap.size:=by simp
 have e2:(w'.putObj l o).heap.size=w'.heap.size:=by simp
 refine⟨h.iK,λb A=>by rw[e1];exact h.lz b A,λb A=>by rw[e1];exact h.jT b A,λb A hn=> ?_,by rw[e1,e2];exact h.size,h.os,h.tape,h.output⟩;by_cases H:b=l
 ·subst H;rw[World.putObj_heap_same U,World.putObj_heap_same (zaR U h.size)]
 rw[fD w l o H,fD w' l o H];exact h.keep b (by rw[e1] at A;exact A) hn
theorem ta.of{A l}(h:ax Q T F G w a s)(U:w.heap[l]?=Z (.loop A))(X: ¬F l)(L: ¬Own G s.rg l):ta F G s.rg a.defers l:=by
 refine⟨X,L,λd hd e=> ?_⟩;obtain⟨D,h1,_,H,_⟩:=h.oR.2 d hd;rw[h1] at e;injection e with e1 e2
 injection e1 with e1
 subst e1;rw[U] at H;cases H
theorem Ext.apart{o1 H F1 U w w'}(h:Ext o1 H F1 U w w'){l}(hl:l<w.heap.size)(hf: ¬F1 l)(L: ¬o1 l): ¬U l/\ ¬H l:=
 ⟨λA=>(h.lz l A).elim hf λh1=>h1.elim L λh2=>by omega,λX=>(h.jT l X).elim L λh2=>by omega⟩
theorem Xo{A l}(hl:w.heap[l]?=Z (.loop A))(iM:A.state= .ready)(ht:A.tmps=a.tmps)(ho:ta F G s.rg a.defers l)(h:ax Q T F G w a s){base keep asg body}
  (qF: ∀val lo s E,asg s E->TW Q ⟨val,T.w0,lo,C⟩ A.assign s E) (dt: ∀val lo s E,body s E->TW Q ⟨val,T.w0,lo,C⟩ A.body s E) {m vs L} (hlen:J vs=J L) (jU:J vs=A.params.size)
  (hv: ∀(i:Nat) (v:W) (x:D),vs[i]?=Z v->L[i]?=Z x->bf F w v x) {E} (hp:lD A.params.toList base keep asg body s (L.map .d) E):
  YieldAt (wd Y) m Q l ⟨vs⟩ w (λe w'=> ∃x s',E (x,s')/\e= .returned (.bool (PX.jump x).isNone)/\w'.heap[l]?=Z (.loop {A with state:=if(PX.jump x).isNone then .ready else .done,pending:=PX.jump x})/\
   ∃F' G',ax Q T F' G' w' a s'/\ta F' G' s'.rg a.defers l/\Ext (Own G s.rg) (Own G' s'.rg) F F' (w.putObj l (.deferred Y)) (w'.putObj l (.deferred Y))):=by
 have aZ:=(zar.1 hl).1;unfold lD at hp;split at hp
 ·exact hp.elim
 rename_i s0 ns H;split at hp
 ·exact hp.elim
 rename_i s1 hpa;unfold QE at H;simp only at H;split at H
 next mr=>
  split at H
  next R0 hR0=>
   simp only[zai,zbd] at H;obtain⟨rfl,rfl⟩:=H;obtain⟨k1,k2,k3⟩:=h.heap.sub hR0 mr;simp only[zbj] at k1;have h0:=k1.state (a:=⟨a.tmps,[]⟩) (s:=⟨s.n,sW (toPos s.rg (reach s.rg 1000 (s.tm.map (·.2)) [])) (s.tm.map (·.1)) s.tm,R0⟩) rfl .nil h.size (λt p hp=>by obtain⟨q,hq,rfl⟩:=vo _ _ s.tm t p hp;exact(h.tm t q hq).AE k2);have qlI: ¬Own (λi=>G ((reach s.rg 1000 (s.tm.map (·.2)) []).getD i 0)) R0 l:=λhh=>by obtain⟨n,e,_,he,hb⟩:=k3 l hh;exact ho.2.1 ⟨n,e,he,hb⟩
   obtain⟨j1,j2⟩:=E3 A.params.toList (L.map .d) vs _ s1 a.tmps h0 hpa (by simpa using hlen) (λi v c hvv kM=>by rw[zaw,zap] at kM;obtain⟨x,hx,rfl⟩:=kM;exact .d (hv i v x hvv hx));refine⟨A.fn,_,A.assign,A.body,run_yield hl (by simpa using jU),?_⟩;refine roundIn_of_wpIn trivial (qlH ?_);have qlJ:(A.params.zip (⟨vs⟩:Array W)).foldl (λtmps (x:Nat×W)=>tmps.setIfInBounds x.1 x.2) A.tmps=(A.params.toList.zip vs).foldl (λt (x:Nat×W)=>t.setIfInBounds x.1 x.2) a.tmps:=by rw[ht,<-zcX,Array.toList_zip]
   rw[qlJ];refine qF _ _ s1 _ hp (r:=Z l) (λe=>by cases e) F _ w _ _ j1 λe s2 a2 w2 BB hP2=> ?_;cases e with
   |exit id=>exact BB.elim
   |ret=>exact BB.elim
   |normal=>
   simp only at BB;obtain⟨F2,G2,p1,p2⟩:=hP2;rw[j2] at p2;have l2:=(p2.keep l aZ qlI).trans hl;obtain⟨n1,n2⟩:=p2.apart aZ ho.1 qlI;have lt2:=zaR aZ p2.size;refine⟨_,run_beginRound l2 iM,qlH ?_⟩;have p1':=p1.Ht (ta.of p1 l2 n1 n2) (.loop {A with state:= .busy});refine dt _ _ s2 _ BB (r:=Z l) (λe=>by cases e) F2 G2 _ _ _ p1' λe s3 a3 w3 Vg hP3=> ?_;obtain⟨F3,G3,q1,q2⟩:=hP3;have X:l<(w2.putObj l (.loop {A with state:= .busy})).heap.size:=by simpa using lt2
   have l3:=(q2.keep l X n2).trans (World.putObj_heap_same lt2);obtain⟨n3,n4⟩:=q2.apart X n1 n2;have lt3:=zaR X q2.size;have fin: ∃v w4,(Instr.endRound l (PX.jump e)).run Q w3= .ok v w4/\ ∃x s',E (x,s')/\(Ending.returned v)= .returned (.bool (PX.jump x).isNone)/\w4.heap[l]?=Z (.loop {A with state:=if(PX.jump x).isNone then .ready else .done,pending:=PX.jump x})/\
     ∃F' G',ax Q T F' G' w4 a s'/\ta F' G' s'.rg a.defers l/\Ext (Own G s.rg) (Own G' s'.rg) F F' (w.putObj l (.deferred Y)) (w4.putObj l (.deferred Y)):=by
    refine⟨_,_,run_endRound (PX.jump e) l3,?_⟩;cases U:BD s (reach s.rg 1000 (s.tm.map (·.2)) []) s3.rg base with
    |none=>simp only[U] at Vg
    |some s3'=>
    simp only[U] at Vg;cases hhd:cQ keep s3' with
    |none=>simp only[hhd] at Vg
    |some s'=>
    simp only[hhd] at Vg;refine⟨e,s',Vg,rfl,World.putObj_heap_same lt3,?_⟩;unfold BD at U;simp only at U;split at U
    ·rename_i hms;split at U
     ·rename_i R2 hb;split at U
      ·rename_i R3 hn;simp only[zai] at U;subst U;have e12:Ext (Own (λi=>G ((reach s.rg 1000 (s.tm.map (·.2)) []).getD i 0)) R0) (Own G3 s3.rg) F F3 (w.putObj l (.deferred Y)) (w3.putObj l (.deferred Y)):=by have x1:=p2.Ht aZ (.deferred Y);have x2:=q2.Ht X (.deferred Y);rw[lE] at x2;exact x1.trans x2
       have hR1:=(q1.Ht (ta.of q1 l3 n3 n4) (.deferred Y)).heap;obtain⟨G4,z1,z2,z3⟩:=tQ (h.Ht ho (.deferred Y)) mr hms hR0 hR1.lo e12 (fC s3.rg _) hb hn;obtain⟨y1,y2⟩:=z2.apart (by simpa using aZ) ho.1 ho.2.1;have hap:ta F3 G4 R3 a.defers l:=⟨y1,y2,ho.2.2⟩
       have z4:=z1.Ht (s:={s with rg:=R3}) hap (.loop {A with state:=if(PX.jump e).isNone then .ready else .done,pending:=PX.jump e});rw[lE] at z4;obtain⟨G5,v1,v2⟩:=eA z4 hhd;have v3:=v2.Ht (l:=l) (by simpa using lt3) (.deferred Y);rw[lE] at v3;exact⟨F3,G5,v1,⟨y1,(v2.apart (by simpa using lt3) y1 y2).2,ho.2.2⟩,by rw[lE];exact z2.trans v3⟩
      cases U
     cases U
    cases U
   cases e with
   |normal=>exact fin
   |exit id=>exact fin
   |ret=>exact fin
  cases H
 cases H
end
end Pi
namespace Pi
open Go
def QG(h:Loop) x:={h with state:=if(PX.jump x).isNone then .ready else .done,pending:=PX.jump x}
section
variable{Q:M}{T Ti:Tg}{F:Nat->Prop}{G:Nat->W}{w:World}{a:Act}{s:S}
theorem ax.other(h:ax Q T F G w a s){w'}(A: ∀b,F b->w'.heap[b]?=w.heap[b]?)(X: ∀b,Own G s.rg b->w'.heap[b]?=w.heap[b]?)(hm: ∀d∈a.defers,∀D,d={target:= .collected D,args:= #[]}->w'.heap[D]?=w.heap[D]?)
  (L:w.heap.size<=w'.heap.size) (hd:T.w0.drawn<=w'.drawn):ax Q T F G w' a s:=by
 refine⟨⟨h.oR.1,λd hd=> ?_⟩,h.size,λt p U=>bR.mono (λ_ h=>h) A (Nm _ _) (h.tm t p U),
  λn e H=>(h.rg n e H).mono (λ_ h=>h) A (Nm _ _) rfl (λb l=>X b ⟨n,e,H,l⟩),h.own,h.jb,λb l=>zaR (h.gL b l) L,h.tag,
  λb l=>⟨(h.z b l).1,(A b (h.z b l).1).trans (h.z b l).2⟩,hd,zaJ h.sz L⟩
 obtain⟨D,h1,h0,h2,h3,h4⟩:=h.oR.2 d hd;grind
theorem ax.qrn(h:ax Q T F G w a s){F'}(L: ∀b,F b->F' b)(U: ∀b,F' b->F b\/(¬Own G s.rg b/\b<w.heap.size/\ ∀d∈a.defers,d≠{target:= .collected b,args:= #[]})):ax Q T F' G w a s:=by
 refine⟨⟨h.oR.1,λd hd=> ?_⟩,h.size,λt p X=>bR.mono L (λ_ _=>rfl) (Nm _ _) (h.tm t p X),
  λn e H=>(h.rg n e H).mono L (λ_ _=>rfl) (Nm _ _) rfl (λb l=>rfl),h.own,λn e b H l hf=> ?_,λb l=> ?_,h.tag,
  λb l=>⟨L b (h.z b l).1,(h.z b l).2⟩,h.dr,h.sz⟩
 ·obtain⟨D,h1,h0,h2,h3,h4⟩:=h.oR.2 d hd;grind
 ·rcases U b hf with A | ⟨A,_⟩
  ·exact h.jb n e b H l A
  exact A ⟨n,e,H,l⟩
 rcases U b l with A | ⟨_,A,_⟩
 ·exact h.gL b A
 exact A
def qu Q T a l h own0 F0 (A:World)(c:PX×S) W (ZF ZO:Nat->Prop):=
 W.heap[l]?=Z (.loop (QG h c.1))/\ ∃F G,ax Q T F G W a c.2/\ta F G c.2.rg a.defers l/\(∀b,ZF b->F b)/\
  (∀b,ZO b-> ¬F b/\ ¬Own G c.2.rg b/\b≠l/\(own0 b\/A.heap.size<=b)/\ ∀d∈a.defers,d≠{target:= .collected b,args:= #[]})/\
  Ext own0 (Own G c.2.rg) F0 F (A.putObj l (.deferred Y)) (W.putObj l (.deferred Y))
theorem qu.step{l rec own0 F0 W0 W W'}{c ZF ZO U ZO'}(h:qu Q T a l rec own0 F0 W0 c W ZF ZO)(H:Ext ZO ZO' ZF U W W')(hd:T.w0.drawn<=W'.drawn)(hb: ∀b,U b->b<W'.heap.size)(qro: ∀b,ZO' b-> ¬U b):
  qu Q T a l rec own0 F0 W0 c W' U ZO':=by
 obtain⟨hl,F,G,h1,h2,h3,h4,X⟩:=h;have aZ:=(zar.1 hl).1;have hlZ: ¬ZO l:=λL=>(h4 l L).2.2.1 rfl;have Xd:W0.heap.size<=W.heap.size:=by simpa using X.size
 have g1:=h1.other (λb hb=>H.keep b (h1.gL b hb) λL=>(h4 b L).1 hb) (λb hb=>H.keep b (h1.k9 hb) λL=>(h4 b L).2.1 hb)
  (λd Xp D hD=>by
   obtain⟨D',k1,_,k2,_⟩:=h1.oR.2 d Xp;rw[k1] at hD;injection hD with e1 e2
   injection e1 with e1
   subst e1;exact H.keep D' (zar.1 k2).1 λL=>(h4 D' L).2.2.2.2 d Xp k1) H.size hd
 have fh: ∀b,U b->F b\/(¬Own G c.2.rg b/\b<W'.heap.size/\ ∀d∈a.defers,d≠{target:= .collected b,args:= #[]}):=λb L=>by
  rcases H.lz b L with h |h |h
  ·grind
  ·grind
  refine .inr ⟨λho=> ?_,hb b L,λd Xp e=> ?_⟩
  ·have:=h1.k9 ho;omega
  obtain⟨D',k1,_,k2,_⟩:=h1.oR.2 d Xp;grind
 refine⟨(H.keep l aZ hlZ).trans hl,λb=>F b\/U b,G,g1.qrn (λ_ h=> .inl h) (λb db=>db.elim .inl (fh b)),⟨λA=> ?_,h2.2⟩,λ_ h=> .inr h,λb L=> ?_,?_⟩
 ·rcases A with A |A
  ·exact h2.1 A
  rcases H.lz l A with h |h |h
  ·exact h2.1 (h3 l h)
  ·exact hlZ h
  omega
 ·rcases H.jT b L with h |h
  ·grind
  refine⟨λA=>A.elim (λA=>by have:=h1.gL b A;omega) (qro b L),λho=>(by have:=h1.k9 ho;omega),λe=>(by omega),.inr (by omega),λd Xp e=> ?_⟩;obtain⟨D',k1,_,k2,_⟩:=h1.oR.2 d Xp;grind
 have e0:(W0.putObj l (.deferred Y)).heap.size=W0.heap.size:=by simp
 refine⟨λb A=> .inl (X.iK b A),λb A=> ?_,X.jT,λb qrp cD=> ?_,?_,H.os.trans X.os,H.tape.trans X.tape,H.output.trans X.output⟩
 ·rcases A with A |A
  ·exact X.lz b A
  rcases H.lz b A with h |h |h
  ·exact X.lz b (h3 b h)
  ·grind
  grind
 ·rw[<-X.keep b qrp cD];by_cases QF:b=l
  ·subst QF;rw[World.putObj_heap_same (zaR aZ H.size),World.putObj_heap_same aZ]
  rw[fD _ _ _ QF,fD _ _ _ QF];refine H.keep b (by omega) λL=> ?_;grind
 have e1:(W'.putObj l (.deferred Y)).heap.size=W'.heap.size:=by simp
 rw[e0,e1];exact zaJ Xd H.size
theorem qu.round{l A own0 F0 W0}{c Fi Gi ai}{si}(U:A.state= .ready/\A.pending=Y/\A.tmps=a.tmps)(hTi:Ti.w0=T.w0)(C9:Ti.V8=C)
  (h:qu Q T a l A own0 F0 W0 (.normal,c) w Fi (Own Gi si.rg)) (hi:ax Q Ti Fi Gi w ai si) {base keep asg body}
  (qF: ∀val lo s E,asg s E->TW Q ⟨val,T.w0,lo,C⟩ A.assign s E) (dt: ∀val lo s E,body s E->TW Q ⟨val,T.w0,lo,C⟩ A.body s E) {m vs L} (hlen:J vs=J L) (jU:J vs=A.params.size)
  (hv: ∀(i:Nat) (v:W) (x:D),vs[i]?=Z v->L[i]?=Z x->bf Fi w v x) {E} (hp:lD A.params.toList base keep asg body c (L.map .d) E):
  YieldAt (wd Y) m Q l ⟨vs⟩ w (λe w'=> ∃x s',E (x,s')/\e= .returned (.bool (PX.jump x).isNone)/\qu Q T a l A own0 F0 W0 (x,s') w' Fi (Own Gi si.rg)/\ax Q Ti Fi Gi w' ai si):=by
 obtain⟨hl,F,G,h1,h2,h3,h4,h5⟩:=h;have Xj:QG A .normal=A:=by obtain⟨e1,e2,_⟩:=U;cases A;subst e1;subst e2;rfl
 rw[Xj] at hl;obtain⟨fn,tmps,qh1,X,y1,y2⟩:=Xo (m:=m) hl U.1 U.2.2 h2 h1 qF dt hlen jU (λi v x hvv hx=>(hv i v x hvv hx).up h3) hp;refine⟨fn,tmps,qh1,X,y1,y2.mono ?_⟩;rintro e w' ⟨x,s',p1,p2,p3,F',G',p4,p5,p6⟩;have q0: ∀b,b<w.heap.size->b≠l-> ¬Own G c.rg b->w'.heap[b]?=w.heap[b]?:=λb H QF cD=>by have:=p6.keep b (by simpa using H) cD;rwa [fD _ _ _ QF,fD _ _ _ QF] at this
 have dy:w.heap.size<=w'.heap.size:=by simpa using p6.size
 refine⟨x,s',p1,p2,⟨p3,F',G',p4,p5,λb H=>p6.iK b (h3 b H),λb H=>⟨λhf=> ?_,λho=> ?_,(h4 b H).2.2⟩,h5.trans p6⟩,?_⟩
 ·rcases p6.lz b hf with h |h |h
  ·grind
  ·grind
  have:=hi.k9 H;simp at h;omega
 ·rcases p6.jT b ho with h |h
  ·grind
  have:=hi.k9 H;simp at h;omega
 refine hi.other (λb H=>q0 b (hi.gL b H) (λe=>h2.1 (e▸h3 b H)) λ⟨n,e,he,yH⟩=>h1.jb n e b he yH (h3 b H)) (λb H=>q0 b (hi.k9 H) (h4 b H).2.2.1 (h4 b H).2.1) (λd hd D hD=> ?_) dy (by rw[hTi];exact p4.dr);obtain⟨_,_,h0,_⟩:=hi.oR.2 d hd;rw[C9] at h0;cases h0.2
structure pU(Q:M) where
 T:Tg
 a:Act
 l:Nat
 lp:Loop
 own0:Nat->Prop
 F0:Nat->Prop
 W0:World
def pU.at(B:pU Q) c W ZF ZO:=qu Q B.T B.a B.l B.lp B.own0 B.F0 B.W0 c W ZF ZO
def se(B:pU Q) Ti (code:Code) c s (E:PX×S×(PX×S)->Prop):=
 ∀(F:Nat->Prop) (G:Nat->W) (w:World) (a:Act) (Q':Exit->Act->World->Prop),ax Q Ti F G w a s->B.at c w F (Own G s.rg)->
  (∀e s' h l w',E (e,s',h)->(∃F' A,ax Q Ti F' A w' l s'/\B.at h w' F' (Own A s'.rg))->Q' e.gu l w')->code.wpIn (wd Y) 0 Q Q' a w
theorem zQ{B:pU Q}{c F' A w'}{a' s'}(hT:Ti.w0=B.T.w0)(h:B.at c w F (Own G s.rg))(l:ax Q Ti F' A w' a' s')(H:Ext (Own G s.rg) (Own A s'.rg) F F' w w'):B.at c w' F' (Own A s'.rg):=
 qu.step h H (hT▸l.dr) l.gL λb ⟨n,e,U,X⟩ L=>l.jb n e b U X L
variable{B:pU Q}{c:PX×S}{code:Code}
theorem se.lift(U:Ti.w0=B.T.w0){p}(h:TW Q Ti code s p):se B Ti code c s (λx=>p (x.1,x.2.1)/\x.2.2=c):=λF G w a Q' A L X=>h (λ_=>rfl) F G w a Q' A λe s' a' w' H ⟨F',G',l,h2⟩=>X e s' c a' w' ⟨H,rfl⟩ ⟨F',G',l,zQ U L l h2⟩
theorem se.mono{p q}(h:se B Ti code c s p)(l: ∀x,p x->q x):se B Ti code c s q:=λF G w a Q' A L U=>h F G w a Q' A L λe s' X a' w' H=>U e s' X a' w' (l _ H)
theorem se.seq{x y p E}(h1:se B Ti x c s p)(h2: ∀s1 h,p (.normal,s1,h)->se B Ti y h s1 E)(U: ∀e s1 h,e≠ .normal->p (e,s1,h)->E (e,s1,h)):se B Ti (.seq x y) c s E:=λF G w a Q' X hj H=>by
 refine wpIn_seq (h1 F G w a _ X hj λe s1 h L w1 l A=> ?_);cases e with
 |normal=>obtain⟨F1,G1,g1,g2⟩:=A;exact h2 s1 h l F1 G1 w1 L Q' g1 g2 H
 |exit id=>exact H _ s1 h L w1 (U _ _ _ (by simp) l) A
 |ret=>exact H _ s1 h L w1 (U _ _ _ (by simp) l) A
theorem se.cond{k x y b E}(U:s.ev k= .d (.bool b))(h:se B Ti (if b then x else y) c s E):se B Ti (.cond k x y) c s E:=λF G w a Q' l A H=>by
 have L:a.eval k= .bool b:=by have:=AG l k;rw[U] at this;exact aL.cY (p:= .d (.bool b)) this rfl
 refine wpIn_cond L ?_;cases b with
 |true=>exact h F G w a Q' l A H
 |false=>exact h F G w a Q' l A H
theorem se.block{id:Nat}{x p E}(h:se B Ti x c s p)(hp: ∀e s1 l,p (e,s1,l)->match e with | .exit oN=>if bo oN id then E (.normal,s1,l) else E (.exit oN,s1,l)|e=>E (e,s1,l)):se B Ti (.block id x) c s E:=λF G w a Q' hs hj U=>by
 refine wpIn_block (h F G w a _ hs hj λe s1 l X w1 ou L=> ?_);have A:=hp e s1 l ou;cases e with
 |normal=>exact U _ s1 l X w1 A L
 |ret=>exact U _ s1 l X w1 A L
 |exit oN=>
  simp only at A;by_cases H:oN=id
  ·subst H;rw[zau (by simp)] at A;simp only[PX.gu,Exit.inBlock,zbj];exact U _ s1 l X w1 A L
  rw[zat (by simpa using H)] at A;simp only[PX.gu,Exit.inBlock,H,zbk];exact U _ s1 l X w1 A L
theorem se.scope{x E}(h:se B Ti x c s E):se B Ti (.scope x) c s E:=λF G w a Q' l H U=>by refine gU (h F G w a _ l H λe s1 X a1 w1 A L=> ?_);have:=U e s1 X a1 w1 A L;cases e<;>simpa [PX.gu,Exit.noGoto] using this
theorem zR(H:Ti.w0=B.T.w0){keep s0}(A:B.at c w F (Own G s.rg))(l:ax Q Ti F G w a s)(h:cQ keep s=Z s0): ∃G0,ax Q Ti F G0 w a s0/\B.at c w F (Own G0 s0.rg):=by grind [eA,zQ]
theorem se.loop(U:Ti.w0=B.T.w0){x keep}{I:Nat->S->PX×S->Prop}{O}
  (hr: ∀n s c,I n s c->se B Ti x c s (λy=>match y.1 with | .normal=> ∃s2,cQ keep y.2.1=Z s2/\ ∃m,m<n/\I m s2 y.2.2 |e=> ∃s2,dD keep y.2.1=Z s2/\O (e,s2,y.2.2)))
  {n s0} (h0:cQ keep s=Z s0) (hI:I n s0 c):se B Ti (.loop x) c s O:=λF G w a Q' hs hj hK=>by
 obtain⟨G0,g1,g2⟩:=zR U hj hs h0;have X: ∀(N n:Nat) (s:S) (c:PX×S),n<N->I n s c-> ∀(F:Nat->Prop) (G:Nat->W) (w:World) (a:Act),ax Q Ti F G w a s->B.at c w F (Own G s.rg)->Code.roundsIn (wd Y) 0 Q x Q' N a w:=by
  intro N
  induction N with
  |zero=>simp
  |succ N ih=>
   intro n s c hn hI F G w a hs hj;refine hr n s c hI F G w a _ hs hj λe s1 c1 a1 w1 hp hP=> ?_;obtain⟨F1,G1,k1,k2⟩:=hP;cases e with
   |normal=>obtain⟨s2,H,m,hm,hi⟩:=hp;obtain⟨L,A,h⟩:=zR U k2 k1 H;exact ih m s2 c1 (by omega) hi F1 L w1 a1 A h
   |exit id=>obtain⟨s2,H,hO⟩:=hp;obtain⟨L,A,h⟩:=zR (keep:=keep.map λl=>(l.2,l.2)) U k2 k1 (by cases keep<;>exact H);exact hK _ s2 c1 a1 w1 hO ⟨F1,L,A,h⟩
   |ret=>obtain⟨s2,H,hO⟩:=hp;obtain⟨L,A,h⟩:=zR (keep:=keep.map λl=>(l.2,l.2)) U k2 k1 (by cases keep<;>exact H);exact hK _ s2 c1 a1 w1 hO ⟨F1,L,A,h⟩
 exact wpIn_loop_rounds (n+1) (X (n+1) n s0 c (by omega) hI F G0 w a g1 g2)
def yieldOf(h:Nat)(s:S)(o:Oper):Option (List D):=
 match iv o,o.guard with
 |Z (f,xs),Y=>match s.ev f with
  | .mp y v=>match lk s.rg y with
   |Z e=>match e.obj,e.tag with
    | .cS,Z i=>if bo e.aU v&&bo i h then Dv (xs.map s.ev) else Y
    |_,_=>Y
   |Y=>Y
  |_=>Y
 |_,_=>Y
def pV(Q:M)(kf:KF)(h:Nat)(A:S->List P->(PX×S->Prop)->Prop)(ops:List Oper):List Oper->List (Nat×Bool)->S×(PX×S)->(S×(PX×S)->Prop)->Prop
 | [],_,x,E=>E x
 |o::l,kn,x,E=>match oz o with
  |Z it=>fN Q x.1 o.dst (vB o ((x.1.ev it).under Y)) λs1=>s1.force λs1=>pV Q kf h A ops l [] (s1,x.2) E
  |Y=>match yieldOf h x.1 o with
  |Z ds=>(match x.2.1 with
   | .normal=>A x.2.2 (ds.map .d) λy=>match x.1.put o.dst (.d (.bool (PX.jump y.1).isNone)) with
    |Z s1=>pV Q kf h A ops l [] (s1,y) E
    |Y=>False
   |_=>False)
  |Y=>Eu Q kf ops kn x.1 o λz=>z.1.force λs1=>pV Q kf h A ops l z.2 (s1,x.2) E
theorem BE: ∀l ps s s1,mC s l ps=Z s1->J l=J ps
 | [],[],_,_,_=>rfl
 | [],_::_,s,s1,h=>by simp[mC] at h
 |_::_,[],s,s1,h=>by simp[mC] at h
 |t::l,p::ps,s,s1,h=>by
  simp only[mC] at h;split at h
  ·simp[BE l ps _ _ h]
  cases h
theorem KL{ps base keep asg body}{s l E}(h:lD ps base keep asg body s l E):J ps=J l:=by grind [lD,BE]
theorem KM: ∀ps l,Dv ps=Z l->ps=l.map .d
 | [],l,h=>by grind [Dv]
 |p::ps,l,h=>by
  cases p<;>simp only[Dv] at h<;>try (cases h;done)
  split at h
  next x xs A=>simp at h;subst h;simp[KM ps xs A]
  cases h
theorem pW{kf cf}(eZ:tW kf cf)(gm: ∀a b,b7 Q Ti.w0 (cf a b))(X:Ti.w0=B.T.w0)(C9:Ti.V8=C){yt}(I5:Ti.val yt= .func (.yield B.l) #[] #[])(KN:B.lp.state= .ready/\B.lp.pending=Y/\B.lp.tmps=B.a.tmps)
  {base keep asg body} (qF: ∀val lo s E,asg s E->TW Q ⟨val,B.T.w0,lo,C⟩ B.lp.assign s E) (dt: ∀val lo s E,body s E->TW Q ⟨val,B.T.w0,lo,C⟩ B.lp.body s E)
  {ops Q' E}: ∀l kn F G w a s c,iA kn s->ax Q Ti F G w a s->B.at c w F (Own G s.rg)->
  pV Q kf yt (lD B.lp.params.toList base keep asg body) ops l kn (s,c) E->(∀s' c' a' w',E (s',c')->(∃F' G',ax Q Ti F' G' w' a' s'/\B.at c' w' F' (Own G' s'.rg))->Q' .normal a' w')->wpListIn (wd Y) 0 Q ops.toArray Q' l a w
 | [],kn,F,G,w,a,s,c,_,h,hj,hp,hK=>by unfold pV at hp;exact hK s c a w hp ⟨F,G,h,hj⟩
 |o::l,kn,F,G,w,a,s,c,eb,h,hj,hp,hK=>by
  unfold pV at hp;split at hp
  next it ho=>
   have M4:o.guard=Y:=by
    unfold oz at ho;split at ho
    ·simp_all
    cases ho
   simp only[S.force_eq] at hp;have:o.wpIn (wd Y) 0 Q a w (wpListIn (wd Y) 0 Q ops.toArray Q' l) Q':=Hr h ho hp λs1 a1 w1 ou ⟨F1,G1,g1,g2⟩=>pW eZ gm X C9 I5 KN qF dt l _ F1 G1 w1 a1 s1 c (iA.nil s1) g1 (zQ X hj g1 g2) ou hK;exact cJ (by rw[zau (by simp[Region.wanted,M4])];exact this)
  split at hp
  next ds A=>
   split at hp
   ·rename_i M7;unfold yieldOf at A;split at A
    ·rename_i f xs jM M4;split at A
     ·rename_i y v hfe;split at A
      ·rename_i e he;split at A
       ·rename_i i bZ hei;split at A
        ·rename_i fa;have dR:e.aU=v:=by simp_all
         have hi:i=yt:=by simp_all
         subst hi;have hG:G y= .func (.yield B.l) #[] #[]:=by
          rcases h.tag y e i he hei (by rw[bZ];rfl) with h0 | ⟨_,_,_,_,h0⟩
          ·rw[h0];exact I5
          rw[I5] at h0;cases h0
         have hval:a.eval f= .func (.yield B.l) #[] #[]:=by
          have:=AG h f;rw[hfe] at this;generalize a.eval f=u at this;cases this with
          |mp _ _ _ h1 hr=>rw[<-hG];exact hr.at he dR (by rw[bZ];rfl)
         unfold iv at jM;split at jM
         ·rename_i cl r6;split at jM
          ·rename_i f' kW;obtain⟨rfl,rfl⟩:=jM;have cW:=KM _ _ A;have H:J (cl.args.toList.map a.eval)=J ds:=by have:=congrArg J cW;grind
           have kM:c=(.normal,c.2):=by rw[<-M7]
           have Wz:qu Q B.T B.a B.l B.lp B.own0 B.F0 B.W0 (.normal,c.2) w F (Own G s.rg):=by rw[<-kM];exact hj
           have jU:J (cl.args.toList.map a.eval)=B.lp.params.size:=by have:=KL hp;simp at this;rw[H,<-this]
           obtain⟨fn,tmps,qh1,U,y1,y2⟩:=qu.round (m:=0-1) (vs:=cl.args.toList.map a.eval) KN X C9 Wz h qF dt H jU (λj u x hu hx=>by
            rw[zaw,zap] at hu;obtain⟨z,hz,rfl⟩:=hu;have L:=AG h z;have:s.ev z= .d x:=by have e1:=congrArg (λl=>l[j]?) cW;grind
            rw[this] at L;generalize a.eval z=u at L⊢;cases L with
            |d hd=>exact hd) hp
           have this:o.wpIn (wd Y) 0 Q a w (wpListIn (wd Y) 0 Q ops.toArray Q' l) Q':=by
            refine vp (λc' nJ=>by rw[r6] at nJ;cases nJ) ?_;have cE:(execOp a.eval o).run Q w= .ok (.round B.l fn tmps qh1 U) w:=by
             have e:cl.args.map a.eval=⟨cl.args.toList.map a.eval⟩:=by grind
             rw[<-y1,<-e];simp[execOp,r6,resolve,kW,hval,Deferred.ofValue,invoke]
            rw[cE];refine⟨λh=>(by cases h),y2.mono ?_⟩;rintro e' w' ⟨x,s',p1,rfl,p3,p4⟩;split at p1
            next s1 oU=>obtain⟨c1,c2⟩:=cL p4 oU (v:= .bool (PX.jump x).isNone) (bR.of (.d (.bool _)));exact pW eZ gm X C9 I5 KN qF dt l [] F G w' _ s1 (x,s') (iA.nil s1) c1 (by rw[c2];exact p3) p1 hK
            grind
           exact cJ (by rw[zau (by simp[Region.wanted,M4])];exact this)
          grind
         grind
        cases A
       cases A
      cases A
     cases A
    cases A
   grind
  obtain⟨x,⟨hx,hk⟩,ou⟩:=rF eZ eb _ hp;rw[S.force_eq] at ou;obtain⟨i,j,hx⟩:=hx.some;have iM:=eU (r:=Y) (gm i j) h hx (K:=wpListIn (wd Y) 0 Q ops.toArray Q' l) (Q':=Q') (λa' w' ⟨F',G',g1,g2⟩=>pW eZ gm X C9 I5 KN qF dt l _ F' G' w' a' x.1 c hk g1 (zQ X hj g1 g2) ou hK);exact cJ iM
def fo(Q:M)(kf:KF)(l:Nat)(A:S->List P->(PX×S->Prop)->Prop)(hk:List (Nat×(S×(PX×S)->K (PX×S×(PX×S)))))(dc:Nat->Nat):Code->S×(PX×S)->K (PX×S×(PX×S))
 | .skip,x=>K.ret (.normal,x)
 | .label _,x=>K.ret (.normal,x)
 | .region id ops draw,x=>if draw then IH (Ew Q kf ops.toList (dc id) x.1) λs1=>K.ret (.normal,s1,x.2) else IH (pV Q kf l A ops.toList ops.toList [] x) λy=>K.ret (.normal,y)
 | .seq a b,x=>IH (fo Q kf l A hk dc a x) λy=>match y.1 with
  | .normal=>fo Q kf l A hk dc b y.2
  |_=>K.ret y
 | .cond c a b,x=>match x.1.ev c with
  | .d (.bool t)=>IH (K.dec t) λr=>if r then fo Q kf l A hk dc a x else fo Q kf l A hk dc b x
  |_=>GE
 | .block id c,x=>IH (fo Q kf l A hk dc c x) λy=>match y.1 with
  | .exit oN=>if bo oN id then K.ret (.normal,y.2) else K.ret y
  |_=>K.ret y
 | .loop c,x=>match lk hk (No c) with
  |Z h=>h x
  |Y=>GE
 | .scope c,x=>fo Q kf l A hk dc c x
 | .exit id,x=>K.ret (.exit id,x)
 | .ret,x=>K.ret (.ret,x)
 |_,_=>GE
variable{kp:qB}
theorem iR{kf}(eZ:tW kf (eL Q kp))(hX:b7 Q Ti.w0 kp.X)(hdr:Q.follows .mixedOrders=O)(hT:Ti.w0=B.T.w0)(C9:Ti.V8=C){yt}(I5:Ti.val yt= .func (.yield B.l) #[] #[])(KN:B.lp.state= .ready/\B.lp.pending=Y/\B.lp.tmps=B.a.tmps)
  {base keep asg body} (qF: ∀val lo s E,asg s E->TW Q ⟨val,B.T.w0,lo,C⟩ B.lp.assign s E) (dt: ∀val lo s E,body s E->TW Q ⟨val,B.T.w0,lo,C⟩ B.lp.body s E)
  {hk dc}: ∀code,cC dc code=O->
  (∀d∈aH code,∀h,lk hk (No d)=Z h-> ∀x E,h x E->se B Ti (.loop d) x.2 x.1 E)-> ∀x E,fo Q kf yt (lD B.lp.params.toList base keep asg body) hk dc code x E->se B Ti code x.2 x.1 E
 | .skip,_,_,x,E,A=>λF G w a Q' L U hK=>wpIn_skip (hK .normal x.1 x.2 a w A ⟨F,G,L,U⟩)
 | .label _,_,_,x,E,A=>λF G w a Q' L U hK=>wpIn_label (hK .normal x.1 x.2 a w A ⟨F,G,L,U⟩)
 | .region id ops draw,hl,_,x,E,A=>by
  have gm: ∀a b,b7 Q Ti.w0 (eL Q kp a b):=λa b=>lC hX hdr b;unfold fo at A;cases draw with
  |true=>obtain⟨s1,H,A⟩:=Bu eZ (zad (by simpa [cC] using hl)) _ A;obtain⟨i,j,H⟩:=H.some;refine se.mono (se.lift hT (TW.of_run (kp:=λ_=>Y) (lf:=0) (gm i j) hdr (x:=(.normal,s1)) (by grind [cv]) (E:=λy=>E (y.1,y.2,x.2)) A)) ?_;simp
  |false=>exact λF G w a Q' L U hK=>wpIn_region_list (by simpa using pW eZ gm hT C9 I5 KN qF dt ops.toList [] F G w a x.1 x.2 (iA.nil x.1) L U A λs' c' a' w' jU hP=>hK .normal s' c' a' w' jU hP)
 | .seq a b,hl,hh,x,E,A=>by
  unfold fo at A;have Db:cC dc a=O/\cC dc b=O:=by simpa [cC] using hl
  refine se.seq (iR eZ hX hdr hT C9 I5 KN qF dt a Db.1 (λd hd=>hh d (by simp[aH,hd])) x _ A) (λs1 c1 H=>iR eZ hX hdr hT C9 I5 KN qF dt b Db.2 (λd hd=>hh d (by simp[aH,hd])) (s1,c1) E H) λe s1 c1 he H=> ?_;cases e with
  |normal=>grind
  |exit id=>exact H
  |ret=>exact H
 | .cond k a b,hl,hh,x,E,A=>by
  unfold fo at A;have Db:cC dc a=O/\cC dc b=O:=by simpa [cC] using hl
  have hbx: ∃b,x.1.ev k= .d (.bool b):=by
   cases hb:x.1.ev k with
   |d y=>
    cases y with
    |bool b=>simp
    |_=>simp only[hb] at A;exact A.elim
   |_=>simp only[hb] at A;exact A.elim
  obtain⟨t,hb⟩:=hbx;simp only[hb] at A;refine se.cond hb ?_;cases t with
  |true=>exact iR eZ hX hdr hT C9 I5 KN qF dt a Db.1 (λd hd=>hh d (by simp[aH,hd])) x E A
  |false=>exact iR eZ hX hdr hT C9 I5 KN qF dt b Db.2 (λd hd=>hh d (by simp[aH,hd])) x E A
 | .block id k,hl,hh,x,E,A=>by
  unfold fo at A;refine se.block (iR eZ hX hdr hT C9 I5 KN qF dt k hl (λd hd=>hh d (by simpa [aH] using hd)) x _ A) λe s1 c1 H=> ?_;cases e with
  |normal=>exact H
  |ret=>exact H
  |exit oN=>
   simp only at H⊢;split
   next h=>rw[zau h] at H;exact H
   rename_i h;rw[zat h] at H;exact H
 | .loop k,hl,hh,x,E,A=>by
  cases M5:lk hk (No k) with
  |some h=>simp_all [fo,aH]
  |none=>simp only[fo,M5] at A;exact A.elim
 | .scope k,hl,hh,x,E,A=>by unfold fo at A;exact se.scope (iR eZ hX hdr hT C9 I5 KN qF dt k hl (λd hd=>hh d (by simpa [aH] using hd)) x E A)
 | .exit id,_,_,x,E,A=>λF G w a Q' L U hK=>wpIn_exit (hK (.exit id) x.1 x.2 a w A ⟨F,G,L,U⟩)
 | .ret,_,_,x,E,A=>λF G w a Q' L U hK=>wpIn_ret (hK .ret x.1 x.2 a w A ⟨F,G,L,U⟩)
 | .rangeFunc _ _ _ _,_,_,x,E,A=>by unfold fo at A;exact A.elim
 | .goto _,_,_,x,E,A=>by unfold fo at A;exact A.elim
 | .refuse _,_,_,x,E,A=>by unfold fo at A;exact A.elim
end
end Pi
namespace Pi
open Go
theorem vE(w:World) o {k}(h:k<w.heap.size):(w.alloc o).heap[k]?=w.heap[k]?:=by
 show(w.heap.push o)[k]?=w.heap[k]?;rw[Array.getElem?_push];split
 ·omega
 rfl
def lF(R:List (Nat×En)):List Nat->List (Nat×En)
 | []=>R
 |n::ns=>lF (match lk R n with |Z e=>ins n ⟨e.aU,e.tag,.gone⟩ R |Y=>R) ns
section
variable{Q:M}{T:Tg}{F:Nat->Prop}{G:Nat->W}{w:World}{a:Act}{s:S}
theorem pX: ∀ns s,ax Q T F G w a s->ax Q T F G w a {s with rg:=lF s.rg ns}/\
  ∀m e,lk (lF s.rg ns) m=Z e->e.obj.live=O->m∉ns/\lk s.rg m=Z e
 | [],s,h=>⟨h,λm e H _=>⟨by simp,H⟩⟩
 |n::ns,s,h=>by
  cases U:lk s.rg n with
  |none=>
   obtain⟨h1,h2⟩:=pX ns s h;unfold lF;simp only[U];refine⟨h1,λm e H A=> ?_⟩;obtain⟨X,l⟩:=h2 m e H A;refine⟨λL=> ?_,l⟩;rcases zao.1 L with rfl |L
   ·rw[U] at l;cases l
   exact X L
  |some e0=>
   obtain⟨g1,_⟩:=h.gj (n:=n) (e1:=⟨e0.aU,e0.tag,.gone⟩) (g1:=G n) (w':=w) (λe H=>by rw[U] at H;cases H;exact .inr ⟨rfl,λA=>(by cases A)⟩) (λ_ _ _=>rfl) (zag _) rfl rfl rfl (λb hb=>by cases hb) trivial (λi _ A=>by cases A);rw[bH] at g1;obtain⟨h1,h2⟩:=pX ns _ g1;unfold lF;simp only[U];refine⟨h1,λm e H A=> ?_⟩;obtain⟨X,l⟩:=h2 m e H A;by_cases L:n=m
   ·subst L;simp only[aX] at l;cases l;cases A
   simp only at l;rw[br _ _ L] at l;exact⟨λh=>(zao.1 h).elim (λe=>L e.symm) X,l⟩
theorem yI{ns}(h:ax Q T F G w a s){b}(hb:Own G (lF s.rg ns) b): ∃m e,m∉ns/\lk s.rg m=Z e/\a7 (G m) e.obj b:=by
 obtain⟨m,e,X,A⟩:=hb;have U:e.obj.live=O:=by
  cases l:e.obj with
  |gone=>rw[l] at A;cases A
  |_=>rfl
 obtain⟨L,H⟩:=(pX ns s h).2 m e X U;exact⟨m,e,L,H,A⟩
structure Setup(B:pU Q)(Ti:Tg)(yt:Nat)(w0:World)(ps:Array Tmp)(assign body:Code):Prop where
 w0i:Ti.w0=w0
 w0b:B.T.w0=w0
 V8:Ti.V8=C
 yv:Ti.val yt= .func (.yield B.l) #[] #[]
 lp:B.lp.state= .ready/\B.lp.pending=Y/\B.lp.tmps=B.a.tmps
 ps:B.lp.params=ps
 asg:B.lp.assign=assign
 body:B.lp.body=body
def Ot(Q:M)(kf:KF)(ps:List Nat)(base:Nat)(keep:Option (List Nat×List Nat))(asg body:S->(PX×S->Prop)->Prop)(hk:FuncId->Nat->List (Nat×(S×(PX×S)->K (PX×S×(PX×S)))))(dc:FuncId->Nat->Nat)(g:Operand)(s:S):K (PX×S):=
 match s.ev g with
 | .fn f dA=>
        match Q.funcs[f]? with
  |Z fn=>match fn.body with
   |Z c=>
        if fn.name== "runtime.NumGoroutine" || !fn.results.toList.isEmpty then GE else
    let ns:=reach s.rg 1000 dA []
    if eI ns then(match sub s.rg (toPos s.rg ns) O 0 ns with
     |Z R0=>(match cQ keep {s with rg:=lF s.rg ns} with
      |Y=>GE
      |Z s0=>λE=>fo Q kf (J ns) (lD ps base keep asg body) (hk f (J ns)) (dc f) c (⟨fn.ntmps,eO 0 (.mp (J ns) 0::oL (toPos s.rg ns) dA),ins (J ns) ⟨0,Z (J ns),.cS⟩ R0⟩,(.normal,s0))
       (λy=>match y.1 with
        | .exit _=>False
        |_=>E y.2.2))
     |Y=>GE)
    else GE
   |Y=>GE
  |Y=>GE
 |_=>GE
variable{kp:qB}
theorem TW.rangeFunc{kf}(eZ:tW kf (eL Q kp))(hX:b7 Q T.w0 kp.X)(hdr:Q.follows .mixedOrders=O)(hm:T.V8=O){dc}(Kt:l7 dc 0 Q.funcs.toList=O){ps assign bd}
  {base keep asg body} (qF: ∀val lo s E,asg s E->TW Q ⟨val,T.w0,lo,C⟩ assign s E) (dt: ∀val lo s E,body s E->TW Q ⟨val,T.w0,lo,C⟩ bd s E)
  {hk}
  (hl: ∀f fn c,Q.funcs[f]?=Z fn->fn.body=Z c-> ∀d∈aH c,∀yt h,lk (hk f yt) (No d)=Z h-> ∀(B:pU Q) (Ti:Tg),Setup B Ti yt T.w0 ps assign bd-> ∀x E,h x E->se B Ti (.loop d) x.2 x.1 E)
  {g E} (l:Ot Q kf ps.toList base keep asg body hk dc g s E):TW Q T (.rangeFunc g ps assign bd) s E:=by
 intro r oi F G w a Q' h hK;obtain rfl:=oi hm;have hv:=AG h g;unfold Ot at l;generalize s.ev g=gp at l hv;cases gp with
 |fn f dA=>
  simp only at l;have hv:=hv;cases fj:Q.funcs[f]? with
  |none=>simp only[fj] at l;exact l.elim
  |some fn=>
  cases hc:fn.body with
  |none=>simp only[fj,hc] at l;exact l.elim
  |some c=>
  cases DO:(fn.name== "runtime.NumGoroutine" || !fn.results.toList.isEmpty) with
  |true=>simp only[fj,hc,DO,zbj] at l;exact l.elim
  |false=>
  simp only[fj,hc,DO,zaF,zbk] at l;simp only[Bool.or_eq_false_iff,Bool.not_eq_false'] at DO;obtain⟨iO,KB⟩:=DO;have KB:fn.results.toList=[]:=by simpa using KB
  generalize I1:reach s.rg 1000 dA []=ns at l;cases mr:eI ns with
  |false=>simp only[mr,zaF,zbk] at l;exact l.elim
  |true=>
  cases mx:sub s.rg (toPos s.rg ns) O 0 ns with
  |none=>simp only[mr,zbj,mx] at l;exact l.elim
  |some R0=>
  simp only[mr,zbj,mx] at l;cases hhd:cQ keep {s with rg:=lF s.rg ns} with
  |none=>simp only[hhd] at l;exact l.elim
  |some s0=>
  simp only[hhd] at l;generalize hval:a.eval g=gv at hv;cases hv with
  |fn _ cs _ A1 kM=>
  generalize I5:(W.func (.yield (w.heap.size+1)) #[] #[])=yv;have gT:yv.oneCell'=O:=by subst I5;rfl
  refine wpIn_rangeFunc λfn0 _=> ?_;obtain⟨lp,KN⟩: ∃lp:Loop,lp={state:= .ready,pending:=Y,fn:=fn0,tmps:=a.tmps,params:=ps,assign,body:=bd,defers:=w.heap.size}:=⟨_,rfl⟩
  obtain⟨H,hW1⟩: ∃H,(w.alloc (.deferred (Z []))).alloc (.loop lp)=H:=⟨_,rfl⟩
  have hL1:H.heap[w.heap.size+1]?=Z (.loop lp):=by rw[<-hW1];have:=World.alloc_heap_new (w.alloc (.deferred (Z []))) (.loop lp);rwa [World.size_alloc] at this
  have hK1:H.heap[w.heap.size]?=Z (.deferred (Z [])):=by rw[<-hW1];exact(vE _ _ (by simp)).trans (World.alloc_heap_new w _)
  have qtu:H.heap.size=w.heap.size+2:=by rw[<-hW1];simp
  have U: ∀b,b<w.heap.size->H.heap[b]?=w.heap[b]?:=λb A=>by rw[<-hW1];exact(vE _ _ (by simp;omega)).trans (vE _ _ A)
  have KO:H.drawn=w.drawn/\H.os=w.os/\H.tape=w.tape/\H.output=w.output:=by rw[<-hW1];exact⟨rfl,rfl,rfl,rfl⟩
  have qh2:(callFunc f (#[yv]++⟨cs⟩)).run Q H= .ok (.enter f (#[yv]++⟨cs⟩)) H:=by simp[callFunc,fj,hc];simpa using iO
  refine⟨w.heap.size+1,[{target:= .collected w.heap.size,args:= #[]}],H,{target:= .fn (.func f) ⟨cs⟩,args:= #[yv]},H,f, #[yv]++⟨cs⟩,H,?_,?_,λ_ _=>trivial,?_,λhd=>(by cases hd),Ba (js fj hc ?_)⟩
  ·rw[<-hW1,KN];exact run_enterLoop_outer _ _ _ _ _
  ·simp only[resolve,hval,I5];simp[go_sem,<-I5]
  ·simp only[invoke];simpa [go_sem] using qh2
  have rh: ∀{T':Tg} {G':Nat->W} {a':Act} {s':S},T'.w0=T.w0->a'.defers=[]->ax Q T' F G' w a' s'->ax Q T' F G' H a' s':=λhw hd L=>L.other (λb A=>U b (L.gL b A)) (λb A=>U b (L.k9 A)) (λd Xp=>by rw[hd] at Xp;cases Xp) (by omega) (by rw[hw,KO.1];exact h.dr);obtain⟨b1,b2,b3⟩:=h.heap.sub mx mr;simp only[zbj] at b1;obtain⟨Gi,hGi⟩: ∃Gi:Nat->W,Gi=λi=>G (ns.getD i 0):=⟨_,rfl⟩
  rw[<-hGi] at b1 b2 b3;have NT:=λj e' (hj:lk R0 j=Z e')=>N3 s.rg (toPos s.rg ns) O ns 0 R0 mx j e' hj;have hyk:lk R0 (J ns)=Y:=by
   cases hx:lk R0 (J ns) with
   |none=>rfl
   |some e=>obtain⟨n,e0,_,h2,_⟩:=NT _ _ hx;simp at h2
  obtain⟨Ti,hTi⟩: ∃Ti:Tg,Ti=⟨λi=>if i=J ns then yv else Gi i,T.w0,0,C⟩:=⟨_,rfl⟩
  have zl:de Q Ti F Gi w R0:=by
   subst hTi;refine⟨.nil,za4 _,λt p l=>by simp[lk] at l,b1.rg,b1.own,b1.jb,b1.gL,λn e i he hi Qv=> ?_,b1.z,b1.dr,za4 _⟩;have ht:=b1.tag n e i he hi Qv;obtain⟨n',e0,_,h2,_,_,rfl⟩:=NT _ _ he;simp only[zbj,zai] at hi;subst hi;have:n<J ns:=by have:=(zab.1 h2).1;omega
   show jk (Gi n) (if n=J ns then yv else Gi n);rw[zat (by omega)];exact .inl rfl
  obtain⟨I4,NV⟩:=(rh (by rw[hTi]) rfl zl).gj (n:=J ns) (e1:=⟨0,Z (J ns),.cS⟩) (g1:=yv) (w':=H) (λe he=>by have he:=he;rw[hyk] at he;cases he) (λ_ _ _=>rfl) (zag _) rfl rfl rfl (λb A=>by cases A) trivial (λi hi _=>by cases hi;rw[hTi];exact .inl (by show yv=if J ns=J ns then yv else _;simp));have J9:(#[yv]++⟨cs⟩:Array W)=⟨yv::cs⟩:=by apply zbo.1;simp
  rw[J9];have cW: ∀(i:Nat) (v:W) (p:P),(yv::cs)[i]?=Z v->(P.mp (J ns) 0::oL (toPos s.rg ns) dA)[i]?=Z p->aL F H (gj Gi (J ns) yv) (ins (J ns) ⟨0,Z (J ns),.cS⟩ R0) v p:=λi v p h1 h2=>by
   cases i with
   |zero=>simp only[List.getElem?_cons_zero,zai] at h1 h2;subst h1;subst h2;exact .mp _ _ _ gT ⟨_,aX _ _ _,zag _,λ_ _=>(aM _ _ _).symm⟩
   |succ i=>simp only[zcE] at h1 h2;rw[kB,zap] at h2;obtain⟨q,hq,rfl⟩:=h2;exact aL.mono (λ_ h=>h) (λb A=>U b (h.gL b A)) (fA λe he=>by rw[hyk] at he;cases he) (pL b2 (kM i v q h1 hq))
  have hlen:J (yv::cs)=J (P.mp (J ns) 0::oL (toPos s.rg ns) dA):=by simp[kC,A1]
  have tZ:ax Q Ti F (gj Gi (J ns) yv) H {tmps:=(⟨yv::cs⟩:Array W)++pt (fn.ntmps-(⟨yv::cs⟩:Array W).size) undef,defers:=[]} ⟨fn.ntmps,eO 0 (.mp (J ns) 0::oL (toPos s.rg ns) dA),ins (J ns) ⟨0,Z (J ns),.cS⟩ R0⟩:=by
   refine de.state (R:=ins (J ns) ⟨0,Z (J ns),.cS⟩ R0) I4 rfl .nil (by simp;omega) (λt p l=> ?_);obtain⟨_,h2⟩:=mA _ 0 t p l;simp only[Nat.sub_zero] at h2;have aZ:t<J (yv::cs):=by have:=(zab.1 h2).1;omega
   have e:((⟨yv::cs⟩:Array W)++pt (fn.ntmps-(⟨yv::cs⟩:Array W).size) undef).getD t undef=(yv::cs)[t]:=by rw[fB];simp only[Array.toList_append];rw[zaP aZ,zae aZ];rfl
   rw[e];exact bR.of (cW t _ p (zae aZ) h2)
  obtain⟨q0,_⟩:=pX ns s h;obtain⟨G5,q1,v5⟩:=eA q0 hhd;have qga: ∀b,Own G5 s0.rg b->Own G (lF s.rg ns) b:=λb A=>by
   rcases v5.jT b A with L |L
   ·exact L
   have:=q1.k9 A;omega
  have C9: ∀d∈a.defers,∃D,d={target:= .collected D,args:= #[]}/\D<w.heap.size/\ ¬Own G s.rg D:=λd hd=>by obtain⟨D,k1,_,k2,_,k3⟩:=h.oR.2 d hd;exact⟨D,k1,(zar.1 k2).1,k3⟩
  have DO: ∀b,w.heap.size<=b-> ∀d∈a.defers,d≠{target:= .collected b,args:= #[]}:=λb A d hd e=>by
   obtain⟨D,k1,k2,_⟩:=C9 d hd;rw[k1] at e;injection e with e1 e2
   injection e1 with e1
   omega
  have q2:=q1.other (λb A=>U b (q1.gL b A)) (λb A=>U b (q1.k9 A)) (λd hd D hD=>by
   obtain⟨D',k1,k2,_⟩:=C9 d hd;rw[k1] at hD;injection hD with e1 e2
   injection e1 with e1
   subst e1;exact U _ k2) (by omega) (by rw[KO.1];exact h.dr)
  have q3:ax Q T F G5 H {a with defers:={target:= .collected w.heap.size,args:= #[]}::a.defers} s0:=by
   refine⟨⟨zaU.2 ⟨λhd=>DO _ (zag _) _ hd rfl,q2.oR.1⟩,λd hd=> ?_⟩,q2.size,q2.tm,q2.rg,q2.own,q2.jb,q2.gL,q2.tag,q2.z,q2.dr,q2.sz⟩;rcases zao.1 hd with rfl |hd
   ·exact⟨_,rfl,⟨h.sz,hm⟩,hK1,λhf=>Nat.lt_irrefl _ (h.gL _ hf),λho=>Nat.lt_irrefl _ (q1.k9 ho)⟩
   exact q2.oR.2 d hd
  obtain⟨B,hB⟩: ∃B:pU Q,B=⟨T,{a with defers:={target:= .collected w.heap.size,args:= #[]}::a.defers},w.heap.size+1,lp,Own G s.rg,F,H⟩:=⟨_,rfl⟩
  have mq:Setup B Ti (J ns) T.w0 ps assign bd:=by subst hB;subst hTi;subst KN;exact⟨rfl,rfl,rfl,by show(if J ns=J ns then yv else _)=_;rw[zau rfl,<-I5],⟨rfl,rfl,rfl⟩,rfl,rfl,rfl⟩
  have hat:B.at (.normal,s0) H F (Own (gj Gi (J ns) yv) (ins (J ns) ⟨0,Z (J ns),.cS⟩ R0)):=by
   subst hB;show qu Q T {a with defers:={target:= .collected w.heap.size,args:= #[]}::a.defers} (w.heap.size+1) lp (Own G s.rg) F H (.normal,s0) H F _;refine⟨by subst KN;exact hL1,F,G5,q3,⟨λhf=>(by have:=h.gL _ hf;omega),λho=>(by have:=q1.k9 ho;omega),λd hd e=> ?_⟩,λ_ h=>h,λb A=> ?_,⟨λ_ h=>h,λ_ h=> .inl h,λb A=> .inl ?_,λ_ _ _=>rfl,zag _,rfl,rfl,rfl⟩⟩
   ·rcases zao.1 hd with rfl |hd
    ·injection e with e1 e2
     injection e1 with e1
     omega
    exact DO _ (by omega) d hd e
   ·have xd:Own Gi R0 b:=by
     rcases NV.jT b A with L |L
     ·exact L
     have:=I4.k9 A;omega
    obtain⟨n,e,h1,h2,h3⟩:=b3 b xd;have aZ:=h.k9 ⟨n,e,h2,h3⟩;refine⟨h.jb n e b h2 h3,λho=> ?_,(by show b≠w.heap.size+1;omega),.inl ⟨n,e,h2,h3⟩,λd hd e'=> ?_⟩
    ·obtain⟨m,e',k1,k2,k3⟩:=yI h (qga _ ho);exact k1 (h.own m n e' e b k2 h2 k3 h3▸h1)
    rcases zao.1 hd with rfl |hd
    ·injection e' with e1 e2
     injection e1 with e1
     omega
    obtain⟨D,k1,k2,k3⟩:=C9 d hd;rw[k1] at e';injection e' with e1 e2
    injection e1 with e1
    subst e1;exact k3 ⟨n,e,h2,h3⟩
   obtain⟨m,e,_,k2,k3⟩:=yI h (qga _ A);exact⟨m,e,k2,k3⟩
  have hTW:=iR (B:=B) (Ti:=Ti) eZ (by rw[mq.w0i];exact hX) hdr (mq.w0i.trans mq.w0b.symm) mq.V8 mq.yv mq.lp (asg:=asg) (body:=body) (base:=base) (keep:=keep) (λval lo s E l=>by rw[mq.w0b,mq.asg];exact qF val lo s E l) (λval lo s E l=>by rw[mq.w0b,mq.body];exact dt val lo s E l)
   (hk:=hk f (J ns)) (dc:=dc f) c (iP Kt f fn c fj hc) (λd hd L hh x E l=>hl f fn c fj hc d hd (J ns) L hh B Ti mq x E l) _ _ (by rw[mq.ps];exact l)
  refine hTW F _ H _ _ tZ hat λe s1 c1 a1 w1 ou ⟨F',G',k1,k2⟩=> ?_;have hd0:a1.defers=[]:=by
   cases Xp:a1.defers with
   |nil=>rfl
   |cons d ds=>obtain⟨_,_,h0,_⟩:=k1.oR.2 d (by rw[Xp];simp);rw[mq.V8] at h0;cases h0.2
  have fin:E c1->LeavesInM Fence.wide 0 Q fn a1.tmps (rangePost (wd Y) 0 Q (w.heap.size+1) Q' {a with defers:=[{target:= .collected w.heap.size,args:= #[]}]++a.defers}) a1.defers .returning w1:=λdV=>by
   rw[hd0];obtain⟨us,u1,_⟩:=pR k1 (fn:=fn) (ps:=[]) (by rw[KB];rfl);refine⟨_,u1,?_⟩;subst hB;have k2:qu Q T {a with defers:={target:= .collected w.heap.size,args:= #[]}::a.defers} (w.heap.size+1) lp (Own G s.rg) F H c1 w1 F' (Own G' s1.rg):=k2;obtain⟨l1,F2,G2,m1,m2,m3,m4,m5⟩:=k2;refine⟨_,_,run_endLoop l1 (by simp only[QG];split<;>simp),?_⟩;have qtv:w.heap.size+1<w1.heap.size:=(zar.1 l1).1;have final:Q' c1.1.gu {a with defers:=[{target:= .collected w.heap.size,args:= #[]}]++a.defers} (w1.putObj (w.heap.size+1) (.loop {QG lp c1.1 with state:= .exhausted})):=by
    refine hK c1.1 c1.2 _ _ dV ⟨F2,G2,m1.Ht m2 _,m5.iK,λb A=> ?_,λb A=> ?_,λb A cD=> ?_,?_,m5.os.trans KO.2.1,m5.tape.trans KO.2.2.1,m5.output.trans KO.2.2.2⟩
    ·rcases m5.lz b A with L |L |L
     ·exact .inl L
     ·exact .inr (.inl L)
     simp at L;exact .inr (.inr (by omega))
    ·rcases m5.jT b A with L |L
     ·exact .inl L
     simp at L;exact .inr (by omega)
    ·have L:=m5.keep b (by simp;omega) cD;rw[fD _ _ _ (by omega),fD _ _ _ (by omega)] at L;rw[fD _ _ _ (by omega),L];exact U b A
    simp;omega
   obtain⟨c1x,c1s⟩:=c1;cases c1x with
   |normal=>exact final
   |exit id=>exact wpIn_exit final
   |ret=>exact wpIn_ret final
  cases e with
  |normal=>exact fin ou
  |ret=>exact fin ou
  |exit id=>exact ou.elim
 |_=>exact l.elim
def qcN(m:S×(PX×S)->K (PX×S×(PX×S))) keep y:=
 IH (m y) λx=>match x.1 with
  | .normal=>IH (K.dN (cQ keep x.2.1)) λs2=>K.ret (.normal,s2,x.2.2)
  |_=>IH (K.dN (dD keep x.2.1)) λs2=>K.ret (x.1,s2,x.2.2)
def Ou(n:Nat)(I:Nat->S×(PX×S)->Prop)(O:PX×S×(PX×S)->Prop)(x:PX×S×(PX×S)):Prop:=match x.1 with | .normal=> ∃m,m<n/\I m x.2 |_=>O x
def j7(keep:Option (List Nat×List Nat))(g:S×(PX×S)->K (PX×S×(PX×S))):S×(PX×S)->K (PX×S×(PX×S)):=λy E=>match cQ keep y.1 with |Z s0=>g (s0,y.2) E |Y=>False
end
end Pi
namespace Pi
open Go
section
variable{Q:M}{F:Nat->Prop}{G:Nat->W}{w:World}{R:List (Nat×En)}{V:Nat->W}{w0:World}
theorem de.KP(h:de Q ⟨V,w0,0,C⟩ F G w R){H G1 l}(U: ∀n e,lk l n=Z e->ny Q F w G1 l n e.obj)
  (hd: ∀n m e e' b,lk l n=Z e->lk l m=Z e'->a7 (G1 n) e.obj b->a7 (G1 m) e'.obj b->n=m) (L: ∀b,Own G1 l b->Own G R b)
  (A: ∀n e i,lk l n=Z e->e.tag=Z i->e.obj.live=O->jk (G1 n) (H i)):de Q ⟨H,w0,0,C⟩ F G1 w l:=
 ⟨fM.nil,h.size,λt p A=>by(cases A),U,hd,λn e b X hb hF=>by obtain⟨m,e1,h1,h2⟩:=L b ⟨n,e,X,hb⟩;exact h.jb m e1 b h1 h2 hF,h.gL,A,h.z,h.dr,h.sz⟩
theorem de.back(h:de Q ⟨V,w0,0,C⟩ F G w R){V1 G1 G2 R1 R2 F2 w2}(h2:de Q ⟨V1,w0,0,C⟩ F2 G2 w2 R2)
  (A:Ext (Own G1 R1) (Own G2 R2) F F2 w w2) (hs: ∀b,Own G1 R1 b->Own G R b) {V3 X U} (ho: ∀n e,lk U n=Z e->ny Q F w2 X U n e.obj)
  (hd: ∀n m e e' b,lk U n=Z e->lk U m=Z e'->a7 (X n) e.obj b->a7 (X m) e'.obj b->n=m) (hn: ∀b,Own X U b->Own G2 R2 b\/Own G R b)
  (ht: ∀n e i,lk U n=Z e->e.tag=Z i->e.obj.live=O->jk (X n) (V3 i)):de Q ⟨V3,w0,0,C⟩ F X w2 U/\Ext (Own G R) (Own X U) F F w w2:=by
 have hk: ∀b,F b->w2.heap[b]?=w.heap[b]?:=λb l=>A.keep b (h.gL b l) λho=>by obtain⟨m,e1,L,H⟩:=hs b ho;exact h.jb m e1 b L H l
 refine⟨⟨fM.nil,h2.size,λt p ht=>by(cases ht),ho,hd,λn e b he l hF=> ?_,λb l=>zaR (h.gL b l) A.size,ht,λb l=>⟨(h.z b l).1,(hk b (h.z b l).1).trans (h.z b l).2⟩,h2.dr,h2.sz⟩,
  λ_ h=>h,λ_ h=> .inl h,λb l=> ?_,λb l cD=>A.keep b l λh=>cD (hs b h),A.size,A.os,A.tape,A.output⟩
 ·rcases hn b ⟨n,e,he,l⟩ with L |L
  ·obtain⟨m,e1,H,h5⟩:=L;exact h2.jb m e1 b H h5 (A.iK b hF)
  obtain⟨m,e1,H,h5⟩:=L;exact h.jb m e1 b H h5 hF
 rcases hn b l with L |L
 ·rcases A.jT b L with H |H
  ·exact .inl (hs b H)
  exact .inr H
 exact .inl L
end
end Pi
namespace Pi
open Go
section
variable{Q:M}{T:Tg}{F F1:Nat->Prop}{G G1:Nat->W}{w:World}{a:Act}{s s1:S}
theorem ax.KP(h:ax Q T F G w a s)(U:s1.n=s.n)(l:Ext (Own G s.rg) (Own G1 s1.rg) F F1 w w)(hF: ∀b,F1 b->b<w.heap.size)
  (H: ∀t p,lk s1.tm t=Z p->bR F1 w G1 s1.rg a.tmps (a.tmps.getD t undef) p) (L: ∀n e,lk s1.rg n=Z e->ny Q F1 w G1 s1.rg n e.obj)
  (hd: ∀n m e e' b,lk s1.rg n=Z e->lk s1.rg m=Z e'->a7 (G1 n) e.obj b->a7 (G1 m) e'.obj b->n=m) (hf: ∀n e b,lk s1.rg n=Z e->a7 (G1 n) e.obj b-> ¬F1 b)
  (X: ∀n e i,lk s1.rg n=Z e->e.tag=Z i->e.obj.live=O->jk (G1 n) (T i)):ax Q T F1 G1 w a s1:=
 ⟨h.oR.go l,by rw[U];exact h.size,H,L,hd,hf,hF,X,λb A=>⟨l.iK b (h.z b A).1,(h.z b A).2⟩,h.dr,h.sz⟩
theorem TW.KP{c E}(h: ∀F G w a,ax Q T F G w a s-> ∃F1 G1 s1 Xq,ax Q T F1 G1 w a s1/\Ext (Own G s.rg) (Own G1 s1.rg) F F1 w w/\TW Q T c s1 Xq/\ ∀e s2 F2 U l H,Xq (e,s2)->ax Q T F2 U l H s2->Ext (Own G1 s1.rg) (Own U s2.rg) F1 F2 w l->
   ∃X L A,ax Q T X L l H A/\Ext (Own G s.rg) (Own L A.rg) F X w l/\E (e,A)):TW Q T c s E:=by
 intro r oi F G w a Q' hs hK;obtain⟨F1,G1,s1,Xq,h1,h2,h3,h4⟩:=h F G w a hs;exact h3 oi F1 G1 w a Q' h1 λe s2 H l hp ⟨F2,U,k1,k2⟩=>by obtain⟨X,L,A,m1,m2,m3⟩:=h4 e s2 F2 U l H hp k1 k2;exact hK e A H l m3 ⟨X,L,m1,m2⟩
theorem ax.KQ(h:ax Q T F G w a s){n e1 g1}(fh:mj G s.rg n e1 g1)(hblk: ∀b,a7 g1 e1.obj b-> ¬F b/\ ∀m e,n≠m->lk s.rg m=Z e-> ¬a7 (G m) e.obj b)
  (ho:ny Q F w (Pi.gj G n g1) (ins n e1 s.rg) n e1.obj) (qcm: ∀i,e1.tag=Z i->e1.obj.live=O->jk g1 (T i)) (qlK: ∀b,a7 g1 e1.obj b-> ∀d,w.heap[b]?≠Z (.deferred d)):
  ax Q T F (Pi.gj G n g1) w a {s with rg:=ins n e1 s.rg}/\Names G (Pi.gj G n g1) s.rg (ins n e1 s.rg):=by
 have X:=fA fh;have H: ∀m e,lk (ins n e1 s.rg) m=Z e->(m=n/\e=e1)\/(n≠m/\lk s.rg m=Z e):=λm e l=>by grind [aX,br]
 have U:fM T F (Pi.gj G n g1) (ins n e1 s.rg) w a.defers:=⟨h.oR.1,λd hd=>by
  obtain⟨D,k1,k0,k2,k3,k4⟩:=h.oR.2 d hd;refine⟨D,k1,k0,k2,k3,λ⟨m,e,l,A⟩=> ?_⟩;rcases H m e l with⟨rfl,rfl⟩| ⟨hm,l⟩
  ·rw[aM] at A;grind
  rw[bW _ (za0 hm)] at A;exact k4 ⟨m,e,l,A⟩⟩
 refine⟨⟨U,h.size,λt p hp=>(h.tm t p hp).mono (λ_ h=>h) (λ_ _=>rfl) X,?_,?_,?_,h.gL,?_,h.z,h.dr,h.sz⟩,X⟩
 ·intro m e l;rcases H m e l with⟨rfl,rfl⟩| ⟨hm,l⟩
  ·exact ho
  exact(h.rg m e l).mono (λ_ h=>h) (λ_ _=>rfl) X (bW _ (za0 hm)) (λb A=>rfl)
 ·intro m1 m2 e e' b l cP A L;rcases H m1 e l with⟨rfl,rfl⟩| ⟨M1,zh⟩<;>rcases H m2 e' cP with⟨rfl,rfl⟩| ⟨EI,I2⟩
  ·rfl
  ·rw[aM] at A;rw[bW _ (za0 EI)] at L;grind
  ·rw[aM] at L;rw[bW _ (za0 M1)] at A;grind
  rw[bW _ (za0 M1)] at A;rw[bW _ (za0 EI)] at L;exact h.own _ _ _ _ b zh I2 A L
 ·intro m e b l A;rcases H m e l with⟨rfl,rfl⟩| ⟨hm,l⟩
  ·rw[aM] at A;grind
  rw[bW _ (za0 hm)] at A;exact h.jb m e b l A
 intro m e i l hi hl;rcases H m e l with⟨rfl,rfl⟩| ⟨hm,l⟩
 ·rw[aM];grind
 rw[bW _ (za0 hm)];exact h.tag m e i l hi hl
theorem ax.pY(h:ax Q T F G w a s){t p}(H:bR F w G s.rg a.tmps (a.tmps.getD t undef) p):ax Q T F G w a {s with tm:=ins t p s.tm}:=by
 refine⟨h.oR,h.size,λl q A=> ?_,h.rg,h.own,h.jb,h.gL,h.tag,h.z,h.dr,h.sz⟩;by_cases e:t=l
 ·grind [aX]
 rw[br _ _ e] at A;exact h.tm l q A
theorem ax.qlL(h:ax Q T F G w a s)(U: ∀b,F b->F1 b)(hb: ∀b,F1 b->F b\/(b<w.heap.size/\ ¬Own G s.rg b))(qlK: ∀b,F1 b-> ¬F b-> ∀d,w.heap[b]?≠Z (.deferred d)):ax Q T F1 G w a s:=by
 have L:fM T F1 G s.rg w a.defers:=⟨h.oR.1,λd hd=>by obtain⟨D,k1,k0,k2,k3,k4⟩:=h.oR.2 d hd;grind⟩
 have X:Names G G s.rg s.rg:=Nm _ _;refine⟨L,h.size,λt p hp=>(h.tm t p hp).mono U (λ_ _=>rfl) X,λn e H=>(h.rg n e H).mono U (λ_ _=>rfl) X rfl (λ_ _=>rfl),h.own,λn e b H A hf=> ?_,λb l=> ?_,h.tag,λb l=>⟨U _ (h.z b l).1,(h.z b l).2⟩,h.dr,h.sz⟩
 ·rcases hb b hf with l | ⟨_,l⟩
  ·exact h.jb n e b H A l
  exact l ⟨n,e,H,A⟩
 rcases hb b l with l | ⟨l,_⟩
 ·exact h.gL b l
 exact l
variable{kp:qB}
def qcO Q m (fn:Func)(E:P×List (Nat×En)->Prop)(x:PX×S):=
 (x.1= .normal\/x.1= .ret)/\ ∃qs y,cO Q x.2 fn.results.toList=Z qs/\finish Q m fn.resultTypes.toList qs x.2=Z y/\E y
theorem zm.qrr{w0 h f fn}{c}(fj:Q.funcs[f]?=Z fn)(hc:fn.body=Z c)(iO:(fn.name== "runtime.NumGoroutine")=C)
  (hb: ∀ps R E,h ps R E-> ∀(val:Nat->W) (lo:Nat),TW Q ⟨val,w0,lo,O⟩ c ⟨fn.ntmps,eO 0 (iw (kp f 999999) Q fn.params.toList ps),R⟩ (qcO Q (J R) fn E)):zm Q w0 f h:=by
 intro ps R E hr F G w vs hH l hv;left;refine⟨by simp[callFunc,fj,hc];grind,?_⟩;refine js fj hc ?_;have hl':J vs=J (iw (kp f 999999) Q fn.params.toList ps):=by rw[tY];exact l
 have Ey:=xv (Q:=Q) (kp f 999999) fn.params.toList ps vs hv;have tZ:ax Q ⟨G,w0,w.heap.size,O⟩ F G w {tmps:=(⟨vs⟩:Array W)++pt (fn.ntmps-(⟨vs⟩:Array W).size) undef,defers:=[]} ⟨fn.ntmps,eO 0 (iw (kp f 999999) Q fn.params.toList ps),R⟩:=by refine(de.lo hH (zag _)).state rfl .nil (by simp;omega) (λt p U=> ?_);obtain⟨_,h2⟩:=mA _ 0 t p U;grind [fB,bR.of]
 refine hb ps R E hr G w.heap.size (r:=Y) (λ_=>rfl) F G w _ _ tZ λe s1 X w' U hP=> ?_;obtain⟨F',H,h1,h2⟩:=hP;obtain⟨A,qs,y,hq,Vb,L⟩:=U;have fin:LeavesInM Fence.wide 0 Q fn X.tmps (λe w'=> ∃v2,e= .returned v2/\ ∃y:P×List (Nat×En),E y/\ ∃F' H,de Q ⟨G,w0,0,C⟩ F' H w' y.2/\aL F' w' H y.2 v2 y.1/\Ext (Own G R) (Own H y.2) F F' w w') X.defers .returning w':=by refine vw (T:=⟨G,w0,w.heap.size,O⟩) (own0:=Own G R) (F0:=F) (w1:=w) (zag _) (λw2 h3 h4=> ?_) X.defers w' h1 h2;obtain⟨us,g1,g2,g3⟩:=pR h3 hq;obtain⟨F2,G2,k1,k2,k3⟩:=xu h3 Vb g2 g3;exact⟨_,g1,_,rfl,y,L,F2,G2,k1.lo,k2,h4.trans k3⟩
 cases e with
 |normal=>exact fin
 |ret=>exact fin
 |exit id=>rcases A with A |A<;>cases A
end
end Pi
namespace Pi
open Go
def dH:Code->List Code
 | .region id ops draw=>[.region id ops draw]
 | .seq a b=>dH a++dH b
 | .cond _ a b=>dH a++dH b
 | .block _ c | .scope c | .loop c=>dH c
 |_=>[]
def eu(Q:M)(kf:KF)(l:List (FuncId×bc))(hk:List (Nat×(S->K (PX×S))))(dc:Nat->Nat):Code->S->K (PX×S)
 | .skip,s=>K.ret (.normal,s)
 | .label _,s=>K.ret (.normal,s)
 | .region id ops draw,s=>match lk hk (1000000+id) with
  |Z h=>h s
  |Y=>IH (if draw then Ew Q kf ops.toList (dc id) s else if hasNext ops.toList || !l.isEmpty then cu (fN Q) Q kf l ops.toList ops.toList [] s else ly Q kf ops.toList ops.toList [] s) λs1=>K.ret (.normal,s1)
 | .seq a b,s=>IH (eu Q kf l hk dc a s) λx=>match x.1 with
  | .normal=>eu Q kf l hk dc b x.2
  |_=>K.ret x
 | .cond c x y,s=>match s.ev c with
  | .d (.bool b)=>IH (K.dec b) λr=>if r then eu Q kf l hk dc x s else eu Q kf l hk dc y s
  |_=>GE
 | .block id c,s=>IH (eu Q kf l hk dc c s) λx=>match x.1 with
  | .exit oN=>if bo oN id then K.ret (.normal,x.2) else K.ret x
  |_=>K.ret x
 | .loop c,s=>match lk hk (No c) with
  |Z h=>h s
  |Y=>GE
 | .scope c,s=>eu Q kf l hk dc c s
 | .exit id,s=>K.ret (.exit id,s)
 | .ret,s=>K.ret (.ret,s)
 |_,_=>GE
section
variable{Q:M}{T:Tg}{kp:qB}
theorem fE{HN:List (FuncId×bc)}(A: ∀f h,lk HN f=Z h->zm Q T.w0 f h){kf}(eZ:tW kf (eL Q kp))(L:b7 Q T.w0 kp.X)(hdr:Q.follows .mixedOrders=O){hk dc}: ∀c,cC dc c=O->
  (∀d∈aH c,∀h,lk hk (No d)=Z h-> ∀s E,h s E->TW Q T (.loop d) s E)->(∀d∈dH c,∀h,lk hk (1000000+No d)=Z h-> ∀s E,h s E->TW Q T d s E)-> ∀s E,eu Q kf HN hk dc c s E->TW Q T c s E
 | .skip,_,_,_,s,E,hp=>λr oi F G w a Q' H U=>wpIn_skip (U .normal s a w hp ⟨F,G,H,Mo _ _ _⟩)
 | .label _,_,_,_,s,E,hp=>λr oi F G w a Q' H U=>wpIn_label (U .normal s a w hp ⟨F,G,H,Mo _ _ _⟩)
 | .region id ops draw,hl,hh,hg,s,E,hp=>by
  cases M5:lk hk (1000000+id) with
  |some h=>simp only[eu,M5] at hp;exact hg (.region id ops draw) (by simp[dH]) h M5 s E hp
  |none=>
   simp only[eu,M5] at hp;have hG:ec (fN Q) Q kf HN (λ_=>Y) [] dc (.region id ops draw) s E:=by unfold ec;exact hp
   exact gG (nx:=fN Q) (λ_ _ _ _ h=>h) A eZ L hdr (kp1:=λ_=>Y) (hk:=[]) (dc:=dc) (.region id ops draw) hl (λd hd=>by simp[aH] at hd) (λx hx=>by simp[cr] at hx) s E hG
 | .seq x y,hl,hh,hg,s,E,hp=>by
  unfold eu at hp;have Db:cC dc x=O/\cC dc y=O:=by simpa [cC] using hl
  refine TW.seq (fE A eZ L hdr x Db.1 (λd hd=>hh d (by simp[aH,hd])) (λd hd=>hg d (by simp[dH,hd])) s _ hp) (λs1 l=>fE A eZ L hdr y Db.2 (λd hd=>hh d (by simp[aH,hd])) (λd hd=>hg d (by simp[dH,hd])) s1 E l) λe s1 he l=> ?_;cases e with
  |normal=>grind
  |exit id=>exact l
  |ret=>exact l
 | .cond c x y,hl,hh,hg,s,E,hp=>by
  unfold eu at hp;have Db:cC dc x=O/\cC dc y=O:=by simpa [cC] using hl
  have hbx: ∃b,s.ev c= .d (.bool b):=by
   cases hb:s.ev c with
   |d x=>
    cases x with
    |bool b=>simp
    |_=>simp only[hb] at hp;exact hp.elim
   |_=>simp only[hb] at hp;exact hp.elim
  obtain⟨b,hb⟩:=hbx;simp only[hb] at hp;refine TW.cond hb ?_;cases b with
  |true=>exact fE A eZ L hdr x Db.1 (λd hd=>hh d (by simp[aH,hd])) (λd hd=>hg d (by simp[dH,hd])) s E hp
  |false=>exact fE A eZ L hdr y Db.2 (λd hd=>hh d (by simp[aH,hd])) (λd hd=>hg d (by simp[dH,hd])) s E hp
 | .block id c,hl,hh,hg,s,E,hp=>by
  unfold eu at hp;refine TW.block (fE A eZ L hdr c hl (λd hd=>hh d (by simpa [aH] using hd)) (λd hd=>hg d (by simpa [dH] using hd)) s _ hp) λe s1 l=> ?_;cases e with
  |normal=>exact l
  |ret=>exact l
  |exit oN=>
   simp only at l⊢;split
   next h=>rw[zau h] at l;exact l
   rename_i h;rw[zat h] at l;exact l
 | .loop c,hl,hh,hg,s,E,hp=>by
  cases M5:lk hk (No c) with
  |some h=>simp_all [eu,aH]
  |none=>simp only[eu,M5] at hp;exact hp.elim
 | .scope c,hl,hh,hg,s,E,hp=>by unfold eu at hp;exact TW.scope (fE A eZ L hdr c hl (λd hd=>hh d (by simpa [aH] using hd)) (λd hd=>hg d (by simpa [dH] using hd)) s E hp)
 | .exit id,_,_,_,s,E,hp=>λr oi F G w a Q' H U=>wpIn_exit (U (.exit id) s a w hp ⟨F,G,H,Mo _ _ _⟩)
 | .ret,_,_,_,s,E,hp=>λr oi F G w a Q' H U=>wpIn_ret (U .ret s a w hp ⟨F,G,H,Mo _ _ _⟩)
 | .rangeFunc g ps a b,_,_,_,s,E,hp=>by unfold eu at hp;exact hp.elim
 | .goto _,_,_,_,s,E,hp=>by unfold eu at hp;exact hp.elim
 | .refuse _,_,_,_,s,E,hp=>by unfold eu at hp;exact hp.elim
def zS(id:Nat):List Code->Option Code
 | []=>Y
 |c::r=>if bo (No c) id then Z c else zS id r
def nP(Q:M)(f:FuncId)(id:Nat):Code:=
 match Q.funcs[f]? with
 |Z fn=>(match fn.body with |Z c=>(zS id (dH c)).getD .skip |Y=> .skip)
 |Y=> .skip
def E4(Q:M)(f:FuncId):Bool:=
 match Q.funcs[f]? with
 |Z fn=>(match fn.body with |Z c=>eI ((dH c).map No)|Y=>O)
 |Y=>O
theorem BF{d}: ∀l,(l.map No).Nodup->d∈l->zS (No d) l=Z d
 | [],_,h=>by simp at h
 |c::r,hn,h=>by
  simp only[zaS,zaU] at hn;simp only[zS];rcases zao.1 h with rfl |h
  ·simp
  split
  ·grind [mi,List.mem_map_of_mem,No]
  exact BF r hn.2 h
theorem fc{x d}: ∀c,d∈aH c->x∈dH d->x∈dH c
 | .seq a b,hd,hx=>by simp only[aH,zaK] at hd;simp only[dH,zaK];exact hd.imp (λh=>fc a h hx) λh=>fc b h hx
 | .cond _ a b,hd,hx=>by simp only[aH,zaK] at hd;simp only[dH,zaK];exact hd.imp (λh=>fc a h hx) λh=>fc b h hx
 | .block _ c,hd,hx=>by exact fc c hd hx
 | .scope c,hd,hx=>by exact fc c hd hx
 | .loop c,hd,hx=>by
  simp only[aH,zao] at hd;rcases hd with rfl |hd
  ·exact hx
  exact fc c hd hx
 | .region ..,hd,_ | .skip,hd,_ | .label _,hd,_ | .exit _,hd,_ | .ret,hd,_ | .rangeFunc ..,hd,_ | .goto _,hd,_ | .refuse _,hd,_=>by simp[aH] at hd
theorem KR{f fn c d}(l:Q.funcs[f]?=Z fn)(h:fn.body=Z c)(hu:E4 Q f=O)(hd:d∈dH c):nP Q f (No d)=d:=by grind [E4,nP,BF,dj]
theorem iS{r nx}(zP: ∀s dst p E,nx s dst p E->fN Q s dst p E){L:List (FuncId×bc)}(jd: ∀f h,lk L f=Z h->zm Q T.w0 f h){kf cf}(eZ:tW kf cf)(gm: ∀a b,b7 Q T.w0 (cf a b)){ops A Q' E}: ∀l kn F G w a s,iA kn s->ax Q T F G w a s->cu nx Q kf L ops l kn s E->
  (∀s' U w',E s'->jc Q T F G w s s' U w'->wpListIn (wd r) 0 Q ops.toArray Q' A U w')->wpListIn (wd r) 0 Q ops.toArray Q' (l++A) a w
 | [],kn,F,G,w,a,s,_,h,H,hK=>by unfold cu at H;exact hK s a w H ⟨F,G,h,Mo _ _ _⟩
 |o::l,kn,F,G,w,a,s,eb,h,H,hK=>by
  cases X:oz o with
  |some it=>
   simp only[cu,X] at H;have M4:o.guard=Y:=by
    unfold oz at X;split at X
    ·simp_all
    cases X
   have:o.wpIn (wd r) 0 Q a w (wpListIn (wd r) 0 Q ops.toArray Q' (l++A)) Q':=Hr h X (E:=λs1=>cu nx Q kf L ops l [] s1 E) (by
    have e:(λs1:S=>s1.force λs1=>cu nx Q kf L ops l [] s1)=λs1=>cu nx Q kf L ops l [] s1:=by funext s1;rw[S.force_eq]
    rw[e] at H;exact zP _ _ _ _ H) λs1 a1 w1 ou ⟨F1,G1,g1,g2⟩=>iS zP jd eZ gm l _ F1 G1 w1 a1 s1 (iA.nil s1) g1 ou λs' U w' jU hP=>hK s' U w' jU (hP.trans g2)
   exact cJ (by rw[zau (by simp[Region.wanted,M4])];exact this)
  |none=>
  cases A1:KI L s o with
  |some fx=>
   simp only[cu,X,A1] at H;have e:(λs1:S=>s1.force λs1=>cu nx Q kf L ops l [] s1)=λs1=>cu nx Q kf L ops l [] s1:=by funext s1;rw[S.force_eq]
   rw[e] at H;obtain⟨M4,this⟩:=KK (K:=wpListIn (wd r) 0 Q ops.toArray Q' (l++A)) (Q':=Q') jd h A1 (E:=λs1=>cu nx Q kf L ops l [] s1 E) H λs1 a1 w1 ou ⟨F1,G1,g1,g2⟩=>iS zP jd eZ gm l _ F1 G1 w1 a1 s1 (iA.nil s1) g1 ou λs' U w' jU hP=>hK s' U w' jU (hP.trans g2);exact cJ (by rw[zau (by simp[Region.wanted,M4])];exact this)
  |none=>simp only[cu,X,A1] at H;obtain⟨x,⟨hx,hk⟩,ou⟩:=rF eZ eb _ H;rw[S.force_eq] at ou;obtain⟨i,j,hx⟩:=hx.some;have iM:=eU (r:=r) (gm i j) h hx (K:=wpListIn (wd r) 0 Q ops.toArray Q' (l++A)) (Q':=Q') (λU w' ⟨F',G',g1,g2⟩=>iS zP jd eZ gm l _ F' G' w' U x.1 hk g1 ou (λs' a2 w2 jU H=>hK s' a2 w2 jU (H.trans g2)));exact cJ iM
def qh4{β:Type}:Option (List β)->Option (List β)->Option (List β)
 |Z L,Z L1=>Z (L1++L)
 |_,_=>Y
def anyS(Q:M)(cf:CF)(ops:List Oper):Nat->Array Bool->S->Option (List S)
 |0,listed,s=>match Region.ready .any ops.toArray listed with | []=>Z [s]|_=>Y
 |fuel+1,listed,s=>match Region.ready .any ops.toArray listed with
  | []=>Z [s]
  |rs=>rs.foldr (λi h=>qh4 h (ops[i]?.bind λo=>if o.guard.isNone then(bw Q cf ops s o).bind λs1=>anyS Q cf ops fuel (listed.setIfInBounds i O) s1 else Y)) (Z [])
theorem BG{α β:Type}{f:α->Option (List β)}: ∀{l:List α} {L:List β},l.foldr (λi A=>qh4 A (f i)) (Z [])=Z L-> ∀i∈l,∃H,f i=Z H/\ ∀s∈H,s∈L
 | [],_,_,i,hi=>by cases hi
 |x::l,L,h,i,hi=>by
  rw[List.foldr_cons] at h;unfold qh4 at h;split at h
  next L2 H U h2=>
   cases h;rcases zao.1 hi with rfl |hi
   ·grind
   obtain⟨L3,h3,X⟩:=BG U i hi;grind
  cases h
theorem QH{r cf}(gm:b7 Q T.w0 cf){ops Q'}: ∀fuel l L F G w a s,ax Q T F G w a s->anyS Q cf ops fuel l s=Z L->
  (∀s' X w',s'∈L->jc Q T F G w s s' X w'->Q' .normal X w')->wpAnyIn (wd r) 0 Q .any ops.toArray Q' fuel l a w
 |0,l,L,F,G,w,a,s,h,hp,hK=>by
  unfold anyS at hp;cases A:Region.ready .any ops.toArray l with
  |nil=>simp only[A,zai] at hp;subst hp;exact⟨A,hK s a w (by simp) ⟨F,G,h,Mo _ _ _⟩⟩
  |cons i0 rs=>grind
 |fuel+1,l,L,F,G,w,a,s,h,hp,hK=>by
  unfold anyS at hp;cases A:Region.ready .any ops.toArray l with
  |nil=>simp only[A,zai] at hp;subst hp;exact⟨λ_=>hK s a w (by simp) ⟨F,G,h,Mo _ _ _⟩,λi U=>by rw[A] at U;cases U⟩
  |cons i0 rs=>
   simp only[A] at hp;refine⟨λe=>(by rw[A] at e;cases e),λi U=> ?_⟩;rw[A] at U;obtain⟨L1,H,h2⟩:=BG hp i U;obtain⟨o,ho,H⟩:=zbs.1 H;split at H
   ·rename_i hg0;have hg:o.guard=Y:=by simpa using hg0
    obtain⟨s1,hs,H⟩:=zbs.1 H;unfold wpOpIn;have iM:=eU (r:=r) gm h hs (K:=wpAnyIn (wd r) 0 Q .any ops.toArray Q' fuel (l.setIfInBounds i O)) (Q':=Q') (λX w' ⟨F',G',g1,g2⟩=>QH gm fuel _ L1 F' G' w' X s1 g1 H λs' a2 w2 jU hP=>hK s' a2 w2 (h2 s' jU) (hP.trans g2));have hw:Region.wanted o (yielded ops.toArray a.tmps)=O:=by simp[Region.wanted,hg]
    grind
   cases H
theorem TW.any{cf}(X:b7 Q T.w0 cf)(hdr:Q.follows .mixedOrders=O){id n ops s s1}(L:anyS Q cf ops (J ops) (pt (J ops) C) s=Z (ee n s1)):TW Q T (.region id ops.toArray O) s (λx=>x=(.normal,s1)):=λr oi F G w a Q' H U=>by refine wpIn_region_any hdr ?_;refine QH X _ _ _ F G _ a s (H.drawn _ (zb5 _)) L λs' a' w' A ⟨F',G',l,h⟩=>U .normal s' a' w' (by rw[(List.mem_replicate.1 A).2]) ⟨F',G',l,⟨h.iK,h.lz,h.jT,h.keep,h.size,h.os,h.tape,h.output⟩⟩
def E5(Q:M)(kf:KF)(h:List (FuncId×bc))(kp:qB)(hk:List (Nat×(S->K (PX×S))))(dc:FuncId->Nat->Nat)(f:Nat)(ps:List P)(R:List (Nat×En)):K (P×List (Nat×En)):=
 match Q.funcs[f]? with
 |Y=>GE
 |Z fn=>match fn.body with
  |Y=>GE
  |Z c=>if fn.name== "runtime.NumGoroutine" then GE else IH (eu Q kf h hk (dc f) c ⟨fn.ntmps,eO 0 (iw (kp f 999999) Q fn.params.toList ps),R⟩) λx=>match x.1 with
   | .exit _=>GE
   |_=>match cO Q x.2 fn.results.toList with
    |Z qs=>uZ Q (J R) fn.resultTypes.toList qs x.2
    |Y=>GE
theorem zm.mkR{w0}{HN:List (FuncId×bc)}(jd: ∀f h,lk HN f=Z h->zm Q w0 f h){h f kf dc}{hk}(eZ:tW kf (eL Q kp))(hX:b7 Q w0 kp.X)(hdr:Q.follows .mixedOrders=O)(Kt:l7 dc 0 Q.funcs.toList=O)(hu:uniq Q f=O)(huR:vC Q f=O)(hug:E4 Q f=O)
  (hl: ∀id h,id<500000->lk hk id=Z h-> ∀(val:Nat->W) (lo:Nat) s E,h s E->TW Q ⟨val,w0,lo,O⟩ (.loop (bA Q f id)) s E)
  (xg: ∀id h,lk hk (1000000+id)=Z h-> ∀(val:Nat->W) (lo:Nat) s E,h s E->TW Q ⟨val,w0,lo,O⟩ (nP Q f id) s E)
  (U: ∀ps R E,h ps R E->E5 Q kf HN kp hk dc f ps R E):zm Q w0 f h:=by
 cases A:Q.funcs[f]? with
 |none=>intro ps R E H;have:=U ps R E H;simp only[E5,A] at this;exact this.elim
 |some fn=>
  cases L:fn.body with
  |none=>intro ps R E H;have:=U ps R E H;simp only[E5,A,L] at this;exact this.elim
  |some c=>
   cases iO:(fn.name== "runtime.NumGoroutine") with
   |true=>intro ps R E H;have:=U ps R E H;simp only[E5,A,L,iO,zbj] at this;exact this.elim
   |false=>
   refine zm.qrr (kp:=kp) A L iO λps R E H val lo=> ?_;have h1:=U ps R E H;simp only[E5,A,L,iO,zaF,zbk] at h1;refine TW.mono (fE (kp:=kp) (T:=⟨val,w0,lo,O⟩) jd eZ hX hdr c (iP Kt f fn c A L) (λd hd h hh s E hp=>by
    have:=hl _ h (E1 huR A L hd) hh val lo s E hp;have e:bA Q f (No d)=d:=by grind [uniq,bA,iQ,dj]
    rwa [e] at this) (λd hd h hh s E hp=>by
    have:=xg _ h hh val lo s E hp;rwa [KR A L hug hd] at this) _ _ h1) ?_
   rintro⟨e,s1⟩ l;have fin:(match cO Q s1 fn.results.toList with |some qs=>uZ Q (J R) fn.resultTypes.toList qs s1 |none=>GE) E-> ∃qs y,cO Q s1 fn.results.toList=Z qs/\finish Q (J R) fn.resultTypes.toList qs s1=Z y/\E y:=λl=>by
    cases hq:cO Q s1 fn.results.toList with
    |none=>rw[hq] at l;exact l.elim
    |some qs=>rw[hq] at l;obtain⟨y,h4,h5⟩:=PP (p:=λy=>finish Q (J R) fn.resultTypes.toList qs s1=Z y) (λ_ h=>h) _ l;grind
   cases e with
   |normal=>exact⟨.inl rfl,fin l⟩
   |ret=>exact⟨.inr rfl,fin l⟩
   |exit i=>exact l.elim
end
end Pi
