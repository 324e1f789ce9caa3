/- The texts X3Shelf XBld K3 X3 S3 FrP Fr1 QP Fr1H FrQ TrA FtP Fr2 SN Ft0 Ft1 JnF Ft1H LdP InsP FtQ DpP Ft2P Ft2H Ft3H Ft4H Fv1 Fu1 Fu2 Fu3 Fu2H Fu3H LnF Fu4H Fu5H Fu6P Fu6H Fu7H Fu8H Fv1H TellP Fv2 Fv2H Fv3 Fv3H. -/
import Derived.Test.YtpiohccneeblhaaPiYr
import Derived.Shelf.LaysM
import Derived.Shelf.LaysC
import Derived.Shelf.Strings.OnBuilder
import Derived.Test.YtpiohccneeblhaaProg
import Derived.KernelRfl
namespace Go.Proofs
open Go.Shelf
def Try.oo:Go.Shelf.Ren:=⟨λ|169=>25 |n=>n,λ|70=>70 |9=>9 |0=>0 |72=>72 |37=>46 |127=>79 |3=>3 |5=>5 |n=>n,λ|n=>n⟩
theorem Try.Fc:Go.Proofs.Lays.n169 Try.prog Try.oo:={
 mixed:=by kernel_rfl
 f169:=Try.func25.trans (congrArg some (by kernel_rfl))
 t0:=Try.underlying0
 a0:=Try.isAgg0
 z0:=Try.sizeOf0
 v0:=Try.zeroValue0
 t3:=Try.underlying3
 a3:=Try.isAgg3
 z3:=Try.sizeOf3
 v3:=Try.zeroValue3
 t9:=Try.underlying9
 a9:=Try.isAgg9
 z9:=Try.sizeOf9
 v9:=Try.zeroValue9
 t37:=Try.underlying46
 a37:=Try.isAgg46
 z37:=Try.sizeOf46
 v37:=Try.zeroValue46
 t70:=Try.underlying70
 a70:=Try.isAgg70
 z70:=Try.sizeOf70
 v70:=Try.zeroValue70
 t72:=Try.underlying72
 a72:=Try.isAgg72
 z72:=Try.sizeOf72
 v72:=Try.zeroValue72
 t127:=Try.underlying79
 a127:=Try.isAgg79
 z127:=Try.sizeOf79
 v127:=Try.zeroValue79}
theorem Try.mN:Builder.Extra Try.prog Try.oo:={
 sizeBuilder:=by kernel_rfl
 liesBuilder:=by kernel_rfl
 t5:=Try.underlying5
 a5:=Try.isAgg5
 z5:=Try.sizeOf5
 v5:=Try.zeroValue5
 infoByte:=by kernel_rfl
 cellsByte:=by kernel_rfl
 sizeByte:=by kernel_rfl
 neB5:=by decide}
open Go.RowKit in
theorem Try.Builder_String(B b:Nat)(l:List UInt8)(w:World)(h:Lib.IsBuilder 72 5 B b (Lib.byteCells l) w)(h0:l≠[]):
 Calls Try.prog 25 #[.pointer (some ⟨b,0,none⟩)] w λe w'=>e= .returned (.string ⟨l.toArray⟩)/\Below B w w':=Any.Builder_String Try.Fc Try.mN B b l w h h0
def Try.ot:Go.Shelf.Ren:=⟨λ|156=>17 |165=>23 |166=>24 |169=>25 |240=>26 |241=>27 |276=>28 |277=>29 |n=>n,λ|31=>59 |9=>9 |3=>3 |4=>4 |0=>0 |20=>20 |72=>72 |76=>76 |70=>70 |37=>46 |75=>75 |127=>79 |164=>80 |5=>5 |80=>78 |n=>n,λ|n=>n⟩
theorem Try.zj:Go.Proofs.Lays.n156 Try.prog Try.ot:={
 mixed:=by kernel_rfl
 f156:=Try.func17.trans (congrArg some (by kernel_rfl))
 f165:=Try.func23.trans (congrArg some (by kernel_rfl))
 f166:=Try.func24.trans (congrArg some (by kernel_rfl))
 f169:=Try.func25.trans (congrArg some (by kernel_rfl))
 f240:=Try.func26.trans (congrArg some (by kernel_rfl))
 f241:=Try.func27.trans (congrArg some (by kernel_rfl))
 f276:=Try.func28.trans (congrArg some (by kernel_rfl))
 f277:=Try.func29.trans (congrArg some (by kernel_rfl))
 t0:=Try.underlying0
 a0:=Try.isAgg0
 z0:=Try.sizeOf0
 v0:=Try.zeroValue0
 t3:=Try.underlying3
 a3:=Try.isAgg3
 z3:=Try.sizeOf3
 v3:=Try.zeroValue3
 t4:=Try.underlying4
 a4:=Try.isAgg4
 z4:=Try.sizeOf4
 v4:=Try.zeroValue4
 t9:=Try.underlying9
 a9:=Try.isAgg9
 z9:=Try.sizeOf9
 v9:=Try.zeroValue9
 t20:=Try.underlying20
 a20:=Try.isAgg20
 z20:=Try.sizeOf20
 v20:=Try.zeroValue20
 t31:=Try.underlying59
 a31:=Try.isAgg59
 z31:=Try.sizeOf59
 v31:=Try.zeroValue59
 t37:=Try.underlying46
 a37:=Try.isAgg46
 z37:=Try.sizeOf46
 v37:=Try.zeroValue46
 t70:=Try.underlying70
 a70:=Try.isAgg70
 z70:=Try.sizeOf70
 v70:=Try.zeroValue70
 t72:=Try.underlying72
 a72:=Try.isAgg72
 z72:=Try.sizeOf72
 v72:=Try.zeroValue72
 t75:=Try.underlying75
 a75:=Try.isAgg75
 z75:=Try.sizeOf75
 v75:=Try.zeroValue75
 t76:=Try.underlying76
 a76:=Try.isAgg76
 z76:=Try.sizeOf76
 v76:=Try.zeroValue76
 t127:=Try.underlying79
 a127:=Try.isAgg79
 z127:=Try.sizeOf79
 v127:=Try.zeroValue79
 t164:=Try.underlying80
 a164:=Try.isAgg80
 z164:=Try.sizeOf80
 v164:=Try.zeroValue80}
theorem Try.iu:Builder.Extra Try.prog Try.ot:={
 sizeBuilder:=by kernel_rfl
 liesBuilder:=by kernel_rfl
 t5:=Try.underlying5
 a5:=Try.isAgg5
 z5:=Try.sizeOf5
 v5:=Try.zeroValue5
 infoByte:=by kernel_rfl
 cellsByte:=by kernel_rfl
 sizeByte:=by kernel_rfl
 neB5:=by decide}
open Go.RowKit in
theorem Try.strings_Join_none(a:Option Addr)(c:Nat)(sep:ByteArray)(w:World):
 Calls Try.prog 17 #[.slice a 0 c,.string sep] w λe w'=>e= .returned (.string ⟨#[]⟩)/\w'=w:=Any.strings_Join_none Try.zj Try.iu a c sep w
open Go.RowKit in
theorem Try.strings_Join(bk o c:Nat)(xs:List ByteArray)(sep:ByteArray)(w:World)(Hs: ∀(j:Nat) x,xs[j]?=some x->w.cell? ⟨bk,o+j,none⟩=some (.string x))(EE:bk<w.heap.size)(hN:xs.length<=140737488355328)(lN:xs.length<=c)(hlen:(Lib.join (xs.map (·.data.toList)) sep.data.toList).length<=140737488355328):
 Calls Try.prog 17 #[.slice (some ⟨bk,o,none⟩) xs.length c,.string sep] w λe w'=>e= .returned (.string ⟨(Lib.join (xs.map (·.data.toList)) sep.data.toList).toArray⟩)/\Below w.heap.size w w':=Any.strings_Join Try.zj Try.iu bk o c xs sep w Hs EE hN lN hlen
end Go.Proofs
namespace Pi
open Go Go.Proofs Go.RowKit Go.Shelf
section
variable{w0:World}
theorem aL.drew{T:Tg}{F:Nat->Prop}{G:Nat->Value}{w:World}{R:List (Nat×En)}(h:aL Try.prog T F G w R):aL Try.prog T F G w.drew R:=by have hn:Names G G R R:=Names.refl G R;exact⟨h.ma,h.size,λt p hp=>by simp[lk] at hp,λn e he=>(h.rg n e he).mono (λ_ h=>h) (λ_ _=>rfl) hn rfl (λ_ _=>rfl),h.own,h.gG,h.fw,h.tag,h.z,Nat.le_succ_of_le h.dr,h.sz⟩
end
end Pi
namespace Pi
open Go Go.Proofs
set_option maxRecDepth 100000
set_option maxHeartbeats 0
def JM:List (Nat×List (Nat×List Nat×List Nat)):=[(4,[(8,[0,3,4,5,6],[2,3])]),
 (5,[(8,[0,1,5,6,7,8],[4,5])]),
 (6,[(11,[0,2,7,8,10,11],[0,2,7,8,10]),(20,[0,2,7,8,12,13,14,15,16],[6,7,12,15])]),
 (7,[(13,[0,1,7,8,10,12,13,14,15],[0,1,6,7,13,14])]),
 (9,[(8,[0,1,2,3,10],[10]),(13,[10,60,61],[10])]),
 (10,[(10,[0,1,2,3,10,11,12],[11])]),
 (11,[(4,[0,1,5],[4])]),
 (14,[(10,[0,3,7,8],[0,3,4,5,6,7]),(21,[0,3,7,9,10],[0,3,7,9]),(29,[0,3,7,9,11,12],[0,3,7,11])]),
 (17,[(12,[0,1,5,39,40,41],[0,1,5]),(22,[1,8,63,64,65],[8])]),
 (19,[(2,[0,3,5],[0,4])]),
 (20,[(2,[0,3,5],[0,4])])]
def Ht:List (Nat×List (Nat×Nat)):=[(4,[(14,1)]),
 (5,[(14,1),(17,1)]),
 (14,[(16,1),(23,1),(33,1)]),
 (16,[(4,1)]),
 (23,[(3,1)]),
 (25,[(1,1)]),
 (27,[(0,1)])]
def JN:List Nat:=[17]
def Hu:List Nat:=JN++[12,13,15,14]
def MJ:List Nat:=[]
def gY(f id:Nat):Option (List Nat×List Nat):=if Nat.beq id 999999 then(if eV f MJ then some ([],[]) else none) else match lk JM f with |some l=>lk l id |none=>none
abbrev Fe:tf:=⟨gY,Hu,λ_ _ _=>none⟩
end Pi
namespace Pi
open Go Go.Proofs Go.RowKit
def kS:List D->Option (List (List UInt8))
 | []=>some []
 | .str s::r=>match kS r with |some l=>some (s::l)|none=>none
 |_=>none
def wB:TF
 | [.d (.sl 1 es),.d (.str c)],[]=>match kS es with
  |some l=>if l.length<=140737488355328/\(Lib.join l c).length<=140737488355328 then some (.d (.str (Lib.join l c)),[]) else none
  |none=>none
 |_,_=>none
noncomputable def xL:List (Nat×TF):=[(17,wB)]
noncomputable def xB:CF:=K4 xL
structure JO(w0:World):Prop where
 t:True
theorem JO.zero{w0:World}(h:JO w0):JO {w0 with drawn:=0} where
 t:=trivial
section
variable{w0:World}
theorem Hv{F:Nat->Prop}{w:World}{G:Nat->Value}{R:List (Nat×En)}{v:Value}{s:List UInt8}(h:ao F w G R v (.d (.str s))):v= .string ⟨⟨s⟩⟩:=ao.bq (p:= .d (.str s)) h rfl
theorem ou: ∀(es:List D) (l:List (List UInt8)),kS es=some l->es=l.map D.str
 | [],l,h=>by simp[kS] at h;subst h;rfl
 |x::es,l,h=>by
  cases x<;>try (simp[kS] at h;done)
  rename_i s;simp only[kS] at h;split at h
  next l' hl=>simp at h;subst h;rw[ou es l' hl];rfl
  cases h
theorem Da:E8 Try.prog w0 17 wB:=by
 intro h0 ps R p R1 h F G w vs hH hl hv;unfold wB at h;split at h
 next es c=>
  split at h
  next l CW=>
   have CW:=ou es l CW;subst CW;split at h
   ·rename_i hc;simp only[zaf,za9] at h;obtain⟨rfl,rfl⟩:=h
    match vs,hl,hv with
    | [v,u],_,hv=>
     have h1:=hv 0 v _ rfl rfl;have e2:u= .string ⟨⟨c⟩⟩:=Hv (hv 1 u _ rfl rfl);subst e2;refine AJ h0 hH (enters Try.func17 (by kernel_rfl) (by kernel_rfl) _ w) ?_;cases h1 with
     |d h1=>
      generalize CW:l.map D.str=es at h1;cases h1 with
      |A9 a k cap=>
       have:l=[]:=by simpa using CW
       subst this;exact(Try.strings_Join_none a cap ⟨⟨c⟩⟩ w).mono λe w' ⟨he,hb⟩=>⟨_,he,hb▸Below.refl _ _,λF G=> .d (.str _)⟩
      |Ba b off k cap es f lN hb hk aW hw hr=>
       subst CW;have hj:=Try.strings_Join b off cap (l.map λx=>⟨⟨x⟩⟩) ⟨⟨c⟩⟩ w (λj x hx=>by
        rw[zah] at hx;cases hi:l[j]? with
        |none=>rw[hi] at hx;cases hx
        |some s=>rw[hi] at hx;cases hx;have yK:j<l.length:=(zaa.1 hi).1;rw[hw j (by simpa using yK)];have:=hr j 0 (.str s) (.str s) (by rw[zah,hi];rfl) rfl;simp only[Nat.mul_one,zbJ] at this;rw[this.dJ rfl]) (hH.fw b hb) (by simpa using hc.1) (by simpa using lN) (by simpa [zbX] using hc.2)
       simp only[zai] at hj⊢;have e:(List.map (λx=>x.data.toList) (List.map (λx=>(⟨⟨x⟩⟩:ByteArray)) l))=l:=by simp[zbX]
       rw[e] at hj;exact hj.mono λe w' ⟨he,hb⟩=>⟨_,he,hb,λF G=> .d (.str _)⟩
   cases h
  cases h
 cases h
theorem wC{w1:World}(Im:JO w1):cL Try.prog {w1 with drawn:=0} xB:=by have hw:=Im.zero;exact AK.ok rfl (.cons Da .nil)
end
end Pi
namespace Pi
open Go Go.Proofs
set_option maxRecDepth 100000
set_option maxHeartbeats 0
structure XF where
 cf:CF
 eq: ∀f,eV f JN=true-> ∀ps R,cf f ps R=xB f ps R
abbrev D1(X:XF):tf:=⟨gY,Hu,X.cf⟩
def uN(f id:Nat):Nat:=match lk Ht f with |some l=>(lk l id).getD 2 |none=>2
theorem Db:iB uN 0 Try.prog.funcs.toList=true:=by kernel_rfl
noncomputable abbrev PR:=Try.prog
noncomputable def de(H:List (FuncId×cR))(hk:List (Nat×(S->K (PX×S))))(f id:Nat)(s:S):K (PX×S):=
 pr (dn PR (runK PR Fe uN H 60 60) (gY f) hk (uN f) 60 (bz PR f id)) (gY f id) s
noncomputable def mO(H:List (FuncId×cR))(hk:List (Nat×(S->K (PX×S))))(f:Nat)(ps:List P)(R:List (Nat×En)):K (P×List (Nat×En)):=
 iM PR (runK PR Fe uN H 60 60) Fe hk uN 60 f ps R
def FD(X:XF)(f:Nat)(h:cR):Prop:=CR PR (D1 X) f h
def HD(X:XF)(H:List (FuncId×cR)):Prop:=zb PR (D1 X) H
def LD(X:XF)(f id:Nat)(g:S->K (PX×S)):Prop:= ∀s,KW (g s) (λx=>Ev λa b=>eK (aT PR (dh PR (D1 X) a b) (gY f) a (bz PR f id)) (gY f id) a s=some x)
theorem HD.nil{X:XF}:HD X []:=zb.nil
theorem HD.cons{X:XF}{f:Nat}{h:cR}{H:List (FuncId×cR)}(hf:FD X f h)(hH:HD X H):HD X ((f,h)::H):=zb.cons hf hH
inductive D2(X:XF)(f:Nat):List (Nat×(S->K (PX×S)))->Prop
 |nil:D2 X f []
 |cons {id:Nat} {g:S->K (PX×S)} {r:List (Nat×(S->K (PX×S)))} (h:LD X f id g) (hr:D2 X f r):D2 X f ((id,g)::r)
theorem D2.get{X:XF}{f:Nat}{hk:List (Nat×(S->K (PX×S)))}(h:D2 X f hk): ∀id g,lk hk id=some g->LD X f id g:=by
 induction h with
 |nil=>exact ze
 |cons h hr ih=>exact E7 h ih
theorem FD.mk{X:XF}{H:List (FuncId×cR)}{hk:List (Nat×(S->K (PX×S)))}{f:Nat}{h:cR}(hu:uniq PR f=true)(hH:HD X H)(hl:D2 X f hk)(hb: ∀ps R ae,h ps R ae->mO H hk f ps R ae):FD X f h:=
 CR.mk Db hH hu hl.get (λps R ae hp=>by have:=hb ps R ae hp;unfold mO at this;rw[ur PR gY Hu _ X.cf uN H 60 60] at this;exact this)
theorem LD.par{X:XF}{H:List (FuncId×cR)}{hk:List (Nat×(S->K (PX×S)))}{f id:Nat}{g:S->K (PX×S)}(hu:uniq PR f=true)(hc:bB (uN f) (bz PR f id)=true)(hH:HD X H)(hl:D2 X f hk)
  {A B:Type} (hd:A->B->S) (Inv:A->B->Prop) (mu:A->B->Nat) (Out:A->PX×S->Prop)
  (hr: ∀a b,Inv a b->de H hk f id (hd a b) (roundPost (mu a b) (λm s=> ∃b',s=hd a b'/\Inv a b'/\m=mu a b') (Out a)))
  (hg: ∀s ae,g s ae-> ∃a b,s=hd a b/\Inv a b/\ ∀x,Out a x->ae x):LD X f id (aF (gY f id) g):=by
 refine wu λs0 ae hp=> ?_;obtain⟨a,b,rfl,h1,h2⟩:=hg s0 ae hp;obtain⟨x,g1,g2⟩:=EZ (keep:=gY f id) (kp1:=gY f) (O:=Out a) Db hH hc (λd hd h hh=>by have:=hl.get _ _ hh;unfold LD at this;rwa [sH hu hd] at this) (I:=λm s=> ∃b',s=hd a b'/\Inv a b'/\m=mu a b') (λn s hs=>by obtain⟨b',rfl,h3,rfl⟩:=hs;have:=hr a b' h3;unfold de at this;rw[ur PR gY Hu _ X.cf uN H 60 60] at this;exact this) (mu a b) (hd a b) ⟨b,rfl,h1,rfl⟩;exact⟨x,g2,h2 x g1⟩
theorem FD.K2{X:XF}{f:Nat}{fn:Func}{h:cR}(fg:PR.funcs[f]?=some fn)(hx:eV f Hu=true)(JR:eV f JN=true)(hb: ∀ps R ae,h ps R ae-> ∃x,xB f ps R=some x/\ae x):FD X f h:=
 CR.K2 fg hx λps R ae hp=>by obtain⟨x,h1,h2⟩:=hb ps R ae hp;exact⟨x,by rw[<-h1];exact X.eq f JR ps R,h2⟩
theorem FD.run{X:XF}{f:Nat}{h:cR}(hf:FD X f h){ps:List P}{R:List (Nat×En)}{y:P×List (Nat×En)}(hp:h ps R (λx=>x=y)): ∃lf k,dh PR (D1 X) lf k f ps R=some y:=by obtain⟨x,h1,h2⟩:=hf ps R _ hp;subst h2;exact h1.some
def FC(f:Nat)(h:cR):Prop:=CR PR Fe f h
def HC(H:List (FuncId×cR)):Prop:=zb PR Fe H
theorem HC.nil:HC []:=zb.nil
theorem HC.cons{f:Nat}{h:cR}{H:List (FuncId×cR)}(hf:FC f h)(hH:HC H):HC ((f,h)::H):=zb.cons hf hH
theorem FC.mk{H:List (FuncId×cR)}{f:Nat}{h:cR}(hu:uniq PR f=true)(hH:HC H)(hb: ∀ps R ae,h ps R ae->mO H [] f ps R ae):FC f h:=
 CR.mk Db hH hu ze hb
noncomputable def wD:XF:=⟨xB,λ_ _ _ _=>rfl⟩
abbrev aY:=Int×Int×Int×Int×List UInt8
abbrev iD(n:Int):P:= .d (.int .i64 n)
abbrev sD(s:List UInt8):P:= .d (.str s)
def eT(x:aY):D:= .agg [.int .i64 x.1,.int .i64 x.2.1,.int .i64 x.2.2.1,.int .i64 x.2.2.2.1,.str x.2.2.2.2]
abbrev rK(z:Bool)(l:List aY):Obj:= .arr 37 z (l.map eT)
def Zc(o:List aY):En:=En.mk 0 none (Obj.arr (37:TypeId) false (List.map eT o))
def Z2(o:List aY):Nat:=List.length o
def Za(o:List aY):List D:=List.take (Z2 o) (List.map eT o)
def Z4(a:Int):D:=D.int .i64 a
def Z3(o:List aY):Bool:=Nat.ble (Z2 o) (List.length (List.map eT o))
def Zf(i:Int):Nat:=Int.toNat i
def Zg(o:List aY)(i:Int):D:=D.nth (List.map eT o) (Zf i)
def Zm(o:List aY)(i:Int):D:=D.agg [D.int .i64 (D.cF (D.gm (Zg o i) 0)),D.int .i64 (D.cF (D.gm (Zg o i) 1)),D.int .i64 (D.cF (D.gm (Zg o i) 2)),D.int .i64 (D.cF (D.gm (Zg o i) 3)),D.str (D.nj (D.gm (Zg o i) 4))]
def Zl(i:Int):P:=P.d (D.int .i64 (i+(1:Int)))
def Zj:Int:=(9223372036854775807:Int)
def Zi:Int:=(-9223372036854775808:Int)
def Zk(i:Int):Bool:=decide (Zi<=i+(1:Int)/\i+(1:Int)<=Zj)
noncomputable def Zh(o:List aY)(i:Int):Bool:=ra PR (37:TypeId) (Zg o i)
def Ze(i:Int)(m:Int):Bool:=decide (i<m)
def Zy:P:=P.d (D.int .i64 (0:Int))
def Zp:D:=D.int .i64 (1:Int)
def ZI(i:Int):List (Nat×P):=[(5,Zl i)]
def ZH(l:List aY):P:=P.d (D.sl 5 (List.map eT l))
def ZG:P:=P.d (D.bool false)
def ZE(l:List aY):Int:=(↑(List.length (List.map eT l)):Int)
def ZF(i:Int)(l:List aY):Bool:=decide ((0:Int)<=i/\i<ZE l)
def ZN:P:=P.d (D.bool true)
def ZO(ae:P×List (Nat×En)->Prop):Prop:=ae (ZN,[])
def ZM(wE:List aY):Prop:=Z2 wE<=1000000
def ZK:List (Nat×P):=[(5,Zy)]
def ZJ(ae:P×List (Nat×En)->Prop):Prop:=ae (ZG,[])
def Dc:cR:=λps R ae=>ps=[]/\R=[]/\ae (.d (.bool true),[])
def ZQ:Prop:=Pj [] []
def ZP:Prop:=Ph [] []
theorem aD{p:Prop}{i:Decidable p}{A:Prop}(h1:p)(h2:A):cond (@decide p i) A False:=by rw[zbj h1];exact h2
theorem aQ{p:Prop}{i:Decidable p}{A B:Prop}(h1:p->A)(h2: ¬p->B):cond (@decide p i) A B:=by
 by_cases h:p
 ·rw[zbj h];exact h1 h
 rw[zbS h];exact h2 h
theorem ov{p:Prop}{i:Decidable p}{A B:Prop}(h1:p)(h2:A):cond (@decide p i) A B:=by rw[zbj h1];exact h2
theorem iI(x:aY):ra PR 37 (eT x)=true:=by obtain⟨a,b,c,d,e⟩:=x;kernel_rfl
section
variable{X:XF}
end
theorem join_nil(l:List (List UInt8)):Lib.join l []=l.flatten:=by
 unfold Lib.join
 induction l with
 |nil=>rfl
 |cons x r ih=>
  cases r with
  |nil=>simp[List.intercalate]
  |cons y r=>simp[List.intercalate] at ih⊢;exact ih
structure Qx{α:Type}(lt:α->α->Bool):Prop where
 Qy: ∀x,lt x x=false
 tr: ∀x y z,lt x y=true->lt y z=true->lt x z=true
 qR: ∀x y,lt x y=false->lt y x=false->x=y
section
variable{α:Type}(lt:α->α->Bool)
def nA(a:α):List α->List α
 | []=>[a]
 |b::r=>if lt a b then b::nA a r else a::b::r
def bZ(o:List α)(a:α):List α:=(nA lt a o.reverse).reverse
variable{lt}
theorem nB(a:α): ∀l,(nA lt a l).Perm (a::l)
 | []=> .refl _
 |b::r=>by
  unfold nA;split
  ·exact((nB a r).cons b).trans (.swap a b r)
  exact .refl _
theorem sP(o:List α)(a:α):(bZ lt o a).Perm (o++[a]):=by unfold bZ;refine(List.reverse_perm _).trans ((nB a _).trans ?_);exact((List.reverse_perm o).cons a).trans (List.perm_append_comm (l₁:=[a]) (l₂:=o))
end
structure cO where
 a:Int
 n:Int
 q:Int
 l:List aY
structure JL where
 o:List cO
 d:List (Int×Int)
def aN(f:aY):Bool:=decide ((1<=f.1/\f.1<=16/\0<=f.2.1)/\(1<=f.2.2.2.1/\f.2.2.2.1<=1000/\0<=f.2.2.1/\f.2.2.1<f.2.2.2.1)/\f.2.2.2.2≠[])
def lu(f:aY)(o:cO):Bool:=decide (o.a=f.1/\o.n=f.2.1)
def ja(x y:aY):Bool:=decide (x.2.2.1<y.2.2.1)
abbrev Hw:=List UInt8×Bool×Int
def Ff(st:JL)(k:Nat)(o:cO)(f:aY):Hw×JL:=
 if((bZ ja o.l f).length:Int)<o.q then(([],false,0),⟨st.o.set k ⟨o.a,o.n,o.q,bZ ja o.l f⟩,st.d⟩)
 else(((bZ ja o.l f).flatMap (·.2.2.2.2),true,0),⟨st.o.eraseIdx k,st.d++[(f.1,f.2.1)]⟩)
def eF(st:JL)(f:aY):Hw×JL:=
 if aN f=false then(([],false,11),st)
 else if st.d.contains (f.1,f.2.1)=true then(([],false,210),st)
 else match st.o.findIdx? (lu f) with
  |some k=>match st.o[k]? with
   |some o=>if o.q≠f.2.2.2.1 then(([],false,11),st)
    else if o.l.any (λx=>decide (x.2.2.1=f.2.2.1))=true then(([],false,210),st)
    else Ff st k o f
   |none=>(([],false,0),st)
  |none=>if 50<=st.o.length then(([],false,211),st)
   else Ff ⟨st.o++[⟨f.1,f.2.1,f.2.2.2.1,[]⟩],st.d⟩ st.o.length ⟨f.1,f.2.1,f.2.2.2.1,[]⟩ f
structure AO(o:cO):Prop where
 a:1<=o.a/\o.a<=16/\0<=o.n
 q:1<=o.q/\o.q<=1000
 m: ∀f∈o.l,f.1=o.a/\f.2.1=o.n/\f.2.2.2.1=o.q/\0<=f.2.2.1/\f.2.2.1<o.q/\f.2.2.2.2≠[]/\f.2.2.2.2.length<=100
 s:o.l.Pairwise (λx y=>x.2.2.1<y.2.2.1)
 lt:(o.l.length:Int)<o.q
structure Bl(st:JL):Prop where
 o: ∀o∈st.o,AO o/\o.l≠[]
 nd:(st.o.map λo=>(o.a,o.n)).Nodup
 di: ∀o∈st.o,(o.a,o.n)∉st.d
 len:st.o.length<=50
def D3(l:List aY)(i:Int):List UInt8:=match l.find? (λf=>decide (f.2.2.1=i)) with |some f=>f.2.2.2.2 |none=>[]
def df(o:cO):List (List UInt8):=(List.range o.q.toNat).map λ(i:Nat)=>D3 o.l (i:Int)
theorem eU(o:cO):(df o).length=o.q.toNat:=by simp[df]
theorem mP{l:List aY}{i:Int}(h: ∀f∈l,f.2.2.1≠i):D3 l i=[]:=by unfold D3;rw[zbU.2 λf hf=>by simpa using h f hf]
theorem ld{l:List aY}(hs: ∀f∈l,∀g∈l,f.2.2.1=g.2.2.1->f=g){f:aY}(hf:f∈l):D3 l f.2.2.1=f.2.2.2.2:=by
 unfold D3;cases h:l.find? (λg=>decide (g.2.2.1=f.2.2.1)) with
 |none=>exact absurd (zbU.1 h f hf) (by simp)
 |some g=>
  have h1:=List.mem_of_find?_eq_some h;have h2:g.2.2.1=f.2.2.1:=by simpa using List.find?_some h
  rw[hs g h1 f hf h2]
theorem nC: ∀{l:List aY},l.Pairwise (λx y=>x.2.2.1<y.2.2.1)-> ∀f∈l,∀g∈l,f.2.2.1=g.2.2.1->f=g
 | [],_,f,hf,_,_,_=>by cases hf
 |x::r,h,f,hf,g,hg,e=>by
  obtain⟨h1,h2⟩:=zbC.1 h;rcases zan.1 hf with hf |hf<;>rcases zan.1 hg with hg |hg
  ·rw[hf,hg]
  ·have:=h1 g hg;rw[hf] at e;omega
  ·have:=h1 f hf;rw[hg] at e;omega
  exact nC h2 f hf g hg e
theorem jD{l:List aY}{f g:aY}:g∈bZ ja l f↔g∈l\/g=f:=by rw[(sP (lt:=ja) l f).mem_iff];simp
theorem sQ(f:aY): ∀l:List aY,l.Pairwise (λx y=>y.2.2.1<x.2.2.1)->(∀g∈l,g.2.2.1≠f.2.2.1)->(nA ja f l).Pairwise (λx y=>y.2.2.1<x.2.2.1)
 | [],_,_=>by simp[nA]
 |b::r,hp,hf=>by
  obtain⟨h1,h2⟩:=zbC.1 hp;unfold nA;split
  next hl=>
   have hl:f.2.2.1<b.2.2.1:=by simpa [ja] using hl
   refine zbC.2 ⟨λy hy=> ?_,sQ f r h2 λg hg=>hf g (by simp[hg])⟩;rcases zan.1 ((nB (lt:=ja) f r).mem_iff.1 hy) with rfl |hy
   ·exact hl
   exact h1 y hy
  rename_i hl;have hl: ¬f.2.2.1<b.2.2.1:=by simpa [ja] using hl
  have:=hf b (by simp);refine zbC.2 ⟨λy hy=> ?_,hp⟩;rcases zan.1 hy with rfl |hy
  ·omega
  have:=h1 y hy;omega
theorem yg{l:List aY}{f:aY}(h:l.Pairwise (λx y=>x.2.2.1<y.2.2.1))(hf: ∀g∈l,g.2.2.1≠f.2.2.1):(bZ ja l f).Pairwise (λx y=>x.2.2.1<y.2.2.1):=by unfold bZ;rw[List.pairwise_reverse];exact sQ f _ (by rw[List.pairwise_reverse];exact h) λg hg=>hf g (by simpa using hg)
theorem Fg{l:List aY}{f:aY}(h:l.Pairwise (λx y=>x.2.2.1<y.2.2.1))(hf: ∀g∈l,g.2.2.1≠f.2.2.1)(i:Int):D3 (bZ ja l f) i=if f.2.2.1=i then f.2.2.2.2 else D3 l i:=by
 have hi:=nC (yg h hf);split
 next e=>subst e;exact ld hi (jD.2 (.inr rfl))
 rename_i e;by_cases hg: ∃g∈l,g.2.2.1=i
 ·obtain⟨g,hg,rfl⟩:=hg;rw[ld hi (jD.2 (.inl hg)),ld (nC h) hg]
 have hg: ∀g∈l,g.2.2.1≠i:=λg h1 h2=>hg ⟨g,h1,h2⟩;rw[mP hg,mP];intro g h1;rcases jD.1 h1 with h1 |rfl
 ·exact hg g h1
 exact e
theorem wF: ∀(l:List aY) (lo:Int),l.Pairwise (λx y=>x.2.2.1<y.2.2.1)->(∀f∈l,lo<=f.2.2.1/\f.2.2.1<lo+l.length)->l.map (·.2.2.1)=(List.range l.length).map λ(i:Nat)=>lo+(i:Int)
 | [],_,_,_=>rfl
 |f::l,lo,hp,hr=>by
  obtain⟨h1,h2⟩:=zbC.1 hp;have hf:=hr f (by simp);have ih:=wF l (lo+1) h2 λg hg=>by have:=h1 g hg;have:=hr g (by simp[hg]);simp only[zaI] at this;omega
  have e:f.2.2.1=lo:=by
   cases l with
   |nil=>simp only[zaI,zbu] at hf;omega
   |cons g l=>
    have h3:g.2.2.1=lo+1:=by have:=congrArg (λx=>x.head?) ih;simpa [List.range_succ_eq_map] using this
    have:=h1 g (by simp);omega
  rw[zaO,ih,e,zaI,List.range_succ_eq_map,zaO,List.map_map];refine List.cons_eq_cons.2 ⟨by simp,zbg λi _=> ?_⟩;simp only[Function.comp_apply];omega
theorem AP{o:cO}(hm: ∀f∈o.l,0<=f.2.2.1/\f.2.2.1<o.q)(hs:o.l.Pairwise (λx y=>x.2.2.1<y.2.2.1))(hl:(o.l.length:Int)=o.q):df o=o.l.map (·.2.2.2.2):=by
 have h1:=wF o.l 0 hs λf hf=>by have:=hm f hf;omega
 have e:o.q.toNat=o.l.length:=by omega
 unfold df;rw[e];refine zb4 (by simp) λi h2 h3=> ?_;simp only[List.getElem_map,List.getElem_range];have hi:i<o.l.length:=by simpa using h3
 have h4:=congrArg (λx=>x[i]?) h1;simp[hi] at h4;rw[<-h4];exact ld (nC hs) (za6 hi)
theorem qF{o:cO}{f:aY}(hs:o.l.Pairwise (λx y=>x.2.2.1<y.2.2.1))(hf: ∀g∈o.l,g.2.2.1≠f.2.2.1)(h0:0<=f.2.2.1):df ⟨o.a,o.n,o.q,bZ ja o.l f⟩=(df o).set f.2.2.1.toNat f.2.2.2.2:=by
 unfold df;refine zb4 (by simp) λi h2 h3=> ?_;simp only[List.getElem_map,List.getElem_range,List.getElem_set];rw[Fg hs hf];by_cases e:f.2.2.1=(i:Int)
 ·rw[zat e,zat (by omega)]
 rw[zaC e,zaC (by omega)]
theorem ux{o:cO}(ho:AO o){p:Int}(h0:0<=p)(h1:p<o.q):(o.l.any (λx=>decide (x.2.2.1=p))=true)↔(df o).getD p.toNat []≠[]:=by
 have e:(df o).getD p.toNat []=D3 o.l p:=by unfold df;rw[zaq,zah,List.getElem?_range (show p.toNat<o.q.toNat by omega)];show D3 o.l (p.toNat:Int)=_;rw[Int.toNat_of_nonneg h0]
 rw[e,zbe];constructor
 ·rintro⟨f,hf,h⟩;have h:f.2.2.1=p:=by simpa using h
  subst h;rw[ld (nC ho.s) hf];exact(ho.m f hf).2.2.2.2.2.1
 intro h;by_cases hg: ∃g∈o.l,g.2.2.1=p
 ·obtain⟨g,hg,rfl⟩:=hg;exact⟨g,hg,by simp⟩
 exact absurd (mP λg h1 h2=>hg ⟨g,h1,h2⟩) h
def yh:cR:=λps R ae=> ∃l c,ps=[.d (.sl 1 (l.map D.str)),sD c]/\R=[]/\(l.length<=1000000/\(Lib.join l c).length<=1000000)/\ae (sD (Lib.join l c),[])
noncomputable def zk(H HN:List (FuncId×cR))(hk:List (Nat×(S->K (PX×S))))(f id:Nat)(s:S):K (PX×S):=
 pr (C4 PR (runK PR Fe uN H 60 60) HN (gY f) hk (uN f) (bz PR f id)) (gY f id) s
noncomputable def l5(H HN:List (FuncId×cR))(hk:List (Nat×(S->K (PX×S))))(f:Nat)(ps:List P)(R:List (Nat×En)):K (P×List (Nat×En)):=
 Gg PR (runK PR Fe uN H 60 60) HN Fe hk uN f ps R
def ND(w0:World)(f:Nat)(h:cR):Prop:=w9 PR w0 f h
def LN(w0:World)(f id:Nat)(g:S->K (PX×S)):Prop:= ∀(val:Nat->Value) (lo:Nat) (mk:Bool) s ae,g s ae->TW PR ⟨val,w0,lo,mk⟩ (.loop (bz PR f id)) s ae
def MK(w0:World)(f id:Nat)(g:S->K (PX×S)):Prop:= ∀(val:Nat->Value) (lo:Nat) s ae,g s ae->TW PR ⟨val,w0,lo,true⟩ (.loop (bz PR f id)) s ae
def FN(w0:World)(f id:Nat)(g:S->K (PX×S)):Prop:= ∀(val:Nat->Value) (lo:Nat) s ae,g s ae->TW PR ⟨val,w0,lo,true⟩ (CZ PR f id).code s ae
theorem LN.T{w0:World}{f id:Nat}{g:S->K (PX×S)}(h:LN w0 f id g):MK w0 f id g:=λval lo s ae hp=>h val lo true s ae hp
inductive Hx(w0:World):List (FuncId×cR)->Prop
 |nil:Hx w0 []
 |cons {f:Nat} {h:cR} {r:List (FuncId×cR)} (hf:ND w0 f h) (hr:Hx w0 r):Hx w0 ((f,h)::r)
theorem Hx.get{w0:World}{HN:List (FuncId×cR)}(h:Hx w0 HN): ∀f g,lk HN f=some g->w9 PR w0 f g:=by
 induction h with
 |nil=>intro f g h;cases h
 | @cons f' h' r hf hr ih=>
  intro f g h;unfold lk at h;split at h
  next he=>cases h;rw[<-zab he];exact hf
  exact ih f g h
inductive Iu(w0:World)(f:Nat):List (Nat×(S->K (PX×S)))->Prop
 |nil:Iu w0 f []
 |cons {id:Nat} {g:S->K (PX×S)} {r:List (Nat×(S->K (PX×S)))} (h:LN w0 f id g) (hr:Iu w0 f r):Iu w0 f ((id,g)::r)
theorem Iu.get{w0:World}{f:Nat}{hk:List (Nat×(S->K (PX×S)))}(h:Iu w0 f hk): ∀id g,lk hk id=some g->LN w0 f id g:=by
 induction h with
 |nil=>intro f g h;cases h
 | @cons f' h' r hf hr ih=>
  intro f g h;unfold lk at h;split at h
  next he=>cases h;rw[<-zab he];exact hf
  exact ih f g h
inductive D4(w0:World)(f:Nat):List (Nat×(S->K (PX×S)))->Prop
 |nil:D4 w0 f []
 |loop {id:Nat} {g:S->K (PX×S)} {r:List (Nat×(S->K (PX×S)))} (nW:id<500000) (h:MK w0 f id g) (hr:D4 w0 f r):D4 w0 f ((id,g)::r)
 |range {id:Nat} {g:S->K (PX×S)} {r:List (Nat×(S->K (PX×S)))} (h:FN w0 f id g) (hr:D4 w0 f r):D4 w0 f ((500000+id,g)::r)
theorem D4.loops{w0:World}{f:Nat}{hk:List (Nat×(S->K (PX×S)))}(h:D4 w0 f hk): ∀id g,id<500000->lk hk id=some g->MK w0 f id g:=by
 induction h with
 |nil=>intro id g _ h;cases h
 | @loop kl g' r ML h hr ih=>
  intro id g nW hg;unfold lk at hg;split at hg
  next he=>cases hg;rw[<-zab he];exact h
  exact ih id g nW hg
 | @range kl g' r h hr ih=>
  intro id g nW hg;unfold lk at hg;split at hg
  next he=>have:=zab he;omega
  exact ih id g nW hg
theorem D4.ranges{w0:World}{f:Nat}{hk:List (Nat×(S->K (PX×S)))}(h:D4 w0 f hk): ∀id g,lk hk (500000+id)=some g->FN w0 f id g:=by
 induction h with
 |nil=>intro id g h;cases h
 | @loop kl g' r ML h hr ih=>
  intro id g hg;unfold lk at hg;split at hg
  next he=>have:=zab he;omega
  exact ih id g hg
 | @range kl g' r h hr ih=>
  intro id g hg;unfold lk at hg;split at hg
  next he=>
   cases hg;have:=zab he;have e:kl=id:=by omega
   rw[<-e];exact h
  exact ih id g hg
theorem Gk{X:XF}{H:List (FuncId×cR)}(hH:HD X H):oN (runK PR Fe uN H 60 60) (dh PR (D1 X)):=by have:=o6 (lf:=60) (gu Db) hH 60;rw[ur PR gY Hu X.cf (λ_ _ _=>none) uN H 60 60] at this;exact this
theorem ND.mk{X:XF}{w0:World}(hX:cL PR w0 X.cf){H HN:List (FuncId×cR)}{hk:List (Nat×(S->K (PX×S)))}{f:Nat}{h:cR}(hdr:PR.follows .mixedOrders=true)(hu:uniq PR f=true)(Ip:qB PR f=true)(hH:HD X H)(og:Hx w0 HN)(hl:D4 w0 f hk)
  (hb: ∀ps R ae,h ps R ae->l5 H HN hk f ps R ae):ND w0 f h:=
 w9.mk (kp:=D1 X) og.get (Gk hH) hX hdr Db hu Ip hl.loops hl.ranges (λps R ae hp=>hb ps R ae hp)
theorem LN.par{X:XF}{w0:World}(hX:cL PR w0 X.cf){H HN:List (FuncId×cR)}{hk:List (Nat×(S->K (PX×S)))}{f id:Nat}{g:S->K (PX×S)}(hdr:PR.follows .mixedOrders=true)(hu:uniq PR f=true)(hc:bB (uN f) (bz PR f id)=true)(PE:(bu (bz PR f id)).isEmpty=true)(hH:HD X H)(og:Hx w0 HN)(hl:Iu w0 f hk)
  {A B:Type} (hd:A->B->S) (Inv:A->B->Prop) (mu:A->B->Nat) (Out:A->PX×S->Prop)
  (hr: ∀a b,Inv a b->zk H HN hk f id (hd a b) (roundPost (mu a b) (λm s=> ∃b',s=hd a b'/\Inv a b'/\m=mu a b') (Out a)))
  (hg: ∀s ae,g s ae-> ∃a b,s=hd a b/\Inv a b/\ ∀x,Out a x->ae x):LN w0 f id (aF (gY f id) g):=by
 intro val lo mk s ae hp;unfold aF at hp;cases hh:cw (gY f id) s with
 |none=>simp only[hh] at hp
 |some s0=>
  simp only[hh] at hp;obtain⟨a,b,rfl,h1,h2⟩:=hg s0 ae hp;refine TW.mono (TW.loop (keep:=gY f id) (I:=λm s=> ∃b',s=hd a b'/\Inv a b'/\m=mu a b') (O:=Out a) (λn s hs=> ?_) hh ⟨b,rfl,h1,rfl⟩) h2;obtain⟨b',rfl,h3,rfl⟩:=hs;have:=hr a b' h3;unfold zk at this;refine TW.mono (AN (kp:=D1 X) (T:=⟨val,w0,lo,mk⟩) og.get (Gk hH) hX hdr (kp1:=gY f) (bz PR f id) hc (λd hd h hh s ae hp=>by have:=hl.get _ _ hh val lo mk s ae hp;rwa [sH hu hd] at this) (λx hx=>by rw[List.isEmpty_iff.1 PE] at hx;cases hx) _ _ this) ?_;rintro⟨e,s1⟩ hx;cases e with
  |normal=>obtain⟨s2,h4,m,h5,h6⟩:=KW.cb (p:=λs2=>cw (gY f id) s1=some s2) (λ_ h=>h) _ hx;exact⟨s2,h4,m,h5,h6⟩
  |exit i=>obtain⟨s2,h4,h5⟩:=KW.cb (p:=λs2=>eI (gY f id) s1=some s2) (λ_ h=>h) _ hx;exact⟨s2,h4,h5⟩
  |ret=>obtain⟨s2,h4,h5⟩:=KW.cb (p:=λs2=>eI (gY f id) s1=some s2) (λ_ h=>h) _ hx;exact⟨s2,h4,h5⟩
abbrev fI(a n:Int):D:= .agg [.int .i64 a,.int .i64 n]
abbrev Fh(o d:Nat):Obj:= .box 53 [.mp o 0,.mp d 0]
abbrev Iv(r k:Nat)(c:Int):Obj:= .box 61 [.sl r 0 k,iD c]
abbrev JS(l:List (List UInt8)):Obj:= .arr 9 false (l.map D.str)
abbrev xa(a n p q:Int)(s:List UInt8):P:= .d (.agg [.int .i64 a,.int .i64 n,.int .i64 p,.int .i64 q,.str s])
abbrev D5:Nat->Prop:=λ_=>False
abbrev jP:=cO×Nat×Nat
def aU(al:List jP)(k:D):Option Value:=(al.find? λx=>D.cP (fI x.1.a x.1.n) k).map λx=>av x.2.1
def a8(d:List (Int×Int))(k:D):Option D:=if d.any (λx=>D.cP (fI x.1 x.2) k)=true then some (.agg []) else none
def cA(b0 b1 b2:Nat)(al:List jP):List Nat:=b0::b1::b2::al.flatMap λx=>[x.2.1,x.2.2]
def AQ(w:World)(x:jP):Prop:= ∃cap cc cs,w.heap[x.2.1]?=some (.cells cc 61 (0,0))/\cc.size=2/\cc.getD 0 undef= .slice (some ⟨x.2.2,0,none⟩) x.1.q.toNat cap/\cc.getD 1 undef= .int .i64 x.1.l.length/\
 w.heap[x.2.2]?=some (.cells cs 9 (0,0))/\x.1.q.toNat<=cap/\cap<=maxLen/\cs.size=cap*1/\fC D5 w cs 1 ((df x.1).map D.str)
def JP(st:JL)(w:World)(g:Value):Prop:= ∃b0 b1 b2 al cc es ck Be D6,al.map (·.1)=st.o/\g= .tuple ⟨av b0::(cA b0 b1 b2 al).map av⟩/\(cA b0 b1 b2 al).Nodup/\
 w.heap[b0]?=some (.cells cc 53 (0,0))/\cc.size=2/\cc.getD 0 undef= .map (some b1)/\cc.getD 1 undef= .map (some b2)/\
 w.heap[b1]?=some (.map es ck)/\MQ PR D5 w (λ_=>undef) [] 58 (aU al) al.length none es.toList ck/\
 w.heap[b2]?=some (.map Be D6)/\fP PR D5 w 58 (a8 st.d) st.d.length Be.toList D6/\ ∀x∈al,AQ w x
theorem JP.keep{st:JL}{w w':World}{g:Value}(h:JP st w g)(hw: ∀b∈re g,w'.heap[b]?=w.heap[b]?):JP st w' g:=by
 obtain⟨b0,b1,b2,al,cc,es,ck,Be,D6,h1,rfl,h3,h4,h5,h6,h7,h8,h9,JT,JU,JV⟩:=h;rw[dL] at hw;refine⟨b0,b1,b2,al,cc,es,ck,Be,D6,h1,rfl,h3,(hw b0 (by simp[cA])).trans h4,h5,h6,h7,(hw b1 (by simp[cA])).trans h8,h9.raw,(hw b2 (by simp[cA])).trans JT,JU.mono (λ_ h=>h) (λ_ h=>h.elim),λx hx=> ?_⟩;obtain⟨cap,cc,cs,g1,g2,g3,g4,g5,g6,g7,g8,g9⟩:=JV x hx;exact⟨cap,cc,cs,(hw _ (by simp only[cA,zan,zbh];exact .inr (.inr (.inr ⟨x,hx,by simp⟩)))).trans g1,g2,g3,g4,
  (hw _ (by simp only[cA,zan,zbh];exact .inr (.inr (.inr ⟨x,hx,by simp⟩)))).trans g5,g6,g7,g8,g9.mono (λ_ h=>h) (λ_ h=>h.elim)⟩
abbrev rL(vals:D->Option Value)(m:Int)(d:D->Option D)(c:Int):List (Nat×En):=[(0,⟨0,some 0,Fh 1 2⟩),(1,⟨0,some 1,.bQ 58 vals m none⟩),(2,⟨0,some 2,.map 58 d c false⟩)]
abbrev uO(a n:Int)(vals:D->Option Value)(m:Int)(d:D->Option D)(c:Int)(ps:List (List UInt8))(k:Int):List (Nat×En):=[(0,⟨0,some 0,Fh 1 2⟩),(1,⟨0,some 1,.bQ 58 vals m (some (fI a n,.ref 3 0 0))⟩),(2,⟨0,some 2,.map 58 d c false⟩),(3,⟨0,some 3,Iv 4 ps.length k⟩),(4,⟨0,some 4,JS ps⟩)]
def pb(a:Int)(n:Int):D:=D.agg [Z4 a,Z4 n]
def K6(a:Int)(n:Int)(d:D->Option D)(c:Int):Nat×En:=(2,En.mk 0 (some 2) (Obj.map 58 (λ(k':D)=>bif D.cP (pb a n) k' then some (D.agg []) else d k') (bif Option.isSome (d (pb a n)) then c else c+(1:Int)) false))
def K7(l:List (List UInt8))(gZ:List UInt8):Prop:=List.length l<=1000000/\List.length (Lib.join l gZ)<=1000000
def zl:P:=P.d (D.str [])
def JX(q:Int):List D:=List.replicate (Zf q) (D.str [])
def MN(q:Int)(p:Int)(s:List UInt8):List D:=List.set (JX q) (Zf p) (D.cg (D.str (D.nj (D.nth (JX q) (Zf p)))) [D.str s])
def Hy(d:D->Option D)(c:Int):Nat×En:=(2,En.mk 0 (some 2) (Obj.map 58 d c false))
def Fj:Nat×En:=(0,En.mk 0 (some 0) (Obj.box (53:TypeId) [P.mp 1 0,P.mp 2 0]))
def Gl:P:=P.fL [zl,ZG,Zy]
def Iw:P:=P.fL [zl,ZG,P.d (D.int .i64 (211:Int))]
def D7:P:=P.fL [zl,ZG,P.d (D.int .i64 (210:Int))]
def AR(vals:D->Option Value)(m:Int)(d:D->Option D)(c:Int):List (Nat×En):=[Fj,(1,En.mk 0 (some 1) (Obj.bQ 58 vals m none)),Hy d c]
def qG:P:=P.fL [zl,ZG,P.d (D.int .i64 (11:Int))]
def ZZ(s:List UInt8):Bool:= !!s==[]
def ZY(q:Int):Bool:=decide (q<=(1000:Int))
def ZX(n:Int):Bool:=decide (n>=(0:Int))
def ZW(a:Int):Bool:=decide (a<=(16:Int))
def ZV(a:Int):Bool:=decide (a>=(1:Int))
theorem JY(a n p q:Int)(s:List UInt8)(vals:D->Option Value)(m:Int)(d:D->Option D)(c:Int)(ae:P×List (Nat×En)->Prop):(bif ZV a then bif ZW a then bif ZX n then bif ZV q then bif ZY q then bif ZX p then bif Ze p q then bif ZZ s then ae (qG,AR vals m d c) else ob (ra PR (62:TypeId) (jS (d (pb a n)) (D.agg []))) (bif Option.isSome (d (pb a n)) then ae (D7,AR vals m d c) else ob (Option.isNone (vals (pb a n))) (bif decide (m>=(50:Int)) then ae (Iw,AR vals m d c) else ob (decide ((0:Int)<=q/\q<=q/\q<=Zj/\(16:Int)*q<=(281474976710656:Int))) (ob (Option.isNone (vals (pb a n))) (ob (decide ((0:Int)<=p/\p<(↑(Zf q):Int))) (ob (decide (Zf p<List.length (JX q))) (ob (ra PR (9:TypeId) (D.nth (JX q) (Zf p))) (bif decide ((0:Int)+(1:Int)<q) then ae (Gl,[Fj,(1,En.mk 0 (some 1) (Obj.bQ 58 vals (m+(1:Int)) (some (pb a n,P.ref 3 0 0)))),Hy d c,(3,En.mk 0 none (Obj.box (61:TypeId) [P.sl 4 0 (Zf q),P.d Zp])),(4,En.mk 0 none (Obj.arr (9:TypeId) false (MN q p s)))]) else ob (D.cP (pb a n) (pb a n)) (∃(l:List (List UInt8)) (gZ:List UInt8),[P.d (D.sl 1 (List.take (Zf q) (MN q p s))),zl]=[P.d (D.sl 1 (List.map D.str l)),P.d (D.str gZ)]/\ZQ/\K7 l gZ/\ae (P.fL [P.d (D.str (Lib.join l gZ)),ZN,Zy],[Fj,(1,En.mk 0 (some 1) (Obj.bQ 58 (λ(j:D)=>bif D.cP (pb a n) j then none else vals j) (m+(1:Int)-(1:Int)) none)),K6 a n d c]))))))))) else ae (qG,AR vals m d c) else ae (qG,AR vals m d c) else ae (qG,AR vals m d c) else ae (qG,AR vals m d c) else ae (qG,AR vals m d c) else ae (qG,AR vals m d c) else ae (qG,AR vals m d c))=(l5 [(17,yh)] [] [] 13 [.ref 0 0 0,xa a n p q s] (rL vals m d c)) ae:=by kernel_rfl
def K8(ps:List (List UInt8))(p:Int)(s:List UInt8):List D:=List.set (List.map D.str ps) (Zf p) (D.cg (D.str (D.nj (D.nth (List.map D.str ps) (Zf p)))) [D.str s])
def MO(ps:List (List UInt8))(k:Int):Nat×En:=(3,En.mk 0 (some 3) (Obj.box (61:TypeId) [P.sl 4 0 (List.length ps),Zl k]))
def MP(vals:D->Option Value)(m:Int)(a:Int)(n:Int):Nat×En:=(1,En.mk 0 (some 1) (Obj.bQ 58 vals m (some (pb a n,P.ref 3 0 0))))
def Bm(vals:D->Option Value)(m:Int)(a:Int)(n:Int)(d:D->Option D)(c:Int)(ps:List (List UInt8))(k:Int):List (Nat×En):=[Fj,MP vals m a n,Hy d c,(3,En.mk 0 (some 3) (Obj.box (61:TypeId) [P.sl 4 0 (List.length ps),P.d (Z4 k)])),(4,En.mk 0 (some 4) (Obj.arr (9:TypeId) false (List.map D.str ps)))]
theorem JZ(a n p q:Int)(s:List UInt8)(vals:D->Option Value)(m:Int)(d:D->Option D)(c:Int)(ps:List (List UInt8))(k:Int)(ae:P×List (Nat×En)->Prop):(bif ZV a then bif ZW a then bif ZX n then bif ZV q then bif ZY q then bif ZX p then bif Ze p q then bif ZZ s then ae (qG,Bm vals m a n d c ps k) else ob (ra PR (62:TypeId) (jS (d (pb a n)) (D.agg []))) (bif Option.isSome (d (pb a n)) then ae (D7,Bm vals m a n d c ps k) else ob (D.cP (pb a n) (pb a n)) (bif (↑(List.length ps):Int) !=q then ae (qG,Bm vals m a n d c ps k) else ob (decide ((0:Int)<=p/\p<(↑(List.length ps):Int))) (ob (decide (Zf p<List.length (List.map D.str ps))) (ob (ra PR (9:TypeId) (D.nth (List.map D.str ps) (Zf p))) (bif !D.nj (D.nth (List.map D.str ps) (Zf p))==[] then ae (D7,Bm vals m a n d c ps k) else ob (decide ((0:Int)<=p/\p<(↑(List.length ps):Int))) (ob (decide (Zf p<List.length (List.map D.str ps))) (ob (ra PR (9:TypeId) (D.nth (List.map D.str ps) (Zf p))) (ob (Zk k) (bif decide (k+(1:Int)<q) then ae (Gl,[Fj,MP vals m a n,Hy d c,MO ps k,(4,En.mk 0 (some 4) (Obj.arr (9:TypeId) false (K8 ps p s)))]) else ob (D.cP (pb a n) (pb a n)) (∃(l:List (List UInt8)) (gZ:List UInt8),[P.d (D.sl 1 (List.take (List.length ps) (K8 ps p s))),zl]=[P.d (D.sl 1 (List.map D.str l)),P.d (D.str gZ)]/\ZQ/\K7 l gZ/\ae (P.fL [P.d (D.str (Lib.join l gZ)),ZN,Zy],[Fj,(1,En.mk 0 (some 1) (Obj.bQ 58 (λ(j:D)=>bif D.cP (pb a n) j then none else vals j) (m-(1:Int)) none)),K6 a n d c,MO ps k,(4,En.mk 0 (some 4) (Obj.arr (9:TypeId) true (K8 ps p s)))]))))))))))) else ae (qG,Bm vals m a n d c ps k) else ae (qG,Bm vals m a n d c ps k) else ae (qG,Bm vals m a n d c ps k) else ae (qG,Bm vals m a n d c ps k) else ae (qG,Bm vals m a n d c ps k) else ae (qG,Bm vals m a n d c ps k) else ae (qG,Bm vals m a n d c ps k))=(l5 [(17,yh)] [] [] 13 [.ref 0 0 0,xa a n p q s] (uO a n vals m d c ps k)) ae:=by kernel_rfl
theorem ow: ∀l:List (List UInt8),kS (l.map D.str)=some l
 | []=>rfl
 |x::l=>by simp[kS,ow l]
theorem yi{x y:aY}(h:eT x=eT y):x=y:=by obtain⟨a,b,c,d,e⟩:=x;obtain⟨a',b',c',d',e'⟩:=y;simp only[eT,D.agg.injEq,zbb,D.int.injEq,D.str.injEq,zcc,zb3] at h;obtain⟨rfl,rfl,rfl,rfl,rfl⟩:=h;rfl
theorem zm: ∀{l m:List aY},l.map eT=m.map eT->l=m
 | [],[],_=>rfl
 | [],_::_,h=>by cases h
 |_::_,[],h=>by cases h
 |x::l,y::m,h=>by simp only[zaO,zbb] at h;rw[yi h.1,zm h.2]
section
variable{X:XF}
theorem zn:FD X 17 yh:=FD.K2 Try.func17 (by kernel_rfl) (by kernel_rfl) (by intro ps R ae hh;obtain⟨l,c,rfl,rfl,hc,hp⟩:=hh;refine⟨_,?_,hp⟩;show wB [.d (.sl 1 (l.map D.str)),.d (.str c)] []=_;unfold wB;simp only[ow];exact zat ⟨by omega,by omega⟩)
end
theorem isUnit:ra PR 62 (.agg [])=true:=by kernel_rfl
theorem yj(s:List UInt8):ra PR 9 (.str s)=true:=by kernel_rfl
theorem Fk(l:List (List UInt8)){i:Nat}(h:i<l.length):D.nth (l.map D.str) i=D.str (l.getD i []):=by unfold D.nth;simp[zaq,h]
theorem Fl{n i:Nat}(h:i<n):D.nth (List.replicate n (D.str [])) i=D.str []:=by unfold D.nth;simp[zaq,h]
theorem kT(x:D):D.cP x x=true:=(D.aZ x x).2 rfl
def Hz(get:D->Option D):Prop:= ∀k,jS (get k) (.agg [])= .agg []
abbrev oO(s:List UInt8)(b:Bool)(e:Int):P:= .fL [sD s,.d (.bool b),iD e]
abbrev Fm(k:D)(d:D->Option D):D->Option D:=λk'=>bif D.cP k k' then some (.agg []) else d k'
abbrev Ob(a n:Int)(vals:D->Option Value)(m:Int)(d:D->Option D)(c:Int)(ps:List (List UInt8))(k:Int):List (Nat×En):=[(0,⟨0,some 0,Fh 1 2⟩),(1,⟨0,some 1,.bQ 58 (uW (fI a n) vals) (m-1) none⟩),(2,⟨0,some 2,.map 58 (Fm (fI a n) d) (c+1) false⟩),(3,⟨0,some 3,Iv 4 ps.length k⟩),(4,⟨0,some 4,.arr 9 true (ps.map D.str)⟩)]
def PF:cR:=λps R ae=> ∃a n p q s vals m d c pt k,ps=[.ref 0 0 0,xa a n p q s]/\R=uO a n vals m d c pt k/\(Hz d/\pt.length<=1000/\(0<=k/\k<=1000)/\(Lib.join (pt.set p.toNat s) []).length<=1000000)/\
 (aN (a,n,p,q,s)=false->ae (oO [] false 11,uO a n vals m d c pt k))/\
 (aN (a,n,p,q,s)=true->(d (fI a n)).isSome=true->ae (oO [] false 210,uO a n vals m d c pt k))/\
 (aN (a,n,p,q,s)=true->(d (fI a n)).isSome=false->(pt.length:Int)≠q->ae (oO [] false 11,uO a n vals m d c pt k))/\
 (aN (a,n,p,q,s)=true->(d (fI a n)).isSome=false->(pt.length:Int)=q->pt.getD p.toNat []≠[]->ae (oO [] false 210,uO a n vals m d c pt k))/\
 (aN (a,n,p,q,s)=true->(d (fI a n)).isSome=false->(pt.length:Int)=q->pt.getD p.toNat []=[]->k+1<q->ae (oO [] false 0,uO a n vals m d c (pt.set p.toNat s) (k+1)))/\
 (aN (a,n,p,q,s)=true->(d (fI a n)).isSome=false->(pt.length:Int)=q->pt.getD p.toNat []=[]-> ¬k+1<q->ae (oO (Lib.join (pt.set p.toNat s) []) true 0,Ob a n vals m d c (pt.set p.toNat s) (k+1)))
abbrev Ix(a n:Int)(vals:D->Option Value)(m:Int)(d:D->Option D)(c:Int)(ps:List (List UInt8)):List (Nat×En):=[(0,⟨0,some 0,Fh 1 2⟩),(1,⟨0,some 1,.bQ 58 vals (m+1) (some (fI a n,.ref 3 0 0))⟩),(2,⟨0,some 2,.map 58 d c false⟩),(3,⟨0,none,Iv 4 ps.length 1⟩),(4,⟨0,none,JS ps⟩)]
def PG:cR:=λps R ae=> ∃a n p q s vals m d c,ps=[.ref 0 0 0,xa a n p q s]/\R=rL vals m d c/\(Hz d/\vals (fI a n)=none/\s.length<=1000000)/\
 (aN (a,n,p,q,s)=false->ae (oO [] false 11,rL vals m d c))/\
 (aN (a,n,p,q,s)=true->(d (fI a n)).isSome=true->ae (oO [] false 210,rL vals m d c))/\
 (aN (a,n,p,q,s)=true->(d (fI a n)).isSome=false->50<=m->ae (oO [] false 211,rL vals m d c))/\
 (aN (a,n,p,q,s)=true->(d (fI a n)).isSome=false-> ¬50<=m->q≠1->ae (oO [] false 0,Ix a n vals m d c ((List.replicate q.toNat []).set p.toNat s)))/\
 (aN (a,n,p,q,s)=true->(d (fI a n)).isSome=false-> ¬50<=m->q=1->ae (oO s true 0,rL (uW (fI a n) vals) (m+1-1) (Fm (fI a n) d) (c+1)))
section
variable{X:XF}{w0:World}(hX:cL PR w0 X.cf)
include hX
theorem MR:ND w0 13 PF:=ND.mk hX (by kernel_rfl) (by kernel_rfl) (by kernel_rfl) (.cons zn .nil) .nil .nil (by
 intro ps R ae hh;obtain⟨a,n,p,q,s,vals,m,d,c,pt,k,ep,er,⟨hU,hlen,⟨je,qS⟩,hj⟩,h1,h2,h3,h4,h5,h6⟩:=hh
 (rw[ep,er,<-JZ];delta Z4 pb K6 Zy ZN K7 ZQ zl Zf K8 Zl MO Hy MP Fj ZG Gl Zj Zi Zk D7 Bm qG ZZ Ze ZY ZX ZW ZV)
 have bg: ¬((1<=a/\a<=16/\0<=n)/\(1<=q/\q<=1000/\0<=p/\p<q)/\s≠[])->aN (a,n,p,q,s)=false:=λh=>zbS h;refine aQ (λg1=> ?_) λg=>h1 (bg λh=>g h.1.1);refine aQ (λg2=> ?_) λg=>h1 (bg λh=>g h.1.2.1);refine aQ (λg3=> ?_) λg=>h1 (bg λh=>g h.1.2.2);refine aQ (λg4=> ?_) λg=>h1 (bg λh=>g h.2.1.1);refine aQ (λg5=> ?_) λg=>h1 (bg λh=>g h.2.1.2.1);refine aQ (λg6=> ?_) λg=>h1 (bg λh=>g h.2.1.2.2.1);refine aQ (λg7=> ?_) λg=>h1 (bg λh=>g h.2.1.2.2.2);refine ez (λg=>h1 (bg λh=>h.2.2 (by simpa using g))) λg8=> ?_;have hr:aN (a,n,p,q,s)=true:=zbj ⟨⟨g1,g2,g3⟩,⟨g4,g5,g6,g7⟩,by simpa using g8⟩;have hk:=hU (fI a n);rw[hk];refine bY isUnit (ez (λg=>h2 hr g) λg9=>oc (kT _) (ez (λg=>h3 hr g9 (by simpa using g)) λg10=> ?_));have hq:(pt.length:Int)=q:=by simpa using g10
 have hN:p.toNat<pt.length:=by omega
 rw[Fk pt hN];have oL:List.set (pt.map D.str) p.toNat (D.cg (D.str (D.nj (D.str (pt.getD p.toNat [])))) [D.str s])=(pt.set p.toNat s).map D.str:=by rw[zbx];rfl
 rw[oL,g9];refine aD (by omega) (aD (by rw[zai];exact hN) (bY (yj _) (ez (λg=>h4 hr g9 hq (by simpa [D.nj] using g)) λg=> ?_)));have g0:pt.getD p.toNat []=[]:=by simpa [D.nj] using g
 refine aD (by omega) (aD (by rw[zai];exact hN) (bY (yj _) (aD (by omega) (aQ (λg11=> ?_) λg11=>oc (kT _) ?_))))
 ·have:=h5 hr g9 hq g0 g11;simp only[uO,zas] at this;exact this
 refine⟨pt.set p.toNat s,[],?_,rfl,⟨by rw[zas];omega,hj⟩,?_⟩
 ·rw[zay (by simp)]
 have:=h6 hr g9 hq g0 g11;simp only[Ob,zas] at this;exact this)
theorem MS:ND w0 13 PG:=ND.mk hX (by kernel_rfl) (by kernel_rfl) (by kernel_rfl) (.cons zn .nil) .nil .nil (by
 intro ps R ae hh;obtain⟨a,n,p,q,s,vals,m,d,c,ep,er,⟨hU,hv,hj⟩,h1,h2,h3,h4,h5⟩:=hh
 (rw[ep,er,<-JY];delta Z4 pb K6 Zy ZN K7 ZQ zl Zf JX MN Zp Hy Fj ZG Gl Zj Iw D7 AR qG ZZ Ze ZY ZX ZW ZV)
 have bg: ¬((1<=a/\a<=16/\0<=n)/\(1<=q/\q<=1000/\0<=p/\p<q)/\s≠[])->aN (a,n,p,q,s)=false:=λh=>zbS h;refine aQ (λg1=> ?_) λg=>h1 (bg λh=>g h.1.1);refine aQ (λg2=> ?_) λg=>h1 (bg λh=>g h.1.2.1);refine aQ (λg3=> ?_) λg=>h1 (bg λh=>g h.1.2.2);refine aQ (λg4=> ?_) λg=>h1 (bg λh=>g h.2.1.1);refine aQ (λg5=> ?_) λg=>h1 (bg λh=>g h.2.1.2.1);refine aQ (λg6=> ?_) λg=>h1 (bg λh=>g h.2.1.2.2.1);refine aQ (λg7=> ?_) λg=>h1 (bg λh=>g h.2.1.2.2.2);refine ez (λg=>h1 (bg λh=>h.2.2 (by simpa using g))) λg8=> ?_;have hr:aN (a,n,p,q,s)=true:=zbj ⟨⟨g1,g2,g3⟩,⟨g4,g5,g6,g7⟩,by simpa using g8⟩;have hk:=hU (fI a n);have hN:p.toNat<q.toNat:=by omega
 rw[hk,Fl hN,hv];have oL:List.set (List.replicate q.toNat (D.str [])) p.toNat (D.cg (D.str (D.nj (D.str []))) [D.str s])=((List.replicate q.toNat ([]:List UInt8)).set p.toNat s).map D.str:=by rw[zbx,List.map_replicate];rfl
 rw[oL];refine bY isUnit (ez (λg=>h2 hr g) λg9=>oc rfl (aQ (λg=>h3 hr g9 g) λg10=> ?_));refine aD (by omega) (bY rfl (aD (by omega) (aD (by rw[zaR];exact hN) (bY (yj []) (aQ (λg1=> ?_) λg1=>oc (kT _) ?_)))))
 ·have:=h4 hr g9 g10 (by omega);simp only[Ix,zas,zaR] at this;exact this
 have e1:q=1:=by omega
 have e2:p=0:=by omega
 subst e1;subst e2;refine⟨[s],[],rfl,rfl,⟨by simp,by simp[Lib.join,List.intercalate];omega⟩,?_⟩;have ej:Lib.join [s] []=s:=by simp[Lib.join,List.intercalate]
 rw[ej,g9];exact h5 hr g9 g10 rfl)
end
def AT{α:Type}(t:α->Bool)(l:List α):Int:=match l.findIdx? t with |some i=>(i:Int)|none=> -1
theorem wG{α:Type}{t:α->Bool}{l:List α}{i:Nat}(hi:i<l.length)(ht:t l[i]=true)(hb: ∀j (hj:j<i),t (l[j]'(by omega))=false):AT t l=(i:Int):=by unfold AT;rw[za5.2 ⟨hi,ht,λj hj=>by rw[hb j hj];simp⟩]
theorem zo{α:Type}{t:α->Bool}{l:List α}(h: ∀j (hj:j<l.length),t l[j]=false):AT t l= -1:=by unfold AT;rw[zcx.2 λx hx=>by obtain⟨j,hj,rfl⟩:=zaM hx;exact h j hj]
variable{X:XF}
theorem LD.idx{H:List (FuncId×cR)}{hk:List (Nat×(S->K (PX×S)))}{f id:Nat}{g:S->K (PX×S)}(hu:uniq PR f=true)(hc:bB (uN f) (bz PR f id)=true)(hH:HD X H)(hl:D2 X f hk)
  {A B:Type} (hd:A->B->Int->S) (len:A->Nat) (Inv:A->Nat->B->Prop) (Out:A->PX×S->Prop)
  (hr: ∀a b (k:Int) ae,0<=k->k<len a->k.toNat<len a->Inv a k.toNat b->(∀b',Inv a (k.toNat+1) b'->ae (.normal,hd a b' (k+1)))->(∀x,x.1≠ .normal->Out a x->ae x)->de H hk f id (hd a b k) ae)
  (hx: ∀a b (k:Int) ae,k=len a->Inv a (len a) b->(∀x,x.1≠ .normal->Out a x->ae x)->de H hk f id (hd a b k) ae)
  (hg: ∀s ae,g s ae-> ∃a b,s=hd a b 0/\Inv a 0 b/\ ∀x,Out a x->ae x):LD X f id (aF (gY f id) g):=
 LD.par hu hc hH hl (A:=A) (B:=B×Int) (λa b=>hd a b.1 b.2) (λa b=>0<=b.2/\b.2.toNat<=len a/\Inv a b.2.toNat b.1) (λa b=>(len a-b.2).toNat) Out
  (by
   rintro a ⟨b,k⟩ ⟨h1,h2,h3⟩;dsimp only at*
   have iF: ∀x:PX×S,x.1≠ .normal->Out a x->roundPost ((len a-k).toNat) (λm s=> ∃b':B×Int,s=hd a b'.1 b'.2/\(0<=b'.2/\b'.2.toNat<=len a/\Inv a b'.2.toNat b'.1)/\m=(len a-b'.2).toNat) (Out a) x:=by
    rintro⟨e,s⟩ b9 hx;cases e with
    |normal=>exact absurd rfl b9
    |exit i=>exact hx
    |ret=>exact hx
   by_cases hk:k<len a
   ·refine hr a b k _ h1 hk (by omega) h3 (λb' hb=> ?_) iF;exact⟨((len a:Int)-(k+1)).toNat,by omega,(b',k+1),rfl,⟨by show 0<=k+1;omega,by show(k+1).toNat<=len a;omega,by show Inv a (k+1).toNat b';rw[show(k+1).toNat=k.toNat+1 by omega];exact hb⟩,rfl⟩
   have e:k=len a:=by omega
   refine hx a b k _ e ?_ iF;have:k.toNat=len a:=by omega
   rwa [this] at h3)
  (by intro s ae hp;obtain⟨a,b,h1,h2,h3⟩:=hg s ae hp;exact⟨a,(b,0),h1,⟨Int.le_refl _,by simp,h2⟩,h3⟩)
theorem LD.find{H:List (FuncId×cR)}{hk:List (Nat×(S->K (PX×S)))}{f id:Nat}{g:S->K (PX×S)}(hu:uniq PR f=true)(hc:bB (uN f) (bz PR f id)=true)(hH:HD X H)(hl:D2 X f hk)
  {A α:Type} (hd:A->Int->S) (uP:A->List α) (t:A->Nat->α->Bool) (C:A->Prop) (rt:A->Int->PX×S) (ex:A->PX×S) (MT: ∀a k,(rt a k).1≠ .normal) (MU: ∀a,(ex a).1≠ .normal)
  (hr: ∀a (k:Int) ae (o5:k.toNat<(uP a).length),C a->0<=k->k<(uP a).length->(t a k.toNat (uP a)[k.toNat]=true->ae (rt a k))->(t a k.toNat (uP a)[k.toNat]=false->ae (.normal,hd a (k+1)))->de H hk f id (hd a k) ae)
  (hx: ∀a (k:Int) ae,C a->k=(uP a).length->ae (ex a)->de H hk f id (hd a k) ae)
  (hg: ∀s ae,g s ae-> ∃a,s=hd a 0/\C a/\(∀(i:Int) (hi:i.toNat<(uP a).length),0<=i->t a i.toNat (uP a)[i.toNat]=true->(∀j (hj:j<i.toNat),t a j ((uP a)[j]'(by omega))=false)->ae (rt a i))/\((∀j (hj:j<(uP a).length),t a j (uP a)[j]=false)->ae (ex a))):LD X f id (aF (gY f id) g):=
 LD.idx hu hc hH hl (A:=A) (B:=Unit) (λa _ k=>hd a k) (λa=>(uP a).length) (λa k _=>C a/\ ∀j (hj:j<(uP a).length),j<k->t a j (uP a)[j]=false)
  (λa x=>(∃(i:Int) (hi:i.toNat<(uP a).length),0<=i/\t a i.toNat (uP a)[i.toNat]=true/\(∀j (hj:j<i.toNat),t a j ((uP a)[j]'(by omega))=false)/\x=rt a i)\/((∀j (hj:j<(uP a).length),t a j (uP a)[j]=false)/\x=ex a))
  (by
   intro a _ k ae h0 hk o5 ⟨hC,hI⟩ hn ho;refine hr a k ae o5 hC h0 hk (λht=>ho _ (MT a k) (.inl ⟨k,o5,h0,ht,λj hj=>hI j (by omega) hj,rfl⟩)) λht=>hn () ⟨hC,λj hj Qz=> ?_⟩;by_cases e:j=k.toNat
   ·subst e;exact ht
   exact hI j hj (by omega))
  (by intro a _ k ae hk ⟨hC,hI⟩ ho;exact hx a k ae hC hk (ho _ (MU a) (.inr ⟨λj hj=>hI j hj hj,rfl⟩)))
  (by
   intro s ae hp;obtain⟨a,h1,h2,h3,h4⟩:=hg s ae hp;refine⟨a,(),h1,⟨h2,λj _ hj=>by omega⟩,?_⟩;rintro x (⟨i,hi,g1,g2,g3,rfl⟩| ⟨g1,rfl⟩)
   ·exact h3 i hi g1 g2 g3
   exact h4 g1)
theorem wH{α:Type}(lt:α->α->Bool)(o:List α)(a:α):(bZ lt o a).length=o.length+1:=by rw[(sP o a).length_eq];simp
def oz{α:Type}(o:List α)(k:Nat)(x y:α):List α:=(o.set k y).set (k-1) x
theorem sR{α:Type}(o:List α)(k:Nat)(x y:α):(oz o k x y).length=o.length:=by simp[oz]
theorem sS{α:Type}(f:α->D)(o:List α)(k:Nat)(x y:α):(((o.map f).set k (f y)).set (k-1) (f x))=(oz o k x y).map f:=by simp[oz,zbx]
theorem Dd{α:Type}(pre sT:List α)(x y:α):oz (pre++[y]++x::sT) (pre.length+1) x y=pre++x::(y::sT):=by unfold oz;have e:pre++[y]++x::sT=(pre++[y])++x::sT:=rfl;rw[show(pre++[y]++x::sT).set (pre.length+1) y=pre++[y]++y::sT by rw[zby _ _ (by simp)];simp];rw[zbW,zby _ _ (by simp)];simp
variable{X:XF}
theorem LD.ins{H:List (FuncId×cR)}{hk:List (Nat×(S->K (PX×S)))}{f id:Nat}{g:S->K (PX×S)}(hu:uniq PR f=true)(hc:bB (uN f) (bz PR f id)=true)(hH:HD X H)(hl:D2 X f hk)
  {A α:Type} (hd:A->List α->Int->S) (lt:α->α->Bool) (N:A->Nat) (C:A->Prop) (ex:A->List α->PX×S) (b9: ∀a o,(ex a o).1≠ .normal)
  (hr: ∀a o (k:Int) ae,C a->0<=k->o.length=N a->N a<=1000001->(o5:k.toNat<o.length)->(k=0->ae (ex a o))->(0<k->lt o[k.toNat] (o[k.toNat-1]'(by omega))=false->ae (ex a o))->
   (0<k->lt o[k.toNat] (o[k.toNat-1]'(by omega))=true->ae (.normal,hd a (oz o k.toNat o[k.toNat] (o[k.toNat-1]'(by omega))) (k-1)))->de H hk f id (hd a o k) ae)
  (hg: ∀s ae,g s ae-> ∃(a:A) (o:List α) (x:α) (k:Int),s=hd a (o++[x]) k/\k=o.length/\C a/\(o.length+1=N a/\o.length<=1000000)/\ae (ex a (bZ lt o x))):LD X f id (aF (gY f id) g):=
 LD.par hu hc hH hl (A:=A×List α×α) (B:=List α×List α×Int) (λa b=>hd a.1 (b.1++a.2.2::b.2.1) b.2.2)
  (λa b=>(C a.1/\b.1.length+b.2.1.length+1=N a.1)/\b.2.2=b.1.length/\b.1.length+b.2.1.length<=1000000/\(nA lt a.2.2 b.1.reverse).reverse++b.2.1=bZ lt a.2.1 a.2.2) (λ_ b=>b.1.length) (λa x=>x=ex a.1 (bZ lt a.2.1 a.2.2))
  (by
   rintro⟨a,o,x⟩ ⟨pre,sT,k⟩ ⟨⟨h1,hN⟩,h2,h3,h4⟩;dsimp only at*
   have iF: ∀y,y=ex a (bZ lt o x)->roundPost pre.length (λm s=> ∃b':List α×List α×Int,s=hd a (b'.1++x::b'.2.1) b'.2.2/\((C a/\b'.1.length+b'.2.1.length+1=N a)/\b'.2.2=b'.1.length/\b'.1.length+b'.2.1.length<=1000000/\(nA lt x b'.1.reverse).reverse++b'.2.1=bZ lt o x)/\m=b'.1.length) (λy=>y=ex a (bZ lt o x)) y:=by
    rintro⟨e,s⟩ he;have hn:=b9 a (bZ lt o x);rw[<-he] at hn;cases e with
    |normal=>exact absurd rfl hn
    |exit i=>exact he
    |ret=>exact he
   have o5:k.toNat=pre.length:=by omega
   have hlen:(pre++x::sT).length=pre.length+sT.length+1:=by simp;omega
   have hx:(pre++x::sT)[k.toNat]'(by omega)=x:=by simp[o5]
   refine hr a (pre++x::sT) k _ h1 (by omega) (by omega) (by omega) (by omega) (λhz=>iF _ ?_) (λhp bj=>iF _ ?_) λhp bj=> ?_
   ·have:pre=[]:=zaJ (by omega);subst this;rw[<-h4];simp[nA]
   ·obtain⟨p,y,rfl⟩: ∃p y,pre=p++[y]:=by
     rcases List.eq_nil_or_concat pre with h | ⟨p,y,h⟩
     ·subst h;simp at h2;omega
     exact⟨p,y,by simpa using h⟩
    have hy:(p++[y]++x::sT)[k.toNat-1]'(by omega)=y:=by simp[o5]
    rw[hx,hy] at bj;rw[<-h4];simp[nA,bj]
   obtain⟨p,y,rfl⟩: ∃p y,pre=p++[y]:=by
    rcases List.eq_nil_or_concat pre with h | ⟨p,y,h⟩
    ·subst h;simp at h2;omega
    exact⟨p,y,by simpa using h⟩
   have hy:(p++[y]++x::sT)[k.toNat-1]'(by omega)=y:=by simp[o5]
   have PH:oz (p++[y]++x::sT) k.toNat x y=p++x::(y::sT):=by rw[o5,zaw];exact Dd p sT x y
   have wz:(p++[y]).length=p.length+1:=by simp
   rw[hx,hy] at bj⊢;refine⟨p.length,by omega,(p,y::sT,k-1),by rw[PH],⟨⟨h1,by show p.length+(y::sT).length+1=N a;simp only[zaI];omega⟩,by show k-1=(p.length:Int);omega,by show p.length+(y::sT).length<=1000000;simp only[zaI];omega,?_⟩,rfl⟩;show(nA lt x p.reverse).reverse++y::sT=bZ lt o x;rw[<-h4];simp[nA,bj])
  (by intro s ae hp;obtain⟨a,o,x,k,h1,h2,h3,⟨h6,h4⟩,h5⟩:=hg s ae hp;refine⟨(a,o,x),(o,[],k),h1,⟨⟨h3,by simpa using h6⟩,h2,by simpa using h4,by simp[bZ]⟩,?_⟩;rintro y rfl;exact h5)
theorem De(l:List aY)(f:aY):bZ ja l f≠[]:=λh=>by have:=(jD (l:=l) (f:=f) (g:=f)).2 (.inr rfl);rw[h] at this;cases this
theorem mQ(l:List aY)(f:aY):(bZ ja l f).length=l.length+1:=wH ..
theorem fo{f:aY}:aN f=true↔(1<=f.1/\f.1<=16/\0<=f.2.1)/\(1<=f.2.2.2.1/\f.2.2.2.1<=1000/\0<=f.2.2.1/\f.2.2.1<f.2.2.2.1)/\f.2.2.2.2≠[]:=decide_eq_true_iff
theorem AO.ins{o:cO}{f:aY}(h:AO o)(hr:aN f=true)(hk:o.a=f.1/\o.n=f.2.1)(hq:o.q=f.2.2.2.1)(hl:f.2.2.2.2.length<=100)(hn:o.l.any (λx=>decide (x.2.2.1=f.2.2.1))=false)(hc:((bZ ja o.l f).length:Int)<o.q):AO ⟨o.a,o.n,o.q,bZ ja o.l f⟩:=by
 obtain⟨r1,r2,r3⟩:=fo.1 hr;refine⟨h.a,h.q,λg hg=> ?_,yg h.s λg hg e=> ?_,hc⟩
 ·rcases jD.1 hg with hg |rfl
  ·exact h.m g hg
  exact⟨hk.1.symm,hk.2.symm,hq.symm,r2.2.2.1,by rw[hq];exact r2.2.2.2,r3,hl⟩
 rw[zbZ] at hn;exact hn g hg (by simpa using e)
theorem mR{f:aY}{o:cO}:lu f o=true↔o.a=f.1/\o.n=f.2.1:=decide_eq_true_iff
theorem sU{st:JL}{f:aY}:
  (aN f=false/\eF st f=(([],false,11),st))\/
  (aN f=true/\st.d.contains (f.1,f.2.1)=true/\eF st f=(([],false,210),st))\/
  (aN f=true/\st.d.contains (f.1,f.2.1)=false/\ ∃k o,st.o[k]?=some o/\o.a=f.1/\o.n=f.2.1/\st.o.findIdx? (lu f)=some k/\
   ((o.q≠f.2.2.2.1/\eF st f=(([],false,11),st))\/(o.q=f.2.2.2.1/\o.l.any (λx=>decide (x.2.2.1=f.2.2.1))=true/\eF st f=(([],false,210),st))\/
    (o.q=f.2.2.2.1/\o.l.any (λx=>decide (x.2.2.1=f.2.2.1))=false/\((((bZ ja o.l f).length:Int)<o.q/\eF st f=(([],false,0),⟨st.o.set k ⟨o.a,o.n,o.q,bZ ja o.l f⟩,st.d⟩))\/
     (¬((bZ ja o.l f).length:Int)<o.q/\eF st f=(((bZ ja o.l f).flatMap (·.2.2.2.2),true,0),⟨st.o.eraseIdx k,st.d++[(f.1,f.2.1)]⟩))))))\/
  (aN f=true/\st.d.contains (f.1,f.2.1)=false/\st.o.findIdx? (lu f)=none/\
   ((50<=st.o.length/\eF st f=(([],false,211),st))\/(¬50<=st.o.length/\((1<f.2.2.2.1/\eF st f=(([],false,0),⟨st.o++[⟨f.1,f.2.1,f.2.2.2.1,[f]⟩],st.d⟩))\/(¬1<f.2.2.2.1/\eF st f=((f.2.2.2.2,true,0),⟨st.o,st.d++[(f.1,f.2.1)]⟩)))))):=by
 unfold eF;cases h1:aN f with
 |false=>exact .inl ⟨rfl,zat rfl⟩
 |true=>
  refine .inr ?_;rw[zaC (by simp)];cases h2:st.d.contains (f.1,f.2.1) with
  |true=>exact .inl ⟨rfl,rfl,zat rfl⟩
  |false=>
   refine .inr ?_;rw[zaC (by simp)];cases h3:st.o.findIdx? (lu f) with
   |some k=>
    refine .inl ⟨rfl,rfl,?_⟩;obtain⟨hk,h4,_⟩:=za5.1 h3;have hx:st.o[k]?=some st.o[k]:=zac hk;obtain⟨e1,e2⟩:=mR.1 h4;refine⟨k,st.o[k],hx,e1,e2,rfl,?_⟩;simp only[hx];by_cases h5:st.o[k].q=f.2.2.2.1
    ·refine .inr ?_;rw[zaC (by simpa using h5)];cases h6:st.o[k].l.any (λx=>decide (x.2.2.1=f.2.2.1)) with
     |true=>exact .inl ⟨h5,rfl,zat rfl⟩
     |false=>
      refine .inr ⟨h5,rfl,?_⟩;rw[zaC (by simp)];unfold Ff;by_cases h7:((bZ ja st.o[k].l f).length:Int)<st.o[k].q
      ·exact .inl ⟨h7,zat h7⟩
      exact .inr ⟨h7,zaC h7⟩
    exact .inl ⟨h5,zat h5⟩
   |none=>
    refine .inr ⟨rfl,rfl,rfl,?_⟩;dsimp only;by_cases h4:50<=st.o.length
    ·exact .inl ⟨h4,zat h4⟩
    refine .inr ⟨h4,?_⟩;rw[zaC h4];unfold Ff;have e:bZ ja [] f=[f]:=rfl;have e2:(([f]:List aY).length:Int)=1:=rfl;dsimp only;rw[e,e2];by_cases h7:1<f.2.2.2.1
    ·refine .inl ⟨h7,?_⟩;rw[zat h7,zby (h:=zae _)];simp
    refine .inr ⟨h7,?_⟩;rw[zaC h7,zbD (zae _)];simp
theorem l6{f:aY}{l:List cO}(h:l.findIdx? (lu f)=none): ∀o∈l,¬(o.a=f.1/\o.n=f.2.1):=λo ho h2=>by have:=zcx.1 h o ho;rw[mR.2 h2] at this;cases this
theorem uy{st:JL}{f:aY}(h:Bl st)(hl:f.2.2.2.2.length<=100):Bl (eF st f).2/\(eF st f).2.d.length<=st.d.length+1:=by
 rcases sU (st:=st) (f:=f) with⟨_,e⟩| ⟨_,_,e⟩| ⟨hr,hd,k,o,hk,ha,hn,_,⟨_,e⟩| ⟨_,_,e⟩| ⟨hq,hy,⟨hc,e⟩| ⟨hc,e⟩⟩⟩| ⟨hr,hd,hf,⟨_,e⟩| ⟨Oc,⟨hc,e⟩| ⟨hc,e⟩⟩⟩<;>rw[e]
 ·exact⟨h,zbn _⟩
 ·exact⟨h,zbn _⟩
 ·exact⟨h,zbn _⟩
 ·exact⟨h,zbn _⟩
 ·have eC:=zak hk;have fK:=(h.o o eC).1;have rH:k<st.o.length:=(zaa.1 hk).1;have em:(st.o.set k ⟨o.a,o.n,o.q,bZ ja o.l f⟩).map (λo=>(o.a,o.n))=st.o.map λo=>(o.a,o.n):=by
   rw[zbx];refine za7 λj=> ?_;by_cases hj:k=j
   ·subst hj;rw[zaF (by simpa using rH),zah,hk];rfl
   rw[zau hj]
  refine⟨⟨λo' eZ=> ?_,by rw[em];exact h.nd,λo' eZ=> ?_,by simpa using h.len⟩,zbn _⟩
  ·rcases zbi eZ with eZ |rfl
   ·exact h.o o' eZ
   exact⟨fK.ins hr ⟨ha,hn⟩ hq hl hy hc,De _ _⟩
  rcases zbi eZ with eZ |rfl
  ·exact h.di o' eZ
  exact h.di o eC
 ·have eC:=zak hk;have rH:k<st.o.length:=(zaa.1 hk).1;refine⟨⟨λo' eZ=>h.o o' (zaU eZ),?_,λo' eZ vW=> ?_,?_⟩,by simp⟩
  ·dsimp only;exact h.nd.sublist ((zbw ..).map _)
  ·rcases zaH.1 vW with vW |vW
   ·exact h.di o' (zaU eZ) vW
   obtain⟨i,hi,b9⟩:=zbc.1 eZ;have ik:=(zaa.1 b9).1;have h1:(st.o.map λo=>(o.a,o.n))[i]?=(st.o.map λo=>(o.a,o.n))[k]?:=by rw[zah,zah,b9,hk];simp only[zaL] at vW;simp[vW,ha,hn]
   exact hi ((zco (by simpa using ik) h.nd).1 h1)
  have:=h.len;have:=List.length_eraseIdx_le st.o k;dsimp only;omega
 ·exact⟨h,zbn _⟩
 ·have bg:=l6 hf;obtain⟨r1,r2,r3⟩:=fo.1 hr;have hd:(f.1,f.2.1)∉st.d:=λhm=>by rw[zcb.2 hm] at hd;cases hd
  refine⟨⟨λo' eZ=> ?_,?_,λo' eZ=> ?_,?_⟩,zbn _⟩
  ·rcases zaH.1 eZ with eZ |eZ
   ·exact h.o o' eZ
   simp only[zaL] at eZ;subst eZ;refine⟨⟨r1,⟨r2.1,r2.2.1⟩,λg hg=> ?_,List.pairwise_singleton ..,hc⟩,by simp⟩;simp only[zaL] at hg;subst hg;exact⟨rfl,rfl,rfl,r2.2.2.1,r2.2.2.2,r3,hl⟩
  ·dsimp only;rw[zaZ,za8];refine⟨h.nd,by simp,λx hx y hy=> ?_⟩;obtain⟨o',eZ,rfl⟩:=zaQ.1 hx;simp only[zaO,zbT,zaL] at hy;subst hy;intro e;simp only[za9] at e;exact bg o' eZ e
  ·rcases zaH.1 eZ with eZ |eZ
   ·exact h.di o' eZ
   simp only[zaL] at eZ;subst eZ;exact hd
  dsimp only;rw[zaw];simp only[zaI,zbu];omega
 have bg:=l6 hf;refine⟨⟨h.o,h.nd,λo' eZ vW=> ?_,h.len⟩,by simp⟩;rcases zaH.1 vW with vW |vW
 ·exact h.di o' eZ vW
 simp only[zaL,za9] at vW;exact bg o' eZ vW
theorem HA:Bl ⟨[],[]⟩:=⟨by simp,by simp,by simp,by simp⟩
theorem wI: ∀(l:List aY),(∀f∈l,f.2.2.2.2.length<=100)->(l.flatMap (·.2.2.2.2)).length<=l.length*100
 | [],_=>by simp
 |f::l,h=>by rw[zaY,zaw,zaI];have:=h f (by simp);have:=wI l λg hg=>h g (by simp[hg]);omega
theorem aC{α:Type}{k:Nat}{v:α}{r:List (Nat×α)}{j:Nat}{e:α}(h:lk ((k,v)::r) j=some e):(j=k/\e=v)\/lk r j=some e:=by
 unfold lk at h;split at h
 next hb=>cases h;exact .inl ⟨(zab hb).symm,rfl⟩
 exact .inr h
theorem cd{α:Type}{k:Nat}{v:α}{j:Nat}{e:α}(h:lk [(k,v)] j=some e):j=k/\e=v:=by
 rcases aC h with h |h
 ·exact h
 cases h
theorem b7{F F':Nat->Prop}{w w':World}{v:Value}{x:D}(h:az F w v x)(hx:D.uV x=true):az F' w' v x:=by cases h<;>first | (cases hx;done)|constructor
theorem AU{F F':Nat->Prop}{w w':World}{v:Value}(h:az F w v (.agg [])):az F' w' v (.agg []):=by
 cases h with
 |agg vs _ hl _ _=>have:vs=[]:=zcB.1 hl;subst this;exact .agg [] [] rfl (λc h=>by cases h) (λi v c h=>by simp at h)
theorem eo.eq{g g':Value}(h:eo g g')(hn: ∀l,g'≠ .tuple l):g=g':=by
 rcases h with h | ⟨v,l,l',h1,h2⟩
 ·exact h
 exact absurd h2 (hn _)
section
variable{α:Type}{p:α->Bool}
theorem uz: ∀{l:List α} {k:Nat} {x:α},l[k]?=some x->p x=true->(∀(i:Nat) (y:α),l[i]?=some y->p y=true->i=k)->l.find? p=some x
 | [],k,x,h,_,_=>by simp at h
 |z::l,k,x,h,hp,hu=>by
  cases hz:p z with
  |true=>have e:=hu 0 z rfl hz;subst e;cases h;exact List.find?_cons_of_pos hz
  |false=>
   rw[List.find?_cons_of_neg (by simp[hz])];cases k with
   |zero=>cases h;rw[hp] at hz;cases hz
   |succ k=>exact uz (k:=k) h hp λi y hi hy=>by have:=hu (i+1) y hi hy;omega
theorem Df{l:List α}(h: ∀(i:Nat) (y:α),l[i]?=some y->p y=false):l.find? p=none:=
 zbU.2 λx hx=>by obtain⟨i,hi⟩:=zao hx;simp[h i x hi]
theorem wJ: ∀{l:List α} {k:Nat} {x y:α},l[k]?=some x->p x=false->p y=false->(l.set k y).find? p=l.find? p
 | [],k,x,y,h,_,_=>by simp at h
 |z::l,0,x,y,h,hx,hy=>by cases h;rw[zci,zbs,zbs,hx,hy]
 |z::l,k+1,x,y,h,hx,hy=>by rw[zcj,zbs,zbs,wJ (l:=l) (k:=k) h hx hy]
theorem qH: ∀{l:List α} {k:Nat} {x:α},l[k]?=some x->p x=false->(l.eraseIdx k).find? p=l.find? p
 | [],k,x,h,_=>by simp at h
 |z::l,0,x,h,hx=>by cases h;rw[zb1,List.find?_cons_of_neg (by simp[hx])]
 |z::l,k+1,x,h,hx=>by rw[zb2,zbs,zbs,qH (l:=l) (k:=k) h hx]
end
section
variable{Q:Program}{F F2:Nat->Prop}{G V V1 G1 G2:Nat->Value}{w w2 w0:World}{R R1 R2:List (Nat×En)}
theorem aL.cy(h:aL Q ⟨V,w0,0,false⟩ F G w R){b:Nat}(hb:Own G R b):b<w.heap.size:=by obtain⟨n,e,h1,h2⟩:=hb;exact(h.rg n e h1).lt h2
theorem aL.shut(h:aL Q ⟨V,w0,0,false⟩ F G w R)(h2:aL Q ⟨V1,w0,0,false⟩ F2 G2 w2 R2)(hx:Ext (Own G1 R1) (Own G2 R2) F F2 w w2)(hs: ∀b,Own G1 R1 b->Own G R b){t:Option Nat}{x:D}{p:World->Value->Prop}{u:Value}{bs:List Nat}
  (hp: ∀w':World,(∀b,b∈bs->w'.heap[b]?=w2.heap[b]?)->p w' (.tuple ⟨u::bs.map av⟩)) (hb: ∀b∈bs,Own G2 R2 b\/Own G R b) (hT: ∀i,t=some i-> ∃l,V i= .tuple ⟨u::l⟩):
  aL Q ⟨V,w0,0,false⟩ F (λ_=> .tuple ⟨u::bs.map av⟩) w2 [(0,⟨0,t,.deep x p⟩)]/\Ext (Own G R) (Own (λ_=> .tuple ⟨u::bs.map av⟩) [(0,⟨0,t,.deep x p⟩)]) F F w w2:=by
 have ho: ∀b,Own (λ_=> .tuple ⟨u::bs.map av⟩) [(0,⟨0,t,.deep x p⟩)] b->b∈bs:=λb ⟨n,e,h1,h3⟩=>by obtain⟨rfl,rfl⟩:=cd h1;have h3:b∈re (.tuple ⟨u::bs.map av⟩):=h3;rwa [dL] at h3
 refine h.back h2 hx hs ?_ ?_ ?_ ?_
 ·intro n e he;obtain⟨rfl,rfl⟩:=cd he;refine⟨u,bs,rfl,λb oM=> ?_,λw' hw=>hp w' λb hb=>hw b (.inl hb)⟩;rcases hb b oM with h3 |h3
  ·exact h2.cy h3
  exact zaK (h.cy h3) hx.size
 ·intro n m e e' b he bc _ _;rw[(cd he).1,(cd bc).1]
 ·exact λb oM=>hb b (ho b oM)
 intro n e i he hi _;obtain⟨rfl,rfl⟩:=cd he;obtain⟨l,hl⟩:=hT i hi;exact .inr ⟨u,bs.map av,l,rfl,hl⟩
end
theorem pc{a n b m:Int}:D.cP (fI a n) (fI b m)=true↔a=b/\n=m:=by rw[D.aZ];simp
abbrev Gm(k:D)(x:jP):Bool:=D.cP (fI x.1.a x.1.n) k
def Iy(al:List jP):Prop:=(al.map λx=>(x.1.a,x.1.n)).Nodup
theorem Iy.uniq{al:List jP}(h:Iy al){k:Nat}{x:jP}(hk:al[k]?=some x): ∀(i:Nat) (y:jP),al[i]?=some y->Gm (fI x.1.a x.1.n) y=true->i=k:=λi y hi hy=>by
 have ik:=(zaa.1 hi).1;obtain⟨e1,e2⟩:=pc.1 hy;have h1:(al.map λx=>(x.1.a,x.1.n))[i]?=(al.map λx=>(x.1.a,x.1.n))[k]?:=by rw[zah,zah,hi,hk];simp[e1,e2]
 exact(zco (by simpa using ik) h).1 h1
theorem l7{al:List jP}{a n:Int}(h: ∀x∈al,¬(x.1.a=a/\x.1.n=n)):aU al (fI a n)=none:=by unfold aU;rw[zbU.2 λx hx=>by intro e;exact h x hx (pc.1 e)];rfl
theorem Dg{al:List jP}(h:Iy al){k:Nat}{x:jP}(hk:al[k]?=some x):aU al (fI x.1.a x.1.n)=some (av x.2.1):=by unfold aU;rw[uz (p:=Gm (fI x.1.a x.1.n)) hk (kT _) (h.uniq hk)];rfl
theorem wK{al:List jP}(h:Iy al){k:Nat}{x:jP}(hk:al[k]?=some x):uW (fI x.1.a x.1.n) (aU al)=aU (al.eraseIdx k):=by
 funext j;unfold uW aU;cases hj:D.cP (fI x.1.a x.1.n) j with
 |true=>
  have hj:=(D.aZ _ _).1 hj;subst hj;rw[zbp,Df (p:=λy:jP=>D.cP (fI y.1.a y.1.n) (fI x.1.a x.1.n)) λi y hi=> ?_]
  ·rfl
  cases hy:D.cP (fI y.1.a y.1.n) (fI x.1.a x.1.n) with
  |false=>rfl
  |true=>have hm:=zak hi;obtain⟨i2,b9,KQ⟩:=zbc.1 hm;exact absurd (h.uniq hk i2 y KQ hy) b9
 |false=>rw[zbr,qH hk hj]
theorem AV{al:List jP}(h:Iy al){k:Nat}{x y:jP}(hk:al[k]?=some x)(hy:(y.1.a,y.1.n)=(x.1.a,x.1.n)):(λj=>bif D.cP (fI x.1.a x.1.n) j then some (av y.2.1) else aU al j)=aU (al.set k y):=by
 have rH:k<al.length:=(zaa.1 hk).1;simp only[za9] at hy;funext j;unfold aU;cases hj:D.cP (fI x.1.a x.1.n) j with
 |true=>
  have hj:=(D.aZ _ _).1 hj;subst hj;rw[zbp,uz (p:=λz:jP=>D.cP (fI z.1.a z.1.n) (fI x.1.a x.1.n)) (zaF rH) (pc.2 hy) λi z hi hz=> ?_]
  ·rfl
  by_cases F6:k=i
  ·exact F6.symm
  rw[zau F6] at hi;exact h.uniq hk i z hi hz
 |false=>rw[zbr,wJ hk hj (by show D.cP (fI y.1.a y.1.n) j=false;rw[hy.1,hy.2];exact hj)]
theorem yl{al:List jP}{y:jP}(h: ∀x∈al,¬(x.1.a=y.1.a/\x.1.n=y.1.n)):(λj=>bif D.cP (fI y.1.a y.1.n) j then some (av y.2.1) else aU al j)=aU (al++[y]):=by
 funext j;have h0:=l7 h;unfold aU at h0⊢;rw[List.find?_append];cases hj:D.cP (fI y.1.a y.1.n) j with
 |true=>have KL:=(D.aZ _ _).1 hj;subst KL;rw[zbp,Option.map_eq_none_iff.1 h0];simp[List.find?,hj]
 |false=>rw[zbr];simp[List.find?,hj]
theorem AW{al:List jP}{a n:Int}(h:aU al (fI a n)=none):uW (fI a n) (aU al)=aU al:=by
 funext j;unfold uW;cases hj:D.cP (fI a n) j with
 |true=>have hj:=(D.aZ _ _).1 hj;subst hj;rw[zbp,h]
 |false=>rfl
theorem cY{d:List (Int×Int)}{a n:Int}:(a8 d (fI a n)).isSome=d.contains (a,n):=by
 unfold a8;rw[zb8,zcb];constructor
 ·intro h;split at h
  next h2=>obtain⟨x,hx,hk⟩:=zbe.1 h2;obtain⟨e1,e2⟩:=pc.1 hk;rw[<-e1,<-e2];exact hx
  cases h
 intro h;rw[zat (zbe.2 ⟨_,h,kT _⟩)];rfl
theorem sV(d:List (Int×Int)):Hz (a8 d):=λk=>by unfold a8;split<;>rfl
theorem sW(d:List (Int×Int))(a n:Int):Fm (fI a n) (a8 d)=a8 (d++[(a,n)]):=by
 funext j;unfold Fm a8;rw[List.any_append];cases hj:D.cP (fI a n) j with
 |true=>simp[hj]
 |false=>rw[List.any_cons,List.any_nil,hj,zbr,Bool.or_false,Bool.or_false]
theorem fP.unit{F F':Nat->Prop}{w w':World}{kt:TypeId}{d:List (Int×Int)}{n:Int}{es:List MapEntry}{ck:Nat}(h:fP PR F w kt (a8 d) n es ck):fP PR F' w' kt (a8 d) n es ck:=by
 obtain⟨ks,h1,h2,h3,h4,h5,h6,h7⟩:=h;refine⟨ks,h1,h2,λi p e hp he=> ?_,h4,h5,h6,h7⟩;obtain⟨a,b,c⟩:=h3 i p e hp he;refine⟨a,b,?_⟩;have h8:=(h5 p.1 p.2).2 (zak hp);have e:p.2= .agg []:=by
  unfold a8 at h8;split at h8
  ·exact(zal h8).symm
  cases h8
 rw[e] at c⊢;exact AU c
theorem qI{F F':Nat->Prop}{w w':World}{cs:Array Value}{l:List (List UInt8)}(h:fC F w cs 1 (l.map D.str)):fC F' w' cs 1 (l.map D.str):=λi x hx=>by
 obtain⟨h1,h2,h3⟩:=h i x hx;refine⟨h1,h2,λj c hc=> ?_⟩;have h4:=h3 j c hc;rw[zah] at hx;cases hl:l[i]? with
 |none=>rw[hl] at hx;cases hx
 |some s=>
  rw[hl] at hx;cases hx;cases j with
  |zero=>cases hc;exact b7 h4 rfl
  |succ j=>cases hc
theorem pd{F F':Nat->Prop}{w w':World}{G G':Nat->Value}{R R':List (Nat×En)}{v:Value}{s:List UInt8}{b:Bool}{e:Int}(h:ao F w G R v (oO s b e)):ao F' w' G' R' v (oO s b e):=by
 cases h with
 |fL vs _ hl hc=>
  refine .fL vs _ hl λi u c hu hp=> ?_;have h1:=hc i u c hu hp
  match i,hp with
  |0,hp=>
   cases hp;cases h1 with
   |d h1=>exact .d (b7 h1 rfl)
  |1,hp=>
   cases hp;cases h1 with
   |d h1=>exact .d (b7 h1 rfl)
  |2,hp=>
   cases hp;cases h1 with
   |d h1=>exact .d (b7 h1 rfl)
def qJ(o:cO):D:= .agg [.int .i64 o.a,.int .i64 o.n,.int .i64 o.q,.sl 5 (o.l.map eT)]
def wL(st:JL):D:= .agg [.sl 1 (st.o.map qJ),.sl 1 (st.d.map λx=>fI x.1 x.2)]
theorem wM{x y:cO}(h:qJ x=qJ y):x=y:=by obtain⟨a,b,c,l⟩:=x;obtain⟨a',b',c',l'⟩:=y;simp only[qJ,D.agg.injEq,zbb,D.int.injEq,D.sl.injEq,zcc,zb3] at h;obtain⟨rfl,rfl,rfl,h⟩:=h;rw[zm h]
theorem kU{α:Type}{f:α->D}(hf: ∀x y,f x=f y->x=y): ∀{l m:List α},l.map f=m.map f->l=m
 | [],[],_=>rfl
 | [],_::_,h=>by cases h
 |_::_,[],h=>by cases h
 |x::l,y::m,h=>by simp only[zaO,zbb] at h;rw[hf _ _ h.1,kU hf h.2]
theorem Dh{x y:Int×Int}(h:fI x.1 x.2=fI y.1 y.2):x=y:=by simp only[fI,D.agg.injEq,zbb,D.int.injEq,zcc,zb3] at h;exact Prod.ext h.1 h.2
theorem Di{x y:JL}(h:wL x=wL y):x=y:=by obtain⟨a,b⟩:=x;obtain⟨a',b'⟩:=y;simp only[wL,D.agg.injEq,zbb,D.sl.injEq,zcc,zb3] at h;rw[kU (λ_ _=>wM) h.1,kU (λ_ _=>Dh) h.2]
structure JQ(st:JL)(w:World)(g:Value):Prop where
 h:JP st w g
abbrev rJ(t:Option Nat)(st:JL):List (Nat×En):=[(0,⟨0,t,.deep (wL st) (JQ st)⟩)]
structure JW(st:JL)(w:World)(b0 b1 b2:Nat)(al:List jP):Prop where
 a:al.map (·.1)=st.o
 nd:(cA b0 b1 b2 al).Nodup
 c: ∃cc,w.heap[b0]?=some (.cells cc 53 (0,0))/\cc.size=2/\cc.getD 0 undef= .map (some b1)/\cc.getD 1 undef= .map (some b2)
 m: ∃es ck,w.heap[b1]?=some (.map es ck)/\MQ PR D5 w (λ_=>undef) [] 58 (aU al) al.length none es.toList ck
 d: ∃es ck,w.heap[b2]?=some (.map es ck)/\fP PR D5 w 58 (a8 st.d) st.d.length es.toList ck
 f: ∀x∈al,AQ w x
abbrev HB(b0 b1 b2:Nat)(al:List jP):Value:= .tuple ⟨av b0::(cA b0 b1 b2 al).map av⟩
theorem JW.of{st:JL}{w:World}{g:Value}(h:JP st w g): ∃b0 b1 b2 al,g=HB b0 b1 b2 al/\JW st w b0 b1 b2 al:=by obtain⟨b0,b1,b2,al,cc,es,ck,Be,D6,h1,h2,h3,h4,h5,h6,h7,h8,h9,JT,JU,JV⟩:=h;exact⟨b0,b1,b2,al,h2,h1,h3,⟨cc,h4,h5,h6,h7⟩,⟨es,ck,h8,h9⟩,⟨Be,D6,JT,JU⟩,JV⟩
theorem JW.to{st:JL}{w:World}{b0 b1 b2:Nat}{al:List jP}(h:JW st w b0 b1 b2 al):JP st w (HB b0 b1 b2 al):=by obtain⟨h1,h3,⟨cc,h4,h5,h6,h7⟩,⟨es,ck,h8,h9⟩,⟨Be,D6,JT,JU⟩,JV⟩:=h;exact⟨b0,b1,b2,al,cc,es,ck,Be,D6,h1,rfl,h3,h4,h5,h6,h7,h8,h9,JT,JU,JV⟩
theorem JW.MV{st:JL}{w:World}{b0 b1 b2:Nat}{al:List jP}(h:JW st w b0 b1 b2 al)(hJ:Bl st):Iy al:=by have:=hJ.nd;rw[<-h.a,List.map_map] at this;exact this
def gJ(b0 b1 b2:Nat)(g3 g4:Value):Nat->Value
 |0=>av b0
 |1=> .map (some b1)
 |2=> .map (some b2)
 |3=>g3
 |_=>g4
theorem hQ{cc:Array Value}{P:Value->Prop}(hs:cc.size=2)(h0:P (cc.getD 0 undef))(h1:P (cc.getD 1 undef)): ∀v∈cc.toList,P v:=λv hv=>by
 obtain⟨i,hi⟩:=zao hv;have ik:i<cc.size:=by simpa using(zaa.1 hi).1
 have e:v=cc.getD i undef:=by rw[zbI] at hi;simp[zav,hi]
 rw[e]
 match i,ik with
 |0,_=>exact h0
 |1,_=>exact h1
 |i+2,ik=>omega
abbrev mS(x:jP):List Nat:=[x.2.1,x.2.2]
theorem zp: ∀{al:List jP},(al.flatMap mS).Nodup-> ∀x∈al,x.2.1≠x.2.2
 | [],_,x,hx=>by cases hx
 |y::al,h,x,hx=>by
  rw[zaY,za8] at h;rcases zan.1 hx with rfl |hx
  ·have:=h.1;simp[mS] at this;exact this
  exact zp h.2.1 x hx
theorem Dj{al:List jP}(h:(al.flatMap mS).Nodup){k:Nat}{x:jP}(hk:al[k]?=some x): ∀y∈al.eraseIdx k,y.2.1≠x.2.1/\y.2.1≠x.2.2/\y.2.2≠x.2.1/\y.2.2≠x.2.2:=by
 have hl:=(zaa.1 hk).1;have e:al=al.take k++x::al.drop (k+1):=by have:=zbH k al;rw[zbV hl,(zaa.1 hk).2] at this;exact this.symm
 rw[zbG];rw[e,zbA,zaY,za8,za8] at h;obtain⟨_,⟨_,_,h2⟩,h3⟩:=h;intro y hy;rcases zaH.1 hy with hy |hy
 ·have key: ∀b∈mS y,∀c∈mS x,b≠c:=λb hb c hc=>h3 b (zbh.2 ⟨y,hy,hb⟩) c (zaH.2 (.inl hc));exact⟨key _ (by simp) _ (by simp),key _ (by simp) _ (by simp),key _ (by simp) _ (by simp),key _ (by simp) _ (by simp)⟩
 have key: ∀b∈mS y,∀c∈mS x,b≠c:=λb hb c hc=>(h2 c hc b (zbh.2 ⟨y,hy,hb⟩)).symm;exact⟨key _ (by simp) _ (by simp),key _ (by simp) _ (by simp),key _ (by simp) _ (by simp),key _ (by simp) _ (by simp)⟩
section
variable{F:Nat->Prop}{G V:Nat->Value}{w w0:World}{st:JL}{b0 b1 b2:Nat}{al:List jP}
theorem wN{vals:D->Option Value}{m:Int}{d:D->Option D}{c:Int}{g3 g4:Value}{n:Nat}{e:En}{b:Nat}(he:lk (rL vals m d c) n=some e)(hb:ax (gJ b0 b1 b2 g3 g4 n) e.obj b):(n=0/\b=b0)\/(n=1/\b=b1)\/(n=2/\b=b2):=by
 rcases aC he with⟨rfl,rfl⟩|he
 ·exact .inl ⟨rfl,(zal hb).symm⟩
 rcases aC he with⟨rfl,rfl⟩|he
 ·exact .inr (.inl ⟨rfl,(zal hb).symm⟩)
 obtain⟨rfl,rfl⟩:=cd he;exact .inr (.inr ⟨rfl,(zal hb.2).symm⟩)
theorem zq{a n':Int}{vals:D->Option Value}{m:Int}{d:D->Option D}{c:Int}{ps:List (List UInt8)}{k:Int}{r3 r4 N cap:Nat}{n:Nat}{e:En}{b:Nat}(he:lk (uO a n' vals m d c ps k) n=some e)(hb:ax (gJ b0 b1 b2 (av r3) (.slice (some ⟨r4,0,none⟩) N cap) n) e.obj b):(n=0/\b=b0)\/(n=1/\b=b1)\/(n=2/\b=b2)\/(n=3/\b=r3)\/(n=4/\b=r4):=by
 rcases aC he with⟨rfl,rfl⟩|he
 ·exact .inl ⟨rfl,(zal hb).symm⟩
 rcases aC he with⟨rfl,rfl⟩|he
 ·exact .inr (.inl ⟨rfl,(zal hb).symm⟩)
 rcases aC he with⟨rfl,rfl⟩|he
 ·exact .inr (.inr (.inl ⟨rfl,(zal hb.2).symm⟩))
 rcases aC he with⟨rfl,rfl⟩|he
 ·exact .inr (.inr (.inr (.inl ⟨rfl,(zal hb).symm⟩)))
 obtain⟨rfl,rfl⟩:=cd he;exact .inr (.inr (.inr (.inr ⟨rfl,(zal hb.2).symm⟩)))
theorem jE(hg:G 0=HB b0 b1 b2 al){b:Nat}(hb:b∈cA b0 b1 b2 al){t:Option Nat}:Own G (rJ t st) b:=by refine⟨0,_,rfl,?_⟩;show b∈re (G 0);rw[hg,dL];exact hb
theorem AX{al:List jP}{k:Nat}{x:jP}(hk:al[k]?=some x):x.2.1∈cA b0 b1 b2 al/\x.2.2∈cA b0 b1 b2 al:=by have:=zak hk;simp only[cA,zan,zbh];exact⟨.inr (.inr (.inr ⟨x,this,by simp⟩)),.inr (.inr (.inr ⟨x,this,by simp⟩))⟩
theorem JW.zr(hJ:JW st w b0 b1 b2 al){t:Option Nat}(h:aL PR ⟨V,w0,0,false⟩ F G w (rJ t st))(hg:G 0=HB b0 b1 b2 al):
  aL PR ⟨gJ b0 b1 b2 undef undef,w0,0,false⟩ F (gJ b0 b1 b2 undef undef) w (rL (aU al) al.length (a8 st.d) st.d.length):=by
 have hY:=hJ.nd;simp only[cA,zax,zan,zbY] at hY;obtain⟨⟨n1,n2,_⟩,⟨n3,_⟩,_⟩:=hY;refine h.C5 ?_ ?_ ?_ λn e i he hi _=> ?_
 ·intro n e he;rcases aC he with⟨rfl,rfl⟩|he
  ·obtain⟨cc,h1,h2,h3,h4⟩:=hJ.c;refine⟨b0,cc,rfl,h1,h2,hQ h2 (by rw[h3];rfl) (by rw[h4];rfl),λi p hp=> ?_⟩
   match i,hp with
   |0,hp=>cases hp;rw[h3];exact .mp 1 0 _ rfl ⟨_,rfl,zae _,λ_ _=>rfl⟩
   |1,hp=>cases hp;rw[h4];exact .mp 2 0 _ rfl ⟨_,rfl,zae _,λ_ _=>rfl⟩
  rcases aC he with⟨rfl,rfl⟩|he
  ·obtain⟨es,ck,h1,h2⟩:=hJ.m;exact⟨b1,es,ck,rfl,h1,h2.raw⟩
  obtain⟨rfl,rfl⟩:=cd he;obtain⟨es,ck,h1,h2⟩:=hJ.d;exact⟨b2,es,ck,rfl,h1,h2.unit,λh=>by cases h⟩
 ·intro n m e e' b he bc hb ca;rcases wN he hb with⟨rfl,rfl⟩| ⟨rfl,rfl⟩| ⟨rfl,rfl⟩<;>rcases wN bc ca with⟨rfl,h1⟩| ⟨rfl,h1⟩| ⟨rfl,h1⟩<;>first |rfl |exact absurd h1 (by assumption)|exact absurd h1.symm (by assumption)
 ·intro b ⟨n,e,he,hb⟩;rcases wN he hb with⟨rfl,rfl⟩| ⟨rfl,rfl⟩| ⟨rfl,rfl⟩<;>exact jE hg (by simp[cA])
 have e:n=i:=by
  rcases aC he with⟨rfl,rfl⟩|he
  ·exact zal hi
  rcases aC he with⟨rfl,rfl⟩|he
  ·exact zal hi
  obtain⟨rfl,rfl⟩:=cd he;exact zal hi
 rw[e];exact .inl rfl
theorem JW.ne(hJ:JW st w b0 b1 b2 al){k:Nat}{x:jP}(hk:al[k]?=some x):(b0≠b1/\b0≠b2/\b1≠b2)/\(b0≠x.2.1/\b1≠x.2.1/\b2≠x.2.1)/\(b0≠x.2.2/\b1≠x.2.2/\b2≠x.2.2)/\x.2.1≠x.2.2:=by have hY:=hJ.nd;simp only[cA,zax,zan,zbY,zbh] at hY;obtain⟨⟨n1,n2,n3⟩,⟨n4,n5⟩,n6,n7⟩:=hY;have hm:=zak hk;refine⟨⟨n1,n2,n4⟩,⟨λh=>n3 ⟨x,hm,by simp[h]⟩,λh=>n5 ⟨x,hm,by simp[h]⟩,λh=>n6 ⟨x,hm,by simp[h]⟩⟩,⟨λh=>n3 ⟨x,hm,by simp[h]⟩,λh=>n5 ⟨x,hm,by simp[h]⟩,λh=>n6 ⟨x,hm,by simp[h]⟩⟩,λh=> ?_⟩;exact zp n7 x hm h
theorem JW.Dk(hJ:JW st w b0 b1 b2 al)(ho:Bl st){t:Option Nat}(h:aL PR ⟨V,w0,0,false⟩ F G w (rJ t st))(hg:G 0=HB b0 b1 b2 al){k:Nat}{x:jP}(hk:al[k]?=some x):
  ∃cap,aL PR ⟨gJ b0 b1 b2 (av x.2.1) (.slice (some ⟨x.2.2,0,none⟩) (df x.1).length cap),w0,0,false⟩ F (gJ b0 b1 b2 (av x.2.1) (.slice (some ⟨x.2.2,0,none⟩) (df x.1).length cap)) w (uO x.1.a x.1.n (aU al) al.length (a8 st.d) st.d.length (df x.1) x.1.l.length):=by
 obtain⟨⟨n1,n2,n3⟩,⟨n4,n5,n6⟩,⟨n7,n8,n9⟩,PI⟩:=hJ.ne hk;obtain⟨cap,cc,cs,h1,h2,h3,h4,h5,h6,h7,h8,h9⟩:=hJ.f x (zak hk);rw[<-eU] at h3 h6;refine⟨cap,h.C5 ?_ ?_ ?_ λn e i he hi _=> ?_⟩
 ·intro n e he;rcases aC he with⟨rfl,rfl⟩|he
  ·obtain⟨cc,h1,h2,h3,h4⟩:=hJ.c;refine⟨b0,cc,rfl,h1,h2,hQ h2 (by rw[h3];rfl) (by rw[h4];rfl),λi p hp=> ?_⟩
   match i,hp with
   |0,hp=>cases hp;rw[h3];exact .mp 1 0 _ rfl ⟨_,rfl,zae _,λ_ _=>rfl⟩
   |1,hp=>cases hp;rw[h4];exact .mp 2 0 _ rfl ⟨_,rfl,zae _,λ_ _=>rfl⟩
  rcases aC he with⟨rfl,rfl⟩|he
  ·obtain⟨es,ck,h1,h2⟩:=hJ.m;exact⟨b1,es,ck,rfl,h1,h2.raw.hand (Dg (hJ.MV ho) hk) (.ref 3 0 0 _ ⟨_,rfl,zae _,λ_ _=>⟨x.2.1,rfl,rfl⟩⟩ rfl)⟩
  rcases aC he with⟨rfl,rfl⟩|he
  ·obtain⟨es,ck,h1,h2⟩:=hJ.d;exact⟨b2,es,ck,rfl,h1,h2.unit,λh=>by cases h⟩
  rcases aC he with⟨rfl,rfl⟩|he
  ·refine⟨x.2.1,cc,rfl,h1,h2,hQ h2 (by rw[h3];rfl) (by rw[h4];rfl),λi p hp=> ?_⟩
   match i,hp with
   |0,hp=>cases hp;rw[h3];exact .sl 4 0 _ _ rfl ⟨_,rfl,zae _,λ_ _=>⟨_,_,_,rfl,rfl,zae _⟩⟩
   |1,hp=>cases hp;rw[h4];exact .d (.int _ _)
  obtain⟨rfl,rfl⟩:=cd he;exact .inr ⟨x.2.2,cap,cs,1,by rw[zai];rfl,h5,by kernel_rfl,by decide,by rw[zai];exact h6,h7,h8,(λh=>by cases h),qI h9⟩
 ·intro n m e e' b he bc hb ca;rcases zq he hb with⟨rfl,rfl⟩| ⟨rfl,rfl⟩| ⟨rfl,rfl⟩| ⟨rfl,rfl⟩| ⟨rfl,rfl⟩<;>rcases zq bc ca with⟨rfl,h1⟩| ⟨rfl,h1⟩| ⟨rfl,h1⟩| ⟨rfl,h1⟩| ⟨rfl,h1⟩<;>first |rfl |exact absurd h1 (by assumption)|exact absurd h1.symm (by assumption)
 ·intro b ⟨n,e,he,hb⟩;rcases zq he hb with⟨rfl,rfl⟩| ⟨rfl,rfl⟩| ⟨rfl,rfl⟩| ⟨rfl,rfl⟩| ⟨rfl,rfl⟩
  ·exact jE hg (by simp[cA])
  ·exact jE hg (by simp[cA])
  ·exact jE hg (by simp[cA])
  ·exact jE hg (AX hk).1
  exact jE hg (AX hk).2
 have e:n=i:=by
  rcases aC he with⟨rfl,rfl⟩|he
  ·exact zal hi
  rcases aC he with⟨rfl,rfl⟩|he
  ·exact zal hi
  rcases aC he with⟨rfl,rfl⟩|he
  ·exact zal hi
  rcases aC he with⟨rfl,rfl⟩|he
  ·exact zal hi
  obtain⟨rfl,rfl⟩:=cd he;exact zal hi
 rw[e];exact .inl rfl
end
theorem AQ.keep{w w2:World}{x:jP}(h:AQ w x)(h1:w2.heap[x.2.1]?=w.heap[x.2.1]?)(h2:w2.heap[x.2.2]?=w.heap[x.2.2]?):AQ w2 x:=by obtain⟨cap,cc,cs,g1,g2,g3,g4,g5,g6,g7,g8,g9⟩:=h;exact⟨cap,cc,cs,h1.trans g1,g2,g3,g4,h2.trans g5,g6,g7,g8,qI g9⟩
section
variable{F F2:Nat->Prop}{G V G1 G2:Nat->Value}{w w2 w0:World}{R1 R2:List (Nat×En)}{st st':JL}{b0 b1 b2:Nat}{al al':List jP}{g3 g4:Value}
theorem Dl(h2:aL PR ⟨gJ b0 b1 b2 g3 g4,w0,0,false⟩ F2 G2 w2 R2){o1 o2:Obj}(e0:lk R2 0=some ⟨0,some 0,Fh 1 2⟩)(e1:lk R2 1=some ⟨0,some 1,o1⟩)(e2:lk R2 2=some ⟨0,some 2,o2⟩)(l1:o1.live=true)(l2:o2.live=true):
  (G2 0=av b0/\G2 1= .map (some b1)/\G2 2= .map (some b2))/\ ∃cc,w2.heap[b0]?=some (.cells cc 53 (0,0))/\cc.size=2/\cc.getD 0 undef= .map (some b1)/\cc.getD 1 undef= .map (some b2):=by
 have h3:G2 0=av b0:=(h2.tag 0 _ 0 e0 rfl rfl).eq λl h=>by cases h
 have h4:G2 1= .map (some b1):=(h2.tag 1 _ 1 e1 rfl l1).eq λl h=>by cases h
 have h5:G2 2= .map (some b2):=(h2.tag 2 _ 2 e2 rfl l2).eq λl h=>by cases h
 refine⟨⟨h3,h4,h5⟩,?_⟩;obtain⟨b,cc,k1,k2,k3,_,k5⟩:=h2.rg 0 _ e0;rw[h3] at k1;cases k1;refine⟨cc,k2,k3,?_,?_⟩
 ·have k:=k5 0 _ rfl;generalize cc.getD 0 undef=v at k⊢;cases k with
  |mp _ _ _ _ hr=>obtain⟨e,he,_,hc⟩:=hr;rw[e1] at he;cases he;exact(hc rfl l1).trans h4
 have k:=k5 1 _ rfl;generalize cc.getD 1 undef=v at k⊢;cases k with
 |mp _ _ _ _ hr=>obtain⟨e,he,_,hc⟩:=hr;rw[e2] at he;cases he;exact(hc rfl l2).trans h5
theorem Dm(h2:aL PR ⟨gJ b0 b1 b2 g3 g4,w0,0,false⟩ F2 G2 w2 R2){d:List (Int×Int)}{c:Int}{t:Option Nat}(e2:lk R2 2=some ⟨0,t,.map 58 (a8 d) c false⟩)(hg:G2 2= .map (some b2)): ∃es ck,w2.heap[b2]?=some (.map es ck)/\fP PR D5 w2 58 (a8 d) c es.toList ck:=by obtain⟨b,es,ck,k1,k2,k3,_⟩:=h2.rg 2 _ e2;rw[hg] at k1;cases k1;exact⟨es,ck,k2,k3.unit⟩
theorem JW.close{t:Option Nat}(h:aL PR ⟨V,w0,0,false⟩ F G w (rJ t st))(hg:G 0=HB b0 b1 b2 al){V1:Nat->Value}(h2:aL PR ⟨V1,w0,0,false⟩ F2 G2 w2 R2)(hx:Ext (Own G1 R1) (Own G2 R2) F F2 w w2)(hs: ∀b,Own G1 R1 b->Own G (rJ t st) b)
  (hJ:JW st' w2 b0 b1 b2 al') (hb: ∀b∈cA b0 b1 b2 al',Own G2 R2 b\/Own G (rJ t st) b):
  ∃G3,aL PR ⟨V,w0,0,false⟩ F G3 w2 (rJ t st')/\Ext (Own G (rJ t st)) (Own G3 (rJ t st')) F F w w2:=by
 have:=h.shut h2 hx hs (t:=t) (x:=wL st') (p:=JQ st') (u:=av b0) (bs:=cA b0 b1 b2 al') (λw' hw=>⟨hJ.to.keep λb hb=>hw b (by rwa [dL] at hb)⟩) hb (λi hi=>by
  have h3:=(h.tag 0 _ i rfl hi rfl).symm;rw[hg] at h3;rcases h3 with h3 | ⟨v,l,l',h3,h4⟩
  ·exact⟨_,h3⟩
  cases h4;exact⟨l,h3⟩)
 exact⟨_,this⟩
theorem zs(h:al'.Sublist al):(cA b0 b1 b2 al').Sublist (cA b0 b1 b2 al):=by
 have key: ∀{l m:List jP},l.Sublist m->(l.flatMap mS).Sublist (m.flatMap mS):=λh=>by
  induction h with
  |slnil=>exact .refl _
  |cons x _ ih=>rw[zaY];exact ih.trans (List.sublist_append_right ..)
  |cons_cons x _ ih=>rw[zaY,zaY];exact(List.Sublist.refl _).append ih
 exact((((key h).cons_cons b2)).cons_cons b1).cons_cons b0
theorem JW.nD(hJ:JW st w b0 b1 b2 al){t:Option Nat}(h:aL PR ⟨V,w0,0,false⟩ F G w (rJ t st))(hg:G 0=HB b0 b1 b2 al)(h2:aL PR ⟨gJ b0 b1 b2 g3 g4,w0,0,false⟩ F2 G2 w2 R2)(hx:Ext (Own G1 R1) (Own G2 R2) F F2 w w2)(hs: ∀b,Own G1 R1 b->Own G (rJ t st) b)
  (e0:lk R2 0=some ⟨0,some 0,Fh 1 2⟩) (e1:lk R2 1=some ⟨0,some 1,.bQ 58 (aU al') al'.length none⟩) (e2:lk R2 2=some ⟨0,some 2,.map 58 (a8 st'.d) st'.d.length false⟩)
  (ha:al'.map (·.1)=st'.o) (w5:al'.Sublist al) (bg: ∀x∈al',¬Own G1 R1 x.2.1/\ ¬Own G1 R1 x.2.2):
  ∃G3,aL PR ⟨V,w0,0,false⟩ F G3 w2 (rJ t st')/\Ext (Own G (rJ t st)) (Own G3 (rJ t st')) F F w w2:=by
 obtain⟨⟨k1,k2,k3⟩,hc⟩:=Dl h2 e0 e1 e2 rfl rfl;have eC: ∀b∈cA b0 b1 b2 al',Own G (rJ t st) b:=λb hb=>jE hg ((zs w5).subset hb);refine JW.close h hg h2 hx hs ⟨ha,hJ.nd.sublist (zs w5),hc,?_,Dm h2 e2 k3,λx lB=> ?_⟩ λb hb=> .inr (eC b hb)
 ·obtain⟨b,es,ck,m1,m2,m3⟩:=h2.rg 1 _ e1;rw[k2] at m1;cases m1;exact⟨es,ck,m2,m3.raw⟩
 obtain⟨n1,n2⟩:=bg x lB;have hm:x.2.1∈cA b0 b1 b2 al'/\x.2.2∈cA b0 b1 b2 al':=by simp only[cA,zan,zbh];exact⟨.inr (.inr (.inr ⟨x,lB,by simp⟩)),.inr (.inr (.inr ⟨x,lB,by simp⟩))⟩
 exact(hJ.f x (w5.subset lB)).keep (hx.keep _ (h.cy (eC _ hm.1)) n1) (hx.keep _ (h.cy (eC _ hm.2)) n2)
theorem Gn(h2:aL PR ⟨gJ b0 b1 b2 g3 g4,w0,0,false⟩ F2 G2 w2 R2){t3 t4:Option Nat}{ps:List (List UInt8)}{k:Int}(km:0<ps.length)(e3:lk R2 3=some ⟨0,t3,Iv 4 ps.length k⟩)(e4:lk R2 4=some ⟨0,t4,JS ps⟩):
  ∃r3 r4 cap,G2 3=av r3/\G2 4= .slice (some ⟨r4,0,none⟩) ps.length cap/\Own G2 R2 r3/\Own G2 R2 r4/\r3≠r4/\ ∀o:cO,df o=ps->(o.l.length:Int)=k->AQ w2 (o,r3,r4):=by
 obtain⟨r3,cc,k1,k2,k3,_,k5⟩:=h2.rg 3 _ e3;rcases h2.rg 4 _ e4 with⟨_,m1⟩| ⟨r4,cap,cs,z,m1,m2,m3,m4,m5,m6,m7,_,m8⟩
 ·rw[List.map_eq_nil_iff] at m1;rw[m1] at km;exact absurd km (by simp)
 rw[zai] at m1 m5;have hz:z=1:=by
  have:sz PR 9=some 1:=by kernel_rfl
  rw[this] at m3;exact(zal m3).symm
 subst hz;have o3:ax (G2 3) (Iv 4 ps.length k) r3:=by rw[k1];rfl
 have o4:ax (G2 4) (JS ps) r4:=by rw[m1];exact⟨rfl,rfl⟩
 refine⟨r3,r4,cap,k1,m1,⟨3,_,e3,o3⟩,⟨4,_,e4,o4⟩,λe=> ?_,λo ho hk=> ?_⟩
 ·subst e;have:=h2.own 3 4 _ _ r3 e3 e4 o3 o4;cases this
 have hq:o.q.toNat=ps.length:=by rw[<-ho,eU]
 refine⟨cap,cc,cs,k2,k3,?_,?_,m2,by rw[hq];exact m5,m6,m7,by rw[ho];exact qI m8⟩
 ·have k:=k5 0 _ rfl;generalize cc.getD 0 undef=v at k⊢;cases k with
  |sl _ _ _ _ _ hr=>obtain⟨e,he,_,hc⟩:=hr;rw[e4] at he;cases he;obtain⟨a,N,c,c1,c2,_⟩:=hc rfl rfl;rw[m1] at c1;cases c1;dsimp only;rw[hq];exact c2
 have k:=k5 1 _ rfl;dsimp only;rw[hk];generalize cc.getD 1 undef=v at k⊢;cases k with
 |d hd=>cases hd;rfl
end
abbrev wO(x:Hw):P:=oO x.1 x.2.1 x.2.2
def mT:cR:=λps R ae=> ∃st f,ps=[.hd 0 0,.d (eT f)]/\R=rJ (some 0) st/\(Bl st/\f.2.2.2.2.length<=100)/\ae (wO (eF st f).1,rJ (some 0) (eF st f).2)
section
variable{st:JL}{f:aY}
theorem Fo(h:aN f=false):eF st f=(([],false,11),st):=by unfold eF;rw[zat h]
theorem Fp(h:aN f=true)(h2:st.d.contains (f.1,f.2.1)=true):eF st f=(([],false,210),st):=by unfold eF;rw[zaC (by rw[h];simp),zat h2]
theorem AY(h:aN f=true)(h2:st.d.contains (f.1,f.2.1)=false)(h3:st.o.findIdx? (lu f)=none):eF st f=if 50<=st.o.length then(([],false,211),st) else if 1<f.2.2.2.1 then(([],false,0),⟨st.o++[⟨f.1,f.2.1,f.2.2.2.1,[f]⟩],st.d⟩) else((f.2.2.2.2,true,0),⟨st.o,st.d++[(f.1,f.2.1)]⟩):=by
 rcases sU (st:=st) (f:=f) with⟨h1,_⟩| ⟨_,h1,_⟩| ⟨_,_,k,o,_,_,_,h1,_⟩| ⟨_,_,_,⟨h1,e⟩| ⟨h1,⟨h4,e⟩| ⟨h4,e⟩⟩⟩
 ·rw[h] at h1;cases h1
 ·rw[h2] at h1;cases h1
 ·rw[h3] at h1;cases h1
 ·rw[e,zat h1]
 ·rw[e,zaC h1,zat h4]
 rw[e,zaC h1,zaC h4]
theorem wP(h:aN f=true)(h2:st.d.contains (f.1,f.2.1)=false){k:Nat}{o:cO}(h3:st.o.findIdx? (lu f)=some k)(h4:st.o[k]?=some o):eF st f=if o.q≠f.2.2.2.1 then(([],false,11),st) else if o.l.any (λx=>decide (x.2.2.1=f.2.2.1))=true then(([],false,210),st) else if((bZ ja o.l f).length:Int)<o.q then(([],false,0),⟨st.o.set k ⟨o.a,o.n,o.q,bZ ja o.l f⟩,st.d⟩)
  else(((bZ ja o.l f).flatMap (·.2.2.2.2),true,0),⟨st.o.eraseIdx k,st.d++[(f.1,f.2.1)]⟩):=by
 unfold eF;rw[zaC (by rw[h];simp),zaC (by rw[h2];simp),h3];simp only[h4];rfl
end
theorem AZ{o:cO}(h:AO o): ∀s∈df o,s.length<=100:=λs hs=>by
 obtain⟨i,_,rfl⟩:=zaQ.1 hs;by_cases hg: ∃g∈o.l,g.2.2.1=(i:Int)
 ·obtain⟨g,hg,e⟩:=hg;rw[<-e,ld (nC h.s) hg];exact(h.m g hg).2.2.2.2.2.2
 rw[mP λg h1 h2=>hg ⟨g,h1,h2⟩];simp
theorem qK: ∀(l:List (List UInt8)),(∀s∈l,s.length<=100)->l.flatten.length<=l.length*100
 | [],_=>by simp
 |s::l,h=>by rw[List.flatten_cons,zaw,zaI];have:=h s (by simp);have:=qK l λg hg=>h g (by simp[hg]);omega
theorem Dn{f:aY}(h0:0<=f.2.2.1):df ⟨f.1,f.2.1,f.2.2.2.1,[f]⟩=(List.replicate f.2.2.2.1.toNat []).set f.2.2.1.toNat f.2.2.2.2:=by
 have e:df ⟨f.1,f.2.1,f.2.2.2.1,[]⟩=List.replicate f.2.2.2.1.toNat []:=by refine zb4 (by simp[df]) λi h1 h2=> ?_;simp[df,D3]
 have:=qF (o:=⟨f.1,f.2.1,f.2.2.2.1,[]⟩) (f:=f) List.Pairwise.nil (λg hg=>by cases hg) h0;rw[e] at this;exact this
theorem lg{α β:Type}(f:α->β): ∀(l:List α) (k:Nat),(l.map f).eraseIdx k=(l.eraseIdx k).map f
 | [],_=>rfl
 |_::_,0=>rfl
 |x::l,k+1=>congrArg (f x:: ·) (lg f l k)
theorem wQ: ∀{al:List jP} {k:Nat} {x y:jP},al[k]?=some x->mS y=mS x->(al.set k y).flatMap mS=al.flatMap mS
 | [],k,x,y,h,_=>by simp at h
 |z::al,0,x,y,h,e=>by cases h;rw[zci,zaY,zaY,e]
 |z::al,k+1,x,y,h,e=>by rw[zcj,zaY,zaY,wQ (al:=al) (k:=k) h e]
theorem mem_set{α:Type}{l:List α}{k:Nat}{y z:α}(h:y∈l.set k z):y=z\/y∈l.eraseIdx k:=by
 obtain⟨i,hi⟩:=zao h;by_cases e:k=i
 ·subst e;have hl:=(zaa.1 hi).1;rw[zas] at hl;rw[zaF hl] at hi;exact .inl (zal hi).symm
 rw[zau e] at hi;exact .inr (zbc.2 ⟨i,λh=>e h.symm,hi⟩)
section
variable{X:XF}{w0:World}(hX:cL PR w0 X.cf)
include hX
theorem HE:ND w0 13 mT:=by
 intro ps R ae hh F G w vs h hl hv;obtain⟨st,f,rfl,rfl,⟨hJ,hf⟩,hp⟩:=hh;obtain⟨v,bs,hG,_,yL⟩:=h.rg 0 _ rfl;have HF:=(yL w (λ_ _=>rfl)).h;rw[<-hG] at HF;obtain⟨b0,b1,b2,al,hg,hj⟩:=JW.of HF
 match vs,hl,hv with
 | [u0,u1],_,hv=>
 have p0:=hv 0 u0 _ rfl rfl;have p1:=hv 1 u1 _ rfl rfl;have eu:u0=av b0:=by
  cases p0 with
  |hd _ _ _ h1 hr=>obtain⟨e,he,_,hc⟩:=hr;cases he;obtain⟨b,l,e1,e2⟩:=hc rfl rfl;rw[hg] at e1;cases e1;rfl
 subst eu;have d1:az F w u1 (eT f):=by
  cases p1 with
  |d h1=>exact h1
 have AF: ∀k:Nat,al[k]?.map (·.1)=st.o[k]?:=λk=>by rw[<-hj.a,zah]
 have hlen:al.length=st.o.length:=by rw[<-hj.a,zai]
 cases oP:st.o.findIdx? (lu f) with
 |none=>
  have bg:=l6 oP;have HG: ∀x∈al,¬(x.1.a=f.1/\x.1.n=f.2.1):=λx hx=>bg x.1 (by rw[<-hj.a];exact zaQ.2 ⟨x,hx,rfl⟩);have hs: ∀b,Own (gJ b0 b1 b2 undef undef) (rL (aU al) al.length (a8 st.d) st.d.length) b->b=b0\/b=b1\/b=b2:=λb ⟨n,e,he,hb⟩=>by
   rcases wN he hb with⟨_,h⟩| ⟨_,h⟩| ⟨_,h⟩
   ·exact .inl h
   ·exact .inr (.inl h)
   exact .inr (.inr h)
  have zX: ∀b,Own (gJ b0 b1 b2 undef undef) (rL (aU al) al.length (a8 st.d) st.d.length) b->Own G (rJ (some 0) st) b:=λb hb=>by rcases hs b hb with rfl |rfl |rfl<;>exact jE hg (by simp[cA])
  have rM: ∀x∈al,¬Own (gJ b0 b1 b2 undef undef) (rL (aU al) al.length (a8 st.d) st.d.length) x.2.1/\ ¬Own (gJ b0 b1 b2 undef undef) (rL (aU al) al.length (a8 st.d) st.d.length) x.2.2:=λx hx=>by obtain⟨k,hk⟩:=zao hx;obtain⟨_,⟨n4,n5,n6⟩,⟨n7,n8,n9⟩,_⟩:=hj.ne hk;exact⟨λho=>by rcases hs _ ho with e |e |e<;>first |exact n4 e.symm |exact n5 e.symm |exact n6 e.symm,λho=>by rcases hs _ ho with e |e |e<;>first |exact n7 e.symm |exact n8 e.symm |exact n9 e.symm⟩
  refine bC.mono (MS hX _ _ (λy=>y.1=wO (eF st f).1/\ ∀F2 G2 w2,aL PR ⟨gJ b0 b1 b2 undef undef,w0,0,false⟩ F2 G2 w2 y.2->Ext (Own (gJ b0 b1 b2 undef undef) (rL (aU al) al.length (a8 st.d) st.d.length)) (Own G2 y.2) F F2 w w2->
    ∃G3,aL PR ⟨G,w0,0,false⟩ F G3 w2 (rJ (some 0) (eF st f).2)/\Ext (Own G (rJ (some 0) st)) (Own G3 (rJ (some 0) (eF st f).2)) F F w w2)
   ⟨f.1,f.2.1,f.2.2.1,f.2.2.2.1,f.2.2.2.2,aU al,al.length,a8 st.d,st.d.length,rfl,rfl,⟨sV _,l7 HG,by omega⟩,λg1=> ?_,λg1 g2=> ?_,λg1 g2 g3=> ?_,λg1 g2 g3 g4=> ?_,λg1 g2 g3 g4=> ?_⟩
   F (gJ b0 b1 b2 undef undef) w [av b0,u1] (hj.zr h hg) rfl (λi v c hv hc=> ?_)) λv w2 ⟨y,⟨rp,AH⟩,F2,G2,h2,vw,hx⟩=> ?_
  ·rw[Fo (f:=f) g1];exact⟨rfl,λF2 G2 w2 h2 hx=>hj.nD h hg h2 hx zX rfl rfl rfl hj.a (.refl _) rM⟩
  ·rw[cY] at g2;rw[Fp (f:=f) g1 g2];exact⟨rfl,λF2 G2 w2 h2 hx=>hj.nD h hg h2 hx zX rfl rfl rfl hj.a (.refl _) rM⟩
  ·rw[cY] at g2;rw[AY (f:=f) g1 g2 oP,zat (by omega)];exact⟨rfl,λF2 G2 w2 h2 hx=>hj.nD h hg h2 hx zX rfl rfl rfl hj.a (.refl _) rM⟩
  ·rw[cY] at g2;obtain⟨r1,r2,r3⟩:=(fo (f:=f)).1 g1;have g4: ¬f.2.2.2.1=1:=g4;rw[AY (f:=f) g1 g2 oP,zaC (by omega),zat (by omega)];refine⟨rfl,λF2 G2 w2 h2 hx=> ?_⟩;have ep:=Dn (f:=f) r2.2.2.1;obtain⟨⟨k1,k2,k3⟩,hc⟩:=Dl h2 rfl rfl rfl rfl rfl;obtain⟨HI,HJ,cap,m1,m2,m3,m4,m5,m6⟩:=Gn h2 (k:=1) (by rw[zas,zaR];omega) rfl rfl;have bV: ∀b,Own G2 (Ix f.1 f.2.1 (aU al) al.length (a8 st.d) st.d.length ((List.replicate f.2.2.2.1.toNat []).set f.2.2.1.toNat f.2.2.2.2)) b->b≠b0->b≠b1->b≠b2->w.heap.size<=b:=λb ho h0 h1 Jb=>by
    rcases hx.fe b ho with ho |ho
    ·rcases hs b ho with e |e |e
     ·exact absurd e h0
     ·exact absurd e h1
     exact absurd e Jb
    exact ho
   have q0: ∀n,n≠0-> ∀e b,lk (Ix f.1 f.2.1 (aU al) al.length (a8 st.d) st.d.length ((List.replicate f.2.2.2.1.toNat []).set f.2.2.1.toNat f.2.2.2.2)) n=some e->ax (G2 n) e.obj b->b≠b0:=λn hn e b he hb e2=>hn (h2.own n 0 _ _ b he rfl hb (by rw[k1,e2];rfl));have q1: ∀n,n≠1-> ∀e b,lk (Ix f.1 f.2.1 (aU al) al.length (a8 st.d) st.d.length ((List.replicate f.2.2.2.1.toNat []).set f.2.2.1.toNat f.2.2.2.2)) n=some e->ax (G2 n) e.obj b->b≠b1:=λn hn e b he hb e2=>hn (h2.own n 1 _ _ b he rfl hb (by rw[k2,e2];rfl));have q2: ∀n,n≠2-> ∀e b,lk (Ix f.1 f.2.1 (aU al) al.length (a8 st.d) st.d.length ((List.replicate f.2.2.2.1.toNat []).set f.2.2.1.toNat f.2.2.2.2)) n=some e->ax (G2 n) e.obj b->b≠b2:=λn hn e b he hb e2=>hn (h2.own n 2 _ _ b he rfl hb (by rw[k3,e2];exact⟨rfl,rfl⟩));have o3:ax (G2 3) (Iv 4 ((List.replicate f.2.2.2.1.toNat ([]:List UInt8)).set f.2.2.1.toNat f.2.2.2.2).length 1) HI:=by rw[m1];rfl
   have o4:ax (G2 4) (JS ((List.replicate f.2.2.2.1.toNat []).set f.2.2.1.toNat f.2.2.2.2)) HJ:=by rw[m2];exact⟨rfl,rfl⟩
   have PJ:=q0 3 (by decide) _ _ rfl o3;have PK:=q1 3 (by decide) _ _ rfl o3;have PL:=q2 3 (by decide) _ _ rfl o3;have PN:=q0 4 (by decide) _ _ rfl o4;have PO:=q1 4 (by decide) _ _ rfl o4;have PQ:=q2 4 (by decide) _ _ rfl o4;have s3:=bV _ m3 PJ PK PL;have s4:=bV _ m4 PN PO PQ;have hold: ∀b∈cA b0 b1 b2 al,b<w.heap.size:=λb hb=>h.cy (jE hg hb);have eb:cA b0 b1 b2 (al++[(⟨f.1,f.2.1,f.2.2.2.1,[f]⟩,HI,HJ)])=cA b0 b1 b2 al++[HI,HJ]:=by simp[cA]
   refine JW.close h hg h2 hx zX (al':=al++[(⟨f.1,f.2.1,f.2.2.2.1,[f]⟩,HI,HJ)]) ⟨by rw[zaZ,hj.a];rfl,?_,hc,?_,Dm h2 rfl k3,λx lB=> ?_⟩ λb hb=> ?_
   ·rw[eb,za8];refine⟨hj.nd,by simp[m5],λb hb c hc=> ?_⟩;have:=hold b hb;simp only[zan,zbq,zcl] at hc;rcases hc with rfl |rfl<;>omega
   ·obtain⟨b,es,ck,l1,l2,l3⟩:=h2.rg 1 _ rfl;rw[k2] at l1;cases l1;obtain⟨u,hu,l4⟩:=l3.C6;have eu:u=av HI:=by
     cases hu with
     |ref _ _ _ _ hr _=>obtain⟨e,he,_,hc⟩:=hr;cases he;obtain⟨b',c1,c2⟩:=hc rfl rfl;rw[m1] at c1;cases c1;exact c2
    subst eu;have ev:=yl (al:=al) (y:=(⟨f.1,f.2.1,f.2.2.2.1,[f]⟩,HI,HJ)) HG;rw[ev] at l4;refine⟨es,ck,l2,?_⟩;rw[zaw];exact l4.raw
   ·rcases zaH.1 lB with lB |lB
    ·obtain⟨n1,n2⟩:=rM x lB;obtain⟨k,hk⟩:=zao lB;obtain⟨z1,z2⟩:=AX (b0:=b0) (b1:=b1) (b2:=b2) hk;exact(hj.f x lB).keep (hx.keep _ (hold _ z1) n1) (hx.keep _ (hold _ z2) n2)
    simp only[zaL] at lB;subst lB;exact m6 _ ep rfl
   rw[eb] at hb;rcases zaH.1 hb with hb |hb
   ·exact .inr (jE hg hb)
   simp only[zan,zbq,zcl] at hb;rcases hb with rfl |rfl
   ·exact .inl m3
   exact .inl m4
  ·rw[cY] at g2;have g4:f.2.2.2.1=1:=g4;rw[AY (f:=f) g1 g2 oP,zaC (by omega),zaC (by omega)];refine⟨rfl,λF2 G2 w2 h2 hx=>hj.nD h hg h2 hx zX (al':=al) rfl ?_ ?_ hj.a (.refl _) rM⟩
   ·rw[AW (l7 HG)];simp[lk]
   rw[sW];simp[lk]
  ·match i,hv,hc with
   |0,hv,hc=>cases hv;cases hc;exact .ref 0 0 0 _ ⟨_,rfl,zae _,λ_ _=>⟨b0,rfl,rfl⟩⟩ rfl
   |1,hv,hc=>cases hv;cases hc;exact .d d1
   |i+2,hv,hc=>simp at hv
  obtain⟨G3,Fq,yX⟩:=AH F2 G2 w2 h2 hx;refine⟨_,hp,F,G3,Fq,?_,yX⟩;rw[rp] at vw;exact pd vw
 |some k=>
  obtain⟨rH,h4,_⟩:=za5.1 oP;have yn:st.o[k]?=some st.o[k]:=zac rH;have Od:=AF k;rw[yn] at Od;obtain⟨x,hk,ex⟩:=zaj.1 Od;rw[<-ex] at yn h4;obtain⟨ea,en⟩:=mR.1 h4;have PS:=zak yn;have fK:=(hJ.o x.1 PS).1;have MW:k<al.length:=by omega
  obtain⟨cap,mZ⟩:=hj.Dk hJ h hg hk;have km:0<(df x.1).length:=by rw[eU];have:=fK.q;omega
  obtain⟨⟨n1,n2,n3⟩,⟨n4,n5,n6⟩,⟨n7,n8,n9⟩,PI⟩:=hj.ne hk;rw[ea,en] at mZ;generalize MX:Value.slice (some ⟨x.2.2,0,none⟩) (df x.1).length cap=v4 at mZ;have hs: ∀b,Own (gJ b0 b1 b2 (av x.2.1) v4) (uO f.1 f.2.1 (aU al) al.length (a8 st.d) st.d.length (df x.1) x.1.l.length) b->b=b0\/b=b1\/b=b2\/b=x.2.1\/b=x.2.2:=λb ⟨n,e,he,hb⟩=>by
   rw[<-MX] at hb;rcases zq he hb with⟨_,h⟩| ⟨_,h⟩| ⟨_,h⟩| ⟨_,h⟩| ⟨_,h⟩
   ·exact .inl h
   ·exact .inr (.inl h)
   ·exact .inr (.inr (.inl h))
   ·exact .inr (.inr (.inr (.inl h)))
   exact .inr (.inr (.inr (.inr h)))
  have zX: ∀b,Own (gJ b0 b1 b2 (av x.2.1) v4) (uO f.1 f.2.1 (aU al) al.length (a8 st.d) st.d.length (df x.1) x.1.l.length) b->Own G (rJ (some 0) st) b:=λb hb=>by
   rcases hs b hb with rfl |rfl |rfl |rfl |rfl
   ·exact jE hg (by simp[cA])
   ·exact jE hg (by simp[cA])
   ·exact jE hg (by simp[cA])
   ·exact jE hg (AX hk).1
   exact jE hg (AX hk).2
  have MY:(al.flatMap mS).Nodup:=by have:=hj.nd;simp only[cA,zax] at this;exact this.2.2.2
  have rM: ∀y∈al.eraseIdx k,¬Own (gJ b0 b1 b2 (av x.2.1) v4) (uO f.1 f.2.1 (aU al) al.length (a8 st.d) st.d.length (df x.1) x.1.l.length) y.2.1/\ ¬Own (gJ b0 b1 b2 (av x.2.1) v4) (uO f.1 f.2.1 (aU al) al.length (a8 st.d) st.d.length (df x.1) x.1.l.length) y.2.2:=λy hy=>by obtain⟨i,hi⟩:=zao (zaU hy);obtain⟨_,⟨m4,m5,m6⟩,⟨m7,m8,m9⟩,_⟩:=hj.ne hi;obtain⟨z1,z2,z3,z4⟩:=Dj MY hk y hy;exact⟨λho=>by rcases hs _ ho with e |e |e |e |e<;>first |exact m4 e.symm |exact m5 e.symm |exact m6 e.symm |exact z1 e |exact z2 e,λho=>by rcases hs _ ho with e |e |e |e |e<;>first |exact m7 e.symm |exact m8 e.symm |exact m9 e.symm |exact z3 e |exact z4 e⟩
  have Dp: ∀(o':cO) (ps:List (List UInt8)) (k':Int),df o'=ps->(o'.l.length:Int)=k'->(o'.a,o'.n)=(x.1.a,x.1.n)->0<ps.length-> ∀F2 G2 w2,aL PR ⟨gJ b0 b1 b2 (av x.2.1) v4,w0,0,false⟩ F2 G2 w2 (uO f.1 f.2.1 (aU al) al.length (a8 st.d) st.d.length ps k')->
    Ext (Own (gJ b0 b1 b2 (av x.2.1) v4) (uO f.1 f.2.1 (aU al) al.length (a8 st.d) st.d.length (df x.1) x.1.l.length)) (Own G2 (uO f.1 f.2.1 (aU al) al.length (a8 st.d) st.d.length ps k')) F F2 w w2->
    ∃G3,aL PR ⟨G,w0,0,false⟩ F G3 w2 (rJ (some 0) ⟨st.o.set k o',st.d⟩)/\Ext (Own G (rJ (some 0) st)) (Own G3 (rJ (some 0) ⟨st.o.set k o',st.d⟩)) F F w w2:=by
   intro o' ps k' yP KR Ik MZ F2 G2 w2 h2 hx;obtain⟨⟨k1,k2,k3⟩,hc⟩:=Dl h2 rfl rfl rfl rfl rfl;obtain⟨HI,HJ,dU,m1,m2,m3,m4,m5,m6⟩:=Gn h2 MZ rfl rfl;have t3:G2 3=av x.2.1:=(h2.tag 3 _ 3 rfl rfl rfl).eq λl h=>by cases h
   have t4:G2 4=v4:=(h2.tag 4 _ 4 rfl rfl rfl).eq λl h=>by have h:v4= .tuple l:=h;rw[<-MX] at h;cases h
   rw[m1] at t3;rw[m2,<-MX] at t4;cases t3;have t4:HJ=x.2.2:=by
    injection t4 with t4
    injection t4 with t4
    injection t4
   subst t4;have eb:cA b0 b1 b2 (al.set k (o',x.2.1,x.2.2))=cA b0 b1 b2 al:=congrArg (λl=>b0::b1::b2::l) (wQ (y:=(o',x.2.1,x.2.2)) hk rfl);refine JW.close h hg h2 hx zX (al':=al.set k (o',x.2.1,x.2.2)) ⟨by rw[zbx,hj.a],by rw[eb];exact hj.nd,hc,?_,Dm h2 rfl k3,λy hy=> ?_⟩ λb hb=> .inr (jE hg (by rw[<-eb];exact hb))
   ·obtain⟨b,es,ck,l1,l2,l3⟩:=h2.rg 1 _ rfl;rw[k2] at l1;cases l1;obtain⟨u,hu,l4⟩:=l3.C6;have eu:u=av x.2.1:=by
     cases hu with
     |ref _ _ _ _ hr _=>obtain⟨e,he,_,hc⟩:=hr;cases he;obtain⟨b',c1,c2⟩:=hc rfl rfl;rw[m1] at c1;cases c1;exact c2
    subst eu;have ev:=AV (al:=al) (y:=(o',x.2.1,x.2.2)) (hj.MV hJ) hk Ik;rw[ea,en] at ev;rw[ev] at l4;refine⟨es,ck,l2,?_⟩;rw[zas];exact l4.raw
   rcases mem_set hy with rfl |hy
   ·exact m6 _ yP KR
   obtain⟨z1,z2⟩:=rM y hy;obtain⟨i,hi⟩:=zao (zaU hy);obtain⟨y1,y2⟩:=AX (b0:=b0) (b1:=b1) (b2:=b2) hi;exact(hj.f y (zak hi)).keep (hx.keep _ (h.cy (jE hg y1)) z1) (hx.keep _ (h.cy (jE hg y2)) z2)
  have hS:=Dp x.1 (df x.1) x.1.l.length rfl rfl rfl km;have es:st.o.set k x.1=st.o:=by have Bd:x.1=st.o[k]:=ex;rw[Bd];exact List.set_getElem_self rH
  rw[es] at hS;have B6:=fK.lt;have PT:=fK.q;refine bC.mono (MR hX _ _ (λy=>y.1=wO (eF st f).1/\ ∀F2 G2 w2,aL PR ⟨gJ b0 b1 b2 (av x.2.1) v4,w0,0,false⟩ F2 G2 w2 y.2->Ext (Own (gJ b0 b1 b2 (av x.2.1) v4) (uO f.1 f.2.1 (aU al) al.length (a8 st.d) st.d.length (df x.1) x.1.l.length)) (Own G2 y.2) F F2 w w2->
    ∃G3,aL PR ⟨G,w0,0,false⟩ F G3 w2 (rJ (some 0) (eF st f).2)/\Ext (Own G (rJ (some 0) st)) (Own G3 (rJ (some 0) (eF st f).2)) F F w w2)
   ⟨f.1,f.2.1,f.2.2.1,f.2.2.2.1,f.2.2.2.2,aU al,al.length,a8 st.d,st.d.length,df x.1,x.1.l.length,rfl,rfl,⟨sV _,by rw[eU];omega,⟨by omega,by omega⟩,?_⟩,λg1=> ?_,λg1 g2=> ?_,λg1 g2 g3=> ?_,λg1 g2 g3 g4=> ?_,λg1 g2 g3 g4 g5=> ?_,λg1 g2 g3 g4 g5=> ?_⟩
   F (gJ b0 b1 b2 (av x.2.1) v4) w [av b0,u1] mZ rfl (λi v c hv hc=> ?_)) λv w2 ⟨y,⟨rp,AH⟩,F2,G2,h2,vw,hx⟩=> ?_
  ·rw[join_nil];have:=qK ((df x.1).set f.2.2.1.toNat f.2.2.2.2) λs hs=>by
    rcases zbi hs with hs |rfl
    ·exact AZ fK s hs
    exact hf
   rw[zas,eU] at this;omega
  ·rw[Fo (f:=f) g1];exact⟨rfl,hS⟩
  ·rw[cY] at g2;rw[Fp (f:=f) g1 g2];exact⟨rfl,hS⟩
  ·rw[cY] at g2;have g3: ¬((df x.1).length:Int)=f.2.2.2.1:=g3;rw[eU] at g3;rw[wP (f:=f) g1 g2 oP yn,zat (by omega)];exact⟨rfl,hS⟩
  ·rw[cY] at g2;have g3:((df x.1).length:Int)=f.2.2.2.1:=g3;rw[eU] at g3;obtain⟨r1,r2,r3⟩:=(fo (f:=f)).1 g1;rw[wP (f:=f) g1 g2 oP yn,zaC (by omega),zat ((ux fK r2.2.2.1 (by omega)).2 g4)];exact⟨rfl,hS⟩
  ·rw[cY] at g2;have g3:((df x.1).length:Int)=f.2.2.2.1:=g3;have g5:(x.1.l.length:Int)+1<f.2.2.2.1:=g5;rw[eU] at g3;obtain⟨r1,r2,r3⟩:=(fo (f:=f)).1 g1;have J0: ¬(x.1.l.any (λy=>decide (y.2.2.1=f.2.2.1))=true):=λh=>(ux fK r2.2.2.1 (by omega)).1 h g4;have b9: ∀g∈x.1.l,g.2.2.1≠f.2.2.1:=λg hg e=>J0 (zbe.2 ⟨g,hg,by simpa using e⟩);rw[wP (f:=f) g1 g2 oP yn,zaC (by omega),zaC J0,zat (by rw[mQ];omega)];exact⟨rfl,Dp ⟨x.1.a,x.1.n,x.1.q,bZ ja x.1.l f⟩ _ _ (qF fK.s b9 r2.2.2.1) (by rw[mQ];rfl) rfl (by rw[zas];exact km)⟩
  ·rw[cY] at g2;have g3:((df x.1).length:Int)=f.2.2.2.1:=g3;have g5: ¬(x.1.l.length:Int)+1<f.2.2.2.1:=g5;rw[eU] at g3;obtain⟨r1,r2,r3⟩:=(fo (f:=f)).1 g1;have J0: ¬(x.1.l.any (λy=>decide (y.2.2.1=f.2.2.1))=true):=λh=>(ux fK r2.2.2.1 (by omega)).1 h g4;have b9: ∀g∈x.1.l,g.2.2.1≠f.2.2.1:=λg hg e=>J0 (zbe.2 ⟨g,hg,by simpa using e⟩);rw[wP (f:=f) g1 g2 oP yn,zaC (by omega),zaC J0,zaC (by rw[mQ];omega)];have eJ:Lib.join ((df x.1).set f.2.2.1.toNat f.2.2.2.2) []=(bZ ja x.1.l f).flatMap (·.2.2.2.2):=by
    rw[join_nil,<-qF fK.s b9 r2.2.2.1,AP (o:=⟨x.1.a,x.1.n,x.1.q,bZ ja x.1.l f⟩),List.flatMap_def]
    ·intro g hg;rcases jD.1 hg with hg |rfl
     ·have:=fK.m g hg;exact⟨this.2.2.2.1,this.2.2.2.2.1⟩
     exact⟨r2.2.2.1,by show _<x.1.q;omega⟩
    ·exact yg fK.s b9
    rw[mQ];dsimp only;omega
   refine⟨by dsimp only;rw[eJ],λF2 G2 w2 h2 hx=>hj.nD h hg h2 hx zX (al':=al.eraseIdx k) rfl ?_ ?_ (by rw[<-hj.a];exact(lg ..).symm) (zbw ..) rM⟩
   ·have ev:=wK (hj.MV hJ) hk;rw[ea,en] at ev;have el:((al.eraseIdx k).length:Int)=al.length-1:=by rw[zct MW];omega
    rw[<-ev,el];simp[lk]
   dsimp only;rw[<-sW];simp[lk]
  ·match i,hv,hc with
   |0,hv,hc=>cases hv;cases hc;exact .ref 0 0 0 _ ⟨_,rfl,zae _,λ_ _=>⟨b0,rfl,rfl⟩⟩ rfl
   |1,hv,hc=>cases hv;cases hc;exact .d d1
   |i+2,hv,hc=>simp at hv
  obtain⟨G3,Fq,yX⟩:=AH F2 G2 w2 h2 hx;refine⟨_,hp,F,G3,Fq,?_,yX⟩;rw[rp] at vw;exact pd vw
end
theorem HK(ae:P×List (Nat×En)->Prop):(ae (P.ref 0 0 0,[(0,En.mk 0 none (Obj.box 53 [P.mp 1 0,P.mp 2 0])),(1,En.mk 0 none (Obj.bQ 58 (λ(_:D)=>none) (0:Int) none)),(2,En.mk 0 none (Obj.map 58 (λ(_:D)=>none) (0:Int) false))]))=(l5 [] [] [] 12 [] []) ae:=by kernel_rfl
theorem J1(vals:D->Option Value)(m:Int)(d:D->Option D)(c:Int)(ae:P×List (Nat×En)->Prop):(ae (P.d (Z4 m),AR vals m d c))=(l5 [] [] [] 15 [.ref 0 0 0] (rL vals m d c)) ae:=by kernel_rfl
abbrev dz:=cO×Nat×Nat×Nat
def cT(x:dz):D:= .agg [.int .i64 x.1.a,.int .i64 x.1.n,.int .i64 x.1.q,.A7 x.2.1 x.2.2.1 x.2.2.2]
def jF(x:Int×Int):D:=fI x.1 x.2
abbrev u0(t:Nat->Option Nat)(L:List dz)(d:List (Int×Int)):List (Nat×En):=[(0,⟨0,t 0,.box 35 [.sl 1 0 L.length,.sl 2 0 d.length]⟩),(1,⟨0,t 1,.bA 67 (L.map cT) none⟩),(2,⟨0,t 2,.arr 57 false (d.map jF)⟩)]
abbrev u1(L:List dz)(k:Nat)(l:List aY)(d:List (Int×Int)):List (Nat×En):=[(0,⟨0,some 0,.box 35 [.sl 1 0 L.length,.sl 3 0 d.length]⟩),(1,⟨0,some 1,.bA 67 (L.map cT) (some (k,3,.sl 2 0 l.length))⟩),(2,⟨0,some 2,rK false l⟩),(3,⟨0,some 3,.arr 57 false (d.map jF)⟩)]
abbrev Dq(a n p q:Int)(s:List UInt8):Obj:= .box 37 [iD a,iD n,iD p,iD q,sD s]
abbrev M0(f a n p q:Int)(s:List UInt8)(L:List dz)(d:List (Int×Int))(i:Int):S:=⟨28,[(0,.ref 0 0 0),(3,.ref 3 0 0),(5,iD i)],u0 some L d++[(3,⟨0,none,Dq a n p q s⟩)]⟩
abbrev M1(a n p q:Int)(s:List UInt8)(L:List dz)(k:Nat)(l:List aY)(d:List (Int×Int))(i:Int):S:=⟨28,[(0,.ref 0 0 0),(3,.ref 4 0 0),(5,iD i)],u1 L k l d++[(4,⟨0,none,Dq a n p q s⟩)]⟩
abbrev M3(a n p q:Int)(s:List UInt8)(L:List dz)(d:List (Int×Int))(i:Int):S:=⟨40,[(0,.ref 0 0 0),(3,.ref 3 0 0),(5,iD i)],u0 some L d++[(3,⟨0,none,Dq a n p q s⟩)]⟩
abbrev M4(a n p q:Int)(s:List UInt8)(L:List dz)(k:Nat)(l:List aY)(d:List (Int×Int))(i:Int):S:=⟨40,[(0,.ref 0 0 0),(3,.ref 4 0 0),(5,iD i)],u1 L k l d++[(4,⟨0,none,Dq a n p q s⟩)]⟩
def mU:P:=P.ref 0 0 0
def fJ:Nat×P:=(0,mU)
def Bn:List (Nat×P):=[fJ]
def j7(a:Int)(n:Int)(p:Int)(q:Int)(s:List UInt8):En:=En.mk 0 none (Obj.box (37:TypeId) [P.d (Z4 a),P.d (Z4 n),P.d (Z4 p),P.d (Z4 q),P.d (D.str s)])
def xb(d:List (Int×Int)):En:=En.mk 0 (some 2) (Obj.arr (57:TypeId) false (List.map jF d))
def yo(d:List (Int×Int)):Nat×En:=(2,xb d)
def Fs(L:List dz):Nat×En:=(1,En.mk 0 (some 1) (Obj.bA (67:TypeId) (List.map cT L) none))
def A0(d:List (Int×Int)):List P:=[P.sl 2 0 (List.length d)]
def Dr(L:List dz)(d:List (Int×Int)):Nat×En:=(0,En.mk 0 (some 0) (Obj.box (35:TypeId) (P.sl 1 0 (List.length L)::A0 d)))
def A1(L:List dz)(d:List (Int×Int))(a:Int)(n:Int)(p:Int)(q:Int)(s:List UInt8):List (Nat×En):=[Dr L d,Fs L,yo d,(3,j7 a n p q s)]
def qX:Nat×P:=(3,P.ref 3 0 0)
def qY(L:List dz)(d:List (Int×Int)):List (Nat×En):=[Dr L d,Fs L,yo d]
def Iz:List (Nat×P):=[fJ,(4,ZN)]
def IA(d:List (Int×Int))(i:Int)(a:Int)(n:Int):Bool:=D.cF (D.gm (D.nth (List.map jF d) (Zf i)) 0)==a&&(D.cF (D.gm (D.nth (List.map jF d) (Zf i)) 1)==n&&true)
theorem Ds(a n p q:Int)(s:List UInt8)(L:List dz)(d:List (Int×Int))(i:Int)(ae:PX×S->Prop):(bif decide (i<(↑(List.length d):Int)) then ob (decide ((0:Int)<=i/\i<(↑(List.length d):Int))) (ob (decide (Zf i<List.length (List.map jF d))) (ob (ra PR (57:TypeId) (D.nth (List.map jF d) (Zf i))) (bif IA d i a n then ae (PX.ret,S.mk 28 Iz (qY L d)) else ob (Zk i) (ae (PX.normal,S.mk 28 (fJ::qX::ZI i) (A1 L d a n p q s)))))) else ae (PX.exit 0,S.mk 28 Bn (qY L d)))=(de [] [] 19 2 (M0 0 a n p q s L d i)) ae:=by kernel_rfl
def pe(d:List (Int×Int)):En:=En.mk 0 (some 3) (Obj.arr (57:TypeId) false (List.map jF d))
def Dt(l:List aY):Nat×En:=(2,En.mk 0 (some 2) (Obj.arr (37:TypeId) false (List.map eT l)))
def Du(L:List dz)(k:Nat)(l:List aY):Nat×En:=(1,En.mk 0 (some 1) (Obj.bA (67:TypeId) (List.map cT L) (some (k,3,P.sl 2 0 (Z2 l)))))
def Dv(L:List dz)(d:List (Int×Int)):Nat×En:=(0,En.mk 0 (some 0) (Obj.box (35:TypeId) [P.sl 1 0 (List.length L),P.sl 3 0 (List.length d)]))
def rN(L:List dz)(d:List (Int×Int))(k:Nat)(l:List aY)(a:Int)(n:Int)(p:Int)(q:Int)(s:List UInt8):List (Nat×En):=[Dv L d,Du L k l,Dt l,(3,pe d),(4,j7 a n p q s)]
def mV:Nat×P:=(3,P.ref 4 0 0)
def qL(L:List dz)(d:List (Int×Int))(k:Nat)(l:List aY):List (Nat×En):=[Dv L d,Du L k l,Dt l,(3,pe d)]
theorem Dw(a n p q:Int)(s:List UInt8)(L:List dz)(k:Nat)(l:List aY)(d:List (Int×Int))(i:Int)(ae:PX×S->Prop):(bif decide (i<(↑(List.length d):Int)) then ob (decide ((0:Int)<=i/\i<(↑(List.length d):Int))) (ob (decide (Zf i<List.length (List.map jF d))) (ob (ra PR (57:TypeId) (D.nth (List.map jF d) (Zf i))) (bif IA d i a n then ae (PX.ret,S.mk 28 Iz (qL L d k l)) else ob (Zk i) (ae (PX.normal,S.mk 28 (fJ::mV::ZI i) (rN L d k l a n p q s)))))) else ae (PX.exit 0,S.mk 28 Bn (qL L d k l)))=(de [] [] 19 2 (M1 a n p q s L k l d i)) ae:=by kernel_rfl
noncomputable def wR(L:List dz)(i:Int):Bool:=ra PR (67:TypeId) (D.nth (List.map cT L) (Zf i))
def wS(i:Int)(L:List dz):Bool:=decide (Zf i<List.length (List.map cT L))
def wT(i:Int)(L:List dz):Bool:=decide ((0:Int)<=i/\i<(↑(List.length L):Int))
theorem Dx(a n p q:Int)(s:List UInt8)(L:List dz)(d:List (Int×Int))(i:Int)(ae:PX×S->Prop):(bif decide (i<(↑(List.length L):Int)) then ob (wT i L) (ob (wS i L) (ob (wR L i) (bif D.cF (D.gm (D.nth (List.map cT L) (Zf i)) 0)==a then ob (wT i L) (ob (wS i L) (ob (wR L i) (bif D.cF (D.gm (D.nth (List.map cT L) (Zf i)) 1)==n then ae (PX.ret,S.mk 40 [fJ,(4,P.d (Z4 i))] (qY L d)) else ob (Zk i) (ae (PX.normal,S.mk 40 (fJ::qX::ZI i) (A1 L d a n p q s)))))) else ob (Zk i) (ae (PX.normal,S.mk 40 (fJ::qX::ZI i) (A1 L d a n p q s)))))) else ae (PX.exit 0,S.mk 40 Bn (qY L d)))=(de [] [] 20 2 (M3 a n p q s L d i)) ae:=by kernel_rfl
theorem Dy(a n p q:Int)(s:List UInt8)(L:List dz)(k:Nat)(l:List aY)(d:List (Int×Int))(i:Int)(ae:PX×S->Prop):(bif decide (i<(↑(List.length L):Int)) then ob (wT i L) (ob (wS i L) (ob (wR L i) (bif D.cF (D.gm (D.nth (List.map cT L) (Zf i)) 0)==a then ob (wT i L) (ob (wS i L) (ob (wR L i) (bif D.cF (D.gm (D.nth (List.map cT L) (Zf i)) 1)==n then ae (PX.ret,S.mk 40 [fJ,(4,P.d (Z4 i))] (qL L d k l)) else ob (Zk i) (ae (PX.normal,S.mk 40 (fJ::mV::ZI i) (rN L d k l a n p q s)))))) else ob (Zk i) (ae (PX.normal,S.mk 40 (fJ::mV::ZI i) (rN L d k l a n p q s)))))) else ae (PX.exit 0,S.mk 40 Bn (qL L d k l)))=(de [] [] 20 2 (M4 a n p q s L k l d i)) ae:=by kernel_rfl
def fU(d:List (Int×Int))(a n:Int):Bool:=d.any (λx=>x.1==a&&x.2==n)
def fa(L:List dz)(a n:Int):Int:=AT (λx=>x.1.a==a&&x.1.n==n) L
def J2:S->K (PX×S):=λst ae=> ∃a n p q s L d,st=M0 0 a n p q s L d 0/\(L.length<=1000000/\d.length<=1000000)/\(fU d a n=true->ae (.ret,⟨28,[(0,.ref 0 0 0),(4,.d (.bool true))],u0 some L d⟩))/\(fU d a n=false->ae (.exit 0,⟨28,[(0,.ref 0 0 0)],u0 some L d⟩))
def Dz:cR:=λps R ae=> ∃a n p q s L d,ps=[.ref 0 0 0,xa a n p q s]/\R=u0 some L d/\(L.length<=1000000/\d.length<=1000000)/\ ∀b,b=fU d a n->ae (.d (.bool b),u0 some L d)
def zt(kV:List dz)(jW:List (Int×Int)):Prop:=List.length kV<=1000000/\List.length jW<=1000000
theorem J3(a n p q:Int)(s:List UInt8)(L:List dz)(d:List (Int×Int))(ae:P×List (Nat×En)->Prop):(∃(qM:Int) (qN:Int) (A2:Int) (A3:Int) (A4:List UInt8) (kV:List dz) (jW:List (Int×Int)),S.mk 28 (fJ::qX::ZK) (A1 L d a n p q s)=S.mk 28 (fJ::qX::ZK) (A1 kV jW qM qN A2 A3 A4)/\zt kV jW/\(fU jW qM qN=true->ae (ZN,qY kV jW))/\(fU jW qM qN=false->ae (ZG,qY kV jW)))=(mO [] [(2,aF (gY 19 2) J2)] 19 [.ref 0 0 0,xa a n p q s] (u0 some L d)) ae:=by kernel_rfl
def J4:S->K (PX×S):=λst ae=> ∃a n p q s L d,st=M3 a n p q s L d 0/\(L.length<=1000000/\d.length<=1000000)/\(∀i,i=fa L a n->0<=i->ae (.ret,⟨40,[(0,.ref 0 0 0),(4,iD i)],u0 some L d⟩))/\(fa L a n= -1->ae (.exit 0,⟨40,[(0,.ref 0 0 0)],u0 some L d⟩))
def DA:cR:=λps R ae=> ∃a n p q s L d,ps=[.ref 0 0 0,xa a n p q s]/\R=u0 some L d/\(L.length<=1000000/\d.length<=1000000)/\ ∀i,i=fa L a n->ae (iD i,u0 some L d)
theorem J5(a n p q:Int)(s:List UInt8)(L:List dz)(d:List (Int×Int))(ae:P×List (Nat×En)->Prop):(∃(qM:Int) (qN:Int) (A2:Int) (A3:Int) (A4:List UInt8) (kV:List dz) (jW:List (Int×Int)),S.mk 40 (fJ::qX::ZK) (A1 L d a n p q s)=S.mk 40 (fJ::qX::ZK) (A1 kV jW qM qN A2 A3 A4)/\zt kV jW/\(∀(i:Int),i=fa kV qM qN->(0:Int)<=i->ae (P.d (Z4 i),qY kV jW))/\(fa kV qM qN=(-1:Int)->ae (P.d (D.int .i64 (-1:Int)),qY kV jW)))=(mO [] [(2,aF (gY 20 2) J4)] 20 [.ref 0 0 0,xa a n p q s] (u0 some L d)) ae:=by kernel_rfl
def J6:S->K (PX×S):=λst ae=> ∃a n p q s L d k l,st=M1 a n p q s L k l d 0/\(L.length<=1000000/\d.length<=1000000)/\(fU d a n=true->ae (.ret,⟨28,[(0,.ref 0 0 0),(4,.d (.bool true))],u1 L k l d⟩))/\(fU d a n=false->ae (.exit 0,⟨28,[(0,.ref 0 0 0)],u1 L k l d⟩))
def DB:cR:=λps R ae=> ∃a n p q s L d k l,ps=[.ref 0 0 0,xa a n p q s]/\R=u1 L k l d/\(L.length<=1000000/\d.length<=1000000)/\ ∀b,b=fU d a n->ae (.d (.bool b),u1 L k l d)
theorem J7(a n p q:Int)(s:List UInt8)(L:List dz)(d:List (Int×Int))(k:Nat)(l:List aY)(ae:P×List (Nat×En)->Prop):(∃(qM:Int) (qN:Int) (A2:Int) (A3:Int) (A4:List UInt8) (kV:List dz) (jW:List (Int×Int)) (jQ:Nat) (wE:List aY),S.mk 28 (fJ::mV::ZK) (rN L d k l a n p q s)=S.mk 28 (fJ::mV::ZK) (rN kV jW jQ wE qM qN A2 A3 A4)/\zt kV jW/\(fU jW qM qN=true->ae (ZN,qL kV jW jQ wE))/\(fU jW qM qN=false->ae (ZG,qL kV jW jQ wE)))=(mO [] [(2,aF (gY 19 2) J6)] 19 [.ref 0 0 0,xa a n p q s] (u1 L k l d)) ae:=by kernel_rfl
def J8:S->K (PX×S):=λst ae=> ∃a n p q s L d k l,st=M4 a n p q s L k l d 0/\(L.length<=1000000/\d.length<=1000000)/\(∀i,i=fa L a n->0<=i->ae (.ret,⟨40,[(0,.ref 0 0 0),(4,iD i)],u1 L k l d⟩))/\(fa L a n= -1->ae (.exit 0,⟨40,[(0,.ref 0 0 0)],u1 L k l d⟩))
def DC:cR:=λps R ae=> ∃a n p q s L d k l,ps=[.ref 0 0 0,xa a n p q s]/\R=u1 L k l d/\(L.length<=1000000/\d.length<=1000000)/\ ∀i,i=fa L a n->ae (iD i,u1 L k l d)
theorem J9(a n p q:Int)(s:List UInt8)(L:List dz)(d:List (Int×Int))(k:Nat)(l:List aY)(ae:P×List (Nat×En)->Prop):(∃(qM:Int) (qN:Int) (A2:Int) (A3:Int) (A4:List UInt8) (kV:List dz) (jW:List (Int×Int)) (jQ:Nat) (wE:List aY),S.mk 40 (fJ::mV::ZK) (rN L d k l a n p q s)=S.mk 40 (fJ::mV::ZK) (rN kV jW jQ wE qM qN A2 A3 A4)/\zt kV jW/\(∀(i:Int),i=fa kV qM qN->(0:Int)<=i->ae (P.d (Z4 i),qL kV jW jQ wE))/\(fa kV qM qN=(-1:Int)->ae (P.d (D.int .i64 (-1:Int)),qL kV jW jQ wE)))=(mO [] [(2,aF (gY 20 2) J8)] 20 [.ref 0 0 0,xa a n p q s] (u1 L k l d)) ae:=by kernel_rfl
abbrev uT(t1 t2:Option Nat)(a n p q:Int)(s:List UInt8)(N:Nat)(es:List D)(k:Nat)(hp:P)(d:List (Int×Int))(o:cO):List (Nat×En):=[(0,⟨0,some 0,.box 35 [.sl 1 0 N,.sl 2 0 d.length]⟩),(1,⟨0,t1,.bA 67 es (some (k,3,hp))⟩),(2,⟨0,t2,.arr 57 false (d.map jF)⟩),(3,⟨0,none,Dq a n p q s⟩),(4,⟨0,none,.box 67 [iD o.a,iD o.n,iD o.q,.sl 5 0 o.l.length]⟩),(5,⟨0,none,rK false o.l⟩)]
abbrev uS(t1 t3:Option Nat)(a n p q:Int)(s:List UInt8)(N:Nat)(es:List D)(k:Nat)(d:List (Int×Int))(l:List aY):List (Nat×En):=[(0,⟨0,some 0,.box 35 [.sl 1 0 N,.sl 3 0 d.length]⟩),(1,⟨0,t1,.bA 67 es (some (k,3,.sl 2 0 l.length))⟩),(2,⟨0,none,rK false l⟩),(3,⟨0,t3,.arr 57 false (d.map jF)⟩),(4,⟨0,none,Dq a n p q s⟩)]
abbrev HL(a n p q:Int)(s:List UInt8)(L:List dz)(k:Nat)(l:List aY)(d:List (Int×Int))(c i:Int):S:=⟨200,[(0,.ref 0 0 0),(3,.ref 4 0 0),(7,iD c),(8,iD i)],u1 L k l d++[(4,⟨0,none,Dq a n p q s⟩)]⟩
abbrev wU(t1 t2:Option Nat)(hp:P)(a n p q:Int)(s:List UInt8)(N:Nat)(es:List D)(k:Nat)(d:List (Int×Int))(o:cO)(c i:Int):S:=⟨200,[(0,.ref 0 0 0),(3,.ref 3 0 0),(7,iD c),(9,.ref 4 0 0),(10,iD i)],uT t1 t2 a n p q s N es k hp d o⟩
abbrev zu(t1 t2:Option Nat)(hp:P)(a n p q:Int)(s:List UInt8)(N:Nat)(es:List D)(k:Nat)(d:List (Int×Int))(o:cO)(c:Int):S:=⟨200,[(0,.ref 0 0 0),(3,.ref 3 0 0),(7,iD c),(9,.ref 4 0 0)],uT t1 t2 a n p q s N es k hp d o⟩
abbrev A5(t1 t3:Option Nat)(a n p q:Int)(s:List UInt8)(N:Nat)(es:List D)(k:Nat)(d:List (Int×Int))(o:cO)(c:Int)(r:List UInt8)(i:Int):S:=⟨200,[(0,.ref 0 0 0),(3,.ref 4 0 0),(7,iD c),(9,.ref 5 0 0),(11,sD r),(12,iD i)],uS t1 t3 a n p q s N es k d o.l++[(5,⟨0,none,.box 67 [iD o.a,iD o.n,iD o.q,.sl 2 0 o.l.length]⟩)]⟩
abbrev zw(t1 t3:Option Nat)(a n p q:Int)(s:List UInt8)(N:Nat)(es:List D)(k:Nat)(d:List (Int×Int))(o:cO)(c:Int)(r:List UInt8):S:=⟨200,[(0,.ref 0 0 0),(3,.ref 4 0 0),(7,iD c),(11,sD r)],uS t1 t3 a n p q s N es k d o.l⟩
def Oe:S->K (PX×S):=λ_ _=>False
def uA(l:List aY)(p:Int):Bool:=l.any (λx=>x.2.2.1==p)
def Ka:S->K (PX×S):=λst ae=> ∃a n p q s L k l d c,st=HL a n p q s L k l d c 0/\((k<L.length/\c=(k:Int))/\L.length<=1000000/\l.length<=1000000)/\(uA l p=true->ae (.ret,⟨200,[(0,.ref 0 0 0),(3,.ref 4 0 0),(4,.d (.str [])),(5,.d (.bool false)),(6,iD 210),(7,iD c)],u1 L k l d++[(4,⟨0,none,Dq a n p q s⟩)]⟩))/\(uA l p=false->ae (.exit 0,⟨200,[(0,.ref 0 0 0),(3,.ref 4 0 0),(7,iD c)],u1 L k l d++[(4,⟨0,none,Dq a n p q s⟩)]⟩))
def qZ(c:Int):Nat×P:=(7,P.d (Z4 c))
def Ft(k:Nat)(c:Int):Bool:=decide (k=Zf c)
theorem DE(a n p q:Int)(s:List UInt8)(L:List dz)(k:Nat)(l:List aY)(d:List (Int×Int))(c i:Int)(ae:PX×S->Prop):(ob (wT c L) (ob (wS c L) (ob (wR L c) (ob (Ft k c) (bif decide (i<(↑(Z2 l):Int)) then ob (wT c L) (ob (wS c L) (ob (wR L c) (ob (Ft k c) (ob (decide ((0:Int)<=i/\i<(↑(Z2 l):Int))) (ob (decide (Zf i<List.length (List.map eT l))) (ob (Zh l i) (bif D.cF (D.gm (Zg l i) 2)==p then ae (PX.ret,S.mk 200 [fJ,mV,(4,zl),(5,ZG),(6,P.d (D.int .i64 (210:Int))),qZ c] (rN L d k l a n p q s)) else ob (Zk i) (ae (PX.normal,S.mk 200 [fJ,mV,qZ c,(8,Zl i)] (rN L d k l a n p q s)))))))))) else ae (PX.exit 0,S.mk 200 [fJ,mV,qZ c] (rN L d k l a n p q s)))))))=(de [] [] 14 10 (HL a n p q s L k l d c i)) ae:=by kernel_rfl
def Gp:S->K (PX×S):=λst ae=> ∃a n p q s N es k d oa on oq l f c i,st=wU (some 1) (some 3) .bad a n p q s N es k d ⟨oa,on,oq,l++[f]⟩ c i/\(i=(l.length:Int)/\l.length<=1000000)/\ ∀m,m=bZ ja l f->ae (.exit 2,zu (some 1) (some 3) .bad a n p q s N es k d ⟨oa,on,oq,m⟩ c)
def Gq:S->K (PX×S):=λst ae=> ∃a n p q s N es k d o c,st=A5 (some 1) (some 3) a n p q s N es k d o c [] 0/\(o.l.length<=1000000/\(o.l.flatMap (·.2.2.2.2)).length<=1000000)/\ ∀r,r=o.l.flatMap (·.2.2.2.2)->ae (.exit 4,zw (some 1) (some 3) a n p q s N es k d o c r)
def oA(o:cO):List D:=List.map eT (cO.l o)
def uQ(o:cO):En:=En.mk 0 none (Obj.arr (37:TypeId) false (oA o))
def HM(o:cO):Nat×En:=(4,En.mk 0 none (Obj.box (67:TypeId) [P.d (D.int .i64 (cO.a o)),P.d (D.int .i64 (cO.n o)),P.d (D.int .i64 (cO.q o)),P.sl 5 0 (List.length (cO.l o))]))
def Fu:Nat×P:=(9,P.ref 4 0 0)
def IB(c:Int):List (Nat×P):=[fJ,qX,qZ c,Fu]
def Fv(o:cO)(i:Int):List UInt8:=D.nj (D.gm (D.nth (oA o) (Zf i)) 4)
def K9(o:cO)(i:Int):List D:=[D.int .i64 (D.cF (D.gm (D.nth (oA o) (Zf i)) 0)),D.int .i64 (D.cF (D.gm (D.nth (oA o) (Zf i)) 1)),D.int .i64 (D.cF (D.gm (D.nth (oA o) (Zf i)) 2)),D.int .i64 (D.cF (D.gm (D.nth (oA o) (Zf i)) 3)),D.str (Fv o i)]
def zx(i:Int):Nat:=Int.toNat (i-(1:Int))
def IC(o:cO)(i:Int):List D:=List.set (oA o) (Zf i) (D.cg (D.agg (K9 o i)) [D.int .i64 (D.cF (D.gm (D.nth (oA o) (zx i)) 0)),D.int .i64 (D.cF (D.gm (D.nth (oA o) (zx i)) 1)),D.int .i64 (D.cF (D.gm (D.nth (oA o) (zx i)) 2)),D.int .i64 (D.cF (D.gm (D.nth (oA o) (zx i)) 3)),D.str (D.nj (D.gm (D.nth (oA o) (zx i)) 4))])
def Fw(o:cO)(i:Int):D:=D.nth (IC o i) (zx i)
def La(a:Int)(n:Int)(p:Int)(q:Int)(s:List UInt8)(o:cO)(i:Int):List (Nat×En):=[(3,j7 a n p q s),HM o,(5,En.mk 0 none (Obj.arr (37:TypeId) false (List.set (IC o i) (zx i) (D.cg (D.agg [D.int .i64 (D.cF (D.gm (Fw o i) 0)),D.int .i64 (D.cF (D.gm (Fw o i) 1)),D.int .i64 (D.cF (D.gm (Fw o i) 2)),D.int .i64 (D.cF (D.gm (Fw o i) 3)),D.str (D.nj (D.gm (Fw o i) 4))]) (K9 o i)))))]
def IE(es:List D)(k:Nat):Nat×En:=(1,En.mk 0 (some 1) (Obj.bA (67:TypeId) es (some (k,3,P.bad))))
def A6(N:Nat)(d:List (Int×Int)):Nat×En:=(0,En.mk 0 (some 0) (Obj.box (35:TypeId) (P.sl 1 0 N::A0 d)))
def Lb(c:Int)(i:Int):List (Nat×P):=[fJ,qX,qZ c,Fu,(10,P.d (D.int .i64 (i-(1:Int))))]
def Lc(o:cO)(i:Int):Bool:=decide (D.cF (D.gm (D.nth (oA o) (Zf i)) 2)<D.cF (D.gm (D.nth (oA o) (zx i)) 2))
noncomputable def IF(o:cO)(i:Int):Bool:=ra PR (37:TypeId) (D.nth (oA o) (zx i))
def IG(i:Int)(o:cO):Bool:=decide (zx i<List.length (oA o))
def D8(o:cO):Int:=(↑(List.length (cO.l o)):Int)
def Gr(i:Int)(o:cO):Bool:=decide ((0:Int)<=i-(1:Int)/\i-(1:Int)<D8 o)
def D9(i:Int):Bool:=decide (Zi<=i-(1:Int)/\i-(1:Int)<=Zj)
noncomputable def zy(o:cO)(i:Int):Bool:=ra PR (37:TypeId) (D.nth (oA o) (Zf i))
def zz(i:Int)(o:cO):Bool:=decide (Zf i<List.length (oA o))
def zA(i:Int)(o:cO):Bool:=decide ((0:Int)<=i/\i<D8 o)
theorem Fx(a n p q:Int)(s:List UInt8)(N:Nat)(es:List D)(k:Nat)(d:List (Int×Int))(o:cO)(c i:Int)(ae:PX×S->Prop):(bif decide (i>(0:Int)) then ob (zA i o) (ob (zz i o) (ob (zy o i) (ob (D9 i) (ob (Gr i o) (ob (IG i o) (ob (IF o i) (bif Lc o i then ob (D9 i) (ob (D9 i) (ob (Gr i o) (ob (IG i o) (ob (IF o i) (ob (zA i o) (ob (zz i o) (ob (zy o i) (ob (zA i o) (ob (zz i o) (ob (zy o i) (ob (Gr i o) (ob (decide (zx i<List.length (IC o i))) (ob (ra PR (37:TypeId) (Fw o i)) (ob (D9 i) (ae (PX.normal,S.mk 200 (Lb c i) (A6 N d::IE es k::(2,pe d)::La a n p q s o i))))))))))))))))) else ae (PX.exit 2,S.mk 200 (IB c) [A6 N d,IE es k,(2,pe d),(3,j7 a n p q s),HM o,(5,uQ o)])))))))) else ae (PX.exit 2,S.mk 200 (IB c) [A6 N d,IE es k,(2,pe d),(3,j7 a n p q s),HM o,(5,uQ o)]))=(de [] [] 14 21 (wU (some 1) (some 3) .bad a n p q s N es k d o c i)) ae:=by kernel_rfl
def II(c:Int)(r:List UInt8):List (Nat×P):=[fJ,mV,qZ c,(11,P.d (D.str r))]
def Ea(a:Int)(n:Int)(p:Int)(q:Int)(s:List UInt8)(o:cO):List (Nat×En):=[(4,j7 a n p q s),(5,En.mk 0 none (Obj.box (67:TypeId) [P.d (D.int .i64 (cO.a o)),P.d (D.int .i64 (cO.n o)),P.d (D.int .i64 (cO.q o)),P.sl 2 0 (List.length (cO.l o))]))]
def Bo(es:List D)(k:Nat)(o:cO):Obj:=Obj.bA (67:TypeId) es (some (k,3,P.sl 2 0 (List.length (cO.l o))))
def zB(N:Nat)(d:List (Int×Int)):Nat×En:=(0,En.mk 0 (some 0) (Obj.box (35:TypeId) [P.sl 1 0 N,P.sl 3 0 (List.length d)]))
def IJ(c:Int)(r:List UInt8)(o:cO)(i:Int):List (Nat×P):=[fJ,mV,qZ c,(9,P.ref 5 0 0),(11,P.d (D.str (r++Fv o i))),(12,Zl i)]
def IK(r:List UInt8)(o:cO)(i:Int):Bool:=decide (List.length r+List.length (Fv o i)<=9223372036854775807)
theorem zC(a n p q:Int)(s:List UInt8)(N:Nat)(es:List D)(k:Nat)(d:List (Int×Int))(o:cO)(c:Int)(r:List UInt8)(i:Int)(ae:PX×S->Prop):(bif decide (i<D8 o) then ob (zA i o) (ob (zz i o) (ob (zy o i) (ob (IK r o i) (ob (Zk i) (ae (PX.normal,S.mk 200 (IJ c r o i) (zB N d::(1,En.mk 0 (some 1) (Bo es k o))::(2,uQ o)::(3,pe d)::Ea a n p q s o))))))) else ae (PX.exit 4,S.mk 200 (II c r) [zB N d,(1,En.mk 0 (some 1) (Bo es k o)),(2,uQ o),(3,pe d),(4,j7 a n p q s)]))=(de [] [] 14 29 (A5 (some 1) (some 3) a n p q s N es k d o c r i)) ae:=by kernel_rfl
def Gs:S->K (PX×S):=λst ae=> ∃a n p q s N es k d oa on oq l f c i,st=wU none (some 2) (.d .bt) a n p q s N es k d ⟨oa,on,oq,l++[f]⟩ c i/\(i=(l.length:Int)/\l.length<=1000000)/\ ∀m,m=bZ ja l f->ae (.exit 2,zu none (some 2) (.d .bt) a n p q s N es k d ⟨oa,on,oq,m⟩ c)
def Gt:S->K (PX×S):=λst ae=> ∃a n p q s N es k d o c,st=A5 none (some 2) a n p q s N es k d o c [] 0/\(o.l.length<=1000000/\(o.l.flatMap (·.2.2.2.2)).length<=1000000)/\ ∀r,r=o.l.flatMap (·.2.2.2.2)->ae (.exit 4,zw none (some 2) a n p q s N es k d o c r)
def IL(es:List D)(k:Nat):Nat×En:=(1,En.mk 0 none (Obj.bA (67:TypeId) es (some (k,3,P.d D.bt))))
theorem Fy(a n p q:Int)(s:List UInt8)(N:Nat)(es:List D)(k:Nat)(d:List (Int×Int))(o:cO)(c i:Int)(ae:PX×S->Prop):(bif decide (i>(0:Int)) then ob (zA i o) (ob (zz i o) (ob (zy o i) (ob (D9 i) (ob (Gr i o) (ob (IG i o) (ob (IF o i) (bif Lc o i then ob (D9 i) (ob (D9 i) (ob (Gr i o) (ob (IG i o) (ob (IF o i) (ob (zA i o) (ob (zz i o) (ob (zy o i) (ob (zA i o) (ob (zz i o) (ob (zy o i) (ob (Gr i o) (ob (decide (zx i<List.length (IC o i))) (ob (ra PR (37:TypeId) (Fw o i)) (ob (D9 i) (ae (PX.normal,S.mk 200 (Lb c i) (A6 N d::IL es k::yo d::La a n p q s o i))))))))))))))))) else ae (PX.exit 2,S.mk 200 (IB c) [A6 N d,IL es k,yo d,(3,j7 a n p q s),HM o,(5,uQ o)])))))))) else ae (PX.exit 2,S.mk 200 (IB c) [A6 N d,IL es k,yo d,(3,j7 a n p q s),HM o,(5,uQ o)]))=(de [] [] 14 21 (wU none (some 2) (.d .bt) a n p q s N es k d o c i)) ae:=by kernel_rfl
theorem zD(a n p q:Int)(s:List UInt8)(N:Nat)(es:List D)(k:Nat)(d:List (Int×Int))(o:cO)(c:Int)(r:List UInt8)(i:Int)(ae:PX×S->Prop):(bif decide (i<D8 o) then ob (zA i o) (ob (zz i o) (ob (zy o i) (ob (IK r o i) (ob (Zk i) (ae (PX.normal,S.mk 200 (IJ c r o i) (zB N d::(1,En.mk 0 none (Bo es k o))::(2,uQ o)::(3,xb d)::Ea a n p q s o))))))) else ae (PX.exit 4,S.mk 200 (II c r) [zB N d,(1,En.mk 0 none (Bo es k o)),(2,uQ o),(3,xb d),(4,j7 a n p q s)]))=(de [] [] 14 29 (A5 none (some 2) a n p q s N es k d o c r i)) ae:=by kernel_rfl
def Ld(d:List (Int×Int))(a:Int)(n:Int):En:=En.mk 0 none (Obj.arr (57:TypeId) false (List.take (List.length d) (List.map jF d)++[pb a n]))
def DF(dj:List D)(jQ:Nat)(o:cO):List D:=bH dj (some (jQ,3,P.sl 2 0 (List.length (cO.l o))))
def IP(gZ:Int)(lv:Nat)(dj:List D)(jQ:Nat)(o:cO):List D:=List.drop (Int.toNat (gZ+(1:Int))) (List.take (List.length (List.take lv (DF dj jQ o))) (List.take lv (DF dj jQ o)))
def Fz(gZ:Int)(lv:Nat)(dj:List D)(jQ:Nat)(o:cO):Nat:=0+List.length (List.drop 0 (List.take (Zf gZ) (List.take lv (DF dj jQ o))))
def Le(gZ:Int)(lv:Nat)(dj:List D)(jQ:Nat)(o:cO):En:=En.mk 0 none (Obj.arr (67:TypeId) false (List.take (Fz gZ lv dj jQ o) ([]++List.drop 0 (List.take (Zf gZ) (List.take lv (DF dj jQ o))))++IP gZ lv dj jQ o))
def Kb(d:List (Int×Int))(a:Int)(n:Int):Nat:=List.length d+List.length [pb a n]
def Lf(r:List UInt8):P:=P.fL [P.d (D.str r),ZN,Zy]
def Lg(d:List (Int×Int))(a:Int)(n:Int):Bool:=Nat.ble (List.length d) (List.length (List.map jF d))&&bw (Kb d a n) 16
def Lh(gZ:Int)(lv:Nat)(dj:List D)(jQ:Nat)(o:cO):Bool:=Nat.ble (Fz gZ lv dj jQ o) (List.length ([]++List.drop 0 (List.take (Zf gZ) (List.take lv (DF dj jQ o)))))&&bw (Fz gZ lv dj jQ o+List.length (IP gZ lv dj jQ o)) 48
def Li(gZ:Int)(lv:Nat)(dj:List D)(jQ:Nat)(o:cO):Bool:=decide ((0:Int)<=gZ+(1:Int)/\gZ+(1:Int)<=(↑(List.length (List.take lv (DF dj jQ o))):Int))
def Kc(o:cO):List UInt8:=List.flatMap (λ(x:aY)=>Prod.snd (Prod.snd (Prod.snd (Prod.snd x)))) (cO.l o)
def Lj(o:cO):Prop:=List.length (cO.l o)<=1000000/\List.length (Kc o)<=1000000
def Lk(yp:Int)(yq:Int)(wV:Int)(yr:Int)(yu:List UInt8)(oa:Int)(on:Int)(oq:Int)(m:List aY):List (Nat×En):=[(4,j7 yp yq wV yr yu),(5,En.mk 0 none (Obj.box (67:TypeId) [P.d (Z4 oa),P.d (Z4 on),P.d (Z4 oq),P.sl 2 0 (Z2 m)]))]
def Ll(es:List D)(c:Int)(oa:Int)(on:Int)(oq:Int)(k:Nat)(m:List aY):Obj:=Obj.bA (67:TypeId) (List.set es (Zf c) (D.agg [Z4 oa,Z4 on,Z4 oq,D.bt])) (some (k,3,P.sl 2 0 (Z2 m)))
def IQ(gZ:Int):List (Nat×P):=[fJ,mV,qZ gZ,(9,P.ref 5 0 0),(11,zl),(12,Zy)]
def Lm(es:List D)(c:Int)(oa:Int)(on:Int)(oq:Int)(k:Nat)(m:List aY):Obj:=Obj.bA (67:TypeId) (List.set es (Zf c) (D.agg [Z4 oa,Z4 on,Z4 oq,D.bt])) (some (k,3,P.sl 3 0 (Z2 m)))
def Ln(yp:Int)(yq:Int)(wV:Int)(yr:Int)(yu:List UInt8)(oa:Int)(on:Int)(oq:Int)(l:List aY)(f:aY):List (Nat×En):=[(3,j7 yp yq wV yr yu),(4,En.mk 0 none (Obj.box (67:TypeId) [P.d (Z4 oa),P.d (Z4 on),P.d (Z4 oq),P.sl 5 0 (List.length (l++[f]))])),(5,En.mk 0 none (Obj.arr (37:TypeId) false (List.map eT (l++[f]))))]
def Lo(c:Int)(i:Int):List (Nat×P):=[fJ,qX,qZ c,Fu,(10,P.d (Z4 i))]
def Eb(a:Int)(n:Int)(p:Int)(q:Int)(s:List UInt8):List D:=[D.agg [Z4 a,Z4 n,Z4 p,Z4 q,D.str s]]
def IU(a:Int)(n:Int)(q:Int):List D:=[D.agg [Z4 a,Z4 n,Z4 q,D.bt]]
def FA(L:List dz)(a:Int)(n:Int)(q:Int):Int:=(↑(List.length L+List.length (IU a n q)):Int)-(1:Int)
def Lp(L:List dz)(a:Int)(n:Int)(q:Int):List D:=List.take (List.length L) (List.map cT L)++IU a n q
def Kd(L:List dz)(a:Int)(n:Int)(q:Int):D:=D.nth (Lp L a n q) (Int.toNat (FA L a n q))
def Ec(qM:Int)(qN:Int)(A2:Int)(A3:Int)(A4:List UInt8):List P:=[mU,P.d (D.agg [Z4 qM,Z4 qN,Z4 A2,Z4 A3,D.str A4])]
def Ed(ae:P×List (Nat×En)->Prop)(L:List dz)(d:List (Int×Int)):Prop:=ae (qG,qY L d)
theorem M5(a n p q:Int)(s:List UInt8)(L:List dz)(d:List (Int×Int))(ae:P×List (Nat×En)->Prop):(bif ZV a then bif ZW a then bif ZX n then bif ZV q then bif ZY q then bif ZX p then bif Ze p q then bif ZZ s then Ed ae L d else∃(qM:Int) (qN:Int) (A2:Int) (A3:Int) (A4:List UInt8) (kV:List dz) (jW:List (Int×Int)),Ec a n p q s=Ec qM qN A2 A3 A4/\qY L d=qY kV jW/\zt kV jW/\ ∀(b:Bool),b=fU jW qM qN->bif b then ae (D7,qY kV jW) else∃(Ke:Int) (Kf:Int) (M6:Int) (M7:Int) (M8:List UInt8) (L:List dz) (d:List (Int×Int)),Ec a n p q s=Ec Ke Kf M6 M7 M8/\qY kV jW=qY L d/\zt L d/\ ∀(i:Int),i=fa L Ke Kf->bif ZX i then ob (wT i L) (ob (wS i L) (ob (wR L i) (ob (D.cF (D.gm (D.nth (List.map cT L) (Zf i)) 2) !=q) (Ed ae L d)))) else bif decide ((↑(List.length L):Int)>=(50:Int)) then ae (Iw,qY L d) else ob (Nat.ble (List.length L) (List.length (List.map cT L))&&bw (List.length L+List.length (IU a n q)) 48) (ob (decide (Zi<=FA L a n q/\FA L a n q<=Zj)) (ob (decide ((0:Int)<=FA L a n q/\FA L a n q<(↑(List.length L+List.length (IU a n q)):Int))) (ob (decide (Int.toNat (FA L a n q)<List.length (Lp L a n q))) (ob (ra PR (67:TypeId) (Kd L a n q)) (ob (decide (List.length L=Int.toNat (FA L a n q))) (∃(yp:Int) (yq:Int) (wV:Int) (yr:Int) (yu:List UInt8) (N:Nat) (es:List D) (k:Nat) (DG:List (Int×Int)) (oa:Int) (on:Int) (oq:Int) (l:List aY) (f:aY) (c:Int) (i:Int),S.mk 200 [fJ,qX,(7,P.d (D.int .i64 (FA L a n q))),Fu,(10,P.d (D.int .i64 ((↑(List.length (Eb a n p q s)):Int)-(1:Int))))] [(0,En.mk 0 (some 0) (Obj.box (35:TypeId) (P.sl 1 0 (List.length L+List.length (IU a n q))::A0 d))),(1,En.mk 0 none (Obj.bA (67:TypeId) (Lp L a n q) (some (List.length L,3,P.d D.bt)))),yo d,(3,j7 a n p q s),(4,En.mk 0 none (Obj.box (67:TypeId) [P.d (D.int .i64 (D.cF (D.gm (Kd L a n q) 0))),P.d (D.int .i64 (D.cF (D.gm (Kd L a n q) 1))),P.d (D.int .i64 (D.cF (D.gm (Kd L a n q) 2))),P.sl 5 0 1])),(5,En.mk 0 none (Obj.arr (37:TypeId) false (Eb a n p q s)))]=S.mk 200 (Lo c i) (A6 N DG::IL es k::yo DG::Ln yp yq wV yr yu oa on oq l f)/\(i=(↑(Z2 l):Int)/\ZM l)/\ ∀(m:List aY),m=bZ ja l f->ob (decide ((0:Int)<=c/\c<(↑N:Int))) (ob (decide (Zf c<List.length es)) (ob (Ft k c) (bif decide ((↑(Z2 m):Int)<oq) then ae (Gl,[(0,En.mk 0 (some 0) (Obj.box (35:TypeId) [P.sl 2 0 N,P.sl 1 0 (List.length DG)])),(1,xb DG),(2,En.mk 0 none (Lm es c oa on oq k m)),(3,Zc m)]) else∃(a:Int) (n:Int) (p:Int) (q:Int) (s:List UInt8) (lv:Nat) (dj:List D) (jQ:Nat) (d:List (Int×Int)) (o:cO) (gZ:Int),S.mk 200 (IQ c) (zB N DG::(1,En.mk 0 none (Ll es c oa on oq k m))::(2,Zc m)::(3,xb DG)::Lk yp yq wV yr yu oa on oq m)=S.mk 200 (IQ gZ) (zB lv d::(1,En.mk 0 none (Bo dj jQ o))::(2,uQ o)::(3,xb d)::Ea a n p q s o)/\Lj o/\ ∀(r:List UInt8),r=Kc o->ob (decide ((0:Int)<=gZ/\gZ<=(↑(List.length (List.take lv (DF dj jQ o))):Int))) (ob (Nat.ble 0 0&&bw (Fz gZ lv dj jQ o) 48) (ob (Zk gZ) (ob (Li gZ lv dj jQ o) (ob (Lh gZ lv dj jQ o) (ob (Lg d a n) (ae (Lf r,[(0,En.mk 0 (some 0) (Obj.box (35:TypeId) [P.sl 1 0 (Fz gZ lv dj jQ o+List.length (IP gZ lv dj jQ o)),P.sl 2 0 (Kb d a n)])),(1,Le gZ lv dj jQ o),(2,Ld d a n)])))))))))))))))) else Ed ae L d else Ed ae L d else Ed ae L d else Ed ae L d else Ed ae L d else Ed ae L d else Ed ae L d)=(l5 [(19,Dz),(20,DA)] [] [(10,aF (gY 14 10) Oe),(21,aF (gY 14 21) Gs),(29,aF (gY 14 29) Gt)] 14 [.ref 0 0 0,xa a n p q s] (u0 some L d)) ae:=by kernel_rfl
def Ee(ae:P×List (Nat×En)->Prop)(L:List dz)(d:List (Int×Int))(k:Nat)(l:List aY):Prop:=ae (qG,qL L d k l)
theorem M9(a n p q:Int)(s:List UInt8)(L:List dz)(k:Nat)(l:List aY)(d:List (Int×Int))(ae:P×List (Nat×En)->Prop):(bif ZV a then bif ZW a then bif ZX n then bif ZV q then bif ZY q then bif ZX p then bif Ze p q then bif ZZ s then Ee ae L d k l else∃(qM:Int) (qN:Int) (A2:Int) (A3:Int) (A4:List UInt8) (kV:List dz) (jW:List (Int×Int)) (jQ:Nat) (wE:List aY),Ec a n p q s=Ec qM qN A2 A3 A4/\qL L d k l=qL kV jW jQ wE/\zt kV jW/\ ∀(b:Bool),b=fU jW qM qN->bif b then ae (D7,qL kV jW jQ wE) else∃(Ke:Int) (Kf:Int) (M6:Int) (M7:Int) (M8:List UInt8) (L:List dz) (d:List (Int×Int)) (k:Nat) (l:List aY),Ec a n p q s=Ec Ke Kf M6 M7 M8/\qL kV jW jQ wE=qL L d k l/\zt L d/\ ∀(i:Int),i=fa L Ke Kf->bif ZX i then ob (wT i L) (ob (wS i L) (ob (wR L i) (bif D.cF (D.gm (D.nth (List.map cT L) (Zf i)) 2) !=q then Ee ae L d k l else∃(yp:Int) (yq:Int) (wV:Int) (yr:Int) (yu:List UInt8) (Bp:List dz) (IV:Nat) (Bq:List aY) (DG:List (Int×Int)) (c:Int),S.mk 200 [fJ,mV,qZ i,(8,Zy)] (rN L d k l a n p q s)=S.mk 200 [fJ,mV,qZ c,(8,Zy)] (rN Bp DG IV Bq yp yq wV yr yu)/\((IV<List.length Bp/\c=(↑IV:Int))/\List.length Bp<=1000000/\ZM Bq)/\(uA Bq wV=true->ae (D7,qL Bp DG IV Bq))/\(uA Bq wV=false->ob (wT c Bp) (ob (wS c Bp) (ob (wR Bp c) (ob (Ft IV c) (ob (Z3 Bq&&bw (Z2 Bq+List.length (Eb yp yq wV yr yu)) 48) (ob (decide (Zi<=(↑(Z2 Bq+List.length (Eb yp yq wV yr yu)):Int)-(1:Int)/\(↑(Z2 Bq+List.length (Eb yp yq wV yr yu)):Int)-(1:Int)<=Zj)) (∃(a:Int) (n:Int) (p:Int) (q:Int) (s:List UInt8) (N:Nat) (es:List D) (k:Nat) (d:List (Int×Int)) (oa:Int) (on:Int) (oq:Int) (l:List aY) (f:aY) (gZ:Int) (i:Int),S.mk 200 [fJ,qX,qZ c,Fu,(10,P.d (D.int .i64 ((↑(Z2 Bq+List.length (Eb yp yq wV yr yu)):Int)-(1:Int))))] [Dr Bp DG,(1,En.mk 0 (some 1) (Obj.bA (67:TypeId) (List.map cT Bp) (some (IV,3,P.bad)))),(2,pe DG),(3,j7 yp yq wV yr yu),(4,En.mk 0 none (Obj.box (67:TypeId) [P.d (D.int .i64 (D.cF (D.gm (D.nth (List.map cT Bp) (Zf c)) 0))),P.d (D.int .i64 (D.cF (D.gm (D.nth (List.map cT Bp) (Zf c)) 1))),P.d (D.int .i64 (D.cF (D.gm (D.nth (List.map cT Bp) (Zf c)) 2))),P.sl 5 0 (Z2 Bq+List.length (Eb yp yq wV yr yu))])),(5,En.mk 0 none (Obj.arr (37:TypeId) false (Za Bq++Eb yp yq wV yr yu)))]=S.mk 200 (Lo gZ i) (A6 N d::IE es k::(2,pe d)::Ln a n p q s oa on oq l f)/\(i=(↑(Z2 l):Int)/\ZM l)/\ ∀(m:List aY),m=bZ ja l f->ob (decide ((0:Int)<=gZ/\gZ<(↑N:Int))) (ob (decide (Zf gZ<List.length es)) (ob (Ft k gZ) (bif decide ((↑(Z2 m):Int)<oq) then ae (Gl,[A6 N d,(1,En.mk 0 (some 1) (Lm es gZ oa on oq k m)),(2,pe d),(3,Zc m)]) else∃(Lq:Int) (Lr:Int) (PU:Int) (PV:Int) (PW:List UInt8) (lv:Nat) (dj:List D) (FB:Nat) (Kg:List (Int×Int)) (o:cO) (c:Int),S.mk 200 (IQ gZ) (zB N d::(1,En.mk 0 (some 1) (Ll es gZ oa on oq k m))::(2,Zc m)::(3,pe d)::Lk a n p q s oa on oq m)=S.mk 200 (IQ c) (zB lv Kg::(1,En.mk 0 (some 1) (Bo dj FB o))::(2,uQ o)::(3,pe Kg)::Ea Lq Lr PU PV PW o)/\Lj o/\ ∀(r:List UInt8),r=Kc o->ob (decide ((0:Int)<=c/\c<=(↑(List.length (List.take lv (DF dj FB o))):Int))) (ob (Nat.ble 0 0&&bw (Fz c lv dj FB o) 48) (ob (Zk c) (ob (Li c lv dj FB o) (ob (Lh c lv dj FB o) (ob (Lg Kg Lq Lr) (ae (Lf r,[(0,En.mk 0 (some 0) (Obj.box (35:TypeId) [P.sl 2 0 (Fz c lv dj FB o+List.length (IP c lv dj FB o)),P.sl 3 0 (Kb Kg Lq Lr)])),(1,En.mk 0 (some 1) (Obj.arr (67:TypeId) true (DF dj FB o))),(2,Le c lv dj FB o),(3,Ld Kg Lq Lr)])))))))))))))))))))) else ob (decide ((↑(List.length L):Int)>=(50:Int))) (ae (Iw,qL L d k l)) else Ee ae L d k l else Ee ae L d k l else Ee ae L d k l else Ee ae L d k l else Ee ae L d k l else Ee ae L d k l else Ee ae L d k l)=(l5 [(19,DB),(20,DC)] [] [(10,aF (gY 14 10) Ka),(21,aF (gY 14 21) Gp),(29,aF (gY 14 29) Gq)] 14 [.ref 0 0 0,xa a n p q s] (u1 L k l d)) ae:=by kernel_rfl
theorem Gu(x:Int×Int):ra PR 57 (jF x)=true:=by kernel_rfl
theorem uB(x:dz):ra PR 67 (cT x)=true:=by kernel_rfl
theorem l8{α:Type}(f:α->D){l:List α}{i:Nat}(h:i<l.length):D.nth (l.map f) i=f l[i]:=by unfold D.nth;simp[h]
section
variable{X:XF}
theorem FE:LD X 19 2 (aF (gY 19 2) J2):=LD.find (by kernel_rfl) (by kernel_rfl) .nil .nil
 (A:=Int×Int×Int×Int×List UInt8×List dz×List (Int×Int)) (λz c=>M0 0 z.1 z.2.1 z.2.2.1 z.2.2.2.1 z.2.2.2.2.1 z.2.2.2.2.2.1 z.2.2.2.2.2.2 c) (λz=>z.2.2.2.2.2.2) (λz _ x=>x.1==z.1&&x.2==z.2.1) (λz=>z.2.2.2.2.2.1.length<=1000000/\z.2.2.2.2.2.2.length<=1000000)
 (λz _=>(.ret,⟨28,[(0,.ref 0 0 0),(4,.d (.bool true))],u0 some z.2.2.2.2.2.1 z.2.2.2.2.2.2⟩)) (λz=>(.exit 0,⟨28,[(0,.ref 0 0 0)],u0 some z.2.2.2.2.2.1 z.2.2.2.2.2.2⟩)) (λ_ _ h=>by cases h) (λ_ h=>by cases h)
 (by
  rintro⟨a,n,p,q,s,L,d⟩ i ae hi hC h0 ik ht hn;dsimp only at*
  (rw[<-Ds];delta mU fJ Bn Z4 j7 xb yo Fs A0 Dr A1 Zl ZI qX Zj Zi Zk qY ZN Iz Zf IA)
  rw[l8 jF hi];refine ov ik (aD ⟨h0,ik⟩ (aD (by simpa using hi) (bY (Gu _) ?_)));rw[show(D.cF (D.gm (jF d[i.toNat]) 0)==a&&(D.cF (D.gm (jF d[i.toNat]) 1)==n&&true))=(d[i.toNat].1==a&&d[i.toNat].2==n) by rw[Bool.and_true];rfl];exact ez (λh=>ht h) λh=>aD (by omega) (hn h))
 (by
  rintro⟨a,n,p,q,s,L,d⟩ i ae hC hi hp;dsimp only at*
  (rw[<-Ds];delta mU fJ Bn Z4 j7 xb yo Fs A0 Dr A1 Zl ZI qX Zj Zi Zk qY ZN Iz Zf IA)
  exact aQ (λh=>by omega) λh=>hp)
 (by
  rintro st ae ⟨a,n,p,q,s,L,d,rfl,hl,h1,h2⟩;refine⟨⟨a,n,p,q,s,L,d⟩,rfl,hl,λi hi h0 ht hb=>h1 ?_,λh=>h2 ?_⟩
  ·exact zbe.2 ⟨_,za6 hi,ht⟩
  refine zbZ.2 λx hx=> ?_;obtain⟨j,hj,rfl⟩:=zaM hx;have:=h j hj;simpa using this)
theorem FF:FD X 19 Dz:=FD.mk (by kernel_rfl) .nil (.cons FE .nil) (by
 intro ps R ae hh;obtain⟨a,n,p,q,s,L,d,ep,er,hm,hp⟩:=hh
 (rw[ep,er,<-J3];delta ZG xb yo Fs A0 Dr qY ZN zt Z4 j7 A1 Zy ZK qX mU fJ)
 exact⟨a,n,p,q,s,L,d,rfl,hm,λh=>hp _ h.symm,λh=>hp _ h.symm⟩)
theorem FG:LD X 20 2 (aF (gY 20 2) J4):=LD.find (by kernel_rfl) (by kernel_rfl) .nil .nil
 (A:=Int×Int×Int×Int×List UInt8×List dz×List (Int×Int)) (λz c=>M3 z.1 z.2.1 z.2.2.1 z.2.2.2.1 z.2.2.2.2.1 z.2.2.2.2.2.1 z.2.2.2.2.2.2 c) (λz=>z.2.2.2.2.2.1) (λz _ x=>x.1.a==z.1&&x.1.n==z.2.1) (λz=>z.2.2.2.2.2.1.length<=1000000/\z.2.2.2.2.2.2.length<=1000000)
 (λz i=>(.ret,⟨40,[(0,.ref 0 0 0),(4,iD i)],u0 some z.2.2.2.2.2.1 z.2.2.2.2.2.2⟩)) (λz=>(.exit 0,⟨40,[(0,.ref 0 0 0)],u0 some z.2.2.2.2.2.1 z.2.2.2.2.2.2⟩)) (λ_ _ h=>by cases h) (λ_ h=>by cases h)
 (by
  rintro⟨a,n,p,q,s,L,d⟩ i ae hi hC h0 ik ht hn;dsimp only at*
  (rw[<-Dx];delta mU fJ Bn Z4 j7 xb yo Fs A0 Dr A1 Zl ZI qX Zj Zi Zk qY Zf wR wS wT)
  rw[l8 cT hi];have hN:i+1<=1000000:=by omega
  refine ov ik (aD ⟨h0,ik⟩ (aD (by simpa using hi) (bY (uB _) (ez (λh=> ?_) λh=>aD (by omega) (hn ?_)))))
  ·have h:(L[i.toNat].1.a==a)=true:=h;refine aD ⟨h0,ik⟩ (aD (by simpa using hi) (bY (uB _) (ez (λh3=> ?_) λh3=>aD (by omega) (hn ?_))))
   ·have h3:(L[i.toNat].1.n==n)=true:=h3;exact ht (by rw[h,h3];rfl)
   have h3:(L[i.toNat].1.n==n)=false:=h3;rw[h,h3];rfl
  have h:(L[i.toNat].1.a==a)=false:=h;rw[h];rfl)
 (by
  rintro⟨a,n,p,q,s,L,d⟩ i ae hC hi hp;dsimp only at*
  (rw[<-Dx];delta mU fJ Bn Z4 j7 xb yo Fs A0 Dr A1 Zl ZI qX Zj Zi Zk qY Zf wR wS wT)
  exact aQ (λh=>by omega) λh=>hp)
 (by
  rintro st ae ⟨a,n,p,q,s,L,d,rfl,hl,h1,h2⟩;refine⟨⟨a,n,p,q,s,L,d⟩,rfl,hl,λi hi h0 ht hb=>h1 i ?_ h0,λh=>h2 ?_⟩
  ·rw[fa,wG hi ht hb];omega
  exact zo h)
theorem FH:FD X 20 DA:=FD.mk (by kernel_rfl) .nil (.cons FG .nil) (by
 intro ps R ae hh;obtain⟨a,n,p,q,s,L,d,ep,er,hm,hp⟩:=hh
 (rw[ep,er,<-J5];delta xb yo Fs A0 Dr qY Z4 zt j7 A1 Zy ZK qX mU fJ)
 exact⟨a,n,p,q,s,L,d,rfl,hm,λi hi _=>hp i hi,λh=>hp _ h.symm⟩)
theorem FI:LD X 19 2 (aF (gY 19 2) J6):=LD.find (by kernel_rfl) (by kernel_rfl) .nil .nil
 (A:=Int×Int×Int×Int×List UInt8×List dz×List (Int×Int)×Nat×List aY) (λz c=>M1 z.1 z.2.1 z.2.2.1 z.2.2.2.1 z.2.2.2.2.1 z.2.2.2.2.2.1 z.2.2.2.2.2.2.2.1 z.2.2.2.2.2.2.2.2 z.2.2.2.2.2.2.1 c) (λz=>z.2.2.2.2.2.2.1) (λz _ x=>x.1==z.1&&x.2==z.2.1) (λz=>z.2.2.2.2.2.1.length<=1000000/\z.2.2.2.2.2.2.1.length<=1000000)
 (λz _=>(.ret,⟨28,[(0,.ref 0 0 0),(4,.d (.bool true))],u1 z.2.2.2.2.2.1 z.2.2.2.2.2.2.2.1 z.2.2.2.2.2.2.2.2 z.2.2.2.2.2.2.1⟩)) (λz=>(.exit 0,⟨28,[(0,.ref 0 0 0)],u1 z.2.2.2.2.2.1 z.2.2.2.2.2.2.2.1 z.2.2.2.2.2.2.2.2 z.2.2.2.2.2.2.1⟩)) (λ_ _ h=>by cases h) (λ_ h=>by cases h)
 (by
  rintro⟨a,n,p,q,s,L,d,k,l⟩ i ae hi hC h0 ik ht hn;dsimp only at*
  (rw[<-Dw];delta mU fJ Bn Z4 j7 pe Dt Z2 Du Dv rN Zl ZI mV Zj Zi Zk qL ZN Iz Zf IA)
  rw[l8 jF hi];refine ov ik (aD ⟨h0,ik⟩ (aD (by simpa using hi) (bY (Gu _) ?_)));rw[show(D.cF (D.gm (jF d[i.toNat]) 0)==a&&(D.cF (D.gm (jF d[i.toNat]) 1)==n&&true))=(d[i.toNat].1==a&&d[i.toNat].2==n) by rw[Bool.and_true];rfl];exact ez (λh=>ht h) λh=>aD (by omega) (hn h))
 (by
  rintro⟨a,n,p,q,s,L,d,k,l⟩ i ae hC hi hp;dsimp only at*
  (rw[<-Dw];delta mU fJ Bn Z4 j7 pe Dt Z2 Du Dv rN Zl ZI mV Zj Zi Zk qL ZN Iz Zf IA)
  exact aQ (λh=>by omega) λh=>hp)
 (by
  rintro st ae ⟨a,n,p,q,s,L,d,k,l,rfl,hl,h1,h2⟩;refine⟨⟨a,n,p,q,s,L,d,k,l⟩,rfl,hl,λi hi h0 ht hb=>h1 ?_,λh=>h2 ?_⟩
  ·exact zbe.2 ⟨_,za6 hi,ht⟩
  refine zbZ.2 λx hx=> ?_;obtain⟨j,hj,rfl⟩:=zaM hx;have:=h j hj;simpa using this)
theorem FJ:FD X 19 DB:=FD.mk (by kernel_rfl) .nil (.cons FI .nil) (by
 intro ps R ae hh;obtain⟨a,n,p,q,s,L,d,k,l,ep,er,hm,hp⟩:=hh
 (rw[ep,er,<-J7];delta ZG pe Dt Z2 Du Dv qL ZN zt Z4 j7 rN Zy ZK mV mU fJ)
 exact⟨a,n,p,q,s,L,d,k,l,rfl,hm,λh=>hp _ h.symm,λh=>hp _ h.symm⟩)
theorem FK:LD X 20 2 (aF (gY 20 2) J8):=LD.find (by kernel_rfl) (by kernel_rfl) .nil .nil
 (A:=Int×Int×Int×Int×List UInt8×List dz×List (Int×Int)×Nat×List aY) (λz c=>M4 z.1 z.2.1 z.2.2.1 z.2.2.2.1 z.2.2.2.2.1 z.2.2.2.2.2.1 z.2.2.2.2.2.2.2.1 z.2.2.2.2.2.2.2.2 z.2.2.2.2.2.2.1 c) (λz=>z.2.2.2.2.2.1) (λz _ x=>x.1.a==z.1&&x.1.n==z.2.1) (λz=>z.2.2.2.2.2.1.length<=1000000/\z.2.2.2.2.2.2.1.length<=1000000)
 (λz i=>(.ret,⟨40,[(0,.ref 0 0 0),(4,iD i)],u1 z.2.2.2.2.2.1 z.2.2.2.2.2.2.2.1 z.2.2.2.2.2.2.2.2 z.2.2.2.2.2.2.1⟩)) (λz=>(.exit 0,⟨40,[(0,.ref 0 0 0)],u1 z.2.2.2.2.2.1 z.2.2.2.2.2.2.2.1 z.2.2.2.2.2.2.2.2 z.2.2.2.2.2.2.1⟩)) (λ_ _ h=>by cases h) (λ_ h=>by cases h)
 (by
  rintro⟨a,n,p,q,s,L,d,k,l⟩ i ae hi hC h0 ik ht hn;dsimp only at*
  (rw[<-Dy];delta mU fJ Bn Z4 j7 pe Dt Z2 Du Dv rN Zl ZI mV Zj Zi Zk qL Zf wR wS wT)
  rw[l8 cT hi];have hN:i+1<=1000000:=by omega
  refine ov ik (aD ⟨h0,ik⟩ (aD (by simpa using hi) (bY (uB _) (ez (λh=> ?_) λh=>aD (by omega) (hn ?_)))))
  ·have h:(L[i.toNat].1.a==a)=true:=h;refine aD ⟨h0,ik⟩ (aD (by simpa using hi) (bY (uB _) (ez (λh3=> ?_) λh3=>aD (by omega) (hn ?_))))
   ·have h3:(L[i.toNat].1.n==n)=true:=h3;exact ht (by rw[h,h3];rfl)
   have h3:(L[i.toNat].1.n==n)=false:=h3;rw[h,h3];rfl
  have h:(L[i.toNat].1.a==a)=false:=h;rw[h];rfl)
 (by
  rintro⟨a,n,p,q,s,L,d,k,l⟩ i ae hC hi hp;dsimp only at*
  (rw[<-Dy];delta mU fJ Bn Z4 j7 pe Dt Z2 Du Dv rN Zl ZI mV Zj Zi Zk qL Zf wR wS wT)
  exact aQ (λh=>by omega) λh=>hp)
 (by
  rintro st ae ⟨a,n,p,q,s,L,d,k,l,rfl,hl,h1,h2⟩;refine⟨⟨a,n,p,q,s,L,d,k,l⟩,rfl,hl,λi hi h0 ht hb=>h1 i ?_ h0,λh=>h2 ?_⟩
  ·rw[fa,wG hi ht hb];omega
  exact zo h)
theorem FL:FD X 20 DC:=FD.mk (by kernel_rfl) .nil (.cons FK .nil) (by
 intro ps R ae hh;obtain⟨a,n,p,q,s,L,d,k,l,ep,er,hm,hp⟩:=hh
 (rw[ep,er,<-J9];delta pe Dt Z2 Du Dv qL Z4 zt j7 rN Zy ZK mV mU fJ)
 exact⟨a,n,p,q,s,L,d,k,l,rfl,hm,λi hi _=>hp i hi,λh=>hp _ h.symm⟩)
end
section
variable{X:XF}
theorem FM:LD X 14 10 (aF (gY 14 10) Ka):=LD.find (by kernel_rfl) (by kernel_rfl) .nil .nil
 (A:=(Int×Int×Int×Int×List UInt8)×List dz×Nat×List aY×List (Int×Int)×Int) (λz i=>HL z.1.1 z.1.2.1 z.1.2.2.1 z.1.2.2.2.1 z.1.2.2.2.2 z.2.1 z.2.2.1 z.2.2.2.1 z.2.2.2.2.1 z.2.2.2.2.2 i) (λz=>z.2.2.2.1) (λz _ x=>x.2.2.1==z.1.2.2.1) (λz=>(z.2.2.1<z.2.1.length/\z.2.2.2.2.2=(z.2.2.1:Int))/\z.2.1.length<=1000000/\z.2.2.2.1.length<=1000000)
 (λz _=>(.ret,⟨200,[(0,.ref 0 0 0),(3,.ref 4 0 0),(4,.d (.str [])),(5,.d (.bool false)),(6,iD 210),(7,iD z.2.2.2.2.2)],u1 z.2.1 z.2.2.1 z.2.2.2.1 z.2.2.2.2.1++[(4,⟨0,none,Dq z.1.1 z.1.2.1 z.1.2.2.1 z.1.2.2.2.1 z.1.2.2.2.2⟩)]⟩)) (λz=>(.exit 0,⟨200,[(0,.ref 0 0 0),(3,.ref 4 0 0),(7,iD z.2.2.2.2.2)],u1 z.2.1 z.2.2.1 z.2.2.2.1 z.2.2.2.2.1++[(4,⟨0,none,Dq z.1.1 z.1.2.1 z.1.2.2.1 z.1.2.2.2.1 z.1.2.2.2.2⟩)]⟩)) (λ_ _ h=>by cases h) (λ_ h=>by cases h)
 (by
  rintro⟨⟨a,n,p,q,s⟩,L,k,l,d,c⟩ i ae hi ⟨⟨hk,hc⟩,hL,hl⟩ h0 ik ht hn;dsimp only at*
  (rw[<-DE];delta Zl Zj Zi Zk Z4 j7 pe Dt Z2 Du Dv rN qZ ZG zl mV mU fJ Zf Zg Zh Ft wR wS wT)
  have e1:c.toNat=k:=by omega
  rw[e1,l8 cT hk,l8 eT hi];refine aD (by omega) (aD (by simpa using hk) (bY (uB _) (aD rfl (ov ik ?_))));refine aD (by omega) (aD (by simpa using hk) (bY (uB _) (aD rfl (aD ⟨h0,ik⟩ (aD (by simpa using hi) (bY (iI _) ?_))))));exact ez (λh=>ht h) λh=>aD (by omega) (hn h))
 (by
  rintro⟨⟨a,n,p,q,s⟩,L,k,l,d,c⟩ i ae ⟨⟨hk,hc⟩,hL,hl⟩ hi hp;dsimp only at*
  (rw[<-DE];delta Zl Zj Zi Zk Z4 j7 pe Dt Z2 Du Dv rN qZ ZG zl mV mU fJ Zf Zg Zh Ft wR wS wT)
  have e1:c.toNat=k:=by omega
  rw[e1,l8 cT hk];refine aD (by omega) (aD (by simpa using hk) (bY (uB _) (aD rfl ?_)));exact aQ (λh=>by omega) λh=>hp)
 (by
  rintro st ae ⟨a,n,p,q,s,L,k,l,d,c,rfl,hl,h1,h2⟩;refine⟨((a,n,p,q,s),L,k,l,d,c),rfl,hl,λi hi h0 ht hb=>h1 ?_,λh=>h2 ?_⟩
  ·exact zbe.2 ⟨_,za6 hi,ht⟩
  refine zbZ.2 λx hx=> ?_;obtain⟨j,hj,rfl⟩:=zaM hx;have:=h j hj;simpa using this)
theorem DH:LD X 14 21 (aF (gY 14 21) Gp):=LD.ins (by kernel_rfl) (by kernel_rfl) .nil .nil
 (A:=(Int×Int×Int×Int×List UInt8)×Nat×List D×Nat×List (Int×Int)×(Int×Int×Int)×Int×Nat) (α:=aY) (λz o i=>wU (some 1) (some 3) .bad z.1.1 z.1.2.1 z.1.2.2.1 z.1.2.2.2.1 z.1.2.2.2.2 z.2.1 z.2.2.1 z.2.2.2.1 z.2.2.2.2.1 ⟨z.2.2.2.2.2.1.1,z.2.2.2.2.2.1.2.1,z.2.2.2.2.2.1.2.2,o⟩ z.2.2.2.2.2.2.1 i) ja (λz=>z.2.2.2.2.2.2.2) (λ_=>True)
 (λz o=>(.exit 2,zu (some 1) (some 3) .bad z.1.1 z.1.2.1 z.1.2.2.1 z.1.2.2.2.1 z.1.2.2.2.2 z.2.1 z.2.2.1 z.2.2.2.1 z.2.2.2.2.1 ⟨z.2.2.2.2.2.1.1,z.2.2.2.2.2.1.2.1,z.2.2.2.2.2.1.2.2,o⟩ z.2.2.2.2.2.2.1)) (λ_ _ h=>by cases h)
 (by
  rintro⟨⟨a,n,p,q,s⟩,N,es,kk,d,⟨oa,on,oq⟩,c,M⟩ o k ae _ h0 Na PY hk hz bg uC;dsimp only at*
  subst Na
  (rw[<-Fx];delta oA uQ HM Z4 j7 Fu qZ qX mU fJ IB Zf Fv K9 zx IC Fw La pe IE A0 A6 Lb Lc IF IG D8 Gr Zj Zi D9 zy zz zA)
  dsimp only;refine aQ (λhp=> ?_) λhp=>hz (by omega);have qS:k.toNat-1<o.length:=by omega
  have ek:(k-1).toNat=k.toNat-1:=by omega
  have e1:D.nth (o.map eT) k.toNat=eT o[k.toNat]:=l8 _ hk;have e2:D.nth (o.map eT) (k.toNat-1)=eT o[k.toNat-1]:=l8 _ qS;have bg:=bg hp;have uC:=uC hp;have HO:=sS eT o k.toNat o[k.toNat] o[k.toNat-1];have e3: ∀z,D.nth ((o.map eT).set k.toNat z) (k.toNat-1)=eT o[k.toNat-1]:=λz=>by grind [D.nth]
  rw[ek,e1,e2];simp only[e3];generalize o[k.toNat]=x at*
  generalize o[k.toNat-1]=y at*
  simp only[zai,zas] at uC⊢;have HP:0<=k/\k<(o.length:Int):=⟨h0,by omega⟩
  have HQ:0<=k-1/\k-1<(o.length:Int):=⟨by omega,by omega⟩
  have hf:(-9223372036854775808:Int)<=k-1/\k-1<=9223372036854775807:=by omega
  refine aD HP (aD hk (bY (iI _) (aD hf (aD HQ (aD qS (bY (iI _) (ez (λh=> ?_) λh=>bg h)))))));have hy:=uC h;simp only[wU,uT,rK,sR] at hy;rw[<-HO] at hy;refine aD hf (aD hf (aD HQ (aD qS (bY (iI _) (aD HP (aD hk (bY (iI _) (aD HP (aD hk (bY (iI _) (aD HQ (aD qS (bY (iI _) (aD hf ?_))))))))))))));exact hy)
 (by rintro st ae ⟨a,n,p,q,s,N,es,kk,d,oa,on,oq,l,f,c,i,rfl,⟨hi,hl⟩,hp⟩;exact⟨((a,n,p,q,s),N,es,kk,d,(oa,on,oq),c,l.length+1),l,f,i,rfl,hi,trivial,⟨rfl,hl⟩,hp _ rfl⟩)
theorem DI:LD X 14 29 (aF (gY 14 29) Gq):=LD.idx (by kernel_rfl) (by kernel_rfl) .nil .nil
 (A:=(Int×Int×Int×Int×List UInt8)×Nat×List D×Nat×List (Int×Int)×cO×Int) (B:=List UInt8) (λz r i=>A5 (some 1) (some 3) z.1.1 z.1.2.1 z.1.2.2.1 z.1.2.2.2.1 z.1.2.2.2.2 z.2.1 z.2.2.1 z.2.2.2.1 z.2.2.2.2.1 z.2.2.2.2.2.1 z.2.2.2.2.2.2 r i) (λz=>z.2.2.2.2.2.1.l.length)
 (λz i r=>(z.2.2.2.2.2.1.l.length<=1000000/\(z.2.2.2.2.2.1.l.flatMap (·.2.2.2.2)).length<=1000000)/\r=(z.2.2.2.2.2.1.l.take i).flatMap (·.2.2.2.2))
 (λz x=>x=(.exit 4,zw (some 1) (some 3) z.1.1 z.1.2.1 z.1.2.2.1 z.1.2.2.2.1 z.1.2.2.2.2 z.2.1 z.2.2.1 z.2.2.2.1 z.2.2.2.2.1 z.2.2.2.2.2.1 z.2.2.2.2.2.2 (z.2.2.2.2.2.1.l.flatMap (·.2.2.2.2))))
 (by
  rintro⟨⟨a,n,p,q,s⟩,N,es,kk,d,o,c⟩ r i ae h0 ik hi ⟨⟨h1,h2⟩,hr⟩ hn ho;dsimp only at*
  (rw[<-zC];delta Z4 j7 qZ mV mU fJ II Ea pe oA uQ Bo zB Zl Zf Fv IJ Zj Zi Zk IK zy zz D8 zA)
  rw[l8 eT hi];have e1:(o.l.take (i.toNat+1)).flatMap (·.2.2.2.2)=r++o.l[i.toNat].2.2.2.2:=by rw[hr,List.take_add_one,zac hi,zbA];simp
  have e2:((o.l.take (i.toNat+1)).flatMap (·.2.2.2.2)).length<=(o.l.flatMap (·.2.2.2.2)).length:=by
   conv=>rhs;rw[<-zbH (i.toNat+1) o.l,zbA,zaw]
   omega
  rw[e1,zaw] at e2;refine ov ik (aD ⟨h0,ik⟩ (aD (by simpa using hi) (bY (iI _) (aD (by show r.length+o.l[i.toNat].2.2.2.2.length<=_;omega) (aD (by omega) ?_)))));exact hn (r++o.l[i.toNat].2.2.2.2) ⟨⟨h1,h2⟩,e1.symm⟩)
 (by
  rintro⟨⟨a,n,p,q,s⟩,N,es,kk,d,o,c⟩ r i ae hi ⟨⟨h1,h2⟩,hr⟩ ho;dsimp only at*
  (rw[<-zC];delta Z4 j7 qZ mV mU fJ II Ea pe oA uQ Bo zB Zl Zf Fv IJ Zj Zi Zk IK zy zz D8 zA)
  rw[zb6] at hr;subst hr;exact aQ (λh=>by omega) λh=>ho _ (by simp) rfl)
 (by rintro st ae ⟨a,n,p,q,s,N,es,kk,d,o,c,rfl,hl,hp⟩;refine⟨((a,n,p,q,s),N,es,kk,d,o,c),[],rfl,⟨hl,by simp⟩,?_⟩;rintro x rfl;exact hp _ rfl)
theorem DJ:LD X 14 21 (aF (gY 14 21) Gs):=LD.ins (by kernel_rfl) (by kernel_rfl) .nil .nil
 (A:=(Int×Int×Int×Int×List UInt8)×Nat×List D×Nat×List (Int×Int)×(Int×Int×Int)×Int×Nat) (α:=aY) (λz o i=>wU none (some 2) (.d .bt) z.1.1 z.1.2.1 z.1.2.2.1 z.1.2.2.2.1 z.1.2.2.2.2 z.2.1 z.2.2.1 z.2.2.2.1 z.2.2.2.2.1 ⟨z.2.2.2.2.2.1.1,z.2.2.2.2.2.1.2.1,z.2.2.2.2.2.1.2.2,o⟩ z.2.2.2.2.2.2.1 i) ja (λz=>z.2.2.2.2.2.2.2) (λ_=>True)
 (λz o=>(.exit 2,zu none (some 2) (.d .bt) z.1.1 z.1.2.1 z.1.2.2.1 z.1.2.2.2.1 z.1.2.2.2.2 z.2.1 z.2.2.1 z.2.2.2.1 z.2.2.2.2.1 ⟨z.2.2.2.2.2.1.1,z.2.2.2.2.2.1.2.1,z.2.2.2.2.2.1.2.2,o⟩ z.2.2.2.2.2.2.1)) (λ_ _ h=>by cases h)
 (by
  rintro⟨⟨a,n,p,q,s⟩,N,es,kk,d,⟨oa,on,oq⟩,c,M⟩ o k ae _ h0 Na PY hk hz bg uC;dsimp only at*
  subst Na
  (rw[<-Fy];delta oA uQ HM Z4 j7 Fu qZ qX mU fJ IB Zf Fv K9 zx IC Fw La xb yo IL A0 A6 Lb Lc IF IG D8 Gr Zj Zi D9 zy zz zA)
  dsimp only;refine aQ (λhp=> ?_) λhp=>hz (by omega);have qS:k.toNat-1<o.length:=by omega
  have ek:(k-1).toNat=k.toNat-1:=by omega
  have e1:D.nth (o.map eT) k.toNat=eT o[k.toNat]:=l8 _ hk;have e2:D.nth (o.map eT) (k.toNat-1)=eT o[k.toNat-1]:=l8 _ qS;have bg:=bg hp;have uC:=uC hp;have HO:=sS eT o k.toNat o[k.toNat] o[k.toNat-1];have e3: ∀z,D.nth ((o.map eT).set k.toNat z) (k.toNat-1)=eT o[k.toNat-1]:=λz=>by grind [D.nth]
  rw[ek,e1,e2];simp only[e3];generalize o[k.toNat]=x at*
  generalize o[k.toNat-1]=y at*
  simp only[zai,zas] at uC⊢;have HP:0<=k/\k<(o.length:Int):=⟨h0,by omega⟩
  have HQ:0<=k-1/\k-1<(o.length:Int):=⟨by omega,by omega⟩
  have hf:(-9223372036854775808:Int)<=k-1/\k-1<=9223372036854775807:=by omega
  refine aD HP (aD hk (bY (iI _) (aD hf (aD HQ (aD qS (bY (iI _) (ez (λh=> ?_) λh=>bg h)))))));have hy:=uC h;simp only[wU,uT,rK,sR] at hy;rw[<-HO] at hy;refine aD hf (aD hf (aD HQ (aD qS (bY (iI _) (aD HP (aD hk (bY (iI _) (aD HP (aD hk (bY (iI _) (aD HQ (aD qS (bY (iI _) (aD hf ?_))))))))))))));exact hy)
 (by rintro st ae ⟨a,n,p,q,s,N,es,kk,d,oa,on,oq,l,f,c,i,rfl,⟨hi,hl⟩,hp⟩;exact⟨((a,n,p,q,s),N,es,kk,d,(oa,on,oq),c,l.length+1),l,f,i,rfl,hi,trivial,⟨rfl,hl⟩,hp _ rfl⟩)
theorem DK:LD X 14 29 (aF (gY 14 29) Gt):=LD.idx (by kernel_rfl) (by kernel_rfl) .nil .nil
 (A:=(Int×Int×Int×Int×List UInt8)×Nat×List D×Nat×List (Int×Int)×cO×Int) (B:=List UInt8) (λz r i=>A5 none (some 2) z.1.1 z.1.2.1 z.1.2.2.1 z.1.2.2.2.1 z.1.2.2.2.2 z.2.1 z.2.2.1 z.2.2.2.1 z.2.2.2.2.1 z.2.2.2.2.2.1 z.2.2.2.2.2.2 r i) (λz=>z.2.2.2.2.2.1.l.length)
 (λz i r=>(z.2.2.2.2.2.1.l.length<=1000000/\(z.2.2.2.2.2.1.l.flatMap (·.2.2.2.2)).length<=1000000)/\r=(z.2.2.2.2.2.1.l.take i).flatMap (·.2.2.2.2))
 (λz x=>x=(.exit 4,zw none (some 2) z.1.1 z.1.2.1 z.1.2.2.1 z.1.2.2.2.1 z.1.2.2.2.2 z.2.1 z.2.2.1 z.2.2.2.1 z.2.2.2.2.1 z.2.2.2.2.2.1 z.2.2.2.2.2.2 (z.2.2.2.2.2.1.l.flatMap (·.2.2.2.2))))
 (by
  rintro⟨⟨a,n,p,q,s⟩,N,es,kk,d,o,c⟩ r i ae h0 ik hi ⟨⟨h1,h2⟩,hr⟩ hn ho;dsimp only at*
  (rw[<-zD];delta Z4 j7 qZ mV mU fJ II Ea xb oA uQ Bo zB Zl Zf Fv IJ Zj Zi Zk IK zy zz D8 zA)
  rw[l8 eT hi];have e1:(o.l.take (i.toNat+1)).flatMap (·.2.2.2.2)=r++o.l[i.toNat].2.2.2.2:=by rw[hr,List.take_add_one,zac hi,zbA];simp
  have e2:((o.l.take (i.toNat+1)).flatMap (·.2.2.2.2)).length<=(o.l.flatMap (·.2.2.2.2)).length:=by
   conv=>rhs;rw[<-zbH (i.toNat+1) o.l,zbA,zaw]
   omega
  rw[e1,zaw] at e2;refine ov ik (aD ⟨h0,ik⟩ (aD (by simpa using hi) (bY (iI _) (aD (by show r.length+o.l[i.toNat].2.2.2.2.length<=_;omega) (aD (by omega) ?_)))));exact hn (r++o.l[i.toNat].2.2.2.2) ⟨⟨h1,h2⟩,e1.symm⟩)
 (by
  rintro⟨⟨a,n,p,q,s⟩,N,es,kk,d,o,c⟩ r i ae hi ⟨⟨h1,h2⟩,hr⟩ ho;dsimp only at*
  (rw[<-zD];delta Z4 j7 qZ mV mU fJ II Ea xb oA uQ Bo zB Zl Zf Fv IJ Zj Zi Zk IK zy zz D8 zA)
  rw[zb6] at hr;subst hr;exact aQ (λh=>by omega) λh=>ho _ (by simp) rfl)
 (by rintro st ae ⟨a,n,p,q,s,N,es,kk,d,o,c,rfl,hl,hp⟩;refine⟨((a,n,p,q,s),N,es,kk,d,o,c),[],rfl,⟨hl,by simp⟩,?_⟩;rintro x rfl;exact hp _ rfl)
end
theorem LD.ln{X:XF}{w0:World}(hX:cL PR w0 X.cf)(hdr:PR.follows .mixedOrders=true){f id:Nat}(nW:Code.lz (bz PR f id)=id){g:S->K (PX×S)}(h:LD X f id g):LN w0 f id g:=λval lo mk s ae hp=>by obtain⟨x,h2,h1⟩:=h s ae hp;refine TW.C3 (kp:=D1 X) (kp1:=gY f) (T:=⟨val,w0,lo,mk⟩) hX hdr ?_ h1;rw[nW];exact h2
def oB(o:cO):D:= .agg [.int .i64 o.a,.int .i64 o.n,.int .i64 o.q,.bt]
abbrev u2(t1 t2:Option Nat)(N:Nat)(es:List D)(k:Nat)(m:List aY)(d:List (Int×Int)):List (Nat×En):=[(0,⟨0,some 0,.box 35 [.sl 1 0 N,.sl 2 0 d.length]⟩),(1,⟨0,t1,.bA 67 es (some (k,3,.sl 3 0 m.length))⟩),(2,⟨0,t2,.arr 57 false (d.map jF)⟩),(3,⟨0,none,rK false m⟩)]
abbrev u3(old:List D)(es:List D)(d:List (Int×Int)):List (Nat×En):=[(0,⟨0,some 0,.box 35 [.sl 2 0 es.length,.sl 3 0 d.length]⟩),(1,⟨0,some 1,.arr 67 true old⟩),(2,⟨0,none,.arr 67 false es⟩),(3,⟨0,none,.arr 57 false (d.map jF)⟩)]
def PZ:cR:=λps R ae=> ∃a n p q s L k l d x,ps=[.ref 0 0 0,xa a n p q s]/\R=u1 L k l d/\((fa L a n=(k:Int)/\L[k]?=some x)/\(L.length<=1000000/\d.length<=900000)/\l.length<=900000/\((bZ ja l (a,n,p,q,s)).flatMap (·.2.2.2.2)).length<=1000000)/\
 (aN (a,n,p,q,s)=false->ae (oO [] false 11,u1 L k l d))/\
 (aN (a,n,p,q,s)=true->fU d a n=true->ae (oO [] false 210,u1 L k l d))/\
 (aN (a,n,p,q,s)=true->fU d a n=false->x.1.q≠q->ae (oO [] false 11,u1 L k l d))/\
 (aN (a,n,p,q,s)=true->fU d a n=false->x.1.q=q->uA l p=true->ae (oO [] false 210,u1 L k l d))/\
 (aN (a,n,p,q,s)=true->fU d a n=false->x.1.q=q->uA l p=false-> ∀m,m=bZ ja l (a,n,p,q,s)->(m.length:Int)<q->ae (oO [] false 0,u2 (some 1) (some 3) L.length ((L.map cT).set k (oB x.1)) k m d))/\
 (aN (a,n,p,q,s)=true->fU d a n=false->x.1.q=q->uA l p=false-> ∀m,m=bZ ja l (a,n,p,q,s)-> ¬(m.length:Int)<q-> ∀old,ae (oO (m.flatMap (·.2.2.2.2)) true 0,u3 old ((L.eraseIdx k).map cT) (d++[(a,n)])))
theorem sX(es:List D)(k:Nat)(z:D)(p:P)(hk:k<es.length):([]++List.drop 0 (List.take k (List.take es.length (bH (es.set k z) (some (k,3,p))))))++List.drop (k+1) (List.take (bH (es.set k z) (some (k,3,p))).length (List.take es.length (bH (es.set k z) (some (k,3,p)))))=es.eraseIdx k:=by
 have h1:(bH (es.set k z) (some (k,3,p))).length=es.length:=by simp[bH]
 have h2: ∀i,i≠k->(bH (es.set k z) (some (k,3,p)))[i]?=es[i]?:=λi hi=>by simp only[bH,List.getElem?_modify];rw[zau (za4 hi)];simp[za4 hi]
 generalize bH (es.set k z) (some (k,3,p))=U at*
 have h3:List.take es.length U=U:=zay (by omega);rw[h1,h3,h3,zbv,zcg,zbG];congr 1
 ·refine za7 λi=> ?_;rw[zaS,zaS];split
  ·exact h2 i (by omega)
  rfl
 refine za7 λi=> ?_;rw[za3,za3];exact h2 _ (by omega)
section
variable{X:XF}{w0:World}(hX:cL PR w0 X.cf)
include hX
theorem Nb:ND w0 14 PZ:=ND.mk hX (by kernel_rfl) (by kernel_rfl) (by kernel_rfl) (.cons FJ (.cons FL .nil)) .nil (.loop (by decide) (LD.ln hX (by kernel_rfl) (by kernel_rfl) FM).T (.loop (by decide) (LD.ln hX (by kernel_rfl) (by kernel_rfl) DH).T (.loop (by decide) (LD.ln hX (by kernel_rfl) (by kernel_rfl) DI).T .nil))) (by
 intro ps R ae hh;obtain⟨a,n,p,q,s,L,k,l,d,x,ep,er,⟨⟨hf,hx⟩,⟨hL,hd⟩,hl,hj⟩,h1,h2,h3,h4,h5,h6⟩:=hh
 (rw[ep,er,<-M9];delta ZG zl Iw Z4 pb Ld DF IP Zf Fz Le Kb Zy ZN Lf Lg Lh Li Zj Zi Zk Kc Lj j7 Ea oA uQ Bo Z2 Lk Ll zB qZ mV mU fJ IQ Zc Lm Gl Ln IE A0 A6 Fu qX Lo Za pe Dr Eb Z3 Ft ZM Dt Du Dv rN wR wS wT D7 zt qL Ec qG Ee ZZ Ze ZY ZX ZW ZV)
 have bg: ¬((1<=a/\a<=16/\0<=n)/\(1<=q/\q<=1000/\0<=p/\p<q)/\s≠[])->aN (a,n,p,q,s)=false:=λh=>zbS h;refine aQ (λg1=> ?_) λg=>h1 (bg λh=>g h.1.1);refine aQ (λg2=> ?_) λg=>h1 (bg λh=>g h.1.2.1);refine aQ (λg3=> ?_) λg=>h1 (bg λh=>g h.1.2.2);refine aQ (λg4=> ?_) λg=>h1 (bg λh=>g h.2.1.1);refine aQ (λg5=> ?_) λg=>h1 (bg λh=>g h.2.1.2.1);refine aQ (λg6=> ?_) λg=>h1 (bg λh=>g h.2.1.2.2.1);refine aQ (λg7=> ?_) λg=>h1 (bg λh=>g h.2.1.2.2.2);refine ez (λg=>h1 (bg λh=>h.2.2 (by simpa using g))) λg8=> ?_;have hr:aN (a,n,p,q,s)=true:=zbj ⟨⟨g1,g2,g3⟩,⟨g4,g5,g6,g7⟩,by simpa using g8⟩;refine⟨a,n,p,q,s,L,d,k,l,rfl,rfl,⟨hL,by omega⟩,λb hb=> ?_⟩;refine ez (λg=>h2 hr (by rw[<-hb];exact g)) λg=> ?_;have g9:fU d a n=false:=by rw[<-hb];exact g
 refine⟨a,n,p,q,s,L,d,k,l,rfl,rfl,⟨hL,by omega⟩,λi hi=> ?_⟩;rw[hf] at hi;have hk:k<L.length:=(zaa.1 hx).1;have P0:L[k]=x:=(zaa.1 hx).2;have e1:i.toNat=k:=by omega
 have e2:D.nth (L.map cT) i.toNat=cT x:=by rw[e1,l8 cT hk,P0]
 rw[e2,show D.cF (D.gm (cT x) 2)=x.1.q from rfl];refine ov (by omega) (aD (by omega) (aD (by rw[zai];omega) (bY (uB _) (ez (λg=>h3 hr g9 (by simpa using g)) λg=> ?_))));have hq:x.1.q=q:=by simpa using g
 refine⟨a,n,p,q,s,L,k,l,d,i,rfl,⟨⟨hk,hi⟩,hL,by omega⟩,λg=>h4 hr g9 hq g,λg10=> ?_⟩;rw[e2];have e5:List.take l.length (l.map eT)++[D.agg [.int .i64 a,.int .i64 n,.int .i64 p,.int .i64 q,.str s]]=(l++[(a,n,p,q,s)]).map eT:=by rw[zay (by simp),zaZ];rfl
 rw[e5];have e6:l.length+[D.agg [.int .i64 a,.int .i64 n,.int .i64 p,.int .i64 q,.str s]].length=(l++[(a,n,p,q,s)]).length:=by simp
 rw[e6];refine aD (by omega) (aD (by rw[zai];omega) (bY (uB _) (aD (by omega) (bY ?_ (aD ?_ ?_)))))
 ·rw[zaw,zai];simp only[bw,zad,zbd,zaI,zbu];omega
 ·rw[zaw];simp only[zaI,zbu];omega
 refine⟨a,n,p,q,s,L.length,L.map cT,k,d,x.1.a,x.1.n,x.1.q,l,(a,n,p,q,s),i,l.length,?_,⟨rfl,by omega⟩,λm hm=> ?_⟩
 ·have e7:((l++[(a,n,p,q,s)]).length:Int)-1=(l.length:Int):=by rw[zaw];simp only[zaI,zbu];omega
  rw[e7];rfl
 have Ib:m.length=l.length+1:=by rw[hm,wH]
 rw[e1];refine aD (by omega) (aD (by rw[zai];exact hk) (aD rfl (aQ (λg=>h5 hr g9 hq g10 m hm (by omega)) λg=> ?_)));refine⟨a,n,p,q,s,L.length,(L.map cT).set k (oB x.1),k,d,⟨x.1.a,x.1.n,x.1.q,m⟩,i,rfl,⟨by show m.length<=1000000;omega,by rw[<-hm] at hj;exact hj⟩,λr Kh=> ?_⟩;have hN:L.length=(L.map cT).length:=by rw[zai]
 have hU:(bH ((L.map cT).set k (oB x.1)) (some (k,3,.sl 2 0 m.length))).length=L.length:=by simp[bH]
 have hT:List.take L.length (bH ((L.map cT).set k (oB x.1)) (some (k,3,.sl 2 0 m.length)))=bH ((L.map cT).set k (oB x.1)) (some (k,3,.sl 2 0 m.length)):=zay (by omega);have hE:=sX (L.map cT) k (oB x.1) (.sl 2 0 m.length) (by rw[zai];exact hk);dsimp only;rw[<-hN,hT,hU,hT] at hE;simp only[hT,hU];have ei:(i+1).toNat=k+1:=by omega
 rw[e1,ei];generalize bH ((L.map cT).set k (oB x.1)) (some (k,3,.sl 2 0 m.length))=U at*
 have hA:(List.drop 0 (List.take k U)).length=k:=by simp;omega
 have hB:(List.drop (k+1) U).length=L.length-(k+1):=by simp;omega
 generalize List.drop 0 (List.take k U)=A at*
 generalize List.drop (k+1) U=B at*
 rw[hA,hB];have e8:List.take (0+k) ([]++A)++B=(L.eraseIdx k).map cT:=by rw[zbv,zay (by omega)];rw[zbv] at hE;rw[hE];simp[zbG,List.map_take,List.map_drop]
 have P1:0+k+(L.length-(k+1))=((L.eraseIdx k).map cT).length:=by rw[zai,zct hk];omega
 have Nc:List.take d.length (d.map jF)++[D.agg [.int .i64 a,.int .i64 n]]=(d++[(a,n)]).map jF:=by rw[zay (by simp),zaZ];rfl
 have JK:d.length+[D.agg [.int .i64 a,.int .i64 n]].length=(d++[(a,n)]).length:=by simp
 have Nd:([]++A).length=k:=hA;refine aD (by omega) (bY (by simp[bw];omega) (aD (by omega) (aD (by omega) (bY (by rw[Nd];simp[bw];omega) (bY (by simp[bw];omega) ?_)))));rw[e8,P1,Nc,JK,Kh];exact h6 hr g9 hq g10 m hm (by omega) U)
end
abbrev u4(N:Nat)(es:List D)(k:Nat)(m:List aY)(d:List (Int×Int)):List (Nat×En):=[(0,⟨0,some 0,.box 35 [.sl 2 0 N,.sl 1 0 d.length]⟩),(1,⟨0,some 2,.arr 57 false (d.map jF)⟩),(2,⟨0,none,.bA 67 es (some (k,3,.sl 3 0 m.length))⟩),(3,⟨0,none,rK false m⟩)]
abbrev u5(es:List D)(d:List (Int×Int)):List (Nat×En):=[(0,⟨0,some 0,.box 35 [.sl 1 0 es.length,.sl 2 0 d.length]⟩),(1,⟨0,none,.arr 67 false es⟩),(2,⟨0,none,.arr 57 false (d.map jF)⟩)]
def P2:cR:=λps R ae=> ∃a n p q s L d,ps=[.ref 0 0 0,xa a n p q s]/\R=u0 some L d/\(fa L a n= -1/\L.length<=900000/\d.length<=900000/\s.length<=1000000)/\
 (aN (a,n,p,q,s)=false->ae (oO [] false 11,u0 some L d))/\
 (aN (a,n,p,q,s)=true->fU d a n=true->ae (oO [] false 210,u0 some L d))/\
 (aN (a,n,p,q,s)=true->fU d a n=false->50<=L.length->ae (oO [] false 211,u0 some L d))/\
 (aN (a,n,p,q,s)=true->fU d a n=false-> ¬50<=L.length->1<q->ae (oO [] false 0,u4 (L.length+1) (L.map cT++[oB ⟨a,n,q,[]⟩]) L.length [(a,n,p,q,s)] d))/\
 (aN (a,n,p,q,s)=true->fU d a n=false-> ¬50<=L.length-> ¬1<q->ae (oO s true 0,u5 (L.map cT) (d++[(a,n)])))
theorem HR{w0:World}:LN w0 14 10 (aF (gY 14 10) Oe):=λ_ _ _ _ _ h=>by
 unfold aF at h;split at h
 ·exact h.elim
 exact h.elim
section
variable{X:XF}{w0:World}(hX:cL PR w0 X.cf)
include hX
theorem Nf:ND w0 14 P2:=ND.mk hX (by kernel_rfl) (by kernel_rfl) (by kernel_rfl) (.cons FF (.cons FH .nil)) .nil (.loop (by decide) (HR (w0:=w0)).T (.loop (by decide) (LD.ln hX (by kernel_rfl) (by kernel_rfl) DJ).T (.loop (by decide) (LD.ln hX (by kernel_rfl) (by kernel_rfl) DK).T .nil))) (by
 intro ps R ae hh;obtain⟨a,n,p,q,s,L,d,ep,er,⟨hf,hL,hd,hs⟩,h1,h2,h3,h4,h5⟩:=hh
 (rw[ep,er,<-M5];delta Z4 pb Ld DF IP Zf Fz Le Kb Zy ZN Lf Lg Lh Li Zj Zi Zk Kc Lj j7 Ea oA uQ Bo Z2 Lk Ll zB zl qZ mV mU fJ IQ Zc Lm xb ZG Gl Ft ZM Ln IL A0 A6 Fu qX Lo yo Eb IU FA Lp Kd Iw wR wS wT D7 zt Fs Dr qY Ec qG Ed ZZ Ze ZY ZX ZW ZV)
 have bg: ¬((1<=a/\a<=16/\0<=n)/\(1<=q/\q<=1000/\0<=p/\p<q)/\s≠[])->aN (a,n,p,q,s)=false:=λh=>zbS h;refine aQ (λg1=> ?_) λg=>h1 (bg λh=>g h.1.1);refine aQ (λg2=> ?_) λg=>h1 (bg λh=>g h.1.2.1);refine aQ (λg3=> ?_) λg=>h1 (bg λh=>g h.1.2.2);refine aQ (λg4=> ?_) λg=>h1 (bg λh=>g h.2.1.1);refine aQ (λg5=> ?_) λg=>h1 (bg λh=>g h.2.1.2.1);refine aQ (λg6=> ?_) λg=>h1 (bg λh=>g h.2.1.2.2.1);refine aQ (λg7=> ?_) λg=>h1 (bg λh=>g h.2.1.2.2.2);refine ez (λg=>h1 (bg λh=>h.2.2 (by simpa using g))) λg8=> ?_;have hr:aN (a,n,p,q,s)=true:=zbj ⟨⟨g1,g2,g3⟩,⟨g4,g5,g6,g7⟩,by simpa using g8⟩;refine⟨a,n,p,q,s,L,d,rfl,rfl,⟨by omega,by omega⟩,λb hb=> ?_⟩;refine ez (λg=>h2 hr (by rw[<-hb];exact g)) λg=> ?_;have g9:fU d a n=false:=by rw[<-hb];exact g
 refine⟨a,n,p,q,s,L,d,rfl,rfl,⟨by omega,by omega⟩,λi hi=> ?_⟩;rw[hf] at hi;refine aQ (λg=>absurd g (by omega)) λg=> ?_;refine aQ (λg=>h3 hr g9 (by omega)) λg10=> ?_;have g10: ¬50<=L.length:=by omega
 have h4:=h4 hr g9 g10;have h5:=h5 hr g9 g10;have eM:List.take L.length (L.map cT)=L.map cT:=zay (by simp);have e1:L.length+[D.agg [.int .i64 a,.int .i64 n,.int .i64 q,.bt]].length=L.length+1:=rfl;rw[eM,e1];have e2:(((L.length+1:Nat):Int)-1)=(L.length:Int):=by omega
 rw[e2];have e3:((L.length:Int)).toNat=L.length:=by omega
 rw[e3];have e4:D.nth (L.map cT++[D.agg [.int .i64 a,.int .i64 n,.int .i64 q,.bt]]) L.length= .agg [.int .i64 a,.int .i64 n,.int .i64 q,.bt]:=by unfold D.nth;rw[zaq,zaG (by simp)];simp
 rw[e4];have hlen:(L.map cT++[D.agg [.int .i64 a,.int .i64 n,.int .i64 q,.bt]]).length=L.length+1:=by simp
 refine bY ?_ (aD (by omega) (aD (by omega) (aD (by omega) (bY ?_ (aQ (λ_=> ?_) λg=>absurd rfl g)))))
 ·rw[zai];simp only[bw,zad,zbd];omega
 ·kernel_rfl
 refine⟨a,n,p,q,s,L.length+1,L.map cT++[D.agg [.int .i64 a,.int .i64 n,.int .i64 q,.bt]],L.length,d,a,n,q,[],(a,n,p,q,s),L.length,0,rfl,⟨rfl,by simp⟩,λm hm=> ?_⟩;have hm:m=[(a,n,p,q,s)]:=by rw[hm];rfl
 subst hm;rw[e3];have e6:List.set (L.map cT++[D.agg [.int .i64 a,.int .i64 n,.int .i64 q,.bt]]) L.length (D.agg [.int .i64 a,.int .i64 n,.int .i64 q,.bt])=L.map cT++[oB ⟨a,n,q,[]⟩]:=by rw[zby (h:=by simp)];simp[oB]
 rw[e6];refine aD (by omega) (aD (by omega) (aD rfl (aQ (λg=>h4 g) λg=> ?_)));have h5:=h5 g;refine⟨a,n,p,q,s,L.length+1,L.map cT++[oB ⟨a,n,q,[]⟩],L.length,d,⟨a,n,q,[(a,n,p,q,s)]⟩,L.length,rfl,⟨by simp,by simpa using hs⟩,λr Kh=> ?_⟩;have Kh:r=s:=by rw[Kh];simp
 subst Kh;have hU:(bH (L.map cT++[oB ⟨a,n,q,[]⟩]) (some (L.length,3,.sl 2 0 [(a,n,p,q,r)].length))).length=L.length+1:=by simp[bH]
 have hE:=sX (L.map cT++[oB ⟨a,n,q,[]⟩]) L.length (oB ⟨a,n,q,[]⟩) (.sl 2 0 [(a,n,p,q,r)].length) (by simp);have e7:(L.map cT++[oB ⟨a,n,q,[]⟩]).set L.length (oB ⟨a,n,q,[]⟩)=L.map cT++[oB ⟨a,n,q,[]⟩]:=by rw[zby (h:=by simp)];simp
 have e8:(L.map cT++[oB ⟨a,n,q,[]⟩]).eraseIdx L.length=L.map cT:=by rw[zbD (by simp)];simp
 have e9:(L.map cT++[oB ⟨a,n,q,[]⟩]).length=L.length+1:=by simp
 have hT:List.take (L.length+1) (bH (L.map cT++[oB ⟨a,n,q,[]⟩]) (some (L.length,3,.sl 2 0 [(a,n,p,q,r)].length)))=bH (L.map cT++[oB ⟨a,n,q,[]⟩]) (some (L.length,3,.sl 2 0 [(a,n,p,q,r)].length)):=zay (by omega);dsimp only;rw[e7,e8,e9,hT,hU,hT] at hE;simp only[hT,hU];have ei:((L.length:Int)+1).toNat=L.length+1:=by omega
 rw[e3,ei];generalize bH (L.map cT++[oB ⟨a,n,q,[]⟩]) (some (L.length,3,.sl 2 0 [(a,n,p,q,r)].length))=U at*
 have hA:(List.drop 0 (List.take L.length U)).length=L.length:=by simp;omega
 have hB:(List.drop (L.length+1) U).length=0:=by simp;omega
 generalize List.drop 0 (List.take L.length U)=A at*
 generalize List.drop (L.length+1) U=B at*
 rw[hA,hB];have P3:B=[]:=zcB.1 hB;subst P3;have e8:List.take (0+L.length) ([]++A)++[]=L.map cT:=by rw[zbv,zay (by omega),zcs];simpa using hE
 have Nc:List.take d.length (d.map jF)++[D.agg [.int .i64 a,.int .i64 n]]=(d++[(a,n)]).map jF:=by rw[zay (by simp),zaZ];rfl
 have JK:d.length+[D.agg [.int .i64 a,.int .i64 n]].length=(d++[(a,n)]).length:=by simp
 have Nd:([]++A).length=L.length:=hA;obtain⟨ci,P4⟩: ∃ci:Int,ci=(L.length:Int):=⟨_,rfl⟩
 rw[<-P4];refine aD (by omega) (bY (by simp only[bw,zad,zbd];omega) (aD (by omega) (aD (by omega) (bY (by rw[Nd];simp only[bw,zad,zbd];omega) (bY (by rw[zai];simp only[bw,zad,zbd,zaI,zbu];omega) ?_)))));rw[e8,Nc,JK];have P5:0+L.length+0=(L.map cT).length:=by simp
 rw[P5];exact h5)
end
def rO(w:World)(x:dz):Prop:=x.1.l≠[]/\x.2.2.1=x.1.l.length/\ ∃cs,w.heap[x.2.1]?=some (.cells cs 37 (0,0))/\x.1.l.length<=x.2.2.2/\x.2.2.2<=maxLen/\cs.size=x.2.2.2*5/\fC D5 w cs 5 (x.1.l.map eT)
structure RW(o:List cO)(w:World)(u:Value)(bs:List Nat)(al:List dz):Prop where
 a:al.map (·.1)=o
 nd:bs.Nodup
 f: ∀x∈al,rO w x
 e:(al=[]/\u= .slice none 0 0/\bs=[])\/ ∃b cap cs,u= .slice (some ⟨b,0,none⟩) al.length cap/\bs=b::al.map (·.2.1)/\w.heap[b]?=some (.cells cs 67 (0,0))/\al.length<=cap/\cap<=maxLen/\cs.size=cap*4/\oG D5 w (λ_=>undef) [] cs 4 (al.map cT) none
def RP(o:List cO)(w:World)(g:Value):Prop:= ∃u bs al,g= .tuple ⟨u::bs.map av⟩/\RW o w u bs al
structure RQ(o:List cO)(w:World)(g:Value):Prop where
 h:RP o w g
def Gv:D->Bool
 | .A7 .. | .bt=>true
 |x=>D.uV x
theorem sY{F F':Nat->Prop}{w w':World}{v:Value}{x:D}(h:az F w v x)(hx:Gv x=true):az F' w' v x:=by cases h<;>first | (cases hx;done)|constructor
theorem uD{F F':Nat->Prop}{w w':World}{cs:Array Value}{l:List aY}(h:fC F w cs 5 (l.map eT)):fC F' w' cs 5 (l.map eT):=λi x hx=>by
 obtain⟨h1,h2,h3⟩:=h i x hx;refine⟨h1,h2,λj c hc=> ?_⟩;have h4:=h3 j c hc;rw[zah] at hx;cases hl:l[i]? with
 |none=>rw[hl] at hx;cases hx
 |some s=>
  rw[hl] at hx;cases hx
  match j,hc with
  |0,hc=>cases hc;exact b7 h4 rfl
  |1,hc=>cases hc;exact b7 h4 rfl
  |2,hc=>cases hc;exact b7 h4 rfl
  |3,hc=>cases hc;exact b7 h4 rfl
  |4,hc=>cases hc;exact b7 h4 rfl
  |j+5,hc=>cases hc
theorem HS{F F':Nat->Prop}{w w':World}{cs:Array Value}{l:List (Int×Int)}(h:fC F w cs 2 (l.map jF)):fC F' w' cs 2 (l.map jF):=λi x hx=>by
 obtain⟨h1,h2,h3⟩:=h i x hx;refine⟨h1,h2,λj c hc=> ?_⟩;have h4:=h3 j c hc;rw[zah] at hx;cases hl:l[i]? with
 |none=>rw[hl] at hx;cases hx
 |some s=>
  rw[hl] at hx;cases hx
  match j,hc with
  |0,hc=>cases hc;exact b7 h4 rfl
  |1,hc=>cases hc;exact b7 h4 rfl
  |j+2,hc=>cases hc
theorem wW{x:dz}{j:Nat}{c:D}(h:(cT x).cells[j]?=some c):Gv c=true:=by
 match j,h with
 |0,h=>cases h;rfl
 |1,h=>cases h;rfl
 |2,h=>cases h;rfl
 |3,h=>cases h;rfl
 |j+4,h=>cases h
theorem pg{F F':Nat->Prop}{w w':World}{G G':Nat->Value}{R R':List (Nat×En)}{cs:Array Value}{al:List dz}(h:oG F w G R cs 4 (al.map cT) none):oG F' w' G' R' cs 4 (al.map cT) none:=by
 refine⟨λi x hx=> ?_,λi j p hp=>by cases hp⟩;obtain⟨h1,h2,h3⟩:=h.1 i x hx;refine⟨h1,h2,λj c hc b9=> ?_⟩;rw[zah] at hx;cases hl:al[i]? with
 |none=>rw[hl] at hx;cases hx
 |some y=>rw[hl] at hx;cases hx;exact sY (h3 j c hc b9) (wW hc)
theorem rO.keep{w w2:World}{x:dz}(h:rO w x)(h1:w2.heap[x.2.1]?=w.heap[x.2.1]?):rO w2 x:=by obtain⟨g0,g1,cs,g2,g3,g4,g5,g6⟩:=h;exact⟨g0,g1,cs,h1.trans g2,g3,g4,g5,uD g6⟩
theorem RW.keep{o:List cO}{w w2:World}{u:Value}{bs:List Nat}{al:List dz}(h:RW o w u bs al)(hw: ∀b∈bs,w2.heap[b]?=w.heap[b]?):RW o w2 u bs al:=by
 refine⟨h.a,h.nd,λx hx=> ?_,?_⟩
 ·rcases h.e with⟨h1,_⟩| ⟨b,cap,cs,_,h2,_⟩
  ·rw[h1] at hx;cases hx
  exact(h.f x hx).keep (hw _ (by rw[h2];exact zaB _ (zaQ.2 ⟨x,hx,rfl⟩)))
 rcases h.e with h1 | ⟨b,cap,cs,h1,h2,h3,h4,h5,h6,h7⟩
 ·exact .inl h1
 exact .inr ⟨b,cap,cs,h1,h2,(hw b (by rw[h2];simp)).trans h3,h4,h5,h6,pg h7⟩
abbrev rR(t0 t1 t2:Option Nat)(st:JL):List (Nat×En):=[(0,⟨0,t0,.box 35 [.rT 1 0 st.o.length,.sl 2 0 st.d.length]⟩),(1,⟨0,t1,.deep (.sl 1 (st.o.map qJ)) (RQ st.o)⟩),(2,⟨0,t2,.arr 57 false (st.d.map jF)⟩)]
def gR(g0 g1 g2 g3:Value):Nat->Value
 |0=>g0
 |1=>g1
 |2=>g2
 |_=>g3
theorem uE:sz PR 67=some 4:=by kernel_rfl
theorem DL:sz PR 37=some 5:=by kernel_rfl
theorem Gw:sz PR 57=some 2:=by kernel_rfl
theorem ph{cc:Array Value}(hs:cc.size=2){P:Value->Prop}(h: ∀v∈cc.toList,P v):P (cc.getD 0 undef)/\P (cc.getD 1 undef):=by
 have key: ∀i,i<2->P (cc.getD i undef):=λi hi=>by
  have hi:i<cc.size:=by omega
  refine h _ ?_;rw[zav,zba hi];simp
 exact⟨key 0 (by omega),key 1 (by omega)⟩
section
variable{F:Nat->Prop}{G V:Nat->Value}{w w0:World}{st:JL}{t0 t1 t2:Option Nat}{u:Value}{bs:List Nat}{al:List dz}
theorem DM(h:aL PR ⟨V,w0,0,false⟩ F G w (rR t0 t1 t2 st)): ∃b0 cc u bs al,G 0=av b0/\w.heap[b0]?=some (.cells cc 35 (0,0))/\cc.size=2/\G 1= .tuple ⟨u::bs.map av⟩/\RW st.o w u bs al/\(∃a cap,u= .slice a al.length cap/\cc.getD 0 undef=u)/\(∃a N cap,G 2= .slice a N cap/\cc.getD 1 undef= .slice a st.d.length cap/\st.d.length<=N):=by
 obtain⟨b0,cc,h1,h2,h3,h4,h5⟩:=h.rg 0 _ rfl;obtain⟨v,bs,e1,_,hp⟩:=h.rg 1 _ rfl;obtain⟨u,rP,al,e2,hw⟩:=(hp w λ_ _=>rfl).h;have e3:G 1= .tuple ⟨u::rP.map av⟩:=e1.trans e2;refine⟨b0,cc,u,rP,al,h1,h2,h3,e3,hw,?_,?_⟩
 ·have k:=h5 0 _ rfl;generalize cc.getD 0 undef=v at k⊢;cases k with
  |rT _ _ _ _ _ hr=>
   obtain⟨e,he,_,hc⟩:=hr;cases he;obtain⟨a,N,cap,l,c1,c2,c3⟩:=hc rfl rfl;rw[e3] at c1;have c1:u= .slice a N cap:=by
    injection c1 with c1
    injection c1 with c1
    injection c1
   have hlen:al.length=st.o.length:=by rw[<-hw.a,zai]
   rcases hw.e with⟨d1,d2,_⟩| ⟨b,dU,cs,d1,_⟩
   ·rw[d2] at c1;cases c1;refine⟨none,0,by rw[d2,d1];rfl,?_⟩;rw[c2,d2];have:st.o.length=0:=by rw[<-hlen,d1];rfl
    rw[this]
   rw[d1] at c1;cases c1;exact⟨_,_,d1,by rw[c2,d1,hlen]⟩
 have k:=h5 1 _ rfl;generalize cc.getD 1 undef=v at k⊢;cases k with
 |sl _ _ _ _ _ hr=>obtain⟨e,he,_,hc⟩:=hr;cases he;exact hc rfl rfl
theorem nE{L:List dz}{d:List (Int×Int)}{b0:Nat}{g3:Value}{n:Nat}{e:En}{b:Nat}(he:lk (u0 some L d) n=some e)(hb:ax (gR (av b0) u (G 2) g3 n) e.obj b):(n=0/\b=b0)\/(n=1/\aj u=some b)\/(n=2/\aj (G 2)=some b):=by
 rcases aC he with⟨rfl,rfl⟩|he
 ·exact .inl ⟨rfl,(zal hb).symm⟩
 rcases aC he with⟨rfl,rfl⟩|he
 ·exact .inr (.inl ⟨rfl,hb⟩)
 obtain⟨rfl,rfl⟩:=cd he;exact .inr (.inr ⟨rfl,hb.2⟩)
theorem qO{L:List dz}{k:Nat}{l:List aY}{d:List (Int×Int)}{b0 r N cap:Nat}{n:Nat}{e:En}{b:Nat}(he:lk (u1 L k l d) n=some e)(hb:ax (gR (av b0) u (.slice (some ⟨r,0,none⟩) N cap) (G 2) n) e.obj b):(n=0/\b=b0)\/(n=1/\aj u=some b)\/(n=2/\b=r)\/(n=3/\aj (G 2)=some b):=by
 rcases aC he with⟨rfl,rfl⟩|he
 ·exact .inl ⟨rfl,(zal hb).symm⟩
 rcases aC he with⟨rfl,rfl⟩|he
 ·exact .inr (.inl ⟨rfl,hb⟩)
 rcases aC he with⟨rfl,rfl⟩|he
 ·exact .inr (.inr (.inl ⟨rfl,(zal hb.2).symm⟩))
 obtain⟨rfl,rfl⟩:=cd he;exact .inr (.inr (.inr ⟨rfl,hb.2⟩))
theorem RW.Br(hW:RW st.o w u bs al){b:Nat}(hb:aj u=some b):b∈bs:=by
 rcases hW.e with⟨_,h,_⟩| ⟨b',cap,cs,h1,h2,_⟩
 ·rw[h] at hb;cases hb
 rw[h1] at hb;cases hb;rw[h2];simp
theorem jb(hg:G 1= .tuple ⟨u::bs.map av⟩){b:Nat}(hb:b∈bs):Own G (rR t0 t1 t2 st) b:=by refine⟨1,_,rfl,?_⟩;show b∈re (G 1);rw[hg,dL];exact hb
theorem qP(h:aL PR ⟨V,w0,0,false⟩ F G w (rR t0 t1 t2 st)){b0:Nat}(h0:G 0=av b0)(hg:G 1= .tuple ⟨u::bs.map av⟩):b0∉bs/\aj (G 2)≠some b0/\ ∀b,aj (G 2)=some b->b∉bs:=by
 have o0:ax (G 0) (.box 35 [.rT 1 0 st.o.length,.sl 2 0 st.d.length]) b0:=by rw[h0];rfl
 have o1: ∀b∈bs,ax (G 1) (.deep (.sl 1 (st.o.map qJ)) (RQ st.o)) b:=λb hb=>by show b∈re (G 1);rw[hg,dL];exact hb
 refine⟨λhb=> ?_,λhb=> ?_,λb hb jT=> ?_⟩
 ·have:=h.own 0 1 _ _ b0 rfl rfl o0 (o1 b0 hb);cases this
 ·have:=h.own 0 2 _ _ b0 rfl rfl o0 ⟨rfl,hb⟩;cases this
 have:=h.own 1 2 _ _ b rfl rfl (o1 b jT) ⟨rfl,hb⟩;cases this
theorem RW.Ng(hW:RW st.o w u bs al){G1:Nat->Value}{R:List (Nat×En)}(h1:G1 1=u):eN PR F w G1 R 1 (.bA 67 (al.map cT) none):=by
 rcases hW.e with⟨h2,h3,_⟩| ⟨b,cap,cs,h2,_,h3,h4,h5,h6,h7⟩
 ·exact .inl ⟨h1.trans h3,by rw[h2];rfl,rfl⟩
 exact .inr ⟨b,cap,cs,4,by rw[zai];exact h1.trans h2,h3,uE,by decide,by rw[zai];exact h4,h5,h6,pg h7⟩
theorem RW.zr(hW:RW st.o w u bs al)(h:aL PR ⟨V,w0,0,false⟩ F G w (rR t0 t1 t2 st)){b0:Nat}{cc:Array Value}(h0:G 0=av b0)(h1:w.heap[b0]?=some (.cells cc 35 (0,0)))(h2:cc.size=2)(hg:G 1= .tuple ⟨u::bs.map av⟩)(h3: ∃a cap,u= .slice a al.length cap/\cc.getD 0 undef=u)(h4: ∃a N cap,G 2= .slice a N cap/\cc.getD 1 undef= .slice a st.d.length cap/\st.d.length<=N):
  aL PR ⟨gR (av b0) u (G 2) undef,w0,0,false⟩ F (gR (av b0) u (G 2) undef) w (u0 some al st.d):=by
 obtain⟨n1,n2,n3⟩:=qP h h0 hg;obtain⟨a,cap,h5,h6⟩:=h3;obtain⟨a2,N2,xK,h7,h8,h9⟩:=h4;refine h.C5 ?_ ?_ ?_ λn e i he hi _=> ?_
 ·intro n e he;rcases aC he with⟨rfl,rfl⟩|he
  ·refine⟨b0,cc,rfl,h1,h2,hQ h2 (by rw[h6,h5];rfl) (by rw[h8];rfl),λi p hp=> ?_⟩
   match i,hp with
   |0,hp=>cases hp;rw[h6];exact .sl 1 0 _ _ (by rw[h5];rfl) ⟨_,rfl,zae _,λ_ _=>⟨_,_,_,h5,h5,zae _⟩⟩
   |1,hp=>cases hp;rw[h8];exact .sl 2 0 _ _ rfl ⟨_,rfl,zae _,λ_ _=>⟨_,_,_,h7,rfl,h9⟩⟩
  rcases aC he with⟨rfl,rfl⟩|he
  ·exact hW.Ng rfl
  obtain⟨rfl,rfl⟩:=cd he;exact h.rg 2 _ rfl
 ·intro n m e e' b he bc hb ca;rcases nE he hb with⟨rfl,rfl⟩| ⟨rfl,p1⟩| ⟨rfl,p1⟩<;>rcases nE bc ca with⟨rfl,p2⟩| ⟨rfl,p2⟩| ⟨rfl,p2⟩
  ·rfl
  ·exact absurd (hW.Br p2) n1
  ·exact absurd p2 n2
  ·subst p2;exact absurd (hW.Br p1) n1
  ·rfl
  ·exact absurd (hW.Br p1) (n3 _ p2)
  ·subst p2;exact absurd p1 n2
  ·exact absurd (hW.Br p2) (n3 _ p1)
  rfl
 ·intro b ⟨n,e,he,hb⟩;rcases nE he hb with⟨rfl,rfl⟩| ⟨rfl,p1⟩| ⟨rfl,p1⟩
  ·exact⟨0,_,rfl,by rw[h0];rfl⟩
  ·exact jb hg (hW.Br p1)
  exact⟨2,_,rfl,rfl,p1⟩
 have e:n=i:=by
  rcases aC he with⟨rfl,rfl⟩|he
  ·exact zal hi
  rcases aC he with⟨rfl,rfl⟩|he
  ·exact zal hi
  obtain⟨rfl,rfl⟩:=cd he;exact zal hi
 rw[e];exact .inl rfl
end
theorem DN{F:Nat->Prop}{w:World}{G:Nat->Value}{R:List (Nat×En)}{cs:Array Value}{al:List dz}(h:oG D5 w (λ_=>undef) [] cs 4 (al.map cT) none){k:Nat}{x:dz}(hk:al[k]?=some x){p:P}(hp:ao F w G R (.slice (some ⟨x.2.1,0,none⟩) x.2.2.1 x.2.2.2) p):oG F w G R cs 4 (al.map cT) (some (k,3,p)):=by
 have hr:=pg (F':=F) (w':=w) (G':=G) (R':=R) h;refine⟨λi y hy=> ?_,λi j q hq=> ?_⟩
 ·obtain⟨h1,h2,h3⟩:=hr.1 i y hy;exact⟨h1,h2,λj c hc _=>h3 j c hc (λ_ h=>by cases h)⟩
 cases hq;obtain⟨_,_,h3⟩:=hr.1 k (cT x) (by rw[zah,hk];rfl);have h4:=h3 3 _ rfl (λ_ h=>by cases h);have e:cs.getD (k*4+3) undef= .slice (some ⟨x.2.1,0,none⟩) x.2.2.1 x.2.2.2:=by generalize cs.getD (k*4+3) undef=v at h4⊢;cases h4;rfl
 refine⟨by rw[zai];exact(zaa.1 hk).1,by decide,?_,?_⟩
 ·rw[e];rfl
 rw[e];exact hp
section
variable{F F2:Nat->Prop}{G V V1 G1 G2:Nat->Value}{w w2 w0:World}{st st':JL}{t0 t1 t2:Option Nat}{u:Value}{bs rP:List Nat}{al al':List dz}{R R1 R2:List (Nat×En)}{b0:Nat}
theorem RW.Dk(hW:RW st.o w u bs al)(h:aL PR ⟨V,w0,0,false⟩ F G w (rR t0 t1 t2 st)){cc:Array Value}(h0:G 0=av b0)(h1:w.heap[b0]?=some (.cells cc 35 (0,0)))(h2:cc.size=2)(hg:G 1= .tuple ⟨u::bs.map av⟩)(h3: ∃a cap,u= .slice a al.length cap/\cc.getD 0 undef=u)(h4: ∃a N cap,G 2= .slice a N cap/\cc.getD 1 undef= .slice a st.d.length cap/\st.d.length<=N){k:Nat}{x:dz}(hk:al[k]?=some x):
  aL PR ⟨gR (av b0) u (.slice (some ⟨x.2.1,0,none⟩) x.1.l.length x.2.2.2) (G 2),w0,0,false⟩ F (gR (av b0) u (.slice (some ⟨x.2.1,0,none⟩) x.1.l.length x.2.2.2) (G 2)) w (u1 al k x.1.l st.d):=by
 obtain⟨n1,n2,n3⟩:=qP h h0 hg;obtain⟨a,cap,h5,h6⟩:=h3;obtain⟨a2,N2,xK,h7,h8,h9⟩:=h4;have rH:=(zaa.1 hk).1;obtain⟨z0,z1,P6,z2,z3,z4,z5,z6⟩:=hW.f x (zak hk);obtain⟨b,Nh,P7,y1,y2,y3,y4,y5,y6,y7⟩: ∃b cap cs,u= .slice (some ⟨b,0,none⟩) al.length cap/\bs=b::al.map (·.2.1)/\w.heap[b]?=some (.cells cs 67 (0,0))/\al.length<=cap/\cap<=maxLen/\cs.size=cap*4/\oG D5 w (λ_=>undef) [] cs 4 (al.map cT) none:=by
  rcases hW.e with⟨e,_⟩|e
  ·rw[e] at rH;simp at rH
  exact e
 have Ki:x.2.1∈bs:=by rw[y2];exact zaB _ (zaQ.2 ⟨x,zak hk,rfl⟩)
 have Io:b≠x.2.1:=λe=>by have:=hW.nd;rw[y2,zax] at this;exact this.1 (zaQ.2 ⟨x,zak hk,e.symm⟩)
 have Kj: ∀c,aj u=some c->c=b:=λc hc=>by rw[y1] at hc;exact(zal hc).symm
 refine h.C5 ?_ ?_ ?_ λn e i he hi _=> ?_
 ·intro n e he;rcases aC he with⟨rfl,rfl⟩|he
  ·refine⟨b0,cc,rfl,h1,h2,hQ h2 (by rw[h6,h5];rfl) (by rw[h8];rfl),λi p hp=> ?_⟩
   match i,hp with
   |0,hp=>cases hp;rw[h6];exact .sl 1 0 _ _ (by rw[h5];rfl) ⟨_,rfl,zae _,λ_ _=>⟨_,_,_,h5,h5,zae _⟩⟩
   |1,hp=>cases hp;rw[h8];exact .sl 3 0 _ _ rfl ⟨_,rfl,zae _,λ_ _=>⟨_,_,_,h7,rfl,h9⟩⟩
  rcases aC he with⟨rfl,rfl⟩|he
  ·exact .inr ⟨b,Nh,P7,4,by rw[zai];exact y1,y3,uE,by decide,by rw[zai];exact y4,y5,y6,DN y7 hk (.sl 2 0 _ _ rfl ⟨_,rfl,zae _,λ_ _=>⟨_,_,_,rfl,by rw[z1],zae _⟩⟩)⟩
  rcases aC he with⟨rfl,rfl⟩|he
  ·exact .inr ⟨x.2.1,x.2.2.2,P6,5,by rw[zai];rfl,z2,DL,by decide,by rw[zai];exact z3,z4,z5,(λh=>by cases h),uD z6⟩
  obtain⟨rfl,rfl⟩:=cd he;exact h.rg 2 _ rfl
 ·intro n m e e' c he bc hb ca;rcases qO he hb with⟨rfl,p1⟩| ⟨rfl,p1⟩| ⟨rfl,p1⟩| ⟨rfl,p1⟩<;>rcases qO bc ca with⟨rfl,p2⟩| ⟨rfl,p2⟩| ⟨rfl,p2⟩| ⟨rfl,p2⟩
  ·rfl
  ·subst p1;exact absurd (hW.Br p2) n1
  ·subst p1;subst p2;exact absurd Ki n1
  ·subst p1;exact absurd p2 n2
  ·subst p2;exact absurd (hW.Br p1) n1
  ·rfl
  ·subst p2;exact absurd (Kj _ p1).symm Io
  ·exact absurd (hW.Br p1) (n3 _ p2)
  ·subst p2;subst p1;exact absurd Ki n1
  ·subst p1;exact absurd (Kj _ p2).symm Io
  ·rfl
  ·subst p1;exact absurd Ki (n3 _ p2)
  ·subst p2;exact absurd p1 n2
  ·exact absurd (hW.Br p2) (n3 _ p1)
  ·subst p2;exact absurd Ki (n3 _ p1)
  rfl
 ·intro c ⟨n,e,he,hb⟩;rcases qO he hb with⟨rfl,p1⟩| ⟨rfl,p1⟩| ⟨rfl,p1⟩| ⟨rfl,p1⟩
  ·subst p1;exact⟨0,_,rfl,by rw[h0];rfl⟩
  ·exact jb hg (hW.Br p1)
  ·subst p1;exact jb hg Ki
  exact⟨2,_,rfl,rfl,p1⟩
 have e:n=i:=by
  rcases aC he with⟨rfl,rfl⟩|he
  ·exact zal hi
  rcases aC he with⟨rfl,rfl⟩|he
  ·exact zal hi
  rcases aC he with⟨rfl,rfl⟩|he
  ·exact zal hi
  obtain⟨rfl,rfl⟩:=cd he;exact zal hi
 rw[e];exact .inl rfl
theorem mW(h:aL PR ⟨V,w0,0,false⟩ F G w R)(hV:eo (av b0) (V 0))(h2:aL PR ⟨V1,w0,0,false⟩ F2 G2 w2 R2)(hx:Ext (Own G1 R1) (Own G2 R2) F F2 w w2)(hs: ∀b,Own G1 R1 b->Own G R b){i i2:Nat}{ti tj:Option Nat}{oi:Obj}
  (e0:lk R2 0=some ⟨0,some 0,.box 35 [.sl i 0 st'.o.length,.sl i2 0 st'.d.length]⟩) (Jh:V1 0=av b0) (ei:lk R2 i=some ⟨0,ti,oi⟩) (li:oi.live=true) (e2:lk R2 i2=some ⟨0,tj,.arr 57 false (st'.d.map jF)⟩) (b9:i2≠0)
  (hW:RW st'.o w2 (G2 i) rP al') (hb: ∀b∈rP,(∃n e,n≠0/\n≠i2/\lk R2 n=some e/\ax (G2 n) e.obj b)\/(¬Own G1 R1 b/\Own G R b)):
  ∃G3,aL PR ⟨V,w0,0,false⟩ F G3 w2 (rR (some 0) none none st')/\Ext (Own G R) (Own G3 (rR (some 0) none none st')) F F w w2:=by
 have Jf:G2 0=av b0:=by have:=h2.tag 0 _ 0 e0 rfl rfl;rw[show(⟨V1,w0,0,false⟩:Tg).val 0=av b0 from Jh] at this;exact this.eq λl h=>by cases h
 have hold: ∀b,¬Own G1 R1 b->Own G R b-> ¬Own G2 R2 b:=λb h3 h4 h5=>by
  rcases hx.fe b h5 with h6 |h6
  ·exact h3 h6
  have:=h.cy h4;omega
 have o0:ax (G2 0) (.box 35 [.sl i 0 st'.o.length,.sl i2 0 st'.d.length]) b0:=by rw[Jf];rfl
 have bj: ∀b∈rP,b<w2.heap.size:=λb oM=>by
  rcases hb b oM with⟨n,e,_,_,h3,h4⟩| ⟨_,h3⟩
  ·exact h2.cy ⟨n,e,h3,h4⟩
  exact zaK (h.cy h3) hx.size
 have HT: ∀n e b,lk (rR (some 0) none none st') n=some e->ax (gR (av b0) (.tuple ⟨G2 i::rP.map av⟩) (G2 i2) undef n) e.obj b->(n=0/\b=b0)\/(n=1/\b∈rP)\/(n=2/\aj (G2 i2)=some b):=λn e b he oM=>by
  rcases aC he with⟨rfl,rfl⟩|he
  ·exact .inl ⟨rfl,(zal oM).symm⟩
  rcases aC he with⟨rfl,rfl⟩|he
  ·refine .inr (.inl ⟨rfl,?_⟩);have oM:b∈re (.tuple ⟨G2 i::rP.map av⟩):=oM;rwa [dL] at oM
  obtain⟨rfl,rfl⟩:=cd he;exact .inr (.inr ⟨rfl,oM.2⟩)
 have Ls:b0∉rP:=λoM=>by
  rcases hb b0 oM with⟨n,e,h3,_,h4,h5⟩| ⟨h3,h4⟩
  ·exact h3 (h2.own n 0 _ _ b0 h4 e0 h5 o0)
  exact hold b0 h3 h4 ⟨0,_,e0,o0⟩
 have Lt:aj (G2 i2)≠some b0:=λoM=>b9 (h2.own i2 0 _ _ b0 e2 e0 ⟨rfl,oM⟩ o0);have Lu: ∀b,aj (G2 i2)=some b->b∉rP:=λb oM jT=>by
  rcases hb b jT with⟨n,e,_,h3,h4,h5⟩| ⟨h3,h4⟩
  ·exact h3 (h2.own n i2 _ _ b h4 e2 h5 ⟨rfl,oM⟩)
  exact hold b h3 h4 ⟨i2,_,e2,rfl,oM⟩
 refine⟨gR (av b0) (.tuple ⟨G2 i::rP.map av⟩) (G2 i2) undef,h.back h2 hx hs ?_ ?_ ?_ ?_⟩
 ·intro n e he;rcases aC he with⟨rfl,rfl⟩|he
  ·obtain⟨b,cc,k1,k2,k3,k4,k5⟩:=h2.rg 0 _ e0;rw[Jf] at k1;cases k1;refine⟨b0,cc,rfl,k2,k3,k4,λj p hp=> ?_⟩
   match j,hp with
   |0,hp=>
    cases hp;have k:=k5 0 _ rfl;have kk:=ph k3 (P:=λv=>v.oneCell'=true) k4;have kk:=kk.1;generalize cc.getD 0 undef=v at k kk⊢;cases k with
    |sl _ _ _ _ _ hr=>obtain⟨e,he,_,hc⟩:=hr;rw[ei] at he;cases he;obtain⟨a,N,cap,c1,c2,c3⟩:=hc rfl li;exact .rT 1 0 _ _ kk ⟨_,rfl,zae _,λ_ _=>⟨a,N,cap,rP.map av,by show Value.tuple ⟨G2 i::rP.map av⟩=_;rw[c1],c2,c3⟩⟩
   |1,hp=>
    cases hp;have k:=k5 1 _ rfl;have kk:=ph k3 (P:=λv=>v.oneCell'=true) k4;have kk:=kk.2;generalize cc.getD 1 undef=v at k kk⊢;cases k with
    |sl _ _ _ _ _ hr=>obtain⟨e,he,_,hc⟩:=hr;rw[e2] at he;cases he;exact .sl 2 0 _ _ kk ⟨_,rfl,zae _,λ_ _=>hc rfl rfl⟩
  rcases aC he with⟨rfl,rfl⟩|he
  ·exact⟨G2 i,rP,rfl,bj,λw' hw=>⟨⟨_,rP,al',rfl,hW.keep λb oM=>hw b (.inl oM)⟩⟩⟩
  obtain⟨rfl,rfl⟩:=cd he;rcases h2.rg i2 _ e2 with h3 | ⟨b,cap,cs,z,m1,m2,m3,m4,m5,m6,m7,_,m8⟩
  ·exact .inl h3
  rw[Gw] at m3;cases m3;exact .inr ⟨b,cap,cs,2,m1,m2,Gw,by decide,m5,m6,m7,(λh=>by cases h),HS m8⟩
 ·intro n m e e' c he bc hc tN;rcases HT _ _ _ he hc with⟨rfl,p1⟩| ⟨rfl,p1⟩| ⟨rfl,p1⟩<;>rcases HT _ _ _ bc tN with⟨rfl,p2⟩| ⟨rfl,p2⟩| ⟨rfl,p2⟩
  ·rfl
  ·subst p1;exact absurd p2 Ls
  ·subst p1;exact absurd p2 Lt
  ·subst p2;exact absurd p1 Ls
  ·rfl
  ·exact absurd p1 (Lu _ p2)
  ·subst p2;exact absurd p1 Lt
  ·exact absurd p2 (Lu _ p1)
  rfl
 ·intro b ⟨n,e,he,oM⟩;rcases HT _ _ _ he oM with⟨rfl,rfl⟩| ⟨rfl,p1⟩| ⟨rfl,p1⟩
  ·exact .inl ⟨0,_,e0,o0⟩
  ·rcases hb b p1 with⟨n,e,_,_,h4,h5⟩| ⟨_,h4⟩
   ·exact .inl ⟨n,e,h4,h5⟩
   exact .inr h4
  exact .inl ⟨i2,_,e2,rfl,p1⟩
 intro n e j he hj _;rcases aC he with⟨rfl,rfl⟩|he
 ·cases hj;exact hV
 rcases aC he with⟨rfl,rfl⟩|he
 ·cases hj
 obtain⟨rfl,rfl⟩:=cd he;cases hj
theorem wX{i:Nat}(h3:eN PR F2 w2 G2 R2 i (.bA 67 (al'.map cT) none))(hf: ∀x∈al',rO w2 x)(hY:(al'.map (·.2.1)).Nodup)(Au: ∀b,aj (G2 i)=some b->b∉al'.map (·.2.1)):
  ∃rP,RW (al'.map (·.1)) w2 (G2 i) rP al'/\ ∀b∈rP,aj (G2 i)=some b\/b∈al'.map (·.2.1):=by
 rcases h3 with⟨h3,h4,_⟩| ⟨b,cap,cs,z,m1,m2,m3,m4,m5,m6,m7,m8⟩
 ·have h4:al'=[]:=by simpa using h4
  exact⟨[],⟨rfl,zcf,hf,.inl ⟨h4,h3,rfl⟩⟩,λb h=>by cases h⟩
 rw[uE] at m3;cases m3;rw[zai] at m1 m5;refine⟨b::al'.map (·.2.1),⟨rfl,zax.2 ⟨Au b (by rw[m1];rfl),hY⟩,hf,.inr ⟨b,cap,cs,m1,rfl,m2,m5,m6,m7,pg m8⟩⟩,λc hc=> ?_⟩;rcases zan.1 hc with rfl |hc
 ·exact .inl (by rw[m1];rfl)
 exact .inr hc
theorem qQ{i:Nat}{es:List D}(h3:eN PR F2 w2 G2 R2 i (.arr 67 false es)):eN PR F2 w2 G2 R2 i (.bA 67 es none):=by
 rcases h3 with⟨h3,h4⟩| ⟨b,cap,cs,z,m1,m2,m3,m4,m5,m6,m7,_,m8⟩
 ·exact .inl ⟨h3,h4,rfl⟩
 exact .inr ⟨b,cap,cs,z,m1,m2,m3,m4,m5,m6,m7,λj x hx=>let ⟨a,b,c⟩:=m8 j x hx;⟨a,b,λj c' hc _=>c j c' hc⟩,λ_ _ _ h=>by cases h⟩
theorem wY{i j k:Nat}{es:List D}{m:List aY}{tj:Option Nat}(hm:m≠[])(h3:eN PR F2 w2 G2 R2 i (.bA 67 es (some (k,3,.sl j 0 m.length))))(ej:lk R2 j=some ⟨0,tj,rK false m⟩)(h4:eN PR F2 w2 G2 R2 j (rK false m)):
  ∃b bm rQ,aj (G2 i)=some b/\aj (G2 j)=some bm/\ ∀o':cO,o'.l=m-> ∀al':List dz,al'[k]?=some (o',bm,m.length,rQ)->es.length=al'.length->(∀n,n≠k->es[n]?=(al'.map cT)[n]?)->(∃z,es[k]?=some (.agg [.int .i64 o'.a,.int .i64 o'.n,.int .i64 o'.q,z]))->
   (∀x∈al'.eraseIdx k,rO w2 x)->(b::al'.map (·.2.1)).Nodup->RW (al'.map (·.1)) w2 (G2 i) (b::al'.map (·.2.1)) al':=by
 rcases h4 with⟨_,h4⟩| ⟨bm,rQ,P8,z,q1,q2,q3,_,q5,q6,q7,_,q8⟩
 ·exact absurd (by simpa using h4) hm
 rw[DL] at q3;cases q3;rw[zai] at q1 q5;rcases h3 with⟨_,_,h3⟩| ⟨b,cap,cs,z,m1,m2,m3,m4,m5,m6,m7,m8⟩
 ·cases h3
 rw[uE] at m3;cases m3;obtain⟨p1,p2⟩:=m8;obtain⟨_,_,_,p6⟩:=p2 k 3 _ rfl;have ec:cs.getD (k*4+3) undef= .slice (some ⟨bm,0,none⟩) m.length rQ:=by
  generalize cs.getD (k*4+3) undef=v at p6⊢;cases p6 with
  |sl _ _ _ _ _ hr=>obtain⟨e,he,_,hc⟩:=hr;rw[ej] at he;cases he;obtain⟨a,N,c,c1,c2,_⟩:=hc rfl rfl;rw[q1] at c1;cases c1;exact c2
 refine⟨b,bm,rQ,by rw[m1];rfl,by rw[q1];rfl,λo' ho al' hk hl hn hz hr hY=>⟨rfl,hY,λx hx=> ?_,.inr ⟨b,cap,cs,by rw[m1,hl],rfl,m2,by omega,m6,m7,λn y hy=> ?_,λ_ _ _ h=>by cases h⟩⟩⟩
 ·obtain⟨n,JR⟩:=zao hx;by_cases e:n=k
  ·subst e;rw[hk] at JR;cases JR;exact⟨by dsimp only;rw[ho];exact hm,by dsimp only;rw[ho],P8,q2,by dsimp only;rw[ho];exact q5,q6,q7,by dsimp only;rw[ho];exact uD q8⟩
  exact hr x (zbc.2 ⟨n,e,JR⟩)
 by_cases e:n=k
 ·subst e;obtain⟨z,hz⟩:=hz;rw[zah,hk] at hy;cases hy;obtain⟨y1,y2,y3⟩:=p1 n _ hz;refine⟨rfl,λc hc=> ?_,λj c hc _=> ?_⟩
  ·simp only[cT,D.cells,zan,zbq,zcl] at hc;rcases hc with rfl |rfl |rfl |rfl<;>rfl
  match j,hc with
  |0,hc=>cases hc;exact b7 (y3 0 _ rfl (λ_ h=>by cases h)) rfl
  |1,hc=>cases hc;exact b7 (y3 1 _ rfl (λ_ h=>by cases h)) rfl
  |2,hc=>cases hc;exact b7 (y3 2 _ rfl (λ_ h=>by cases h)) rfl
  |3,hc=>cases hc;rw[ec];exact .A7 _ _ _
  |j+4,hc=>cases hc
 rw[<-hn n e] at hy;obtain⟨y1,y2,y3⟩:=p1 n y hy;refine⟨y1,y2,λj c hc _=> ?_⟩;have h5:=y3 j c hc (λ_ h=>by cases h;exact e rfl);rw[hn n e,zah] at hy;cases w7:al'[n]? with
 |none=>rw[w7] at hy;cases hy
 |some y'=>rw[w7] at hy;cases hy;exact sY h5 (wW hc)
end
theorem wZ{al:List dz}{f:aY}:fa al f.1 f.2.1=match(al.map (·.1)).findIdx? (lu f) with |some i=>(i:Int)|none=> -1:=by
 unfold fa AT;rw[List.findIdx?_map];have:(λx:dz=>x.1.a==f.1&&x.1.n==f.2.1)=lu f∘(·.1):=by funext x;rw[zb8];simp[lu]
 rw[this]
 try (cases List.findIdx? (lu f∘λx=>x.fst) al<;>rfl)
theorem gj{d:List (Int×Int)}{a n:Int}:fU d a n=d.contains (a,n):=by
 unfold fU;rw[zb8,zcb,zbe];constructor
 ·rintro⟨x,hx,h⟩;simp only[zad,beq_iff_eq] at h;rw[<-h.1,<-h.2];exact hx
 intro h;exact⟨_,h,by simp⟩
theorem uF{l:List aY}{p:Int}:uA l p=l.any (λx=>decide (x.2.2.1=p)):=by unfold uA;congr 1
section
variable{X:XF}{w0:World}(hX:cL PR w0 X.cf){F:Nat->Prop}{G:Nat->Value}{w:World}{R:List (Nat×En)}{st:JL}{f:aY}{al:List dz}{u g2:Value}{b0:Nat}
include hX
theorem core0(h:aL PR ⟨G,w0,0,false⟩ F G w R)(h0:eo (av b0) (G 0))(mZ:aL PR ⟨gR (av b0) u g2 undef,w0,0,false⟩ F (gR (av b0) u g2 undef) w (u0 some al st.d))(hs: ∀b,Own (gR (av b0) u g2 undef) (u0 some al st.d) b->Own G R b)
  (bg: ∀x∈al,¬Own (gR (av b0) u g2 undef) (u0 some al st.d) x.2.1/\Own G R x.2.1) (Ni: ∀x∈al,rO w x) (ha:al.map (·.1)=st.o) (hY:(al.map (·.2.1)).Nodup) (hJ:Bl st) (hd:st.d.length<=900000) (hf:f.2.2.2.2.length<=100) {u1:Value} (d1:az F w u1 (eT f)) (oP:st.o.findIdx? (lu f)=none):
  bC PR 14 ⟨[av b0,u1]⟩ w (λv w'=> ∃F' G',aL PR ⟨G,w0,0,false⟩ F' G' w' (rR (some 0) none none (eF st f).2)/\ao F' w' G' (rR (some 0) none none (eF st f).2) v (wO (eF st f).1)/\Ext (Own G R) (Own G' (rR (some 0) none none (eF st f).2)) F F' w w'):=by
 have hlen:al.length=st.o.length:=by rw[<-ha,zai]
 have Oc:=hJ.len;have eC: ∀b,b∈al.map (·.2.1)-> ¬Own (gR (av b0) u g2 undef) (u0 some al st.d) b/\Own G R b:=λb hb=>by obtain⟨x,hx,rfl⟩:=zaQ.1 hb;exact bg x hx
 have bW: ∀{F2:Nat->Prop} {G2:Nat->Value} {w2:World} {R2:List (Nat×En)},Ext (Own (gR (av b0) u g2 undef) (u0 some al st.d)) (Own G2 R2) F F2 w w2-> ∀x∈al,rO w2 x:=λhx x lB=>(Ni x lB).keep (hx.keep _ (h.cy (bg x lB).2) (bg x lB).1);have bV: ∀{F2:Nat->Prop} {G2:Nat->Value} {w2:World} {R2:List (Nat×En)},Ext (Own (gR (av b0) u g2 undef) (u0 some al st.d)) (Own G2 R2) F F2 w w2-> ∀b,Own G2 R2 b->b∉al.map (·.2.1):=λhx b hb hm=>by
  obtain⟨h1,h2⟩:=eC b hm;rcases hx.fe b hb with h3 |h3
  ·exact h1 h3
  have:=h.cy h2;omega
 have uG: ∀d':List (Int×Int),∀(t1 t2:Option Nat) (o1:Obj),(∀F2 w2 G2 R2,eN PR F2 w2 G2 R2 1 o1->eN PR F2 w2 G2 R2 1 (.bA 67 (al.map cT) none))->(∀g b,ax g o1 b↔aj g=some b)->o1.live=true-> ∀R2:List (Nat×En),lk R2 0=some ⟨0,some 0,.box 35 [.sl 1 0 al.length,.sl 2 0 d'.length]⟩->lk R2 1=some ⟨0,t1,o1⟩->lk R2 2=some ⟨0,t2,.arr 57 false (d'.map jF)⟩->
   ∀F2 G2 w2,aL PR ⟨gR (av b0) u g2 undef,w0,0,false⟩ F2 G2 w2 R2->Ext (Own (gR (av b0) u g2 undef) (u0 some al st.d)) (Own G2 R2) F F2 w w2->
   ∃G3,aL PR ⟨G,w0,0,false⟩ F G3 w2 (rR (some 0) none none ⟨st.o,d'⟩)/\Ext (Own G R) (Own G3 (rR (some 0) none none ⟨st.o,d'⟩)) F F w w2:=by
  intro d' t1 t2 o1 yP zY Bg R2 e0 e1 e2 F2 G2 w2 h2 hx;have yW: ∀b,aj (G2 1)=some b->ax (G2 1) o1 b:=λb hb=>(zY _ _).2 hb;obtain⟨rP,q1,q2⟩:=wX (al':=al) (yP _ _ _ _ (h2.rg 1 _ e1)) (bW hx) hY λb hb=>bV hx b ⟨1,_,e1,yW b hb⟩;rw[ha] at q1;refine mW (st':=⟨st.o,d'⟩) h h0 h2 hx hs (i:=1) (i2:=2) (by rw[<-hlen];exact e0) rfl e1 Bg e2 (by decide) q1 λb hb=> ?_;rcases q2 b hb with hb |hb
  ·exact .inl ⟨1,_,by decide,by decide,e1,yW b hb⟩
  exact .inr (eC b hb)
 refine bC.mono (Nf hX _ _ (λy=>y.1=wO (eF st f).1/\ ∀F2 G2 w2,aL PR ⟨gR (av b0) u g2 undef,w0,0,false⟩ F2 G2 w2 y.2->Ext (Own (gR (av b0) u g2 undef) (u0 some al st.d)) (Own G2 y.2) F F2 w w2->
   ∃G3,aL PR ⟨G,w0,0,false⟩ F G3 w2 (rR (some 0) none none (eF st f).2)/\Ext (Own G R) (Own G3 (rR (some 0) none none (eF st f).2)) F F w w2)
  ⟨f.1,f.2.1,f.2.2.1,f.2.2.2.1,f.2.2.2.2,al,st.d,rfl,rfl,⟨by rw[wZ,ha,oP],by omega,hd,by omega⟩,λg1=> ?_,λg1 g2=> ?_,λg1 g2 g3=> ?_,λg1 g2 g3 g4=> ?_,λg1 g2 g3 g4=> ?_⟩
  F (gR (av b0) u g2 undef) w [av b0,u1] mZ rfl (λi v c hv hc=> ?_)) λv w2 ⟨y,⟨rp,AH⟩,F2,G2,h2,vw,hx⟩=> ?_
 ·rw[Fo (f:=f) g1];exact⟨rfl,uG st.d (some 1) (some 2) _ (λ_ _ _ _ h=>h) (λ_ _=>Iff.rfl) rfl _ rfl rfl rfl⟩
 ·rw[gj] at g2;rw[Fp (f:=f) g1 g2];exact⟨rfl,uG st.d (some 1) (some 2) _ (λ_ _ _ _ h=>h) (λ_ _=>Iff.rfl) rfl _ rfl rfl rfl⟩
 ·rw[gj] at g2;rw[AY (f:=f) g1 g2 oP,zat (by omega)];exact⟨rfl,uG st.d (some 1) (some 2) _ (λ_ _ _ _ h=>h) (λ_ _=>Iff.rfl) rfl _ rfl rfl rfl⟩
 ·rw[gj] at g2;have g4:1<f.2.2.2.1:=g4;rw[AY (f:=f) g1 g2 oP,zaC (by omega),zat g4];refine⟨rfl,λF2 G2 w2 h2 hx=> ?_⟩;obtain⟨b,bm,rQ,k1,k2,k3⟩:=wY (i:=2) (j:=3) (m:=[f]) (by simp) (h2.rg 2 _ rfl) rfl (h2.rg 3 _ rfl);have ob:Own G2 (u4 (al.length+1) (al.map cT++[oB ⟨f.1,f.2.1,f.2.2.2.1,[]⟩]) al.length [f] st.d) b:=⟨2,_,rfl,k1⟩
  have Nj:Own G2 (u4 (al.length+1) (al.map cT++[oB ⟨f.1,f.2.1,f.2.2.2.1,[]⟩]) al.length [f] st.d) bm:=⟨3,_,rfl,rfl,k2⟩
  have b9:b≠bm:=λe=>by subst e;have:=h2.own 2 3 _ _ b rfl rfl k1 ⟨rfl,k2⟩;cases this
  have hW:=k3 ⟨f.1,f.2.1,f.2.2.2.1,[f]⟩ rfl (al++[(⟨f.1,f.2.1,f.2.2.2.1,[f]⟩,bm,1,rQ)]) (by simp) (by simp) (λn hn=>by
   rw[zaZ];by_cases e:n<al.length
   ·rw[zaE (by simpa using e),zaE (by simpa using e)]
   rw[zbL (by simp;omega),zbL (by simp;omega)]) ⟨.bt,by rw[zaG (by simp)];simp[oB]⟩ (λx lB=>by
   rw[zbD (zae _)] at lB;simp only[Nat.sub_self,zb1,zcs] at lB;exact bW hx x lB) (by
   rw[zaZ,zax,za8];refine⟨λhb=> ?_,hY,by simp,λc hc c' tN e=> ?_⟩
   ·rcases zaH.1 hb with hb |hb
    ·exact bV hx b ob hb
    simp only[zaO,zbT,zaL] at hb;exact b9 hb
   simp only[zaO,zbT,zaL] at tN;subst tN;subst e;exact bV hx _ Nj hc)
  rw[zaZ,ha] at hW;refine mW (st':=⟨st.o++[⟨f.1,f.2.1,f.2.2.2.1,[f]⟩],st.d⟩) h h0 h2 hx hs (i:=2) (i2:=1) (by rw[zaw,<-hlen];rfl) rfl rfl rfl rfl (by decide) hW λc hc=> ?_;rcases zan.1 hc with rfl |hc
  ·exact .inl ⟨2,_,by decide,by decide,rfl,k1⟩
  rw[zaZ] at hc;rcases zaH.1 hc with hc |hc
  ·exact .inr (eC c hc)
  simp only[zaO,zbT,zaL] at hc;subst hc;exact .inl ⟨3,_,by decide,by decide,rfl,rfl,k2⟩
 ·rw[gj] at g2;have g4: ¬1<f.2.2.2.1:=g4;rw[AY (f:=f) g1 g2 oP,zaC (by omega),zaC g4];refine⟨rfl,uG (st.d++[(f.1,f.2.1)]) none none _ (λ_ _ _ _ h=>qQ h) (λ_ _=>⟨λh=>h.2,λh=>⟨rfl,h⟩⟩) rfl _ ?_ rfl rfl⟩;simp[lk]
 ·match i,hv,hc with
  |0,hv,hc=>cases hv;cases hc;exact .ref 0 0 0 _ ⟨_,rfl,zae _,λ_ _=>⟨b0,rfl,rfl⟩⟩ rfl
  |1,hv,hc=>cases hv;cases hc;exact .d d1
  |i+2,hv,hc=>simp at hv
 obtain⟨G3,Fq,yX⟩:=AH F2 G2 w2 h2 hx;refine⟨F,G3,Fq,?_,yX⟩;rw[rp] at vw;exact pd vw
end
abbrev Nk:List (Nat×En):=[(0,⟨0,some 0,.box 35 [.sl 1 0 0,.sl 2 0 0]⟩),(1,⟨0,some 1,.arr 67 false []⟩),(2,⟨0,some 2,.arr 57 false []⟩)]
def Nl:Bool->JL->List (Nat×En)
 |true,_=>Nk
 |false,st=>rR (some 0) (some 1) (some 2) st
def oC:cR:=λps R ae=> ∃z st f,ps=[.ref 0 0 0,.d (eT f)]/\R=Nl z st/\(Bl st/\st.d.length<=900000/\f.2.2.2.2.length<=100/\(z=true->st=⟨[],[]⟩))/\ae (wO (eF st f).1,rR (some 0) none none (eF st f).2)
theorem sZ: ∀(l:List Nat) (k b:Nat),l.Nodup->b∉l.eraseIdx k->(l.set k b).Nodup
 | [],_,_,h,_=>h
 |x::l,0,b,h,hb=>zax.2 ⟨hb,(zax.1 h).2⟩
 |x::l,k+1,b,h,hb=>by
  obtain⟨h1,h2⟩:=zax.1 h;rw[zb2,zan,zbY] at hb;refine zax.2 ⟨λhx=> ?_,sZ l k b h2 hb.2⟩;rcases zbi hx with hx |hx
  ·exact h1 hx
  exact hb.1 hx.symm
section
variable{X:XF}{w0:World}(hX:cL PR w0 X.cf){F:Nat->Prop}{G:Nat->Value}{w:World}{R:List (Nat×En)}{st:JL}{f:aY}{al:List dz}{u g2:Value}{b0:Nat}
include hX
theorem Kk(h:aL PR ⟨G,w0,0,false⟩ F G w R)(h0:eo (av b0) (G 0)){k:Nat}{x:dz}{v2:Value}(mZ:aL PR ⟨gR (av b0) u v2 g2,w0,0,false⟩ F (gR (av b0) u v2 g2) w (u1 al k x.1.l st.d))(hs: ∀b,Own (gR (av b0) u v2 g2) (u1 al k x.1.l st.d) b->Own G R b)
  (bg: ∀y∈al.eraseIdx k,¬Own (gR (av b0) u v2 g2) (u1 al k x.1.l st.d) y.2.1/\Own G R y.2.1) (Ni: ∀y∈al,rO w y) (ha:al.map (·.1)=st.o) (hY:(al.map (·.2.1)).Nodup) (hJ:Bl st) (hd:st.d.length<=900000) (hf:f.2.2.2.2.length<=100) {IW:Value} (d1:az F w IW (eT f)) (oP:st.o.findIdx? (lu f)=some k) (hk:al[k]?=some x):
  bC PR 14 ⟨[av b0,IW]⟩ w (λv w'=> ∃F' G',aL PR ⟨G,w0,0,false⟩ F' G' w' (rR (some 0) none none (eF st f).2)/\ao F' w' G' (rR (some 0) none none (eF st f).2) v (wO (eF st f).1)/\Ext (Own G R) (Own G' (rR (some 0) none none (eF st f).2)) F F' w w'):=by
 have hlen:al.length=st.o.length:=by rw[<-ha,zai]
 have Oc:=hJ.len;have rH:=(zaa.1 hk).1;have yn:st.o[k]?=some x.1:=by rw[<-ha,zah,hk];rfl
 obtain⟨_,h4,_⟩:=za5.1 oP;rw[(zaa.1 yn).2] at h4;obtain⟨ea,en⟩:=mR.1 h4;obtain⟨fK,Nn⟩:=hJ.o x.1 (zak yn);have eC: ∀b,b∈(al.eraseIdx k).map (·.2.1)-> ¬Own (gR (av b0) u v2 g2) (u1 al k x.1.l st.d) b/\Own G R b:=λb hb=>by obtain⟨y,hy,rfl⟩:=zaQ.1 hb;exact bg y hy
 have bW: ∀{F2:Nat->Prop} {G2:Nat->Value} {w2:World} {R2:List (Nat×En)},Ext (Own (gR (av b0) u v2 g2) (u1 al k x.1.l st.d)) (Own G2 R2) F F2 w w2-> ∀y∈al.eraseIdx k,rO w2 y:=λhx y hy=>(Ni y (zaU hy)).keep (hx.keep _ (h.cy (bg y hy).2) (bg y hy).1);have bV: ∀{F2:Nat->Prop} {G2:Nat->Value} {w2:World} {R2:List (Nat×En)},Ext (Own (gR (av b0) u v2 g2) (u1 al k x.1.l st.d)) (Own G2 R2) F F2 w w2-> ∀b,Own G2 R2 b->b∉(al.eraseIdx k).map (·.2.1):=λhx b hb hm=>by
  obtain⟨h1,h2⟩:=eC b hm;rcases hx.fe b hb with h3 |h3
  ·exact h1 h3
  have:=h.cy h2;omega
 have Np:((al.eraseIdx k).map (·.2.1)).Nodup:=hY.sublist ((zbw ..).map _);have DO: ∀(o':cO) (es:List D),o'.l≠[]->es.length=al.length->(∀n,n≠k->es[n]?=(al.map cT)[n]?)->(∃z,es[k]?=some (.agg [.int .i64 o'.a,.int .i64 o'.n,.int .i64 o'.q,z]))-> ∀(j i2:Nat) (t1 tj t2:Option Nat) (R2:List (Nat×En)),j≠0->j≠1->j≠i2->i2≠0->i2≠1->lk R2 0=some ⟨0,some 0,.box 35 [.sl 1 0 al.length,.sl i2 0 st.d.length]⟩->
   lk R2 1=some ⟨0,t1,.bA 67 es (some (k,3,.sl j 0 o'.l.length))⟩->lk R2 j=some ⟨0,tj,rK false o'.l⟩->lk R2 i2=some ⟨0,t2,.arr 57 false (st.d.map jF)⟩->
   ∀F2 G2 w2,aL PR ⟨gR (av b0) u v2 g2,w0,0,false⟩ F2 G2 w2 R2->Ext (Own (gR (av b0) u v2 g2) (u1 al k x.1.l st.d)) (Own G2 R2) F F2 w w2->
   ∃G3,aL PR ⟨G,w0,0,false⟩ F G3 w2 (rR (some 0) none none ⟨st.o.set k o',st.d⟩)/\Ext (Own G R) (Own G3 (rR (some 0) none none ⟨st.o.set k o',st.d⟩)) F F w w2:=by
  intro o' es b9 CW eO P9 j i2 t1 tj t2 R2 HF Qa Qb jM Bi e0 e1 ej e2 F2 G2 w2 h2 hx;obtain⟨b,bm,rQ,k1,k2,k3⟩:=wY b9 (h2.rg 1 _ e1) ej (h2.rg j _ ej);have ob:Own G2 R2 b:=⟨1,_,e1,k1⟩
  have Nj:Own G2 R2 bm:=⟨j,_,ej,rfl,k2⟩
  have Qc:b≠bm:=λe=>by subst e;exact Qa (h2.own 1 j _ _ b e1 ej k1 ⟨rfl,k2⟩).symm
  have Gd: ∀c,c∈(al.set k (o',bm,o'.l.length,rQ)).map (·.2.1)->c=bm\/c∈(al.eraseIdx k).map (·.2.1):=λc hc=>by
   obtain⟨y,hy,rfl⟩:=zaQ.1 hc;rcases mem_set hy with rfl |hy
   ·exact .inl rfl
   exact .inr (zaQ.2 ⟨y,hy,rfl⟩)
  have hW:=k3 o' rfl (al.set k (o',bm,o'.l.length,rQ)) (zaF rH) (by rw[zas];exact CW) (λn hn=>by
   rw[eO n hn,zbx,zau (za4 hn)]) P9 (λy hy=>by
    rw[List.eraseIdx_set_eq] at hy;exact bW hx y hy) (by
    refine zax.2 ⟨λhb=> ?_,?_⟩
    ·rcases Gd b hb with h5 |h5
     ·exact Qc h5
     exact bV hx b ob h5
    rw[zbx];exact sZ _ k bm hY (by rw[lg];exact bV hx bm Nj))
  have eZ:(al.set k (o',bm,o'.l.length,rQ)).map (·.1)=st.o.set k o':=by rw[zbx,ha]
  rw[eZ] at hW;refine mW (st':=⟨st.o.set k o',st.d⟩) h h0 h2 hx hs (i:=1) (i2:=i2) (by rw[zas,<-hlen];exact e0) rfl e1 rfl e2 jM hW λc hc=> ?_;rcases zan.1 hc with rfl |hc
  ·exact .inl ⟨1,_,by decide,za4 Bi,e1,k1⟩
  rcases Gd c hc with rfl |hc
  ·exact .inl ⟨j,_,HF,Qb,ej,rfl,k2⟩
  exact .inr (eC c hc)
 have hS:=DO x.1 (al.map cT) Nn (by rw[zai]) (λ_ _=>rfl) ⟨.A7 x.2.1 x.2.2.1 x.2.2.2,by rw[zah,hk];rfl⟩ 2 3 (some 1) (some 2) (some 3) (u1 al k x.1.l st.d) (by decide) (by decide) (by decide) (by decide) (by decide) rfl rfl rfl rfl;have es:st.o.set k x.1=st.o:=by have:=(zaa.1 yn).2;rw[<-this];exact List.set_getElem_self _
 rw[es] at hS;have B6:=fK.lt;have PT:=fK.q;refine bC.mono (Nb hX _ _ (λy=>y.1=wO (eF st f).1/\ ∀F2 G2 w2,aL PR ⟨gR (av b0) u v2 g2,w0,0,false⟩ F2 G2 w2 y.2->Ext (Own (gR (av b0) u v2 g2) (u1 al k x.1.l st.d)) (Own G2 y.2) F F2 w w2->
   ∃G3,aL PR ⟨G,w0,0,false⟩ F G3 w2 (rR (some 0) none none (eF st f).2)/\Ext (Own G R) (Own G3 (rR (some 0) none none (eF st f).2)) F F w w2)
  ⟨f.1,f.2.1,f.2.2.1,f.2.2.2.1,f.2.2.2.2,al,k,x.1.l,st.d,x,rfl,rfl,⟨⟨by rw[wZ,ha,oP],hk⟩,⟨by omega,hd⟩,by omega,?_⟩,λg1=> ?_,λg1 g2=> ?_,λg1 g2 g3=> ?_,λg1 g2 g3 g4=> ?_,λg1 g2 g3 g4 m hm g5=> ?_,λg1 g2 g3 g4 m hm g5 old=> ?_⟩
  F (gR (av b0) u v2 g2) w [av b0,IW] mZ rfl (λi v c hv hc=> ?_)) λv w2 ⟨y,⟨rp,AH⟩,F2,G2,h2,vw,hx⟩=> ?_
 ·have:=wI (bZ ja x.1.l f) λg hg=>by
   rcases jD.1 hg with hg |rfl
   ·exact(fK.m g hg).2.2.2.2.2.2
   exact hf
  rw[mQ] at this;exact zaN this (by omega)
 ·rw[Fo (f:=f) g1];exact⟨rfl,hS⟩
 ·rw[gj] at g2;rw[Fp (f:=f) g1 g2];exact⟨rfl,hS⟩
 ·rw[gj] at g2;rw[wP (f:=f) g1 g2 oP yn,zat g3];exact⟨rfl,hS⟩
 ·rw[gj] at g2;have g3: ¬x.1.q≠f.2.2.2.1:=λh=>h g3;rw[uF] at g4;rw[wP (f:=f) g1 g2 oP yn,zaC g3,zat g4];exact⟨rfl,hS⟩
 ·rw[gj] at g2;have hq:x.1.q=f.2.2.2.1:=g3;have g3: ¬x.1.q≠f.2.2.2.1:=λh=>h hq;rw[uF] at g4;have hm:m=bZ ja x.1.l f:=hm;have g5:(m.length:Int)<f.2.2.2.1:=g5;rw[wP (f:=f) g1 g2 oP yn,zaC g3,zaC (by rw[g4];simp),zat (by rw[<-hm];omega),<-hm];refine⟨rfl,DO ⟨x.1.a,x.1.n,x.1.q,m⟩ ((al.map cT).set k (oB x.1)) (by rw[hm];exact De _ _) (by simp) (λn hn=>by rw[zau (za4 hn)]) ⟨.bt,by rw[zaF (by rw[zai];exact rH)];rfl⟩ 3 2 (some 1) none (some 3) _ (by decide) (by decide) (by decide) (by decide) (by decide) rfl rfl rfl rfl⟩
 ·rw[gj] at g2;have hq:x.1.q=f.2.2.2.1:=g3;have g3: ¬x.1.q≠f.2.2.2.1:=λh=>h hq;rw[uF] at g4;have hm:m=bZ ja x.1.l f:=hm;have g5: ¬(m.length:Int)<f.2.2.2.1:=g5;rw[wP (f:=f) g1 g2 oP yn,zaC g3,zaC (by rw[g4];simp),zaC (by rw[<-hm];omega),<-hm];refine⟨rfl,λF2 G2 w2 h2 hx=> ?_⟩;have o1: ∀b,aj (G2 2)=some b->Own G2 (u3 old ((al.eraseIdx k).map cT) (st.d++[(f.1,f.2.1)])) b:=λb hb=>⟨2,_,rfl,rfl,hb⟩
  obtain⟨rP,q1,q2⟩:=wX (al':=al.eraseIdx k) (qQ (h2.rg 2 _ rfl)) (bW hx) Np λb hb=>bV hx b (o1 b hb);have eZ:(al.eraseIdx k).map (·.1)=st.o.eraseIdx k:=by rw[<-lg,ha]
  rw[eZ] at q1;refine mW (st':=⟨st.o.eraseIdx k,st.d++[(f.1,f.2.1)]⟩) h h0 h2 hx hs (i:=2) (i2:=3) (by rw[<-eZ,zai];simp[lk]) rfl rfl rfl rfl (by decide) q1 λb hb=> ?_;rcases q2 b hb with hb |hb
  ·exact .inl ⟨2,_,by decide,by decide,rfl,rfl,hb⟩
  exact .inr (eC b hb)
 ·match i,hv,hc with
  |0,hv,hc=>cases hv;cases hc;exact .ref 0 0 0 _ ⟨_,rfl,zae _,λ_ _=>⟨b0,rfl,rfl⟩⟩ rfl
  |1,hv,hc=>cases hv;cases hc;exact .d d1
  |i+2,hv,hc=>simp at hv
 obtain⟨G3,Fq,yX⟩:=AH F2 G2 w2 h2 hx;refine⟨F,G3,Fq,?_,yX⟩;rw[rp] at vw;exact pd vw
theorem HU:ND w0 14 oC:=by
 intro ps R ae hh F G w vs h hl hv;obtain⟨z,st,f,rfl,rfl,⟨hJ,hd,hf,hz⟩,hp⟩:=hh
 match vs,hl,hv with
 | [Nq,IW],_,hv=>
 have p0:=hv 0 Nq _ rfl rfl;have p1:=hv 1 IW _ rfl rfl;have d1:az F w IW (eT f):=by
  cases p1 with
  |d h1=>exact h1
 cases z with
 |true=>
  have hz:=hz rfl;subst hz;obtain⟨b0,cc,h1,h2,h3,h4,h5⟩:=h.rg 0 _ rfl;have eu:Nq=av b0:=by
   cases p0 with
   |ref _ _ _ _ hr _=>obtain⟨e,he,_,hc⟩:=hr;cases he;obtain⟨b,e1,e2⟩:=hc rfl rfl;rw[h1] at e1;cases e1;exact e2
  subst eu;have own0: ∀n e b,lk (u0 some [] []) n=some e->ax (gR (av b0) (G 1) (G 2) undef n) e.obj b-> ∃e',lk Nk n=some e'/\ax (G n) e'.obj b:=λn e b he hb=>by
   rcases nE he hb with⟨rfl,rfl⟩| ⟨rfl,p1⟩| ⟨rfl,p1⟩
   ·exact⟨_,rfl,by rw[h1];rfl⟩
   ·exact⟨_,rfl,rfl,p1⟩
   exact⟨_,rfl,rfl,p1⟩
  have mZ:aL PR ⟨gR (av b0) (G 1) (G 2) undef,w0,0,false⟩ F (gR (av b0) (G 1) (G 2) undef) w (u0 some [] []):=by
   refine h.C5 ?_ ?_ ?_ λn e i he hi _=> ?_
   ·intro n e he;rcases aC he with⟨rfl,rfl⟩|he
    ·refine⟨b0,cc,rfl,h2,h3,h4,λi p hp=> ?_⟩
     match i,hp with
     |0,hp=>
      cases hp;have k:=h5 0 _ rfl;have kk:=(ph h3 (P:=λv=>v.oneCell'=true) h4).1;generalize cc.getD 0 undef=v at k kk⊢;cases k with
      |sl _ _ _ _ _ hr=>obtain⟨e,he,_,hc⟩:=hr;cases he;exact .sl 1 0 _ _ kk ⟨_,rfl,zae _,λ_ _=>hc rfl rfl⟩
     |1,hp=>
      cases hp;have k:=h5 1 _ rfl;have kk:=(ph h3 (P:=λv=>v.oneCell'=true) h4).2;generalize cc.getD 1 undef=v at k kk⊢;cases k with
      |sl _ _ _ _ _ hr=>obtain⟨e,he,_,hc⟩:=hr;cases he;exact .sl 2 0 _ _ kk ⟨_,rfl,zae _,λ_ _=>hc rfl rfl⟩
    rcases aC he with⟨rfl,rfl⟩|he
    ·exact qQ (h.rg 1 _ rfl)
    obtain⟨rfl,rfl⟩:=cd he;exact h.rg 2 _ rfl
   ·intro n m e e' b he bc hb ca;obtain⟨e1,q1,q2⟩:=own0 _ _ _ he hb;obtain⟨e2,q3,q4⟩:=own0 _ _ _ bc ca;exact h.own n m e1 e2 b q1 q3 q2 q4
   ·intro b ⟨n,e,he,hb⟩;obtain⟨e1,q1,q2⟩:=own0 _ _ _ he hb;exact⟨n,e1,q1,q2⟩
   have e:n=i:=by
    rcases aC he with⟨rfl,rfl⟩|he
    ·exact zal hi
    rcases aC he with⟨rfl,rfl⟩|he
    ·exact zal hi
    obtain⟨rfl,rfl⟩:=cd he;exact zal hi
   rw[e];exact .inl rfl
  refine bC.mono (core0 hX (al:=[]) (st:=⟨[],[]⟩) (f:=f) (u:=G 1) (g2:=G 2) h (by rw[h1];exact .inl rfl) mZ (λb ⟨n,e,he,hb⟩=> ?_) (λx hx=>by cases hx) (λx hx=>by cases hx) rfl zcf hJ hd hf d1 rfl) λv w' ⟨F',G',q1,q2,q3⟩=>⟨_,hp,F',G',q1,q2,q3⟩
  obtain⟨e1,q1,q2⟩:=own0 _ _ _ he hb;exact⟨n,e1,q1,q2⟩
 |false=>
  have h:aL PR ⟨G,w0,0,false⟩ F G w (rR (some 0) (some 1) (some 2) st):=h;obtain⟨b0,cc,u,bs,al,h1,h2,h3,h4,hW,h5,h6⟩:=DM h;have eu:Nq=av b0:=by
   cases p0 with
   |ref _ _ _ _ hr _=>obtain⟨e,he,_,hc⟩:=hr;cases he;obtain⟨b,e1,e2⟩:=hc rfl rfl;rw[h1] at e1;cases e1;exact e2
  subst eu;obtain⟨n1,n2,n3⟩:=qP h h1 h4;have FW: ∀x∈al,x.2.1∈bs:=λx hx=>by
   rcases hW.e with⟨e,_⟩| ⟨b,cap,cs,_,e,_⟩
   ·rw[e] at hx;cases hx
   rw[e];exact zaB _ (zaQ.2 ⟨x,hx,rfl⟩)
  have HV:(al.map (·.2.1)).Nodup:=by
   rcases hW.e with⟨e,_⟩| ⟨b,cap,cs,_,e,_⟩
   ·rw[e];exact zcf
   have:=hW.nd;rw[e] at this;exact(zax.1 this).2
  have Kj: ∀b,aj u=some b->b∉al.map (·.2.1):=λc hc=>by
   rcases hW.e with⟨e,_⟩| ⟨b,cap,cs,e1,e,_⟩
   ·rw[e];simp
   have:=hW.nd;rw[e] at this;rw[e1] at hc;cases hc;exact(zax.1 this).1
  have cz: ∀x∈al,Own G (rR (some 0) (some 1) (some 2) st) x.2.1:=λx hx=>jb h4 (FW x hx);cases oP:st.o.findIdx? (lu f) with
  |none=>
   have mZ:=hW.zr h h1 h2 h3 h4 h5 h6;refine bC.mono (core0 hX (al:=al) (st:=st) (f:=f) h (by rw[h1];exact .inl rfl) mZ (λb ⟨n,e,he,hb⟩=> ?_) (λx hx=>⟨λ⟨n,e,he,hb⟩=> ?_,cz x hx⟩) hW.f hW.a HV hJ hd hf d1 oP) λv w' ⟨F',G',q1,q2,q3⟩=>⟨_,hp,F',G',q1,q2,q3⟩
   ·rcases nE he hb with⟨rfl,rfl⟩| ⟨rfl,p1⟩| ⟨rfl,p1⟩
    ·exact⟨0,_,rfl,by rw[h1];rfl⟩
    ·exact jb h4 (hW.Br p1)
    exact⟨2,_,rfl,rfl,p1⟩
   have hm:x.2.1∈al.map (·.2.1):=zaQ.2 ⟨x,hx,rfl⟩;rcases nE he hb with⟨_,p1⟩| ⟨_,p1⟩| ⟨_,p1⟩
   ·exact n1 (p1▸FW x hx)
   ·exact Kj _ p1 hm
   exact n3 _ p1 (FW x hx)
  |some k=>
   obtain⟨rH,_,_⟩:=za5.1 oP;have MW:k<al.length:=by have:=congrArg List.length hW.a;rw[zai] at this;omega
   have hk:al[k]?=some al[k]:=zac MW;generalize al[k]=x at hk;have mZ:=hW.Dk h h1 h2 h3 h4 h5 h6 hk;have lB:=zak hk;refine bC.mono (Kk hX (al:=al) (st:=st) (f:=f) h (by rw[h1];exact .inl rfl) mZ (λb ⟨n,e,he,hb⟩=> ?_) (λy hy=>⟨λ⟨n,e,he,hb⟩=> ?_,cz y (zaU hy)⟩) hW.f hW.a HV hJ hd hf d1 oP hk) λv w' ⟨F',G',q1,q2,q3⟩=>⟨_,hp,F',G',q1,q2,q3⟩
   ·rcases qO he hb with⟨rfl,p1⟩| ⟨rfl,p1⟩| ⟨rfl,p1⟩| ⟨rfl,p1⟩
    ·subst p1;exact⟨0,_,rfl,by rw[h1];rfl⟩
    ·exact jb h4 (hW.Br p1)
    ·subst p1;exact cz x lB
    exact⟨2,_,rfl,rfl,p1⟩
   have AH:=zaU hy;have hm:y.2.1∈al.map (·.2.1):=zaQ.2 ⟨y,AH,rfl⟩;rcases qO he hb with⟨_,p1⟩| ⟨_,p1⟩| ⟨_,p1⟩| ⟨_,p1⟩
   ·exact n1 (p1▸FW y AH)
   ·exact Kj _ p1 hm
   ·obtain⟨i,hi,Og⟩:=zbc.1 hy;have ik:=(zaa.1 Og).1;have e3:(al.map (·.2.1))[i]?=(al.map (·.2.1))[k]?:=by rw[zah,zah,Og,hk];exact congrArg some p1
    exact hi ((zco (by simpa using ik) HV).1 e3)
   exact n3 _ p1 (FW y AH)
end
def Kl:cR:=λps R ae=>ps=[]/\R=[]/\ae (.ref 0 0 0,[(0,⟨0,none,Fh 1 2⟩),(1,⟨0,none,.bQ 58 (λ_=>none) 0 none⟩),(2,⟨0,none,.map 58 (λ_=>none) 0 false⟩)])
def oD:cR:=λps R ae=>ps=[]/\R=[]/\ae (.hd 0 0,rJ none ⟨[],[]⟩)
def Nr:cR:=λps R ae=> ∃vals m d c,ps=[.ref 0 0 0]/\R=rL vals m d c/\ae (iD m,rL vals m d c)
def uH:cR:=λps R ae=> ∃st:JL,ps=[.hd 0 0]/\R=rJ (some 0) st/\ae (iD st.o.length,rJ (some 0) st)
section
variable{X:XF}{w0:World}(hX:cL PR w0 X.cf)
include hX
theorem HW:ND w0 12 Kl:=ND.mk hX (by kernel_rfl) (by kernel_rfl) (by kernel_rfl) .nil .nil .nil (by intro ps R ae hh;obtain⟨rfl,rfl,hp⟩:=hh;rw[<-HK];exact hp)
theorem Km:ND w0 15 Nr:=ND.mk hX (by kernel_rfl) (by kernel_rfl) (by kernel_rfl) .nil .nil .nil (by
 intro ps R ae hh;obtain⟨vals,m,d,c,rfl,rfl,hp⟩:=hh
 (rw[<-J1];delta Hy Fj AR Z4)
 exact hp)
theorem HX:ND w0 12 oD:=by
 intro ps R ae hh F G w vs h hl hv;obtain⟨rfl,rfl,hp⟩:=hh;refine bC.mono (HW hX [] [] (λy=>y=(.ref 0 0 0,[(0,⟨0,none,Fh 1 2⟩),(1,⟨0,none,.bQ 58 (λ_=>none) 0 none⟩),(2,⟨0,none,.map 58 (λ_=>none) 0 false⟩)])) ⟨rfl,rfl,rfl⟩ F G w vs h hl hv) λv w2 ⟨y,hy,F2,G2,h2,vw,hx⟩=> ?_;subst hy;obtain⟨b0,cc,k1,k2,k3,_,k5⟩:=h2.rg 0 _ rfl;obtain⟨b1,es,ck,l1,l2,l3⟩:=h2.rg 1 _ rfl;obtain⟨b2,Be,D6,m1,m2,m3,_⟩:=h2.rg 2 _ rfl;have o0:ax (G2 0) (Fh 1 2) b0:=by rw[k1];rfl
 have o1:ax (G2 1) (.bQ 58 (λ_=>none) 0 none) b1:=by rw[l1];rfl
 have o2:ax (G2 2) (.map 58 (λ_=>none) 0 false) b2:=by rw[m1];exact⟨rfl,rfl⟩
 have Ls:b0≠b1:=λe=>by subst e;have:=h2.own 0 1 _ _ b0 rfl rfl o0 o1;cases this
 have Lt:b0≠b2:=λe=>by subst e;have:=h2.own 0 2 _ _ b0 rfl rfl o0 o2;cases this
 have Lu:b1≠b2:=λe=>by subst e;have:=h2.own 1 2 _ _ b1 rfl rfl o1 o2;cases this
 have hJ:JW ⟨[],[]⟩ w2 b0 b1 b2 []:=by
  refine⟨rfl,by simp[cA,Ls,Lt,Lu],⟨cc,k2,k3,?_,?_⟩,⟨es,ck,l2,l3.raw⟩,⟨Be,D6,m2,fP.unit (d:=[]) m3⟩,λx hx=>by cases hx⟩
  ·have k:=k5 0 _ rfl;generalize cc.getD 0 undef=v at k⊢;cases k with
   |mp _ _ _ _ hr=>obtain⟨e,he,_,hc⟩:=hr;cases he;exact(hc rfl rfl).trans l1
  have k:=k5 1 _ rfl;generalize cc.getD 1 undef=v at k⊢;cases k with
  |mp _ _ _ _ hr=>obtain⟨e,he,_,hc⟩:=hr;cases he;exact(hc rfl rfl).trans m1
 have ev:v=av b0:=by
  cases vw with
  |ref _ _ _ _ hr _=>obtain⟨e,he,_,hc⟩:=hr;cases he;obtain⟨b,e1,e2⟩:=hc rfl rfl;rw[k1] at e1;cases e1;exact e2
 subst ev;have:=h.shut h2 hx (λb ⟨n,e,he,_⟩=>by cases he) (t:=none) (x:=wL ⟨[],[]⟩) (p:=JQ ⟨[],[]⟩) (u:=av b0) (bs:=cA b0 b1 b2 []) (λw' hw=>⟨hJ.to.keep λb hb=>hw b (by rwa [dL] at hb)⟩) (λb hb=>by
  simp only[cA,List.flatMap_nil,zan,zbq,zcl] at hb;rcases hb with rfl |rfl |rfl
  ·exact .inl ⟨0,_,rfl,o0⟩
  ·exact .inl ⟨1,_,rfl,o1⟩
  exact .inl ⟨2,_,rfl,o2⟩) (λi hi=>by cases hi)
 refine⟨_,hp,F,_,this.1,.hd 0 0 _ rfl ⟨_,rfl,zae _,λ_ _=>⟨b0,_,rfl,rfl⟩⟩,this.2⟩
theorem Kn:ND w0 15 uH:=by
 intro ps R ae hh F G w vs h hl hv;obtain⟨st,rfl,rfl,hp⟩:=hh;obtain⟨v,bs,hG,_,yL⟩:=h.rg 0 _ rfl;have HF:=(yL w (λ_ _=>rfl)).h;rw[<-hG] at HF;obtain⟨b0,b1,b2,al,hg,hj⟩:=JW.of HF
 match vs,hl,hv with
 | [u0],_,hv=>
 have p0:=hv 0 u0 _ rfl rfl;have eu:u0=av b0:=by
  cases p0 with
  |hd _ _ _ h1 hr=>obtain⟨e,he,_,hc⟩:=hr;cases he;obtain⟨b,l,e1,e2⟩:=hc rfl rfl;rw[hg] at e1;cases e1;rfl
 subst eu;have hs: ∀b,Own (gJ b0 b1 b2 undef undef) (rL (aU al) al.length (a8 st.d) st.d.length) b->b=b0\/b=b1\/b=b2:=λb ⟨n,e,he,hb⟩=>by
  rcases wN he hb with⟨_,h⟩| ⟨_,h⟩| ⟨_,h⟩
  ·exact .inl h
  ·exact .inr (.inl h)
  exact .inr (.inr h)
 have zX: ∀b,Own (gJ b0 b1 b2 undef undef) (rL (aU al) al.length (a8 st.d) st.d.length) b->Own G (rJ (some 0) st) b:=λb hb=>by rcases hs b hb with rfl |rfl |rfl<;>exact jE hg (by simp[cA])
 have rM: ∀x∈al,¬Own (gJ b0 b1 b2 undef undef) (rL (aU al) al.length (a8 st.d) st.d.length) x.2.1/\ ¬Own (gJ b0 b1 b2 undef undef) (rL (aU al) al.length (a8 st.d) st.d.length) x.2.2:=λx hx=>by obtain⟨k,hk⟩:=zao hx;obtain⟨_,⟨n4,n5,n6⟩,⟨n7,n8,n9⟩,_⟩:=hj.ne hk;exact⟨λho=>by rcases hs _ ho with e |e |e<;>first |exact n4 e.symm |exact n5 e.symm |exact n6 e.symm,λho=>by rcases hs _ ho with e |e |e<;>first |exact n7 e.symm |exact n8 e.symm |exact n9 e.symm⟩
 have hlen:al.length=st.o.length:=by rw[<-hj.a,zai]
 refine bC.mono (Km hX _ _ (λy=>y=(iD al.length,rL (aU al) al.length (a8 st.d) st.d.length)) ⟨aU al,al.length,a8 st.d,st.d.length,rfl,rfl,rfl⟩ F (gJ b0 b1 b2 undef undef) w [av b0] (hj.zr h hg) rfl (λi v c hv hc=> ?_)) λv w2 ⟨y,hy,F2,G2,h2,vw,hx⟩=> ?_
 ·match i,hv,hc with
  |0,hv,hc=>cases hv;cases hc;exact .ref 0 0 0 _ ⟨_,rfl,zae _,λ_ _=>⟨b0,rfl,rfl⟩⟩ rfl
  |i+1,hv,hc=>simp at hv
 subst hy;obtain⟨G3,Fq,yX⟩:=hj.nD h hg h2 hx zX rfl rfl rfl hj.a (.refl _) rM;refine⟨_,hp,F,G3,Fq,?_,yX⟩;rw[<-hlen];cases vw with
 |d h=>exact .d (b7 h rfl)
end
open Classical in
noncomputable def oE(h:cR):TF:=λps R=>if e: ∃y,h ps R (λz=>z=y) then some e.choose else none
def Ko(h:cR):Prop:= ∀ps R y ae,h ps R (λz=>z=y)->h ps R ae->ae y
theorem jG{h:cR}{ps:List P}{R:List (Nat×En)}{y:P×List (Nat×En)}(e:oE h ps R=some y):h ps R (λz=>z=y):=by
 unfold oE at e;split at e
 next e2=>rw[<-zal e];exact e2.choose_spec
 cases e
noncomputable def XF.tell(X:XF)(f:Nat)(g:TF)(hf:eV f JN=false):XF:=⟨λf' ps R=>if Nat.beq f f' then g ps R else X.cf f' ps R,λf' h ps R=>by
 show(if Nat.beq f f'=true then g ps R else X.cf f' ps R)=_;rw[zaC]
 ·exact X.eq f' h ps R
 intro e;rw[zab e,h] at hf;cases hf⟩
theorem XF.pj{X:XF}{f:Nat}{g:TF}{hf:eV f JN=false}{w0:World}(h0:w0.drawn=0)(hX:cL PR w0 X.cf)(hg:E8 PR w0 f g):cL PR w0 (X.tell f g hf).cf:=by
 intro fN ps R p R1 h;have h2:(if Nat.beq f fN=true then g ps R else X.cf fN ps R)=some (p,R1):=h;clear h;split at h2
 next e=>have e:=zab e;subst e;exact hg h0 ps R p R1 h2
 exact hX fN ps R p R1 h2
theorem FD.told{X:XF}{f:Nat}{fn:Func}{h:cR}(fg:PR.funcs[f]?=some fn)(hx:eV f Hu=true)(hd:Ko h)(hy: ∀ps R ae,h ps R ae-> ∃y,h ps R (λz=>z=y))(hX: ∀ps R,X.cf f ps R=oE h ps R):FD X f h:=
 CR.K2 fg hx λps R ae hp=>by have e:=hy ps R ae hp;refine⟨e.choose,?_,hd ps R _ ae e.choose_spec hp⟩;refine(hX ps R).trans ?_;unfold oE;rw[dif_pos e]
abbrev je(l:List D)(i:Int):S:=⟨83,[(0,.d (.sl 5 l)),(3,.d (.bool true)),(4,.hd 0 0),(5,.ref 1 0 0),(6,iD i)],[(0,⟨0,none,.deep (wL ⟨[],[]⟩) (JQ ⟨[],[]⟩)⟩),(1,⟨0,none,.box 35 [.sl 2 0 0,.sl 3 0 0]⟩),(2,⟨0,none,.arr 67 false []⟩),(3,⟨0,none,.arr 57 false []⟩)]⟩
abbrev qS(l:List D)(st:JL)(i:Int):S:=⟨83,[(0,.d (.sl 5 l)),(3,.d (.bool true)),(4,.hd 0 0),(5,.ref 1 0 0),(6,iD i)],[(0,⟨0,none,.deep (wL st) (JQ st)⟩),(1,⟨0,none,.box 35 [.rT 2 0 st.o.length,.sl 3 0 st.d.length]⟩),(2,⟨0,none,.deep (.sl 1 (st.o.map qJ)) (RQ st.o)⟩),(3,⟨0,none,.arr 57 false (st.d.map jF)⟩)]⟩
def uR:P:=P.hd 0 0
def HY:List P:=[uR]
def IX(jc:JL)(Bs:aY):Bool:=Prod.fst (Prod.snd (Prod.fst (eF jc Bs)))
def HZ(st:JL)(f:aY):Int:=Prod.snd (Prod.snd (Prod.fst (eF st f)))
def Gx(jc:JL)(Bs:aY):List (Nat×En):=[(0,En.mk 0 (some 0) (Obj.deep (D.agg [D.sl 1 (List.map qJ (JL.o (Prod.snd (eF jc Bs)))),D.sl 1 (List.map (λ(x:Int×Int)=>fI (Prod.fst x) (Prod.snd x)) (JL.d (Prod.snd (eF jc Bs))))]) (JQ (Prod.snd (eF jc Bs)))))]
def Ns:List P:=[uR,P.d (D.agg [Zp,D.int .i64 (7:Int),D.int .i64 (0:Int),D.int .i64 (3:Int),D.str [(97:UInt8),(98:UInt8)]])]
def Kp(f:aY):Prop:=List.length (Prod.snd (Prod.snd (Prod.snd (Prod.snd f))))<=100
def FO(st:JL)(f:aY):Prop:=Bl st/\Kp f
def Kq(st:JL):Obj:=Obj.deep (D.agg [D.sl 1 (List.map qJ (JL.o st)),D.sl 1 (List.map (λ(x:Int×Int)=>fI (Prod.fst x) (Prod.snd x)) (JL.d st))]) (JQ st)
def Bt(st:JL):List (Nat×En):=[(0,En.mk 0 (some 0) (Kq st))]
def Kr:Obj:=Obj.deep (D.agg [D.sl 1 [],D.sl 1 []]) (JQ (JL.mk [] []))
def Lv:List (Nat×En):=[(0,En.mk 0 (some 0) Kr)]
def Ef(f:aY):List P:=[P.d (D.agg [D.int .i64 (Prod.fst f),D.int .i64 (Prod.fst (Prod.snd f)),D.int .i64 (Prod.fst (Prod.snd (Prod.snd f))),D.int .i64 (Prod.fst (Prod.snd (Prod.snd (Prod.snd f)))),D.str (Prod.snd (Prod.snd (Prod.snd (Prod.snd f))))])]
theorem Ks(ae:P×List (Nat×En)->Prop):(ZP/\ZQ/\ ∃(st:JL) (f:aY),[uR,P.d (D.agg [Zp,D.int .i64 (7:Int),D.int .i64 (2:Int),D.int .i64 (3:Int),D.str [(101:UInt8)]])]=uR::Ef f/\Lv=Bt st/\FO st f/\ ∃(eD:JL) (rS:aY),Ns=uR::Ef rS/\Gx st f=Bt eD/\FO eD rS/\ ∃(st:JL) (f:aY),Ns=uR::Ef f/\Gx eD rS=Bt st/\FO st f/\ ∃(jc:JL) (Bs:aY),[uR,P.d (D.agg [Zp,D.int .i64 (7:Int),Zp,D.int .i64 (3:Int),D.str [(99:UInt8),(100:UInt8)]])]=uR::Ef Bs/\Gx st f=Bt jc/\FO jc Bs/\bif HZ st f==(210:Int) then bif Prod.fst (Prod.fst (eF jc Bs))==[(97:UInt8),(98:UInt8),(99:UInt8),(100:UInt8),(101:UInt8)] then bif IX jc Bs then bif HZ jc Bs==(0:Int) then∃(st:JL),HY=HY/\Gx jc Bs=Bt st/\ae (P.d (D.bool ((↑(List.length (JL.o st)):Int)==(0:Int))),[]) else ZJ ae else ZJ ae else ZJ ae else ZJ ae)=(mO [(12,oD),(13,mT),(15,uH)] [] 8 [] []) ae:=by kernel_rfl
def Kt:List (Nat×P):=[(3,ZN)]
def IY(ae:PX×S->Prop):Prop:=ae (PX.exit 0,S.mk 83 Kt [])
def Oh:List (Nat×En):=[(0,En.mk 0 (some 0) (Obj.box (35:TypeId) [P.sl 1 0 0,P.sl 2 0 0])),(1,En.mk 0 (some 1) (Obj.arr (67:TypeId) false [])),(2,En.mk 0 (some 2) (Obj.arr (57:TypeId) false []))]
def Nt(jc:JL)(eD:JL)(rS:aY):List (Nat×En):=[(0,En.mk 0 none (Kq jc)),(1,En.mk 0 none (Obj.box (35:TypeId) [P.rT 2 0 (List.length (JL.o (Prod.snd (eF eD rS)))),P.sl 3 0 (List.length (JL.d (Prod.snd (eF eD rS))))])),(2,En.mk 0 none (Obj.deep (D.sl 1 (List.map qJ (JL.o (Prod.snd (eF eD rS))))) (RQ (JL.o (Prod.snd (eF eD rS)))))),(3,En.mk 0 none (Obj.arr (57:TypeId) false (List.map jF (JL.d (Prod.snd (eF eD rS))))))]
def Nu(jc:JL)(eD:JL)(rS:aY):Bool:=(↑(List.length (JL.o jc)):Int) !=(↑(List.length (JL.o (Prod.snd (eF eD rS)))):Int)
def IZ(ae:PX×S->Prop):Prop:=ae (PX.ret,S.mk 83 ((2,ZG)::Kt) [])
def Nv(eD:JL)(rS:aY)(z:Bool):Prop:=Bl eD/\List.length (JL.d eD)<=900000/\Kp rS/\(z=true->eD=JL.mk [] [])
def Nw(s1:List (Nat×En))(eD:JL)(z:Bool):Prop:=s1=Bool.rec ((λ(st:JL)=>rR (some 0) (some 1) (some 2) st) eD) ((λ(x:JL)=>Nk) eD) z
def Lw(st:JL)(f:aY)(ae:PX×S->Prop)(i:Int)(l:List aY):List P->List (Nat×En)->Prop:=λ(s0:List P) (s1:List (Nat×En))=> ∃(z:Bool) (eD:JL) (rS:aY),s0=mU::Ef rS/\Nw s1 eD z/\Nv eD rS z/\bif !Prod.fst (Prod.fst (eF st f))==Prod.fst (Prod.fst (eF eD rS)) then IZ ae else bif !IX st f==IX eD rS then IZ ae else bif HZ st f !=HZ eD rS then IZ ae else∃(jc:JL),HY=HY/\Gx st f=Bt jc/\bif Nu jc eD rS then IZ ae else ob (Zk i) (ae (PX.normal,S.mk 83 [(0,ZH l),(3,ZN),(4,uR),(5,P.ref 1 0 0),(6,Zl i)] (Nt jc eD rS)))
def Lx(ae:PX×S->Prop):Prop:=ae (PX.ret,S.mk 83 ((2,ZN)::Kt) [])
def Ly(l:List aY)(i:Int):Bool:=decide ((↑(List.length (D.nj (D.gm (Zg l i) 4))):Int)>(100:Int))
theorem Ku(l:List aY)(i:Int)(ae:PX×S->Prop):(bif decide (i<ZE l) then bif decide (i<(200:Int)) then ob (ZF i l) (ob (Zh l i) (bif Ly l i then Lx ae else ob (ZF i l) (ob (Zh l i) (∃(st:JL) (f:aY),[uR,P.d (Zm l i)]=uR::Ef f/\Lv=Bt st/\FO st f/\ob (ZF i l) (ob (Zh l i) (Lw st f ae i l [mU,P.d (Zm l i)] Oh)))))) else IY ae else IY ae)=(de [(13,mT),(14,oC),(15,uH)] [] 4 8 (je (l.map eT) i)) ae:=by kernel_rfl
def Oi(st:JL):List (Nat×En):=[(0,En.mk 0 (some 0) (Obj.box (35:TypeId) [P.rT 1 0 (List.length (JL.o st)),P.sl 2 0 (List.length (JL.d st))])),(1,En.mk 0 (some 1) (Obj.deep (D.sl 1 (List.map qJ (JL.o st))) (RQ (JL.o st)))),(2,En.mk 0 (some 2) (Obj.arr (57:TypeId) false (List.map jF (JL.d st))))]
theorem Kv(l:List aY)(st:JL)(i:Int)(ae:PX×S->Prop):(bif decide (i<ZE l) then bif decide (i<(200:Int)) then ob (ZF i l) (ob (Zh l i) (bif Ly l i then Lx ae else ob (ZF i l) (ob (Zh l i) (∃(eD:JL) (f:aY),[uR,P.d (Zm l i)]=uR::Ef f/\Bt st=Bt eD/\FO eD f/\ob (ZF i l) (ob (Zh l i) (Lw eD f ae i l [mU,P.d (Zm l i)] (Oi st))))))) else IY ae else IY ae)=(de [(13,mT),(14,oC),(15,uH)] [] 4 8 (qS (l.map eT) st i)) ae:=by kernel_rfl
theorem DP{t:Option Nat}{x y:JL}(h:rJ t x=rJ t y):x=y:=by simp only[rJ,zbb,za9,En.mk.injEq,Obj.deep.injEq,zcc,zb3] at h;exact Di h.1
theorem H0{a b c:Option Nat}{x y:JL}(h:rR a b c x=rR a b c y):x=y:=by simp only[rR,zbb,za9,En.mk.injEq,Obj.deep.injEq,Obj.arr.injEq,D.sl.injEq,zcc,zb3] at h;obtain⟨o1,d1⟩:=x;obtain⟨o2,d2⟩:=y;have e1:=kU (λ_ _=>wM) h.2.1.1;have e2:=kU (f:=jF) (λ_ _=>Dh) h.2.2;dsimp only at e1 e2;rw[e1,e2]
theorem FP:Ko oD:=by intro ps R y ae h h';rw[<-h.2.2];exact h'.2.2
theorem H2:Ko uH:=by intro ps R y ae h h';obtain⟨st,_,rfl,e⟩:=h;obtain⟨st',_,e2,hp⟩:=h';have:=DP e2;subst this;rw[<-e];exact hp
theorem DQ:Ko mT:=by intro ps R y ae h h';obtain⟨st,f,rfl,rfl,_,e⟩:=h;obtain⟨st',f',e1,e2,_,hp⟩:=h';have:=DP e2;subst this;simp only[zbb,P.d.injEq,zcc,zb3] at e1;have:=yi e1;subst this;rw[<-e];exact hp
theorem DR:Ko oC:=by
 intro ps R y ae h h';obtain⟨z,st,f,rfl,rfl,⟨_,_,_,h0⟩,e⟩:=h;obtain⟨z',st',f',e1,e2,⟨_,_,_,KN⟩,hp⟩:=h';simp only[zbb,P.d.injEq,zcc,zb3] at e1;have:=yi e1;subst this;have es:st=st':=by
  cases z<;>cases z'
  ·exact H0 e2
  ·simp[Nl] at e2
  ·simp[Nl] at e2
  rw[h0 rfl,KN rfl]
 subst es;rw[<-e];exact hp
theorem H3(ps:List P)(R:List (Nat×En))(ae:P×List (Nat×En)->Prop)(h:oD ps R ae): ∃y,oD ps R (λz=>z=y):=⟨_,h.1,h.2.1,rfl⟩
theorem Kw(ps:List P)(R:List (Nat×En))(ae:P×List (Nat×En)->Prop)(h:uH ps R ae): ∃y,uH ps R (λz=>z=y):=by obtain⟨st,h1,h2,_⟩:=h;exact⟨_,st,h1,h2,rfl⟩
theorem FQ(ps:List P)(R:List (Nat×En))(ae:P×List (Nat×En)->Prop)(h:mT ps R ae): ∃y,mT ps R (λz=>z=y):=by obtain⟨st,f,h1,h2,h3,_⟩:=h;exact⟨_,st,f,h1,h2,h3,rfl⟩
theorem FR(ps:List P)(R:List (Nat×En))(ae:P×List (Nat×En)->Prop)(h:oC ps R ae): ∃y,oC ps R (λz=>z=y):=by obtain⟨z,st,f,h1,h2,h3,_⟩:=h;exact⟨_,z,st,f,h1,h2,h3,rfl⟩
noncomputable def Qd:XF:=wD.tell 12 (oE oD) (by kernel_rfl)
noncomputable def Qe:XF:=Qd.tell 13 (oE mT) (by kernel_rfl)
noncomputable def Qf:XF:=Qe.tell 15 (oE uH) (by kernel_rfl)
noncomputable def Eg:XF:=Qf.tell 14 (oE oC) (by kernel_rfl)
theorem Gy:FD Eg 12 oD:=FD.told Try.func12 (by kernel_rfl) FP H3 λ_ _=>rfl
theorem DS:FD Eg 13 mT:=FD.told Try.func13 (by kernel_rfl) DQ FQ λ_ _=>rfl
theorem Kx:FD Eg 15 uH:=FD.told Try.func15 (by kernel_rfl) H2 Kw λ_ _=>rfl
theorem H4:FD Eg 14 oC:=FD.told Try.func14 (by kernel_rfl) DR FR λ_ _=>rfl
theorem H5{w1:World}(hw:JO w1):cL Try.prog {w1 with drawn:=0} Eg.cf:=
 XF.pj rfl (XF.pj rfl (XF.pj rfl (XF.pj rfl (wC hw) (E8.K5 (HX (X:=wD) (wC hw)) λ_ _ _ h=>jG h)) (E8.K5 (HE (X:=wD) (wC hw)) λ_ _ _ h=>jG h)) (E8.K5 (Kn (X:=wD) (wC hw)) λ_ _ _ h=>jG h)) (E8.K5 (HU (X:=wD) (wC hw)) λ_ _ _ h=>jG h)
theorem Ky:FD Eg 8 Dc:=FD.mk (by kernel_rfl) (.cons Gy (.cons DS (.cons Kx .nil))) .nil (by
 intro ps R ae hh;obtain⟨rfl,rfl,hp⟩:=hh
 (rw[<-Ks];delta ZG ZJ uR HY IX HZ Gx Zp Ns Kp FO Kq Bt Kr Lv Ef ZQ ZP)
 have j1:=(uy (f:=(1,7,2,3,[101])) HA (by decide)).1;have j2:=(uy (f:=(1,7,0,3,[97,98])) j1 (by decide)).1;have j3:=(uy (f:=(1,7,0,3,[97,98])) j2 (by decide)).1;refine⟨rfl,rfl,_,(1,7,2,3,[101]),rfl,rfl,⟨HA,by decide⟩,_,(1,7,0,3,[97,98]),rfl,rfl,⟨j1,by decide⟩,_,(1,7,0,3,[97,98]),rfl,rfl,⟨j2,by decide⟩,_,(1,7,1,3,[99,100]),rfl,rfl,⟨j3,by decide⟩,oc (by decide) (oc (by decide) (oc (by decide) (oc (by decide) ⟨_,rfl,rfl,?_⟩)))⟩;exact hp)
theorem Gz{l:List aY}{i:Nat}(h:i<l.length):D.nth (l.map eT) i=eT l[i]:=l8 eT h
def uI(l:List D)(x:JL×Int):S:=if x.2=0 then je l x.2 else qS l x.1 x.2
structure Kz(st:JL)(i:Int):Prop where
 z:i=0->st=⟨[],[]⟩
 j:Bl st
 d:(st.d.length:Int)<=i
 i:0<=i/\i<=300
theorem Kz.step{st:JL}{i:Int}(h:Kz st i){f:aY}(hf:f.2.2.2.2.length<=100)(hi:i<300):Kz (eF st f).2 (i+1):=by obtain⟨h1,h2⟩:=uy h.j hf;have:=h.i;have:=h.d;exact⟨λe=>by omega,h1,by omega,by omega,by omega⟩
def Oj:S->K (PX×S):=λs ae=> ∃l:List aY,s=je (l.map eT) 0/\(ae (.ret,⟨83,[(2,.d (.bool true)),(3,.d (.bool true))],[]⟩))/\ae (.exit 0,⟨83,[(3,.d (.bool true))],[]⟩)
theorem H6:LD Eg 4 8 (aF (gY 4 8) Oj):=LD.par (by kernel_rfl) (by kernel_rfl) (.cons DS (.cons H4 (.cons Kx .nil))) .nil
 (A:=List aY) (B:=JL×Int) (λl x=>uI (l.map eT) x) (λ_ x=>Kz x.1 x.2) (λ_ x=>(300-x.2).toNat)
 (λ_ x=>x=(.ret,⟨83,[(2,.d (.bool true)),(3,.d (.bool true))],[]⟩)\/x=(.exit 0,⟨83,[(3,.d (.bool true))],[]⟩))
 (by
  rintro l ⟨st,i⟩ h;dsimp only at h⊢;obtain⟨i0,i3⟩:=h.i;have hd:=h.d;have key: ∀f:aY,f.2.2.2.2.length<=100->i<200->roundPost (300-i).toNat (λm s=> ∃b':JL×Int,s=uI (l.map eT) b'/\Kz b'.1 b'.2/\m=(300-b'.2).toNat) (λx=>x=(.ret,⟨83,[(2,.d (.bool true)),(3,.d (.bool true))],[]⟩)\/x=(.exit 0,⟨83,[(3,.d (.bool true))],[]⟩)) (.normal,qS (l.map eT) (eF st f).2 (i+1)):=λf hf hi=>by
   refine⟨_,?_,((eF st f).2,i+1),?_,h.step hf (by omega),rfl⟩
   ·dsimp only;omega
   unfold uI;dsimp only;rw[zaC (by omega)]
  unfold uI;dsimp only;split
  next hz=>
   have GZ:=h.z hz;subst GZ
   (rw[<-Ku];delta ZN Kt IY Oh mU Kq Nt Zl uR ZH Zj Zi Zk Nu Bt Gx HY HZ IX ZG IZ Kp Nv Nw Ef Lw FO Kr Lv Zf Zg Zm Lx Ly Zh ZE ZF)
   refine aQ (λg1=> ?_) λ_=> .inr rfl;rw[zai] at g1;have hi:i.toNat<l.length:=by omega
   rw[Gz hi];refine aQ (λg2=> ?_) λ_=> .inr rfl;refine aD ⟨i0,by rw[zai];exact g1⟩ (bY (iI _) (aQ (λ_=> .inl rfl) λg3=> ?_));have hl:l[i.toNat].2.2.2.2.length<=100:=by have g3: ¬((l[i.toNat].2.2.2.2.length:Int)>100):=g3;omega
   generalize l[i.toNat]=f at*
   refine aD ⟨i0,by rw[zai];exact g1⟩ (bY (iI _) ⟨⟨[],[]⟩,f,rfl,rfl,⟨h.j,hl⟩,aD ⟨i0,by rw[zai];exact g1⟩ (bY (iI _) ⟨true,⟨[],[]⟩,f,rfl,rfl,⟨h.j,by simp,hl,λ_=>rfl⟩,?_⟩)⟩);refine od (by simp) (od (by simp) (od (by simp) ⟨_,rfl,rfl,od (by simp) (aD (by omega) ?_)⟩));exact key f hl g2
  rename_i hz
  (rw[<-Kv];delta ZN Kt IY Oi mU Kq Nt Zl uR ZH Zj Zi Zk Nu Bt Gx HY HZ IX ZG IZ Kp Nv Nw Ef Lw FO Zf Zg Zm Lx Ly Zh ZE ZF)
  refine aQ (λg1=> ?_) λ_=> .inr rfl;rw[zai] at g1;have hi:i.toNat<l.length:=by omega
  rw[Gz hi];refine aQ (λg2=> ?_) λ_=> .inr rfl;refine aD ⟨i0,by rw[zai];exact g1⟩ (bY (iI _) (aQ (λ_=> .inl rfl) λg3=> ?_));have hl:l[i.toNat].2.2.2.2.length<=100:=by have g3: ¬((l[i.toNat].2.2.2.2.length:Int)>100):=g3;omega
  generalize l[i.toNat]=f at*
  refine aD ⟨i0,by rw[zai];exact g1⟩ (bY (iI _) ⟨st,f,rfl,rfl,⟨h.j,hl⟩,aD ⟨i0,by rw[zai];exact g1⟩ (bY (iI _) ⟨false,st,f,rfl,rfl,⟨h.j,by omega,hl,λe=>by cases e⟩,?_⟩)⟩);refine od (by simp) (od (by simp) (od (by simp) ⟨_,rfl,rfl,od (by simp) (aD (by omega) ?_)⟩));exact key f hl g2)
 (by
  rintro s ae ⟨l,rfl,h1,h2⟩;refine⟨l,(⟨[],[]⟩,0),rfl,⟨λ_=>rfl,HA,by decide,by decide,by decide⟩,?_⟩;rintro x (rfl |rfl)
  ·exact h1
  exact h2)
def Ok:List (Nat×En):=[(0,En.mk 0 none Kr),(1,En.mk 0 none (Obj.box (35:TypeId) [P.sl 2 0 0,P.sl 3 0 0])),(2,En.mk 0 none (Obj.arr (67:TypeId) false [])),(3,En.mk 0 none (Obj.arr (57:TypeId) false []))]
def Nx(wE:List aY):S:=S.mk 83 [(0,ZH wE),(3,ZN),(4,uR),(5,P.ref 1 0 0),(6,Zy)] Ok
theorem KA(l:List aY)(ae:P×List (Nat×En)->Prop):(ZP/\ZQ/\ZP/\ZQ/\ ∃(wE:List aY),Nx l=Nx wE/\ZO ae/\ZO ae)=(mO [(8,Dc),(12,oD)] [(8,aF (gY 4 8) Oj)] 4 [.d (.sl 5 (l.map eT))] []) ae:=by kernel_rfl
def Ny:cR:=λps R ae=> ∃l:List aY,ps=[.d (.sl 5 (l.map eT))]/\R=[]/\ae (.d (.bool true),[])
theorem KB:FD Eg 4 Ny:=FD.mk (by kernel_rfl) (.cons Ky (.cons Gy .nil)) (.cons H6 .nil) (by
 intro ps R ae hh;obtain⟨l,rfl,rfl,hp⟩:=hh
 (rw[<-KA];delta ZN ZO Kr Ok Zy uR ZH Nx ZQ ZP)
 exact⟨rfl,rfl,rfl,rfl,l,rfl,hp,hp⟩)
theorem zE{α:Type}(f:α->D)(P:D->Prop)(Q:α->Prop)(h1: ∀y,P y-> ∃x,y=f x/\Q x): ∀es:List D,(∀y∈es,P y)-> ∃l:List α,es=l.map f/\ ∀x∈l,Q x
 | [],_=>⟨[],rfl,λ_ h=>by cases h⟩
 |y::es,hy=>by
  obtain⟨l,rfl,hl⟩:=zE f P Q h1 es λy h=>hy y (.tail _ h);obtain⟨x,rfl,hx⟩:=h1 y (hy y (.head _));refine⟨x::l,rfl,λz hz=> ?_⟩;rcases zan.1 hz with rfl |hz
  ·exact hx
  exact hl z hz
theorem KC{m:Nat}{x:D}(h:ye PR (m+4) 37 x): ∃p:aY,x=eT p/\True:=by
 obtain⟨cs,rfl,hl,hf⟩:=wj (k:=5) Try.underlying37 (by kernel_rfl) h;obtain⟨a,b,c,d,e,rfl⟩: ∃a b c d e,cs=[a,b,c,d,e]:=by
  match cs,hl with
  | [a,b,c,d,e],_=>exact⟨a,b,c,d,e,rfl⟩
 have c1:PR.cellsOf 9=1:=by kernel_rfl
 have c2:PR.cellsOf 3=1:=by kernel_rfl
 have g1:=hf _ (zbE ..);have g2:=hf _ (zaB _ (zbE ..));have g3:=hf _ (zaB _ (zaB _ (zbE ..)));have g4:=hf _ (zaB _ (zaB _ (zaB _ (zbE ..))));have g5:=hf _ (zaB _ (zaB _ (zaB _ (zaB _ (zbE ..)))));simp only[c1,c2,zcg,List.drop_succ_cons,List.take_succ_cons,List.take_zero] at g1 g2 g3 g4 g5;obtain⟨x1,rfl,_⟩:=o7 Try.underlying3 g1;obtain⟨x2,rfl,_⟩:=o7 Try.underlying3 g2;obtain⟨x3,rfl,_⟩:=o7 Try.underlying3 g3;obtain⟨x4,rfl,_⟩:=o7 Try.underlying3 g4;obtain⟨s,rfl,_⟩:=E3 Try.underlying9 g5;exact⟨(x1,x2,x3,x4,s),rfl,trivial⟩
theorem l9(xs:List D)(h:l0 PR 8 [23] xs): ∃lf k R,dh PR (D1 Eg) lf k 4 (xs.map P.d) []=some (.d (.bool true),R):=by obtain⟨x,r,rfl,hx,h⟩:=fitAll_cons h;have e:=fitAll_nil h;subst e;obtain⟨es,rfl,_,hy⟩:=yf (k:=5) Try.underlying23 (by kernel_rfl) hx;obtain⟨l,rfl,_⟩:=zE eT _ _ (λy hy=>KC hy) es hy;obtain⟨lf,k,hr⟩:=KB.run (y:=(.d (.bool true),[])) ⟨l,rfl,rfl,rfl⟩;exact⟨lf,k,[],hr⟩
end Pi
