/- The texts X3Shelf XBld K3 X3 S3 FrP Fr1 QP Fr1H FrQ TrA FtP Fr2 SN Ft0 Ft1 JnF Ft1H LdP InsP FtQ DpP Ft2P Ft2H Ft3H Ft4H Fv1 Fu1 Fu2 Fu3 Fu2H Fu3H LnF Fu4H Fu5H Fu6P Fu6H Fu7H Fu8H Fv1H TellP Fv2 Fv2H Fv3 Fv3H Fv4H. -/
import Derived.Test.YtpiohccneeblhaaPiYr
import Derived.Shelf.LaysM
import Derived.Shelf.LaysC
import Derived.Shelf.Strings.OnBuilder
import Derived.Test.YtpiohccneeblhaaProg
import Derived.KernelRfl
namespace Go.Proofs
open Go.Shelf
def Try.ot:Go.Shelf.Ren:=⟨λ|169=>25 |n=>n,λ|70=>70 |9=>9 |0=>0 |72=>72 |37=>46 |127=>79 |3=>3 |5=>5 |n=>n,λ|n=>n⟩
theorem Try.Fv:Go.Proofs.Lays.n169 Try.prog Try.ot:={
 mixed:=by kernel_rfl
 f169:=Try.func25.trans (congrArg some (by kernel_rfl))
 t0:=Try.underlying0
 a0:=Try.isAgg0
 z0:=Try.sizeOf0
 v0:=Try.zeroValue0
 t3:=Try.underlying3
 a3:=Try.isAgg3
 z3:=Try.sizeOf3
 v3:=Try.zeroValue3
 t9:=Try.underlying9
 a9:=Try.isAgg9
 z9:=Try.sizeOf9
 v9:=Try.zeroValue9
 t37:=Try.underlying46
 a37:=Try.isAgg46
 z37:=Try.sizeOf46
 v37:=Try.zeroValue46
 t70:=Try.underlying70
 a70:=Try.isAgg70
 z70:=Try.sizeOf70
 v70:=Try.zeroValue70
 t72:=Try.underlying72
 a72:=Try.isAgg72
 z72:=Try.sizeOf72
 v72:=Try.zeroValue72
 t127:=Try.underlying79
 a127:=Try.isAgg79
 z127:=Try.sizeOf79
 v127:=Try.zeroValue79}
theorem Try.mR:Builder.Extra Try.prog Try.ot:={
 sizeBuilder:=by kernel_rfl
 liesBuilder:=by kernel_rfl
 t5:=Try.underlying5
 a5:=Try.isAgg5
 z5:=Try.sizeOf5
 v5:=Try.zeroValue5
 infoByte:=by kernel_rfl
 cellsByte:=by kernel_rfl
 sizeByte:=by kernel_rfl
 neB5:=by decide}
open Go.RowKit in
theorem Try.Builder_String(B b:Nat)(l:List UInt8)(w:World)(h:Lib.IsBuilder 72 5 B b (Lib.byteCells l) w)(h0:l≠[]):
 Calls Try.prog 25 #[.pointer (some ⟨b,0,none⟩)] w λe w'=>e= .returned (.string ⟨l.toArray⟩)/\Below B w w':=Any.Builder_String Try.Fv Try.mR B b l w h h0
def Try.ou:Go.Shelf.Ren:=⟨λ|156=>17 |165=>23 |166=>24 |169=>25 |240=>26 |241=>27 |276=>28 |277=>29 |n=>n,λ|31=>59 |9=>9 |3=>3 |4=>4 |0=>0 |20=>20 |72=>72 |76=>76 |70=>70 |37=>46 |75=>75 |127=>79 |164=>80 |5=>5 |80=>78 |n=>n,λ|n=>n⟩
theorem Try.zy:Go.Proofs.Lays.n156 Try.prog Try.ou:={
 mixed:=by kernel_rfl
 f156:=Try.func17.trans (congrArg some (by kernel_rfl))
 f165:=Try.func23.trans (congrArg some (by kernel_rfl))
 f166:=Try.func24.trans (congrArg some (by kernel_rfl))
 f169:=Try.func25.trans (congrArg some (by kernel_rfl))
 f240:=Try.func26.trans (congrArg some (by kernel_rfl))
 f241:=Try.func27.trans (congrArg some (by kernel_rfl))
 f276:=Try.func28.trans (congrArg some (by kernel_rfl))
 f277:=Try.func29.trans (congrArg some (by kernel_rfl))
 t0:=Try.underlying0
 a0:=Try.isAgg0
 z0:=Try.sizeOf0
 v0:=Try.zeroValue0
 t3:=Try.underlying3
 a3:=Try.isAgg3
 z3:=Try.sizeOf3
 v3:=Try.zeroValue3
 t4:=Try.underlying4
 a4:=Try.isAgg4
 z4:=Try.sizeOf4
 v4:=Try.zeroValue4
 t9:=Try.underlying9
 a9:=Try.isAgg9
 z9:=Try.sizeOf9
 v9:=Try.zeroValue9
 t20:=Try.underlying20
 a20:=Try.isAgg20
 z20:=Try.sizeOf20
 v20:=Try.zeroValue20
 t31:=Try.underlying59
 a31:=Try.isAgg59
 z31:=Try.sizeOf59
 v31:=Try.zeroValue59
 t37:=Try.underlying46
 a37:=Try.isAgg46
 z37:=Try.sizeOf46
 v37:=Try.zeroValue46
 t70:=Try.underlying70
 a70:=Try.isAgg70
 z70:=Try.sizeOf70
 v70:=Try.zeroValue70
 t72:=Try.underlying72
 a72:=Try.isAgg72
 z72:=Try.sizeOf72
 v72:=Try.zeroValue72
 t75:=Try.underlying75
 a75:=Try.isAgg75
 z75:=Try.sizeOf75
 v75:=Try.zeroValue75
 t76:=Try.underlying76
 a76:=Try.isAgg76
 z76:=Try.sizeOf76
 v76:=Try.zeroValue76
 t127:=Try.underlying79
 a127:=Try.isAgg79
 z127:=Try.sizeOf79
 v127:=Try.zeroValue79
 t164:=Try.underlying80
 a164:=Try.isAgg80
 z164:=Try.sizeOf80
 v164:=Try.zeroValue80}
theorem Try.iv:Builder.Extra Try.prog Try.ou:={
 sizeBuilder:=by kernel_rfl
 liesBuilder:=by kernel_rfl
 t5:=Try.underlying5
 a5:=Try.isAgg5
 z5:=Try.sizeOf5
 v5:=Try.zeroValue5
 infoByte:=by kernel_rfl
 cellsByte:=by kernel_rfl
 sizeByte:=by kernel_rfl
 neB5:=by decide}
open Go.RowKit in
theorem Try.strings_Join_none(a:Option Addr)(c:Nat)(sep:ByteArray)(w:World):
 Calls Try.prog 17 #[.slice a 0 c,.string sep] w λe w'=>e= .returned (.string ⟨#[]⟩)/\w'=w:=Any.strings_Join_none Try.zy Try.iv a c sep w
open Go.RowKit in
theorem Try.strings_Join(bk o c:Nat)(xs:List ByteArray)(sep:ByteArray)(w:World)(HK: ∀(j:Nat) x,xs[j]?=some x->w.cell? ⟨bk,o+j,none⟩=some (.string x))(EV:bk<w.heap.size)(hN:xs.length<=140737488355328)(lP:xs.length<=c)(hlen:(Lib.join (xs.map (·.data.toList)) sep.data.toList).length<=140737488355328):
 Calls Try.prog 17 #[.slice (some ⟨bk,o,none⟩) xs.length c,.string sep] w λe w'=>e= .returned (.string ⟨(Lib.join (xs.map (·.data.toList)) sep.data.toList).toArray⟩)/\Below w.heap.size w w':=Any.strings_Join Try.zy Try.iv bk o c xs sep w HK EV hN lP hlen
end Go.Proofs
namespace Pi
open Go Go.Proofs Go.RowKit Go.Shelf
section
variable{w0:World}
theorem aL.drew{T:Tg}{F:Nat->Prop}{G:Nat->Value}{w:World}{R:List (Nat×En)}(h:aL Try.prog T F G w R):aL Try.prog T F G w.drew R:=by have hn:Names G G R R:=Names.refl G R;exact⟨h.mf,h.size,λt p hp=>by simp[lk] at hp,λn e he=>(h.rg n e he).mono (λ_ h=>h) (λ_ _=>rfl) hn rfl (λ_ _=>rfl),h.own,h.gG,h.fw,h.tag,h.z,Nat.le_succ_of_le h.dr,h.sz⟩
end
end Pi
namespace Pi
open Go Go.Proofs
set_option maxRecDepth 100000
set_option maxHeartbeats 0
def Kj:List (Nat×List (Nat×List Nat×List Nat)):=[(4,[(8,[0,3,4,5,6],[2,3])]),
 (5,[(8,[0,1,5,6,7,8],[4,5])]),
 (6,[(11,[0,2,7,8,10,11],[0,2,7,8,10]),(20,[0,2,7,8,12,13,14,15,16],[6,7,12,15])]),
 (7,[(13,[0,1,7,8,10,12,13,14,15],[0,1,6,7,13,14])]),
 (9,[(8,[0,1,2,3,10],[10]),(13,[10,60,61],[10])]),
 (10,[(10,[0,1,2,3,10,11,12],[11])]),
 (11,[(4,[0,1,5],[4])]),
 (14,[(10,[0,3,7,8],[0,3,4,5,6,7]),(21,[0,3,7,9,10],[0,3,7,9]),(29,[0,3,7,9,11,12],[0,3,7,11])]),
 (17,[(12,[0,1,5,39,40,41],[0,1,5]),(22,[1,8,63,64,65],[8])]),
 (19,[(2,[0,3,5],[0,4])]),
 (20,[(2,[0,3,5],[0,4])])]
def HL:List (Nat×List (Nat×Nat)):=[(4,[(14,1)]),
 (5,[(14,1),(17,1)]),
 (14,[(16,1),(23,1),(33,1)]),
 (16,[(4,1)]),
 (23,[(3,1)]),
 (25,[(1,1)]),
 (27,[(0,1)])]
def Kk:List Nat:=[17]
def HM:List Nat:=Kk++[12,13,15,14]
def Nd:List Nat:=[]
def gY(f id:Nat):Option (List Nat×List Nat):=if Nat.beq id 999999 then(if eV f Nd then some ([],[]) else none) else match lk Kj f with |some l=>lk l id |none=>none
abbrev Fw:tq:=⟨gY,HM,λ_ _ _=>none⟩
end Pi
namespace Pi
open Go Go.Proofs Go.RowKit
def kS:List D->Option (List (List UInt8))
 | []=>some []
 | .str s::r=>match kS r with |some l=>some (s::l)|none=>none
 |_=>none
def wM:TF
 | [.d (.sl 1 es),.d (.str c)],[]=>match kS es with
  |some l=>if l.length<=140737488355328/\(Lib.join l c).length<=140737488355328 then some (.d (.str (Lib.join l c)),[]) else none
  |none=>none
 |_,_=>none
noncomputable def xL:List (Nat×TF):=[(17,wM)]
noncomputable def xB:CF:=Ly xL
structure Kl(w0:World):Prop where
 t:True
theorem Kl.zero{w0:World}(h:Kl w0):Kl {w0 with drawn:=0} where
 t:=trivial
section
variable{w0:World}
theorem HO{F:Nat->Prop}{w:World}{G:Nat->Value}{R:List (Nat×En)}{v:Value}{s:List UInt8}(h:ao F w G R v (.d (.str s))):v= .string ⟨⟨s⟩⟩:=ao.br (p:= .d (.str s)) h rfl
theorem ov: ∀(es:List D) (l:List (List UInt8)),kS es=some l->es=l.map D.str
 | [],l,h=>by simp[kS] at h;subst h;rfl
 |x::es,l,h=>by
  cases x<;>try (simp[kS] at h;done)
  rename_i s;simp only[kS] at h;split at h
  next l' hl=>simp at h;subst h;rw[ov es l' hl];rfl
  cases h
theorem Dr:Fq Try.prog w0 17 wM:=by
 intro h0 ps R p R1 h F G w vs hH hl hv;unfold wM at h;split at h
 next es c=>
  split at h
  next l Dc=>
   have Dc:=ov es l Dc;subst Dc;split at h
   ·rename_i hc;simp only[zaf,za9] at h;obtain⟨rfl,rfl⟩:=h
    match vs,hl,hv with
    | [v,u],_,hv=>
     have h1:=hv 0 v _ rfl rfl;have e2:u= .string ⟨⟨c⟩⟩:=HO (hv 1 u _ rfl rfl);subst e2;refine A0 h0 hH (enters Try.func17 (by kernel_rfl) (by kernel_rfl) _ w) ?_;cases h1 with
     |d h1=>
      generalize Dc:l.map D.str=es at h1;cases h1 with
      |Bp a k cap=>
       have:l=[]:=by simpa using Dc
       subst this;exact(Try.strings_Join_none a cap ⟨⟨c⟩⟩ w).mono λe w' ⟨he,hb⟩=>⟨_,he,hb▸Below.refl _ _,λF G=> .d (.str _)⟩
      |Bq b off k cap es f lP hb hk aW hw hr=>
       subst Dc;have hj:=Try.strings_Join b off cap (l.map λx=>⟨⟨x⟩⟩) ⟨⟨c⟩⟩ w (λj x hx=>by
        rw[zai] at hx;cases hi:l[j]? with
        |none=>rw[hi] at hx;cases hx
        |some s=>rw[hi] at hx;cases hx;have yY:j<l.length:=(zaa.1 hi).1;rw[hw j (by simpa using yY)];have:=hr j 0 (.str s) (.str s) (by rw[zai,hi];rfl) rfl;simp only[Nat.mul_one,zbJ] at this;rw[this.dK rfl]) (hH.fw b hb) (by simpa using hc.1) (by simpa using lP) (by simpa [zbZ] using hc.2)
       simp only[zag] at hj⊢;have e:(List.map (λx=>x.data.toList) (List.map (λx=>(⟨⟨x⟩⟩:ByteArray)) l))=l:=by simp[zbZ]
       rw[e] at hj;exact hj.mono λe w' ⟨he,hb⟩=>⟨_,he,hb,λF G=> .d (.str _)⟩
   cases h
  cases h
 cases h
theorem wN{w1:World}(IF:Kl w1):cL Try.prog {w1 with drawn:=0} xB:=by have hw:=IF.zero;exact A1.ok rfl (.cons Dr .nil)
end
end Pi
namespace Pi
open Go Go.Proofs
set_option maxRecDepth 100000
set_option maxHeartbeats 0
structure XF where
 cf:CF
 eq: ∀f,eV f Kk=true-> ∀ps R,cf f ps R=xB f ps R
abbrev Ei(X:XF):tq:=⟨gY,HM,X.cf⟩
def uX(f id:Nat):Nat:=match lk HL f with |some l=>(lk l id).getD 2 |none=>2
theorem Ds:iC uX 0 Try.prog.funcs.toList=true:=by kernel_rfl
noncomputable abbrev PR:=Try.prog
noncomputable def de(H:List (FuncId×cR))(hk:List (Nat×(S->K (PX×S))))(f id:Nat)(s:S):K (PX×S):=
 pB (dn PR (runK PR Fw uX H 60 60) (gY f) hk (uX f) 60 (bA PR f id)) (gY f id) s
noncomputable def mS(H:List (FuncId×cR))(hk:List (Nat×(S->K (PX×S))))(f:Nat)(ps:List P)(R:List (Nat×En)):K (P×List (Nat×En)):=
 iM PR (runK PR Fw uX H 60 60) Fw hk uX 60 f ps R
def FD(X:XF)(f:Nat)(h:cR):Prop:=C7 PR (Ei X) f h
def HD(X:XF)(H:List (FuncId×cR)):Prop:=zq PR (Ei X) H
def LD(X:XF)(f id:Nat)(g:S->K (PX×S)):Prop:= ∀s,KW (g s) (λx=>Ev λa b=>eK (aS PR (dh PR (Ei X) a b) (gY f) a (bA PR f id)) (gY f id) a s=some x)
theorem HD.nil{X:XF}:HD X []:=zq.nil
theorem HD.cons{X:XF}{f:Nat}{h:cR}{H:List (FuncId×cR)}(hf:FD X f h)(hH:HD X H):HD X ((f,h)::H):=zq.cons hf hH
inductive Ej(X:XF)(f:Nat):List (Nat×(S->K (PX×S)))->Prop
 |nil:Ej X f []
 |cons {id:Nat} {g:S->K (PX×S)} {r:List (Nat×(S->K (PX×S)))} (h:LD X f id g) (hr:Ej X f r):Ej X f ((id,g)::r)
theorem Ej.get{X:XF}{f:Nat}{hk:List (Nat×(S->K (PX×S)))}(h:Ej X f hk): ∀id g,lk hk id=some g->LD X f id g:=by
 induction h with
 |nil=>exact zs
 |cons h hr ih=>exact Fp h ih
theorem FD.mk{X:XF}{H:List (FuncId×cR)}{hk:List (Nat×(S->K (PX×S)))}{f:Nat}{h:cR}(hu:uniq PR f=true)(hH:HD X H)(hl:Ej X f hk)(hb: ∀ps R ae,h ps R ae->mS H hk f ps R ae):FD X f h:=
 C7.mk Ds hH hu hl.get (λps R ae hp=>by have:=hb ps R ae hp;unfold mS at this;rw[uA PR gY HM _ X.cf uX H 60 60] at this;exact this)
theorem LD.par{X:XF}{H:List (FuncId×cR)}{hk:List (Nat×(S->K (PX×S)))}{f id:Nat}{g:S->K (PX×S)}(hu:uniq PR f=true)(hc:bE (uX f) (bA PR f id)=true)(hH:HD X H)(hl:Ej X f hk)
  {A B:Type} (hd:A->B->S) (Inv:A->B->Prop) (mu:A->B->Nat) (Out:A->PX×S->Prop)
  (hr: ∀a b,Inv a b->de H hk f id (hd a b) (roundPost (mu a b) (λm s=> ∃b',s=hd a b'/\Inv a b'/\m=mu a b') (Out a)))
  (hg: ∀s ae,g s ae-> ∃a b,s=hd a b/\Inv a b/\ ∀x,Out a x->ae x):LD X f id (aF (gY f id) g):=by
 refine wG λs0 ae hp=> ?_;obtain⟨a,b,rfl,h1,h2⟩:=hg s0 ae hp;obtain⟨x,g1,g2⟩:=Fg (keep:=gY f id) (kp1:=gY f) (O:=Out a) Ds hH hc (λd hd h hh=>by have:=hl.get _ _ hh;unfold LD at this;rwa [sM hu hd] at this) (I:=λm s=> ∃b',s=hd a b'/\Inv a b'/\m=mu a b') (λn s hs=>by obtain⟨b',rfl,h3,rfl⟩:=hs;have:=hr a b' h3;unfold de at this;rw[uA PR gY HM _ X.cf uX H 60 60] at this;exact this) (mu a b) (hd a b) ⟨b,rfl,h1,rfl⟩;exact⟨x,g2,h2 x g1⟩
theorem FD.Lw{X:XF}{f:Nat}{fn:Func}{h:cR}(fg:PR.funcs[f]?=some fn)(hx:eV f HM=true)(Km:eV f Kk=true)(hb: ∀ps R ae,h ps R ae-> ∃x,xB f ps R=some x/\ae x):FD X f h:=
 C7.Lw fg hx λps R ae hp=>by obtain⟨x,h1,h2⟩:=hb ps R ae hp;exact⟨x,by rw[<-h1];exact X.eq f Km ps R,h2⟩
theorem FD.run{X:XF}{f:Nat}{h:cR}(hf:FD X f h){ps:List P}{R:List (Nat×En)}{y:P×List (Nat×En)}(hp:h ps R (λx=>x=y)): ∃lf k,dh PR (Ei X) lf k f ps R=some y:=by obtain⟨x,h1,h2⟩:=hf ps R _ hp;subst h2;exact h1.some
def FC(f:Nat)(h:cR):Prop:=C7 PR Fw f h
def HC(H:List (FuncId×cR)):Prop:=zq PR Fw H
theorem HC.nil:HC []:=zq.nil
theorem HC.cons{f:Nat}{h:cR}{H:List (FuncId×cR)}(hf:FC f h)(hH:HC H):HC ((f,h)::H):=zq.cons hf hH
theorem FC.mk{H:List (FuncId×cR)}{f:Nat}{h:cR}(hu:uniq PR f=true)(hH:HC H)(hb: ∀ps R ae,h ps R ae->mS H [] f ps R ae):FC f h:=
 C7.mk Ds hH hu zs hb
noncomputable def wO:XF:=⟨xB,λ_ _ _ _=>rfl⟩
abbrev bp:=Int×Int×Int×Int×List UInt8
abbrev iD(n:Int):P:= .d (.int .i64 n)
abbrev sD(s:List UInt8):P:= .d (.str s)
def ia(x:bp):D:= .agg [.int .i64 x.1,.int .i64 x.2.1,.int .i64 x.2.2.1,.int .i64 x.2.2.2.1,.str x.2.2.2.2]
abbrev rO(z:Bool)(l:List bp):Obj:= .arr 37 z (l.map ia)
def Zc(o:List bp):En:=En.mk 0 none (Obj.arr (37:TypeId) false (List.map ia o))
def Z2(o:List bp):Nat:=List.length o
def Za(o:List bp):List D:=List.take (Z2 o) (List.map ia o)
def Z4(a:Int):D:=D.int .i64 a
def Z3(o:List bp):Bool:=Nat.ble (Z2 o) (List.length (List.map ia o))
def Zf(i:Int):Nat:=Int.toNat i
def Zg(o:List bp)(i:Int):D:=D.nth (List.map ia o) (Zf i)
def Zl(i:Int):P:=P.d (D.int .i64 (i+(1:Int)))
def Zj:Int:=(9223372036854775807:Int)
def Zi:Int:=(-9223372036854775808:Int)
def Zk(i:Int):Bool:=decide (Zi<=i+(1:Int)/\i+(1:Int)<=Zj)
noncomputable def Zh(o:List bp)(i:Int):Bool:=pz PR (37:TypeId) (Zg o i)
def Ze(i:Int)(m:Int):Bool:=decide (i<m)
def Zy:P:=P.d (D.int .i64 (0:Int))
def Zp:D:=D.int .i64 (1:Int)
def ZI(i:Int):List (Nat×P):=[(5,Zl i)]
def ZG:P:=P.d (D.bool false)
def ZE(l:List bp):Int:=(↑(List.length (List.map ia l)):Int)
def ZF(i:Int)(l:List bp):Bool:=decide ((0:Int)<=i/\i<ZE l)
def ZN:P:=P.d (D.bool true)
def ZO(ae:P×List (Nat×En)->Prop):Prop:=ae (ZN,[])
def ZM(uY:List bp):Prop:=Z2 uY<=1000000
def ZK:List (Nat×P):=[(5,Zy)]
def ZJ(ae:P×List (Nat×En)->Prop):Prop:=ae (ZG,[])
def Dt:cR:=λps R ae=>ps=[]/\R=[]/\ae (.d (.bool true),[])
def ZQ:Prop:=PU [] []
def ZP:Prop:=PT [] []
theorem aw{p:Prop}{i:Decidable p}{A:Prop}(h1:p)(h2:A):cond (@decide p i) A False:=by rw[zbm h1];exact h2
theorem aT{p:Prop}{i:Decidable p}{A B:Prop}(h1:p->A)(h2: ¬p->B):cond (@decide p i) A B:=by
 by_cases h:p
 ·rw[zbm h];exact h1 h
 rw[zbT h];exact h2 h
theorem ow{p:Prop}{i:Decidable p}{A B:Prop}(h1:p)(h2:A):cond (@decide p i) A B:=by rw[zbm h1];exact h2
theorem l7(x:bp):pz PR 37 (ia x)=true:=by obtain⟨a,b,c,d,e⟩:=x;kernel_rfl
section
variable{X:XF}
end
theorem join_nil(l:List (List UInt8)):Lib.join l []=l.flatten:=by
 unfold Lib.join
 induction l with
 |nil=>rfl
 |cons x r ih=>
  cases r with
  |nil=>simp[List.intercalate]
  |cons y r=>simp[List.intercalate] at ih⊢;exact ih
structure Q9{α:Type}(lt:α->α->Bool):Prop where
 Ra: ∀x,lt x x=false
 tr: ∀x y z,lt x y=true->lt y z=true->lt x z=true
 qV: ∀x y,lt x y=false->lt y x=false->x=y
section
variable{α:Type}(lt:α->α->Bool)
def nC(a:α):List α->List α
 | []=>[a]
 |b::r=>if lt a b then b::nC a r else a::b::r
def b7(o:List α)(a:α):List α:=(nC lt a o.reverse).reverse
variable{lt}
theorem nD(a:α): ∀l,(nC lt a l).Perm (a::l)
 | []=> .refl _
 |b::r=>by
  unfold nC;split
  ·exact((nD a r).cons b).trans (.swap a b r)
  exact .refl _
theorem sU(o:List α)(a:α):(b7 lt o a).Perm (o++[a]):=by unfold b7;refine(List.reverse_perm _).trans ((nD a _).trans ?_);exact((List.reverse_perm o).cons a).trans (List.perm_append_comm (l₁:=[a]) (l₂:=o))
end
structure cO where
 a:Int
 n:Int
 q:Int
 l:List bp
structure JL where
 o:List cO
 d:List (Int×Int)
def aN(f:bp):Bool:=decide ((1<=f.1/\f.1<=16/\0<=f.2.1)/\(1<=f.2.2.2.1/\f.2.2.2.1<=1000/\0<=f.2.2.1/\f.2.2.1<f.2.2.2.1)/\f.2.2.2.2≠[])
def lv(f:bp)(o:cO):Bool:=decide (o.a=f.1/\o.n=f.2.1)
def ja(x y:bp):Bool:=decide (x.2.2.1<y.2.2.1)
abbrev HP:=List UInt8×Bool×Int
def Fx(st:JL)(k:Nat)(o:cO)(f:bp):HP×JL:=
 if((b7 ja o.l f).length:Int)<o.q then(([],false,0),⟨st.o.set k ⟨o.a,o.n,o.q,b7 ja o.l f⟩,st.d⟩)
 else(((b7 ja o.l f).flatMap (·.2.2.2.2),true,0),⟨st.o.eraseIdx k,st.d++[(f.1,f.2.1)]⟩)
def eF(st:JL)(f:bp):HP×JL:=
 if aN f=false then(([],false,11),st)
 else if st.d.contains (f.1,f.2.1)=true then(([],false,210),st)
 else match st.o.findIdx? (lv f) with
  |some k=>match st.o[k]? with
   |some o=>if o.q≠f.2.2.2.1 then(([],false,11),st)
    else if o.l.any (λx=>decide (x.2.2.1=f.2.2.1))=true then(([],false,210),st)
    else Fx st k o f
   |none=>(([],false,0),st)
  |none=>if 50<=st.o.length then(([],false,211),st)
   else Fx ⟨st.o++[⟨f.1,f.2.1,f.2.2.2.1,[]⟩],st.d⟩ st.o.length ⟨f.1,f.2.1,f.2.2.2.1,[]⟩ f
structure A4(o:cO):Prop where
 a:1<=o.a/\o.a<=16/\0<=o.n
 q:1<=o.q/\o.q<=1000
 m: ∀f∈o.l,f.1=o.a/\f.2.1=o.n/\f.2.2.2.1=o.q/\0<=f.2.2.1/\f.2.2.1<o.q/\f.2.2.2.2≠[]/\f.2.2.2.2.length<=100
 s:o.l.Pairwise (λx y=>x.2.2.1<y.2.2.1)
 lt:(o.l.length:Int)<o.q
structure BB(st:JL):Prop where
 o: ∀o∈st.o,A4 o/\o.l≠[]
 nd:(st.o.map λo=>(o.a,o.n)).Nodup
 di: ∀o∈st.o,(o.a,o.n)∉st.d
 len:st.o.length<=50
def Ek(l:List bp)(i:Int):List UInt8:=match l.find? (λf=>decide (f.2.2.1=i)) with |some f=>f.2.2.2.2 |none=>[]
def df(o:cO):List (List UInt8):=(List.range o.q.toNat).map λ(i:Nat)=>Ek o.l (i:Int)
theorem eU(o:cO):(df o).length=o.q.toNat:=by simp[df]
theorem mT{l:List bp}{i:Int}(h: ∀f∈l,f.2.2.1≠i):Ek l i=[]:=by unfold Ek;rw[zbV.2 λf hf=>by simpa using h f hf]
theorem ld{l:List bp}(hs: ∀f∈l,∀g∈l,f.2.2.1=g.2.2.1->f=g){f:bp}(hf:f∈l):Ek l f.2.2.1=f.2.2.2.2:=by
 unfold Ek;cases h:l.find? (λg=>decide (g.2.2.1=f.2.2.1)) with
 |none=>exact absurd (zbV.1 h f hf) (by simp)
 |some g=>
  have h1:=List.mem_of_find?_eq_some h;have h2:g.2.2.1=f.2.2.1:=by simpa using List.find?_some h
  rw[hs g h1 f hf h2]
theorem nE: ∀{l:List bp},l.Pairwise (λx y=>x.2.2.1<y.2.2.1)-> ∀f∈l,∀g∈l,f.2.2.1=g.2.2.1->f=g
 | [],_,f,hf,_,_,_=>by cases hf
 |x::r,h,f,hf,g,hg,e=>by
  obtain⟨h1,h2⟩:=zbD.1 h;rcases zan.1 hf with hf |hf<;>rcases zan.1 hg with hg |hg
  ·rw[hf,hg]
  ·have:=h1 g hg;rw[hf] at e;omega
  ·have:=h1 f hf;rw[hg] at e;omega
  exact nE h2 f hf g hg e
theorem jD{l:List bp}{f g:bp}:g∈b7 ja l f↔g∈l\/g=f:=by rw[(sU (lt:=ja) l f).mem_iff];simp
theorem sV(f:bp): ∀l:List bp,l.Pairwise (λx y=>y.2.2.1<x.2.2.1)->(∀g∈l,g.2.2.1≠f.2.2.1)->(nC ja f l).Pairwise (λx y=>y.2.2.1<x.2.2.1)
 | [],_,_=>by simp[nC]
 |b::r,hp,hf=>by
  obtain⟨h1,h2⟩:=zbD.1 hp;unfold nC;split
  next hl=>
   have hl:f.2.2.1<b.2.2.1:=by simpa [ja] using hl
   refine zbD.2 ⟨λy hy=> ?_,sV f r h2 λg hg=>hf g (by simp[hg])⟩;rcases zan.1 ((nD (lt:=ja) f r).mem_iff.1 hy) with rfl |hy
   ·exact hl
   exact h1 y hy
  rename_i hl;have hl: ¬f.2.2.1<b.2.2.1:=by simpa [ja] using hl
  have:=hf b (by simp);refine zbD.2 ⟨λy hy=> ?_,hp⟩;rcases zan.1 hy with rfl |hy
  ·omega
  have:=h1 y hy;omega
theorem yy{l:List bp}{f:bp}(h:l.Pairwise (λx y=>x.2.2.1<y.2.2.1))(hf: ∀g∈l,g.2.2.1≠f.2.2.1):(b7 ja l f).Pairwise (λx y=>x.2.2.1<y.2.2.1):=by unfold b7;rw[List.pairwise_reverse];exact sV f _ (by rw[List.pairwise_reverse];exact h) λg hg=>hf g (by simpa using hg)
theorem Fy{l:List bp}{f:bp}(h:l.Pairwise (λx y=>x.2.2.1<y.2.2.1))(hf: ∀g∈l,g.2.2.1≠f.2.2.1)(i:Int):Ek (b7 ja l f) i=if f.2.2.1=i then f.2.2.2.2 else Ek l i:=by
 have hi:=nE (yy h hf);split
 next e=>subst e;exact ld hi (jD.2 (.inr rfl))
 rename_i e;by_cases hg: ∃g∈l,g.2.2.1=i
 ·obtain⟨g,hg,rfl⟩:=hg;rw[ld hi (jD.2 (.inl hg)),ld (nE h) hg]
 have hg: ∀g∈l,g.2.2.1≠i:=λg h1 h2=>hg ⟨g,h1,h2⟩;rw[mT hg,mT];intro g h1;rcases jD.1 h1 with h1 |rfl
 ·exact hg g h1
 exact e
theorem wP: ∀(l:List bp) (lo:Int),l.Pairwise (λx y=>x.2.2.1<y.2.2.1)->(∀f∈l,lo<=f.2.2.1/\f.2.2.1<lo+l.length)->l.map (·.2.2.1)=(List.range l.length).map λ(i:Nat)=>lo+(i:Int)
 | [],_,_,_=>rfl
 |f::l,lo,hp,hr=>by
  obtain⟨h1,h2⟩:=zbD.1 hp;have hf:=hr f (by simp);have ih:=wP l (lo+1) h2 λg hg=>by have:=h1 g hg;have:=hr g (by simp[hg]);simp only[zaF] at this;omega
  have e:f.2.2.1=lo:=by
   cases l with
   |nil=>simp only[zaF,zbg] at hf;omega
   |cons g l=>
    have h3:g.2.2.1=lo+1:=by have:=congrArg (λx=>x.head?) ih;simpa [List.range_succ_eq_map] using this
    have:=h1 g (by simp);omega
  rw[zaO,ih,e,zaF,List.range_succ_eq_map,zaO,List.map_map];refine List.cons_eq_cons.2 ⟨by simp,zbh λi _=> ?_⟩;simp only[Function.comp_apply];omega
theorem A5{o:cO}(hm: ∀f∈o.l,0<=f.2.2.1/\f.2.2.1<o.q)(hs:o.l.Pairwise (λx y=>x.2.2.1<y.2.2.1))(hl:(o.l.length:Int)=o.q):df o=o.l.map (·.2.2.2.2):=by
 have h1:=wP o.l 0 hs λf hf=>by have:=hm f hf;omega
 have e:o.q.toNat=o.l.length:=by omega
 unfold df;rw[e];refine zb6 (by simp) λi h2 h3=> ?_;simp only[List.getElem_map,List.getElem_range];have hi:i<o.l.length:=by simpa using h3
 have h4:=congrArg (λx=>x[i]?) h1;simp[hi] at h4;rw[<-h4];exact ld (nE hs) (zaX hi)
theorem qK{o:cO}{f:bp}(hs:o.l.Pairwise (λx y=>x.2.2.1<y.2.2.1))(hf: ∀g∈o.l,g.2.2.1≠f.2.2.1)(h0:0<=f.2.2.1):df ⟨o.a,o.n,o.q,b7 ja o.l f⟩=(df o).set f.2.2.1.toNat f.2.2.2.2:=by
 unfold df;refine zb6 (by simp) λi h2 h3=> ?_;simp only[List.getElem_map,List.getElem_range,List.getElem_set];rw[Fy hs hf];by_cases e:f.2.2.1=(i:Int)
 ·rw[zat e,zat (by omega)]
 rw[zaB e,zaB (by omega)]
theorem uE{o:cO}(ho:A4 o){p:Int}(h0:0<=p)(h1:p<o.q):(o.l.any (λx=>decide (x.2.2.1=p))=true)↔(df o).getD p.toNat []≠[]:=by
 have e:(df o).getD p.toNat []=Ek o.l p:=by unfold df;rw[zaq,zai,List.getElem?_range (show p.toNat<o.q.toNat by omega)];show Ek o.l (p.toNat:Int)=_;rw[Int.toNat_of_nonneg h0]
 rw[e,zbe];constructor
 ·rintro⟨f,hf,h⟩;have h:f.2.2.1=p:=by simpa using h
  subst h;rw[ld (nE ho.s) hf];exact(ho.m f hf).2.2.2.2.2.1
 intro h;by_cases hg: ∃g∈o.l,g.2.2.1=p
 ·obtain⟨g,hg,rfl⟩:=hg;exact⟨g,hg,by simp⟩
 exact absurd (mT λg h1 h2=>hg ⟨g,h1,h2⟩) h
def yz:cR:=λps R ae=> ∃l c,ps=[.d (.sl 1 (l.map D.str)),sD c]/\R=[]/\(l.length<=1000000/\(Lib.join l c).length<=1000000)/\ae (sD (Lib.join l c),[])
noncomputable def zz(H HN:List (FuncId×cR))(hk:List (Nat×(S->K (PX×S))))(f id:Nat)(s:S):K (PX×S):=
 pB (Dk PR (runK PR Fw uX H 60 60) HN (gY f) hk (uX f) (bA PR f id)) (gY f id) s
noncomputable def l8(H HN:List (FuncId×cR))(hk:List (Nat×(S->K (PX×S))))(f:Nat)(ps:List P)(R:List (Nat×En)):K (P×List (Nat×En)):=
 Gw PR (runK PR Fw uX H 60 60) HN Fw hk uX f ps R
def ND(w0:World)(f:Nat)(h:cR):Prop:=xi PR w0 f h
def LN(w0:World)(f id:Nat)(g:S->K (PX×S)):Prop:= ∀(val:Nat->Value) (lo:Nat) (mk:Bool) s ae,g s ae->TW PR ⟨val,w0,lo,mk⟩ (.loop (bA PR f id)) s ae
def Nf(w0:World)(f id:Nat)(g:S->K (PX×S)):Prop:= ∀(val:Nat->Value) (lo:Nat) s ae,g s ae->TW PR ⟨val,w0,lo,true⟩ (.loop (bA PR f id)) s ae
def FN(w0:World)(f id:Nat)(g:S->K (PX×S)):Prop:= ∀(val:Nat->Value) (lo:Nat) s ae,g s ae->TW PR ⟨val,w0,lo,true⟩ (Df PR f id).code s ae
theorem LN.T{w0:World}{f id:Nat}{g:S->K (PX×S)}(h:LN w0 f id g):Nf w0 f id g:=λval lo s ae hp=>h val lo true s ae hp
inductive HQ(w0:World):List (FuncId×cR)->Prop
 |nil:HQ w0 []
 |cons {f:Nat} {h:cR} {r:List (FuncId×cR)} (hf:ND w0 f h) (hr:HQ w0 r):HQ w0 ((f,h)::r)
theorem HQ.get{w0:World}{HN:List (FuncId×cR)}(h:HQ w0 HN): ∀f g,lk HN f=some g->xi PR w0 f g:=by
 induction h with
 |nil=>intro f g h;cases h
 | @cons f' h' r hf hr ih=>
  intro f g h;unfold lk at h;split at h
  next he=>cases h;rw[<-zab he];exact hf
  exact ih f g h
inductive IP(w0:World)(f:Nat):List (Nat×(S->K (PX×S)))->Prop
 |nil:IP w0 f []
 |cons {id:Nat} {g:S->K (PX×S)} {r:List (Nat×(S->K (PX×S)))} (h:LN w0 f id g) (hr:IP w0 f r):IP w0 f ((id,g)::r)
theorem IP.get{w0:World}{f:Nat}{hk:List (Nat×(S->K (PX×S)))}(h:IP w0 f hk): ∀id g,lk hk id=some g->LN w0 f id g:=by
 induction h with
 |nil=>intro f g h;cases h
 | @cons f' h' r hf hr ih=>
  intro f g h;unfold lk at h;split at h
  next he=>cases h;rw[<-zab he];exact hf
  exact ih f g h
inductive El(w0:World)(f:Nat):List (Nat×(S->K (PX×S)))->Prop
 |nil:El w0 f []
 |loop {id:Nat} {g:S->K (PX×S)} {r:List (Nat×(S->K (PX×S)))} (nY:id<500000) (h:Nf w0 f id g) (hr:El w0 f r):El w0 f ((id,g)::r)
 |range {id:Nat} {g:S->K (PX×S)} {r:List (Nat×(S->K (PX×S)))} (h:FN w0 f id g) (hr:El w0 f r):El w0 f ((500000+id,g)::r)
theorem El.loops{w0:World}{f:Nat}{hk:List (Nat×(S->K (PX×S)))}(h:El w0 f hk): ∀id g,id<500000->lk hk id=some g->Nf w0 f id g:=by
 induction h with
 |nil=>intro id g _ h;cases h
 | @loop kl g' r Ng h hr ih=>
  intro id g nY hg;unfold lk at hg;split at hg
  next he=>cases hg;rw[<-zab he];exact h
  exact ih id g nY hg
 | @range kl g' r h hr ih=>
  intro id g nY hg;unfold lk at hg;split at hg
  next he=>have:=zab he;omega
  exact ih id g nY hg
theorem El.ranges{w0:World}{f:Nat}{hk:List (Nat×(S->K (PX×S)))}(h:El w0 f hk): ∀id g,lk hk (500000+id)=some g->FN w0 f id g:=by
 induction h with
 |nil=>intro id g h;cases h
 | @loop kl g' r Ng h hr ih=>
  intro id g hg;unfold lk at hg;split at hg
  next he=>have:=zab he;omega
  exact ih id g hg
 | @range kl g' r h hr ih=>
  intro id g hg;unfold lk at hg;split at hg
  next he=>
   cases hg;have:=zab he;have e:kl=id:=by omega
   rw[<-e];exact h
  exact ih id g hg
theorem Gz{X:XF}{H:List (FuncId×cR)}(hH:HD X H):oO (runK PR Fw uX H 60 60) (dh PR (Ei X)):=by have:=o8 (lf:=60) (gu Ds) hH 60;rw[uA PR gY HM X.cf (λ_ _ _=>none) uX H 60 60] at this;exact this
theorem ND.mk{X:XF}{w0:World}(hX:cL PR w0 X.cf){H HN:List (FuncId×cR)}{hk:List (Nat×(S->K (PX×S)))}{f:Nat}{h:cR}(hdr:PR.follows .mixedOrders=true)(hu:uniq PR f=true)(II:qG PR f=true)(hH:HD X H)(oh:HQ w0 HN)(hl:El w0 f hk)
  (hb: ∀ps R ae,h ps R ae->l8 H HN hk f ps R ae):ND w0 f h:=
 xi.mk (kp:=Ei X) oh.get (Gz hH) hX hdr Ds hu II hl.loops hl.ranges (λps R ae hp=>hb ps R ae hp)
theorem LN.par{X:XF}{w0:World}(hX:cL PR w0 X.cf){H HN:List (FuncId×cR)}{hk:List (Nat×(S->K (PX×S)))}{f id:Nat}{g:S->K (PX×S)}(hdr:PR.follows .mixedOrders=true)(hu:uniq PR f=true)(hc:bE (uX f) (bA PR f id)=true)(Qg:(bw (bA PR f id)).isEmpty=true)(hH:HD X H)(oh:HQ w0 HN)(hl:IP w0 f hk)
  {A B:Type} (hd:A->B->S) (Inv:A->B->Prop) (mu:A->B->Nat) (Out:A->PX×S->Prop)
  (hr: ∀a b,Inv a b->zz H HN hk f id (hd a b) (roundPost (mu a b) (λm s=> ∃b',s=hd a b'/\Inv a b'/\m=mu a b') (Out a)))
  (hg: ∀s ae,g s ae-> ∃a b,s=hd a b/\Inv a b/\ ∀x,Out a x->ae x):LN w0 f id (aF (gY f id) g):=by
 intro val lo mk s ae hp;unfold aF at hp;cases hh:cx (gY f id) s with
 |none=>simp only[hh] at hp
 |some s0=>
  simp only[hh] at hp;obtain⟨a,b,rfl,h1,h2⟩:=hg s0 ae hp;refine TW.mono (TW.loop (keep:=gY f id) (I:=λm s=> ∃b',s=hd a b'/\Inv a b'/\m=mu a b') (O:=Out a) (λn s hs=> ?_) hh ⟨b,rfl,h1,rfl⟩) h2;obtain⟨b',rfl,h3,rfl⟩:=hs;have:=hr a b' h3;unfold zz at this;refine TW.mono (A3 (kp:=Ei X) (T:=⟨val,w0,lo,mk⟩) oh.get (Gz hH) hX hdr (kp1:=gY f) (bA PR f id) hc (λd hd h hh s ae hp=>by have:=hl.get _ _ hh val lo mk s ae hp;rwa [sM hu hd] at this) (λx hx=>by rw[List.isEmpty_iff.1 Qg] at hx;cases hx) _ _ this) ?_;rintro⟨e,s1⟩ hx;cases e with
  |normal=>obtain⟨s2,h4,m,h5,h6⟩:=KW.cg (p:=λs2=>cx (gY f id) s1=some s2) (λ_ h=>h) _ hx;exact⟨s2,h4,m,h5,h6⟩
  |exit i=>obtain⟨s2,h4,h5⟩:=KW.cg (p:=λs2=>eI (gY f id) s1=some s2) (λ_ h=>h) _ hx;exact⟨s2,h4,h5⟩
  |ret=>obtain⟨s2,h4,h5⟩:=KW.cg (p:=λs2=>eI (gY f id) s1=some s2) (λ_ h=>h) _ hx;exact⟨s2,h4,h5⟩
abbrev fI(a n:Int):D:= .agg [.int .i64 a,.int .i64 n]
abbrev Fz(o d:Nat):Obj:= .box 53 [.mp o 0,.mp d 0]
abbrev IQ(r k:Nat)(c:Int):Obj:= .box 61 [.sl r 0 k,iD c]
abbrev Kn(l:List (List UInt8)):Obj:= .arr 9 false (l.map D.str)
abbrev xj(a n p q:Int)(s:List UInt8):P:= .d (.agg [.int .i64 a,.int .i64 n,.int .i64 p,.int .i64 q,.str s])
abbrev Em:Nat->Prop:=λ_=>False
abbrev jO:=cO×Nat×Nat
def aU(al:List jO)(k:D):Option Value:=(al.find? λx=>D.cP (fI x.1.a x.1.n) k).map λx=>av x.2.1
def a7(d:List (Int×Int))(k:D):Option D:=if d.any (λx=>D.cP (fI x.1 x.2) k)=true then some (.agg []) else none
def cB(b0 b1 b2:Nat)(al:List jO):List Nat:=b0::b1::b2::al.flatMap λx=>[x.2.1,x.2.2]
def A6(w:World)(x:jO):Prop:= ∃cap cc cs,w.heap[x.2.1]?=some (.cells cc 61 (0,0))/\cc.size=2/\cc.getD 0 undef= .slice (some ⟨x.2.2,0,none⟩) x.1.q.toNat cap/\cc.getD 1 undef= .int .i64 x.1.l.length/\
 w.heap[x.2.2]?=some (.cells cs 9 (0,0))/\x.1.q.toNat<=cap/\cap<=maxLen/\cs.size=cap*1/\fC Em w cs 1 ((df x.1).map D.str)
def JP(st:JL)(w:World)(g:Value):Prop:= ∃b0 b1 b2 al cc es ck Bu Eo,al.map (·.1)=st.o/\g= .tuple ⟨av b0::(cB b0 b1 b2 al).map av⟩/\(cB b0 b1 b2 al).Nodup/\
 w.heap[b0]?=some (.cells cc 53 (0,0))/\cc.size=2/\cc.getD 0 undef= .map (some b1)/\cc.getD 1 undef= .map (some b2)/\
 w.heap[b1]?=some (.map es ck)/\MQ PR Em w (λ_=>undef) [] 58 (aU al) al.length none es.toList ck/\
 w.heap[b2]?=some (.map Bu Eo)/\fP PR Em w 58 (a7 st.d) st.d.length Bu.toList Eo/\ ∀x∈al,A6 w x
theorem JP.keep{st:JL}{w w':World}{g:Value}(h:JP st w g)(hw: ∀b∈rj g,w'.heap[b]?=w.heap[b]?):JP st w' g:=by
 obtain⟨b0,b1,b2,al,cc,es,ck,Bu,Eo,h1,rfl,h3,h4,h5,h6,h7,h8,h9,Ko,Kp,Kq⟩:=h;rw[dM] at hw;refine⟨b0,b1,b2,al,cc,es,ck,Bu,Eo,h1,rfl,h3,(hw b0 (by simp[cB])).trans h4,h5,h6,h7,(hw b1 (by simp[cB])).trans h8,h9.raw,(hw b2 (by simp[cB])).trans Ko,Kp.mono (λ_ h=>h) (λ_ h=>h.elim),λx hx=> ?_⟩;obtain⟨cap,cc,cs,g1,g2,g3,g4,g5,g6,g7,g8,g9⟩:=Kq x hx;exact⟨cap,cc,cs,(hw _ (by simp only[cB,zan,zbj];exact .inr (.inr (.inr ⟨x,hx,by simp⟩)))).trans g1,g2,g3,g4,
  (hw _ (by simp only[cB,zan,zbj];exact .inr (.inr (.inr ⟨x,hx,by simp⟩)))).trans g5,g6,g7,g8,g9.mono (λ_ h=>h) (λ_ h=>h.elim)⟩
abbrev rP(vals:D->Option Value)(m:Int)(d:D->Option D)(c:Int):List (Nat×En):=[(0,⟨0,some 0,Fz 1 2⟩),(1,⟨0,some 1,.bS 58 vals m none⟩),(2,⟨0,some 2,.map 58 d c false⟩)]
abbrev uZ(a n:Int)(vals:D->Option Value)(m:Int)(d:D->Option D)(c:Int)(ps:List (List UInt8))(k:Int):List (Nat×En):=[(0,⟨0,some 0,Fz 1 2⟩),(1,⟨0,some 1,.bS 58 vals m (some (fI a n,.ref 3 0 0))⟩),(2,⟨0,some 2,.map 58 d c false⟩),(3,⟨0,some 3,IQ 4 ps.length k⟩),(4,⟨0,some 4,Kn ps⟩)]
def pd(a:Int)(n:Int):D:=D.agg [Z4 a,Z4 n]
def LA(a:Int)(n:Int)(d:D->Option D)(c:Int):Nat×En:=(2,En.mk 0 (some 2) (Obj.map 58 (λ(k':D)=>bif D.cP (pd a n) k' then some (D.agg []) else d k') (bif Option.isSome (d (pd a n)) then c else c+(1:Int)) false))
def LB(l:List (List UInt8))(gZ:List UInt8):Prop:=List.length l<=1000000/\List.length (Lib.join l gZ)<=1000000
def zA:P:=P.d (D.str [])
def Kr(q:Int):List D:=List.replicate (Zf q) (D.str [])
def Nh(q:Int)(p:Int)(s:List UInt8):List D:=List.set (Kr q) (Zf p) (D.cm (D.str (D.py (D.nth (Kr q) (Zf p)))) [D.str s])
def HR(d:D->Option D)(c:Int):Nat×En:=(2,En.mk 0 (some 2) (Obj.map 58 d c false))
def FA:Nat×En:=(0,En.mk 0 (some 0) (Obj.box (53:TypeId) [P.mp 1 0,P.mp 2 0]))
def GA:P:=P.fL [zA,ZG,Zy]
def IU:P:=P.fL [zA,ZG,P.d (D.int .i64 (211:Int))]
def Ep:P:=P.fL [zA,ZG,P.d (D.int .i64 (210:Int))]
def A7(vals:D->Option Value)(m:Int)(d:D->Option D)(c:Int):List (Nat×En):=[FA,(1,En.mk 0 (some 1) (Obj.bS 58 vals m none)),HR d c]
def qL:P:=P.fL [zA,ZG,P.d (D.int .i64 (11:Int))]
def ZZ(s:List UInt8):Bool:= !!s==[]
def ZY(q:Int):Bool:=decide (q<=(1000:Int))
def ZX(n:Int):Bool:=decide (n>=(0:Int))
def ZW(a:Int):Bool:=decide (a<=(16:Int))
def ZV(a:Int):Bool:=decide (a>=(1:Int))
theorem Ks(a n p q:Int)(s:List UInt8)(vals:D->Option Value)(m:Int)(d:D->Option D)(c:Int)(ae:P×List (Nat×En)->Prop):(bif ZV a then bif ZW a then bif ZX n then bif ZV q then bif ZY q then bif ZX p then bif Ze p q then bif ZZ s then ae (qL,A7 vals m d c) else ob (pz PR (62:TypeId) (jR (d (pd a n)) (D.agg []))) (bif Option.isSome (d (pd a n)) then ae (Ep,A7 vals m d c) else ob (Option.isNone (vals (pd a n))) (bif decide (m>=(50:Int)) then ae (IU,A7 vals m d c) else ob (decide ((0:Int)<=q/\q<=q/\q<=Zj/\(16:Int)*q<=(281474976710656:Int))) (ob (Option.isNone (vals (pd a n))) (ob (decide ((0:Int)<=p/\p<(↑(Zf q):Int))) (ob (decide (Zf p<List.length (Kr q))) (ob (pz PR (9:TypeId) (D.nth (Kr q) (Zf p))) (bif decide ((0:Int)+(1:Int)<q) then ae (GA,[FA,(1,En.mk 0 (some 1) (Obj.bS 58 vals (m+(1:Int)) (some (pd a n,P.ref 3 0 0)))),HR d c,(3,En.mk 0 none (Obj.box (61:TypeId) [P.sl 4 0 (Zf q),P.d Zp])),(4,En.mk 0 none (Obj.arr (9:TypeId) false (Nh q p s)))]) else ob (D.cP (pd a n) (pd a n)) (∃(l:List (List UInt8)) (gZ:List UInt8),[P.d (D.sl 1 (List.take (Zf q) (Nh q p s))),zA]=[P.d (D.sl 1 (List.map D.str l)),P.d (D.str gZ)]/\ZQ/\LB l gZ/\ae (P.fL [P.d (D.str (Lib.join l gZ)),ZN,Zy],[FA,(1,En.mk 0 (some 1) (Obj.bS 58 (λ(j:D)=>bif D.cP (pd a n) j then none else vals j) (m+(1:Int)-(1:Int)) none)),LA a n d c]))))))))) else ae (qL,A7 vals m d c) else ae (qL,A7 vals m d c) else ae (qL,A7 vals m d c) else ae (qL,A7 vals m d c) else ae (qL,A7 vals m d c) else ae (qL,A7 vals m d c) else ae (qL,A7 vals m d c))=(l8 [(17,yz)] [] [] 13 [.ref 0 0 0,xj a n p q s] (rP vals m d c)) ae:=by kernel_rfl
def LC(ps:List (List UInt8))(p:Int)(s:List UInt8):List D:=List.set (List.map D.str ps) (Zf p) (D.cm (D.str (D.py (D.nth (List.map D.str ps) (Zf p)))) [D.str s])
def Ni(ps:List (List UInt8))(k:Int):Nat×En:=(3,En.mk 0 (some 3) (Obj.box (61:TypeId) [P.sl 4 0 (List.length ps),Zl k]))
def Nj(vals:D->Option Value)(m:Int)(a:Int)(n:Int):Nat×En:=(1,En.mk 0 (some 1) (Obj.bS 58 vals m (some (pd a n,P.ref 3 0 0))))
def BD(vals:D->Option Value)(m:Int)(a:Int)(n:Int)(d:D->Option D)(c:Int)(ps:List (List UInt8))(k:Int):List (Nat×En):=[FA,Nj vals m a n,HR d c,(3,En.mk 0 (some 3) (Obj.box (61:TypeId) [P.sl 4 0 (List.length ps),P.d (Z4 k)])),(4,En.mk 0 (some 4) (Obj.arr (9:TypeId) false (List.map D.str ps)))]
theorem Kt(a n p q:Int)(s:List UInt8)(vals:D->Option Value)(m:Int)(d:D->Option D)(c:Int)(ps:List (List UInt8))(k:Int)(ae:P×List (Nat×En)->Prop):(bif ZV a then bif ZW a then bif ZX n then bif ZV q then bif ZY q then bif ZX p then bif Ze p q then bif ZZ s then ae (qL,BD vals m a n d c ps k) else ob (pz PR (62:TypeId) (jR (d (pd a n)) (D.agg []))) (bif Option.isSome (d (pd a n)) then ae (Ep,BD vals m a n d c ps k) else ob (D.cP (pd a n) (pd a n)) (bif (↑(List.length ps):Int) !=q then ae (qL,BD vals m a n d c ps k) else ob (decide ((0:Int)<=p/\p<(↑(List.length ps):Int))) (ob (decide (Zf p<List.length (List.map D.str ps))) (ob (pz PR (9:TypeId) (D.nth (List.map D.str ps) (Zf p))) (bif !D.py (D.nth (List.map D.str ps) (Zf p))==[] then ae (Ep,BD vals m a n d c ps k) else ob (decide ((0:Int)<=p/\p<(↑(List.length ps):Int))) (ob (decide (Zf p<List.length (List.map D.str ps))) (ob (pz PR (9:TypeId) (D.nth (List.map D.str ps) (Zf p))) (ob (Zk k) (bif decide (k+(1:Int)<q) then ae (GA,[FA,Nj vals m a n,HR d c,Ni ps k,(4,En.mk 0 (some 4) (Obj.arr (9:TypeId) false (LC ps p s)))]) else ob (D.cP (pd a n) (pd a n)) (∃(l:List (List UInt8)) (gZ:List UInt8),[P.d (D.sl 1 (List.take (List.length ps) (LC ps p s))),zA]=[P.d (D.sl 1 (List.map D.str l)),P.d (D.str gZ)]/\ZQ/\LB l gZ/\ae (P.fL [P.d (D.str (Lib.join l gZ)),ZN,Zy],[FA,(1,En.mk 0 (some 1) (Obj.bS 58 (λ(j:D)=>bif D.cP (pd a n) j then none else vals j) (m-(1:Int)) none)),LA a n d c,Ni ps k,(4,En.mk 0 (some 4) (Obj.arr (9:TypeId) true (LC ps p s)))]))))))))))) else ae (qL,BD vals m a n d c ps k) else ae (qL,BD vals m a n d c ps k) else ae (qL,BD vals m a n d c ps k) else ae (qL,BD vals m a n d c ps k) else ae (qL,BD vals m a n d c ps k) else ae (qL,BD vals m a n d c ps k) else ae (qL,BD vals m a n d c ps k))=(l8 [(17,yz)] [] [] 13 [.ref 0 0 0,xj a n p q s] (uZ a n vals m d c ps k)) ae:=by kernel_rfl
theorem oz: ∀l:List (List UInt8),kS (l.map D.str)=some l
 | []=>rfl
 |x::l=>by simp[kS,oz l]
theorem yA{x y:bp}(h:ia x=ia y):x=y:=by obtain⟨a,b,c,d,e⟩:=x;obtain⟨a',b',c',d',e'⟩:=y;simp only[ia,D.agg.injEq,zbb,D.int.injEq,D.str.injEq,zcd,zb5] at h;obtain⟨rfl,rfl,rfl,rfl,rfl⟩:=h;rfl
theorem zB: ∀{l m:List bp},l.map ia=m.map ia->l=m
 | [],[],_=>rfl
 | [],_::_,h=>by cases h
 |_::_,[],h=>by cases h
 |x::l,y::m,h=>by simp only[zaO,zbb] at h;rw[yA h.1,zB h.2]
section
variable{X:XF}
theorem zC:FD X 17 yz:=FD.Lw Try.func17 (by kernel_rfl) (by kernel_rfl) (by intro ps R ae hh;obtain⟨l,c,rfl,rfl,hc,hp⟩:=hh;refine⟨_,?_,hp⟩;show wM [.d (.sl 1 (l.map D.str)),.d (.str c)] []=_;unfold wM;simp only[oz];exact zat ⟨by omega,by omega⟩)
end
theorem isUnit:pz PR 62 (.agg [])=true:=by kernel_rfl
theorem yB(s:List UInt8):pz PR 9 (.str s)=true:=by kernel_rfl
theorem FB(l:List (List UInt8)){i:Nat}(h:i<l.length):D.nth (l.map D.str) i=D.str (l.getD i []):=by unfold D.nth;simp[zaq,h]
theorem FE{n i:Nat}(h:i<n):D.nth (List.replicate n (D.str [])) i=D.str []:=by unfold D.nth;simp[zaq,h]
theorem kT(x:D):D.cP x x=true:=(D.aY x x).2 rfl
def HS(get:D->Option D):Prop:= ∀k,jR (get k) (.agg [])= .agg []
abbrev oP(s:List UInt8)(b:Bool)(e:Int):P:= .fL [sD s,.d (.bool b),iD e]
abbrev FF(k:D)(d:D->Option D):D->Option D:=λk'=>bif D.cP k k' then some (.agg []) else d k'
abbrev ON(a n:Int)(vals:D->Option Value)(m:Int)(d:D->Option D)(c:Int)(ps:List (List UInt8))(k:Int):List (Nat×En):=[(0,⟨0,some 0,Fz 1 2⟩),(1,⟨0,some 1,.bS 58 (vf (fI a n) vals) (m-1) none⟩),(2,⟨0,some 2,.map 58 (FF (fI a n) d) (c+1) false⟩),(3,⟨0,some 3,IQ 4 ps.length k⟩),(4,⟨0,some 4,.arr 9 true (ps.map D.str)⟩)]
def Qh:cR:=λps R ae=> ∃a n p q s vals m d c pt k,ps=[.ref 0 0 0,xj a n p q s]/\R=uZ a n vals m d c pt k/\(HS d/\pt.length<=1000/\(0<=k/\k<=1000)/\(Lib.join (pt.set p.toNat s) []).length<=1000000)/\
 (aN (a,n,p,q,s)=false->ae (oP [] false 11,uZ a n vals m d c pt k))/\
 (aN (a,n,p,q,s)=true->(d (fI a n)).isSome=true->ae (oP [] false 210,uZ a n vals m d c pt k))/\
 (aN (a,n,p,q,s)=true->(d (fI a n)).isSome=false->(pt.length:Int)≠q->ae (oP [] false 11,uZ a n vals m d c pt k))/\
 (aN (a,n,p,q,s)=true->(d (fI a n)).isSome=false->(pt.length:Int)=q->pt.getD p.toNat []≠[]->ae (oP [] false 210,uZ a n vals m d c pt k))/\
 (aN (a,n,p,q,s)=true->(d (fI a n)).isSome=false->(pt.length:Int)=q->pt.getD p.toNat []=[]->k+1<q->ae (oP [] false 0,uZ a n vals m d c (pt.set p.toNat s) (k+1)))/\
 (aN (a,n,p,q,s)=true->(d (fI a n)).isSome=false->(pt.length:Int)=q->pt.getD p.toNat []=[]-> ¬k+1<q->ae (oP (Lib.join (pt.set p.toNat s) []) true 0,ON a n vals m d c (pt.set p.toNat s) (k+1)))
abbrev IV(a n:Int)(vals:D->Option Value)(m:Int)(d:D->Option D)(c:Int)(ps:List (List UInt8)):List (Nat×En):=[(0,⟨0,some 0,Fz 1 2⟩),(1,⟨0,some 1,.bS 58 vals (m+1) (some (fI a n,.ref 3 0 0))⟩),(2,⟨0,some 2,.map 58 d c false⟩),(3,⟨0,none,IQ 4 ps.length 1⟩),(4,⟨0,none,Kn ps⟩)]
def Qi:cR:=λps R ae=> ∃a n p q s vals m d c,ps=[.ref 0 0 0,xj a n p q s]/\R=rP vals m d c/\(HS d/\vals (fI a n)=none/\s.length<=1000000)/\
 (aN (a,n,p,q,s)=false->ae (oP [] false 11,rP vals m d c))/\
 (aN (a,n,p,q,s)=true->(d (fI a n)).isSome=true->ae (oP [] false 210,rP vals m d c))/\
 (aN (a,n,p,q,s)=true->(d (fI a n)).isSome=false->50<=m->ae (oP [] false 211,rP vals m d c))/\
 (aN (a,n,p,q,s)=true->(d (fI a n)).isSome=false-> ¬50<=m->q≠1->ae (oP [] false 0,IV a n vals m d c ((List.replicate q.toNat []).set p.toNat s)))/\
 (aN (a,n,p,q,s)=true->(d (fI a n)).isSome=false-> ¬50<=m->q=1->ae (oP s true 0,rP (vf (fI a n) vals) (m+1-1) (FF (fI a n) d) (c+1)))
section
variable{X:XF}{w0:World}(hX:cL PR w0 X.cf)
include hX
theorem Nk:ND w0 13 Qh:=ND.mk hX (by kernel_rfl) (by kernel_rfl) (by kernel_rfl) (.cons zC .nil) .nil .nil (by
 intro ps R ae hh;obtain⟨a,n,p,q,s,vals,m,d,c,pt,k,ep,er,⟨hU,hlen,⟨jS,tH⟩,hj⟩,h1,h2,h3,h4,h5,h6⟩:=hh
 (rw[ep,er,<-Kt];delta Z4 pd LA Zy ZN LB ZQ zA Zf LC Zl Ni HR Nj FA ZG GA Zj Zi Zk Ep BD qL ZZ Ze ZY ZX ZW ZV)
 have bg: ¬((1<=a/\a<=16/\0<=n)/\(1<=q/\q<=1000/\0<=p/\p<q)/\s≠[])->aN (a,n,p,q,s)=false:=λh=>zbT h;refine aT (λg1=> ?_) λg=>h1 (bg λh=>g h.1.1);refine aT (λg2=> ?_) λg=>h1 (bg λh=>g h.1.2.1);refine aT (λg3=> ?_) λg=>h1 (bg λh=>g h.1.2.2);refine aT (λg4=> ?_) λg=>h1 (bg λh=>g h.2.1.1);refine aT (λg5=> ?_) λg=>h1 (bg λh=>g h.2.1.2.1);refine aT (λg6=> ?_) λg=>h1 (bg λh=>g h.2.1.2.2.1);refine aT (λg7=> ?_) λg=>h1 (bg λh=>g h.2.1.2.2.2);refine eA (λg=>h1 (bg λh=>h.2.2 (by simpa using g))) λg8=> ?_;have hr:aN (a,n,p,q,s)=true:=zbm ⟨⟨g1,g2,g3⟩,⟨g4,g5,g6,g7⟩,by simpa using g8⟩;have hk:=hU (fI a n);rw[hk];refine bf isUnit (eA (λg=>h2 hr g) λg9=>oe (kT _) (eA (λg=>h3 hr g9 (by simpa using g)) λg10=> ?_));have hq:(pt.length:Int)=q:=by simpa using g10
 have hN:p.toNat<pt.length:=by omega
 rw[FB pt hN];have oM:List.set (pt.map D.str) p.toNat (D.cm (D.str (D.py (D.str (pt.getD p.toNat [])))) [D.str s])=(pt.set p.toNat s).map D.str:=by rw[zbx];rfl
 rw[oM,g9];refine aw (by omega) (aw (by rw[zag];exact hN) (bf (yB _) (eA (λg=>h4 hr g9 hq (by simpa [D.py] using g)) λg=> ?_)));have g0:pt.getD p.toNat []=[]:=by simpa [D.py] using g
 refine aw (by omega) (aw (by rw[zag];exact hN) (bf (yB _) (aw (by omega) (aT (λg11=> ?_) λg11=>oe (kT _) ?_))))
 ·have:=h5 hr g9 hq g0 g11;simp only[uZ,zas] at this;exact this
 refine⟨pt.set p.toNat s,[],?_,rfl,⟨by rw[zas];omega,hj⟩,?_⟩
 ·rw[zay (by simp)]
 have:=h6 hr g9 hq g0 g11;simp only[ON,zas] at this;exact this)
theorem Nl:ND w0 13 Qi:=ND.mk hX (by kernel_rfl) (by kernel_rfl) (by kernel_rfl) (.cons zC .nil) .nil .nil (by
 intro ps R ae hh;obtain⟨a,n,p,q,s,vals,m,d,c,ep,er,⟨hU,hv,hj⟩,h1,h2,h3,h4,h5⟩:=hh
 (rw[ep,er,<-Ks];delta Z4 pd LA Zy ZN LB ZQ zA Zf Kr Nh Zp HR FA ZG GA Zj IU Ep A7 qL ZZ Ze ZY ZX ZW ZV)
 have bg: ¬((1<=a/\a<=16/\0<=n)/\(1<=q/\q<=1000/\0<=p/\p<q)/\s≠[])->aN (a,n,p,q,s)=false:=λh=>zbT h;refine aT (λg1=> ?_) λg=>h1 (bg λh=>g h.1.1);refine aT (λg2=> ?_) λg=>h1 (bg λh=>g h.1.2.1);refine aT (λg3=> ?_) λg=>h1 (bg λh=>g h.1.2.2);refine aT (λg4=> ?_) λg=>h1 (bg λh=>g h.2.1.1);refine aT (λg5=> ?_) λg=>h1 (bg λh=>g h.2.1.2.1);refine aT (λg6=> ?_) λg=>h1 (bg λh=>g h.2.1.2.2.1);refine aT (λg7=> ?_) λg=>h1 (bg λh=>g h.2.1.2.2.2);refine eA (λg=>h1 (bg λh=>h.2.2 (by simpa using g))) λg8=> ?_;have hr:aN (a,n,p,q,s)=true:=zbm ⟨⟨g1,g2,g3⟩,⟨g4,g5,g6,g7⟩,by simpa using g8⟩;have hk:=hU (fI a n);have hN:p.toNat<q.toNat:=by omega
 rw[hk,FE hN,hv];have oM:List.set (List.replicate q.toNat (D.str [])) p.toNat (D.cm (D.str (D.py (D.str []))) [D.str s])=((List.replicate q.toNat ([]:List UInt8)).set p.toNat s).map D.str:=by rw[zbx,List.map_replicate];rfl
 rw[oM];refine bf isUnit (eA (λg=>h2 hr g) λg9=>oe rfl (aT (λg=>h3 hr g9 g) λg10=> ?_));refine aw (by omega) (bf rfl (aw (by omega) (aw (by rw[zaR];exact hN) (bf (yB []) (aT (λg1=> ?_) λg1=>oe (kT _) ?_)))))
 ·have:=h4 hr g9 g10 (by omega);simp only[IV,zas,zaR] at this;exact this
 have e1:q=1:=by omega
 have e2:p=0:=by omega
 subst e1;subst e2;refine⟨[s],[],rfl,rfl,⟨by simp,by simp[Lib.join,List.intercalate];omega⟩,?_⟩;have ej:Lib.join [s] []=s:=by simp[Lib.join,List.intercalate]
 rw[ej,g9];exact h5 hr g9 g10 rfl)
end
def A8{α:Type}(t:α->Bool)(l:List α):Int:=match l.findIdx? t with |some i=>(i:Int)|none=> -1
theorem wQ{α:Type}{t:α->Bool}{l:List α}{i:Nat}(hi:i<l.length)(ht:t l[i]=true)(hb: ∀j (hj:j<i),t (l[j]'(by omega))=false):A8 t l=(i:Int):=by unfold A8;rw[za6.2 ⟨hi,ht,λj hj=>by rw[hb j hj];simp⟩]
theorem zD{α:Type}{t:α->Bool}{l:List α}(h: ∀j (hj:j<l.length),t l[j]=false):A8 t l= -1:=by unfold A8;rw[zcx.2 λx hx=>by obtain⟨j,hj,rfl⟩:=zaM hx;exact h j hj]
variable{X:XF}
theorem LD.idx{H:List (FuncId×cR)}{hk:List (Nat×(S->K (PX×S)))}{f id:Nat}{g:S->K (PX×S)}(hu:uniq PR f=true)(hc:bE (uX f) (bA PR f id)=true)(hH:HD X H)(hl:Ej X f hk)
  {A B:Type} (hd:A->B->Int->S) (len:A->Nat) (Inv:A->Nat->B->Prop) (Out:A->PX×S->Prop)
  (hr: ∀a b (k:Int) ae,0<=k->k<len a->k.toNat<len a->Inv a k.toNat b->(∀b',Inv a (k.toNat+1) b'->ae (.normal,hd a b' (k+1)))->(∀x,x.1≠ .normal->Out a x->ae x)->de H hk f id (hd a b k) ae)
  (hx: ∀a b (k:Int) ae,k=len a->Inv a (len a) b->(∀x,x.1≠ .normal->Out a x->ae x)->de H hk f id (hd a b k) ae)
  (hg: ∀s ae,g s ae-> ∃a b,s=hd a b 0/\Inv a 0 b/\ ∀x,Out a x->ae x):LD X f id (aF (gY f id) g):=
 LD.par hu hc hH hl (A:=A) (B:=B×Int) (λa b=>hd a b.1 b.2) (λa b=>0<=b.2/\b.2.toNat<=len a/\Inv a b.2.toNat b.1) (λa b=>(len a-b.2).toNat) Out
  (by
   rintro a ⟨b,k⟩ ⟨h1,h2,h3⟩;dsimp only at*
   have iG: ∀x:PX×S,x.1≠ .normal->Out a x->roundPost ((len a-k).toNat) (λm s=> ∃b':B×Int,s=hd a b'.1 b'.2/\(0<=b'.2/\b'.2.toNat<=len a/\Inv a b'.2.toNat b'.1)/\m=(len a-b'.2).toNat) (Out a) x:=by
    rintro⟨e,s⟩ ca hx;cases e with
    |normal=>exact absurd rfl ca
    |exit i=>exact hx
    |ret=>exact hx
   by_cases hk:k<len a
   ·refine hr a b k _ h1 hk (by omega) h3 (λb' hb=> ?_) iG;exact⟨((len a:Int)-(k+1)).toNat,by omega,(b',k+1),rfl,⟨by show 0<=k+1;omega,by show(k+1).toNat<=len a;omega,by show Inv a (k+1).toNat b';rw[show(k+1).toNat=k.toNat+1 by omega];exact hb⟩,rfl⟩
   have e:k=len a:=by omega
   refine hx a b k _ e ?_ iG;have:k.toNat=len a:=by omega
   rwa [this] at h3)
  (by intro s ae hp;obtain⟨a,b,h1,h2,h3⟩:=hg s ae hp;exact⟨a,(b,0),h1,⟨Int.le_refl _,by simp,h2⟩,h3⟩)
theorem LD.find{H:List (FuncId×cR)}{hk:List (Nat×(S->K (PX×S)))}{f id:Nat}{g:S->K (PX×S)}(hu:uniq PR f=true)(hc:bE (uX f) (bA PR f id)=true)(hH:HD X H)(hl:Ej X f hk)
  {A α:Type} (hd:A->Int->S) (u6:A->List α) (t:A->Nat->α->Bool) (C:A->Prop) (rt:A->Int->PX×S) (ex:A->PX×S) (Nn: ∀a k,(rt a k).1≠ .normal) (Np: ∀a,(ex a).1≠ .normal)
  (hr: ∀a (k:Int) ae (o7:k.toNat<(u6 a).length),C a->0<=k->k<(u6 a).length->(t a k.toNat (u6 a)[k.toNat]=true->ae (rt a k))->(t a k.toNat (u6 a)[k.toNat]=false->ae (.normal,hd a (k+1)))->de H hk f id (hd a k) ae)
  (hx: ∀a (k:Int) ae,C a->k=(u6 a).length->ae (ex a)->de H hk f id (hd a k) ae)
  (hg: ∀s ae,g s ae-> ∃a,s=hd a 0/\C a/\(∀(i:Int) (hi:i.toNat<(u6 a).length),0<=i->t a i.toNat (u6 a)[i.toNat]=true->(∀j (hj:j<i.toNat),t a j ((u6 a)[j]'(by omega))=false)->ae (rt a i))/\((∀j (hj:j<(u6 a).length),t a j (u6 a)[j]=false)->ae (ex a))):LD X f id (aF (gY f id) g):=
 LD.idx hu hc hH hl (A:=A) (B:=Unit) (λa _ k=>hd a k) (λa=>(u6 a).length) (λa k _=>C a/\ ∀j (hj:j<(u6 a).length),j<k->t a j (u6 a)[j]=false)
  (λa x=>(∃(i:Int) (hi:i.toNat<(u6 a).length),0<=i/\t a i.toNat (u6 a)[i.toNat]=true/\(∀j (hj:j<i.toNat),t a j ((u6 a)[j]'(by omega))=false)/\x=rt a i)\/((∀j (hj:j<(u6 a).length),t a j (u6 a)[j]=false)/\x=ex a))
  (by
   intro a _ k ae h0 hk o7 ⟨hC,hI⟩ hn ho;refine hr a k ae o7 hC h0 hk (λht=>ho _ (Nn a k) (.inl ⟨k,o7,h0,ht,λj hj=>hI j (by omega) hj,rfl⟩)) λht=>hn () ⟨hC,λj hj Rb=> ?_⟩;by_cases e:j=k.toNat
   ·subst e;exact ht
   exact hI j hj (by omega))
  (by intro a _ k ae hk ⟨hC,hI⟩ ho;exact hx a k ae hC hk (ho _ (Np a) (.inr ⟨λj hj=>hI j hj hj,rfl⟩)))
  (by
   intro s ae hp;obtain⟨a,h1,h2,h3,h4⟩:=hg s ae hp;refine⟨a,(),h1,⟨h2,λj _ hj=>by omega⟩,?_⟩;rintro x (⟨i,hi,g1,g2,g3,rfl⟩| ⟨g1,rfl⟩)
   ·exact h3 i hi g1 g2 g3
   exact h4 g1)
theorem wR{α:Type}(lt:α->α->Bool)(o:List α)(a:α):(b7 lt o a).length=o.length+1:=by rw[(sU o a).length_eq];simp
def oA{α:Type}(o:List α)(k:Nat)(x y:α):List α:=(o.set k y).set (k-1) x
theorem sW{α:Type}(o:List α)(k:Nat)(x y:α):(oA o k x y).length=o.length:=by simp[oA]
theorem sX{α:Type}(f:α->D)(o:List α)(k:Nat)(x y:α):(((o.map f).set k (f y)).set (k-1) (f x))=(oA o k x y).map f:=by simp[oA,zbx]
theorem Du{α:Type}(pre sY:List α)(x y:α):oA (pre++[y]++x::sY) (pre.length+1) x y=pre++x::(y::sY):=by unfold oA;have e:pre++[y]++x::sY=(pre++[y])++x::sY:=rfl;rw[show(pre++[y]++x::sY).set (pre.length+1) y=pre++[y]++y::sY by rw[zby _ _ (by simp)];simp];rw[zbY,zby _ _ (by simp)];simp
variable{X:XF}
theorem LD.ins{H:List (FuncId×cR)}{hk:List (Nat×(S->K (PX×S)))}{f id:Nat}{g:S->K (PX×S)}(hu:uniq PR f=true)(hc:bE (uX f) (bA PR f id)=true)(hH:HD X H)(hl:Ej X f hk)
  {A α:Type} (hd:A->List α->Int->S) (lt:α->α->Bool) (N:A->Nat) (C:A->Prop) (ex:A->List α->PX×S) (ca: ∀a o,(ex a o).1≠ .normal)
  (hr: ∀a o (k:Int) ae,C a->0<=k->o.length=N a->N a<=1000001->(o7:k.toNat<o.length)->(k=0->ae (ex a o))->(0<k->lt o[k.toNat] (o[k.toNat-1]'(by omega))=false->ae (ex a o))->
   (0<k->lt o[k.toNat] (o[k.toNat-1]'(by omega))=true->ae (.normal,hd a (oA o k.toNat o[k.toNat] (o[k.toNat-1]'(by omega))) (k-1)))->de H hk f id (hd a o k) ae)
  (hg: ∀s ae,g s ae-> ∃(a:A) (o:List α) (x:α) (k:Int),s=hd a (o++[x]) k/\k=o.length/\C a/\(o.length+1=N a/\o.length<=1000000)/\ae (ex a (b7 lt o x))):LD X f id (aF (gY f id) g):=
 LD.par hu hc hH hl (A:=A×List α×α) (B:=List α×List α×Int) (λa b=>hd a.1 (b.1++a.2.2::b.2.1) b.2.2)
  (λa b=>(C a.1/\b.1.length+b.2.1.length+1=N a.1)/\b.2.2=b.1.length/\b.1.length+b.2.1.length<=1000000/\(nC lt a.2.2 b.1.reverse).reverse++b.2.1=b7 lt a.2.1 a.2.2) (λ_ b=>b.1.length) (λa x=>x=ex a.1 (b7 lt a.2.1 a.2.2))
  (by
   rintro⟨a,o,x⟩ ⟨pre,sY,k⟩ ⟨⟨h1,hN⟩,h2,h3,h4⟩;dsimp only at*
   have iG: ∀y,y=ex a (b7 lt o x)->roundPost pre.length (λm s=> ∃b':List α×List α×Int,s=hd a (b'.1++x::b'.2.1) b'.2.2/\((C a/\b'.1.length+b'.2.1.length+1=N a)/\b'.2.2=b'.1.length/\b'.1.length+b'.2.1.length<=1000000/\(nC lt x b'.1.reverse).reverse++b'.2.1=b7 lt o x)/\m=b'.1.length) (λy=>y=ex a (b7 lt o x)) y:=by
    rintro⟨e,s⟩ he;have hn:=ca a (b7 lt o x);rw[<-he] at hn;cases e with
    |normal=>exact absurd rfl hn
    |exit i=>exact he
    |ret=>exact he
   have o7:k.toNat=pre.length:=by omega
   have hlen:(pre++x::sY).length=pre.length+sY.length+1:=by simp;omega
   have hx:(pre++x::sY)[k.toNat]'(by omega)=x:=by simp[o7]
   refine hr a (pre++x::sY) k _ h1 (by omega) (by omega) (by omega) (by omega) (λhz=>iG _ ?_) (λhp bj=>iG _ ?_) λhp bj=> ?_
   ·have:pre=[]:=zaJ (by omega);subst this;rw[<-h4];simp[nC]
   ·obtain⟨p,y,rfl⟩: ∃p y,pre=p++[y]:=by
     rcases List.eq_nil_or_concat pre with h | ⟨p,y,h⟩
     ·subst h;simp at h2;omega
     exact⟨p,y,by simpa using h⟩
    have hy:(p++[y]++x::sY)[k.toNat-1]'(by omega)=y:=by simp[o7]
    rw[hx,hy] at bj;rw[<-h4];simp[nC,bj]
   obtain⟨p,y,rfl⟩: ∃p y,pre=p++[y]:=by
    rcases List.eq_nil_or_concat pre with h | ⟨p,y,h⟩
    ·subst h;simp at h2;omega
    exact⟨p,y,by simpa using h⟩
   have hy:(p++[y]++x::sY)[k.toNat-1]'(by omega)=y:=by simp[o7]
   have Qj:oA (p++[y]++x::sY) k.toNat x y=p++x::(y::sY):=by rw[o7,zaw];exact Du p sY x y
   have wK:(p++[y]).length=p.length+1:=by simp
   rw[hx,hy] at bj⊢;refine⟨p.length,by omega,(p,y::sY,k-1),by rw[Qj],⟨⟨h1,by show p.length+(y::sY).length+1=N a;simp only[zaF];omega⟩,by show k-1=(p.length:Int);omega,by show p.length+(y::sY).length<=1000000;simp only[zaF];omega,?_⟩,rfl⟩;show(nC lt x p.reverse).reverse++y::sY=b7 lt o x;rw[<-h4];simp[nC,bj])
  (by intro s ae hp;obtain⟨a,o,x,k,h1,h2,h3,⟨h6,h4⟩,h5⟩:=hg s ae hp;refine⟨(a,o,x),(o,[],k),h1,⟨⟨h3,by simpa using h6⟩,h2,by simpa using h4,by simp[b7]⟩,?_⟩;rintro y rfl;exact h5)
theorem Dv(l:List bp)(f:bp):b7 ja l f≠[]:=λh=>by have:=(jD (l:=l) (f:=f) (g:=f)).2 (.inr rfl);rw[h] at this;cases this
theorem mU(l:List bp)(f:bp):(b7 ja l f).length=l.length+1:=wR ..
theorem fo{f:bp}:aN f=true↔(1<=f.1/\f.1<=16/\0<=f.2.1)/\(1<=f.2.2.2.1/\f.2.2.2.1<=1000/\0<=f.2.2.1/\f.2.2.1<f.2.2.2.1)/\f.2.2.2.2≠[]:=decide_eq_true_iff
theorem A4.ins{o:cO}{f:bp}(h:A4 o)(hr:aN f=true)(hk:o.a=f.1/\o.n=f.2.1)(hq:o.q=f.2.2.2.1)(hl:f.2.2.2.2.length<=100)(hn:o.l.any (λx=>decide (x.2.2.1=f.2.2.1))=false)(hc:((b7 ja o.l f).length:Int)<o.q):A4 ⟨o.a,o.n,o.q,b7 ja o.l f⟩:=by
 obtain⟨r1,r2,r3⟩:=fo.1 hr;refine⟨h.a,h.q,λg hg=> ?_,yy h.s λg hg e=> ?_,hc⟩
 ·rcases jD.1 hg with hg |rfl
  ·exact h.m g hg
  exact⟨hk.1.symm,hk.2.symm,hq.symm,r2.2.2.1,by rw[hq];exact r2.2.2.2,r3,hl⟩
 rw[zb1] at hn;exact hn g hg (by simpa using e)
theorem mV{f:bp}{o:cO}:lv f o=true↔o.a=f.1/\o.n=f.2.1:=decide_eq_true_iff
theorem sZ{st:JL}{f:bp}:
  (aN f=false/\eF st f=(([],false,11),st))\/
  (aN f=true/\st.d.contains (f.1,f.2.1)=true/\eF st f=(([],false,210),st))\/
  (aN f=true/\st.d.contains (f.1,f.2.1)=false/\ ∃k o,st.o[k]?=some o/\o.a=f.1/\o.n=f.2.1/\st.o.findIdx? (lv f)=some k/\
   ((o.q≠f.2.2.2.1/\eF st f=(([],false,11),st))\/(o.q=f.2.2.2.1/\o.l.any (λx=>decide (x.2.2.1=f.2.2.1))=true/\eF st f=(([],false,210),st))\/
    (o.q=f.2.2.2.1/\o.l.any (λx=>decide (x.2.2.1=f.2.2.1))=false/\((((b7 ja o.l f).length:Int)<o.q/\eF st f=(([],false,0),⟨st.o.set k ⟨o.a,o.n,o.q,b7 ja o.l f⟩,st.d⟩))\/
     (¬((b7 ja o.l f).length:Int)<o.q/\eF st f=(((b7 ja o.l f).flatMap (·.2.2.2.2),true,0),⟨st.o.eraseIdx k,st.d++[(f.1,f.2.1)]⟩))))))\/
  (aN f=true/\st.d.contains (f.1,f.2.1)=false/\st.o.findIdx? (lv f)=none/\
   ((50<=st.o.length/\eF st f=(([],false,211),st))\/(¬50<=st.o.length/\((1<f.2.2.2.1/\eF st f=(([],false,0),⟨st.o++[⟨f.1,f.2.1,f.2.2.2.1,[f]⟩],st.d⟩))\/(¬1<f.2.2.2.1/\eF st f=((f.2.2.2.2,true,0),⟨st.o,st.d++[(f.1,f.2.1)]⟩)))))):=by
 unfold eF;cases h1:aN f with
 |false=>exact .inl ⟨rfl,zat rfl⟩
 |true=>
  refine .inr ?_;rw[zaB (by simp)];cases h2:st.d.contains (f.1,f.2.1) with
  |true=>exact .inl ⟨rfl,rfl,zat rfl⟩
  |false=>
   refine .inr ?_;rw[zaB (by simp)];cases h3:st.o.findIdx? (lv f) with
   |some k=>
    refine .inl ⟨rfl,rfl,?_⟩;obtain⟨hk,h4,_⟩:=za6.1 h3;have hx:st.o[k]?=some st.o[k]:=zac hk;obtain⟨e1,e2⟩:=mV.1 h4;refine⟨k,st.o[k],hx,e1,e2,rfl,?_⟩;simp only[hx];by_cases h5:st.o[k].q=f.2.2.2.1
    ·refine .inr ?_;rw[zaB (by simpa using h5)];cases h6:st.o[k].l.any (λx=>decide (x.2.2.1=f.2.2.1)) with
     |true=>exact .inl ⟨h5,rfl,zat rfl⟩
     |false=>
      refine .inr ⟨h5,rfl,?_⟩;rw[zaB (by simp)];unfold Fx;by_cases h7:((b7 ja st.o[k].l f).length:Int)<st.o[k].q
      ·exact .inl ⟨h7,zat h7⟩
      exact .inr ⟨h7,zaB h7⟩
    exact .inl ⟨h5,zat h5⟩
   |none=>
    refine .inr ⟨rfl,rfl,rfl,?_⟩;dsimp only;by_cases h4:50<=st.o.length
    ·exact .inl ⟨h4,zat h4⟩
    refine .inr ⟨h4,?_⟩;rw[zaB h4];unfold Fx;have e:b7 ja [] f=[f]:=rfl;have e2:(([f]:List bp).length:Int)=1:=rfl;dsimp only;rw[e,e2];by_cases h7:1<f.2.2.2.1
    ·refine .inl ⟨h7,?_⟩;rw[zat h7,zby (h:=zae _)];simp
    refine .inr ⟨h7,?_⟩;rw[zaB h7,zbE (zae _)];simp
theorem l9{f:bp}{l:List cO}(h:l.findIdx? (lv f)=none): ∀o∈l,¬(o.a=f.1/\o.n=f.2.1):=λo ho h2=>by have:=zcx.1 h o ho;rw[mV.2 h2] at this;cases this
theorem uF{st:JL}{f:bp}(h:BB st)(hl:f.2.2.2.2.length<=100):BB (eF st f).2/\(eF st f).2.d.length<=st.d.length+1:=by
 rcases sZ (st:=st) (f:=f) with⟨_,e⟩| ⟨_,_,e⟩| ⟨hr,hd,k,o,hk,ha,hn,_,⟨_,e⟩| ⟨_,_,e⟩| ⟨hq,hy,⟨hc,e⟩| ⟨hc,e⟩⟩⟩| ⟨hr,hd,hf,⟨_,e⟩| ⟨OO,⟨hc,e⟩| ⟨hc,e⟩⟩⟩<;>rw[e]
 ·exact⟨h,zbq _⟩
 ·exact⟨h,zbq _⟩
 ·exact⟨h,zbq _⟩
 ·exact⟨h,zbq _⟩
 ·have eD:=zak hk;have fK:=(h.o o eD).1;have rM:k<st.o.length:=(zaa.1 hk).1;have em:(st.o.set k ⟨o.a,o.n,o.q,b7 ja o.l f⟩).map (λo=>(o.a,o.n))=st.o.map λo=>(o.a,o.n):=by
   rw[zbx];refine za7 λj=> ?_;by_cases hj:k=j
   ·subst hj;rw[zaE (by simpa using rM),zai,hk];rfl
   rw[zau hj]
  refine⟨⟨λo' eZ=> ?_,by rw[em];exact h.nd,λo' eZ=> ?_,by simpa using h.len⟩,zbq _⟩
  ·rcases zbl eZ with eZ |rfl
   ·exact h.o o' eZ
   exact⟨fK.ins hr ⟨ha,hn⟩ hq hl hy hc,Dv _ _⟩
  rcases zbl eZ with eZ |rfl
  ·exact h.di o' eZ
  exact h.di o eD
 ·have eD:=zak hk;have rM:k<st.o.length:=(zaa.1 hk).1;refine⟨⟨λo' eZ=>h.o o' (zaU eZ),?_,λo' eZ wh=> ?_,?_⟩,by simp⟩
  ·dsimp only;exact h.nd.sublist ((zbw ..).map _)
  ·rcases zaH.1 wh with wh |wh
   ·exact h.di o' (zaU eZ) wh
   obtain⟨i,hi,ca⟩:=zbc.1 eZ;have il:=(zaa.1 ca).1;have h1:(st.o.map λo=>(o.a,o.n))[i]?=(st.o.map λo=>(o.a,o.n))[k]?:=by rw[zai,zai,ca,hk];simp only[zaL] at wh;simp[wh,ha,hn]
   exact hi ((zcp (by simpa using il) h.nd).1 h1)
  have:=h.len;have:=List.length_eraseIdx_le st.o k;dsimp only;omega
 ·exact⟨h,zbq _⟩
 ·have bg:=l9 hf;obtain⟨r1,r2,r3⟩:=fo.1 hr;have hd:(f.1,f.2.1)∉st.d:=λhm=>by rw[zcc.2 hm] at hd;cases hd
  refine⟨⟨λo' eZ=> ?_,?_,λo' eZ=> ?_,?_⟩,zbq _⟩
  ·rcases zaH.1 eZ with eZ |eZ
   ·exact h.o o' eZ
   simp only[zaL] at eZ;subst eZ;refine⟨⟨r1,⟨r2.1,r2.2.1⟩,λg hg=> ?_,List.pairwise_singleton ..,hc⟩,by simp⟩;simp only[zaL] at hg;subst hg;exact⟨rfl,rfl,rfl,r2.2.2.1,r2.2.2.2,r3,hl⟩
  ·dsimp only;rw[za0,za8];refine⟨h.nd,by simp,λx hx y hy=> ?_⟩;obtain⟨o',eZ,rfl⟩:=zaQ.1 hx;simp only[zaO,zbU,zaL] at hy;subst hy;intro e;simp only[za9] at e;exact bg o' eZ e
  ·rcases zaH.1 eZ with eZ |eZ
   ·exact h.di o' eZ
   simp only[zaL] at eZ;subst eZ;exact hd
  dsimp only;rw[zaw];simp only[zaF,zbg];omega
 have bg:=l9 hf;refine⟨⟨h.o,h.nd,λo' eZ wh=> ?_,h.len⟩,by simp⟩;rcases zaH.1 wh with wh |wh
 ·exact h.di o' eZ wh
 simp only[zaL,za9] at wh;exact bg o' eZ wh
theorem HT:BB ⟨[],[]⟩:=⟨by simp,by simp,by simp,by simp⟩
theorem wS: ∀(l:List bp),(∀f∈l,f.2.2.2.2.length<=100)->(l.flatMap (·.2.2.2.2)).length<=l.length*100
 | [],_=>by simp
 |f::l,h=>by rw[zaZ,zaw,zaF];have:=h f (by simp);have:=wS l λg hg=>h g (by simp[hg]);omega
theorem aD{α:Type}{k:Nat}{v:α}{r:List (Nat×α)}{j:Nat}{e:α}(h:lk ((k,v)::r) j=some e):(j=k/\e=v)\/lk r j=some e:=by
 unfold lk at h;split at h
 next hb=>cases h;exact .inl ⟨(zab hb).symm,rfl⟩
 exact .inr h
theorem cj{α:Type}{k:Nat}{v:α}{j:Nat}{e:α}(h:lk [(k,v)] j=some e):j=k/\e=v:=by
 rcases aD h with h |h
 ·exact h
 cases h
theorem b8{F F':Nat->Prop}{w w':World}{v:Value}{x:D}(h:aA F w v x)(hx:D.ve x=true):aA F' w' v x:=by cases h<;>first | (cases hx;done)|constructor
theorem A9{F F':Nat->Prop}{w w':World}{v:Value}(h:aA F w v (.agg [])):aA F' w' v (.agg []):=by
 cases h with
 |agg vs _ hl _ _=>have:vs=[]:=zcB.1 hl;subst this;exact .agg [] [] rfl (λc h=>by cases h) (λi v c h=>by simp at h)
theorem ew.eq{g g':Value}(h:ew g g')(hn: ∀l,g'≠ .tuple l):g=g':=by
 rcases h with h | ⟨v,l,l',h1,h2⟩
 ·exact h
 exact absurd h2 (hn _)
section
variable{α:Type}{p:α->Bool}
theorem uG: ∀{l:List α} {k:Nat} {x:α},l[k]?=some x->p x=true->(∀(i:Nat) (y:α),l[i]?=some y->p y=true->i=k)->l.find? p=some x
 | [],k,x,h,_,_=>by simp at h
 |z::l,k,x,h,hp,hu=>by
  cases hz:p z with
  |true=>have e:=hu 0 z rfl hz;subst e;cases h;exact List.find?_cons_of_pos hz
  |false=>
   rw[List.find?_cons_of_neg (by simp[hz])];cases k with
   |zero=>cases h;rw[hp] at hz;cases hz
   |succ k=>exact uG (k:=k) h hp λi y hi hy=>by have:=hu (i+1) y hi hy;omega
theorem Dw{l:List α}(h: ∀(i:Nat) (y:α),l[i]?=some y->p y=false):l.find? p=none:=
 zbV.2 λx hx=>by obtain⟨i,hi⟩:=zao hx;simp[h i x hi]
theorem wT: ∀{l:List α} {k:Nat} {x y:α},l[k]?=some x->p x=false->p y=false->(l.set k y).find? p=l.find? p
 | [],k,x,y,h,_,_=>by simp at h
 |z::l,0,x,y,h,hx,hy=>by cases h;rw[zcj,zbt,zbt,hx,hy]
 |z::l,k+1,x,y,h,hx,hy=>by rw[zck,zbt,zbt,wT (l:=l) (k:=k) h hx hy]
theorem qM: ∀{l:List α} {k:Nat} {x:α},l[k]?=some x->p x=false->(l.eraseIdx k).find? p=l.find? p
 | [],k,x,h,_=>by simp at h
 |z::l,0,x,h,hx=>by cases h;rw[zb3,List.find?_cons_of_neg (by simp[hx])]
 |z::l,k+1,x,h,hx=>by rw[zb4,zbt,zbt,qM (l:=l) (k:=k) h hx]
end
section
variable{Q:Program}{F F2:Nat->Prop}{G V V1 G1 G2:Nat->Value}{w w2 w0:World}{R R1 R2:List (Nat×En)}
theorem aL.cz(h:aL Q ⟨V,w0,0,false⟩ F G w R){b:Nat}(hb:Own G R b):b<w.heap.size:=by obtain⟨n,e,h1,h2⟩:=hb;exact(h.rg n e h1).lt h2
theorem aL.shut(h:aL Q ⟨V,w0,0,false⟩ F G w R)(h2:aL Q ⟨V1,w0,0,false⟩ F2 G2 w2 R2)(hx:Ext (Own G1 R1) (Own G2 R2) F F2 w w2)(hs: ∀b,Own G1 R1 b->Own G R b){t:Option Nat}{x:D}{p:World->Value->Prop}{u:Value}{bs:List Nat}
  (hp: ∀w':World,(∀b,b∈bs->w'.heap[b]?=w2.heap[b]?)->p w' (.tuple ⟨u::bs.map av⟩)) (hb: ∀b∈bs,Own G2 R2 b\/Own G R b) (hT: ∀i,t=some i-> ∃l,V i= .tuple ⟨u::l⟩):
  aL Q ⟨V,w0,0,false⟩ F (λ_=> .tuple ⟨u::bs.map av⟩) w2 [(0,⟨0,t,.deep x p⟩)]/\Ext (Own G R) (Own (λ_=> .tuple ⟨u::bs.map av⟩) [(0,⟨0,t,.deep x p⟩)]) F F w w2:=by
 have ho: ∀b,Own (λ_=> .tuple ⟨u::bs.map av⟩) [(0,⟨0,t,.deep x p⟩)] b->b∈bs:=λb ⟨n,e,h1,h3⟩=>by obtain⟨rfl,rfl⟩:=cj h1;have h3:b∈rj (.tuple ⟨u::bs.map av⟩):=h3;rwa [dM] at h3
 refine h.back h2 hx hs ?_ ?_ ?_ ?_
 ·intro n e he;obtain⟨rfl,rfl⟩:=cj he;refine⟨u,bs,rfl,λb oN=> ?_,λw' hw=>hp w' λb hb=>hw b (.inl hb)⟩;rcases hb b oN with h3 |h3
  ·exact h2.cz h3
  exact zaK (h.cz h3) hx.size
 ·intro n m e e' b he bb _ _;rw[(cj he).1,(cj bb).1]
 ·exact λb oN=>hb b (ho b oN)
 intro n e i he hi _;obtain⟨rfl,rfl⟩:=cj he;obtain⟨l,hl⟩:=hT i hi;exact .inr ⟨u,bs.map av,l,rfl,hl⟩
end
theorem pe{a n b m:Int}:D.cP (fI a n) (fI b m)=true↔a=b/\n=m:=by rw[D.aY];simp
abbrev GB(k:D)(x:jO):Bool:=D.cP (fI x.1.a x.1.n) k
def IW(al:List jO):Prop:=(al.map λx=>(x.1.a,x.1.n)).Nodup
theorem IW.uniq{al:List jO}(h:IW al){k:Nat}{x:jO}(hk:al[k]?=some x): ∀(i:Nat) (y:jO),al[i]?=some y->GB (fI x.1.a x.1.n) y=true->i=k:=λi y hi hy=>by
 have il:=(zaa.1 hi).1;obtain⟨e1,e2⟩:=pe.1 hy;have h1:(al.map λx=>(x.1.a,x.1.n))[i]?=(al.map λx=>(x.1.a,x.1.n))[k]?:=by rw[zai,zai,hi,hk];simp[e1,e2]
 exact(zcp (by simpa using il) h).1 h1
theorem ma{al:List jO}{a n:Int}(h: ∀x∈al,¬(x.1.a=a/\x.1.n=n)):aU al (fI a n)=none:=by unfold aU;rw[zbV.2 λx hx=>by intro e;exact h x hx (pe.1 e)];rfl
theorem Dx{al:List jO}(h:IW al){k:Nat}{x:jO}(hk:al[k]?=some x):aU al (fI x.1.a x.1.n)=some (av x.2.1):=by unfold aU;rw[uG (p:=GB (fI x.1.a x.1.n)) hk (kT _) (h.uniq hk)];rfl
theorem wU{al:List jO}(h:IW al){k:Nat}{x:jO}(hk:al[k]?=some x):vf (fI x.1.a x.1.n) (aU al)=aU (al.eraseIdx k):=by
 funext j;unfold vf aU;cases hj:D.cP (fI x.1.a x.1.n) j with
 |true=>
  have hj:=(D.aY _ _).1 hj;subst hj;rw[zbk,Dw (p:=λy:jO=>D.cP (fI y.1.a y.1.n) (fI x.1.a x.1.n)) λi y hi=> ?_]
  ·rfl
  cases hy:D.cP (fI y.1.a y.1.n) (fI x.1.a x.1.n) with
  |false=>rfl
  |true=>have hm:=zak hi;obtain⟨i2,ca,Ll⟩:=zbc.1 hm;exact absurd (h.uniq hk i2 y Ll hy) ca
 |false=>rw[zbi,qM hk hj]
theorem Ba{al:List jO}(h:IW al){k:Nat}{x y:jO}(hk:al[k]?=some x)(hy:(y.1.a,y.1.n)=(x.1.a,x.1.n)):(λj=>bif D.cP (fI x.1.a x.1.n) j then some (av y.2.1) else aU al j)=aU (al.set k y):=by
 have rM:k<al.length:=(zaa.1 hk).1;simp only[za9] at hy;funext j;unfold aU;cases hj:D.cP (fI x.1.a x.1.n) j with
 |true=>
  have hj:=(D.aY _ _).1 hj;subst hj;rw[zbk,uG (p:=λz:jO=>D.cP (fI z.1.a z.1.n) (fI x.1.a x.1.n)) (zaE rM) (pe.2 hy) λi z hi hz=> ?_]
  ·rfl
  by_cases Gl:k=i
  ·exact Gl.symm
  rw[zau Gl] at hi;exact h.uniq hk i z hi hz
 |false=>rw[zbi,wT hk hj (by show D.cP (fI y.1.a y.1.n) j=false;rw[hy.1,hy.2];exact hj)]
theorem yC{al:List jO}{y:jO}(h: ∀x∈al,¬(x.1.a=y.1.a/\x.1.n=y.1.n)):(λj=>bif D.cP (fI y.1.a y.1.n) j then some (av y.2.1) else aU al j)=aU (al++[y]):=by
 funext j;have h0:=ma h;unfold aU at h0⊢;rw[List.find?_append];cases hj:D.cP (fI y.1.a y.1.n) j with
 |true=>have Lg:=(D.aY _ _).1 hj;subst Lg;rw[zbk,Option.map_eq_none_iff.1 h0];simp[List.find?,hj]
 |false=>rw[zbi];simp[List.find?,hj]
theorem Bb{al:List jO}{a n:Int}(h:aU al (fI a n)=none):vf (fI a n) (aU al)=aU al:=by
 funext j;unfold vf;cases hj:D.cP (fI a n) j with
 |true=>have hj:=(D.aY _ _).1 hj;subst hj;rw[zbk,h]
 |false=>rfl
theorem cY{d:List (Int×Int)}{a n:Int}:(a7 d (fI a n)).isSome=d.contains (a,n):=by
 unfold a7;rw[zb9,zcc];constructor
 ·intro h;split at h
  next h2=>obtain⟨x,hx,hk⟩:=zbe.1 h2;obtain⟨e1,e2⟩:=pe.1 hk;rw[<-e1,<-e2];exact hx
  cases h
 intro h;rw[zat (zbe.2 ⟨_,h,kT _⟩)];rfl
theorem s5(d:List (Int×Int)):HS (a7 d):=λk=>by unfold a7;split<;>rfl
theorem s6(d:List (Int×Int))(a n:Int):FF (fI a n) (a7 d)=a7 (d++[(a,n)]):=by
 funext j;unfold FF a7;rw[List.any_append];cases hj:D.cP (fI a n) j with
 |true=>simp[hj]
 |false=>rw[List.any_cons,List.any_nil,hj,zbi,Bool.or_false,Bool.or_false]
theorem fP.unit{F F':Nat->Prop}{w w':World}{kt:TypeId}{d:List (Int×Int)}{n:Int}{es:List MapEntry}{ck:Nat}(h:fP PR F w kt (a7 d) n es ck):fP PR F' w' kt (a7 d) n es ck:=by
 obtain⟨ks,h1,h2,h3,h4,h5,h6,h7⟩:=h;refine⟨ks,h1,h2,λi p e hp he=> ?_,h4,h5,h6,h7⟩;obtain⟨a,b,c⟩:=h3 i p e hp he;refine⟨a,b,?_⟩;have h8:=(h5 p.1 p.2).2 (zak hp);have e:p.2= .agg []:=by
  unfold a7 at h8;split at h8
  ·exact(zal h8).symm
  cases h8
 rw[e] at c⊢;exact A9 c
theorem qN{F F':Nat->Prop}{w w':World}{cs:Array Value}{l:List (List UInt8)}(h:fC F w cs 1 (l.map D.str)):fC F' w' cs 1 (l.map D.str):=λi x hx=>by
 obtain⟨h1,h2,h3⟩:=h i x hx;refine⟨h1,h2,λj c hc=> ?_⟩;have h4:=h3 j c hc;rw[zai] at hx;cases hl:l[i]? with
 |none=>rw[hl] at hx;cases hx
 |some s=>
  rw[hl] at hx;cases hx;cases j with
  |zero=>cases hc;exact b8 h4 rfl
  |succ j=>cases hc
theorem pg{F F':Nat->Prop}{w w':World}{G G':Nat->Value}{R R':List (Nat×En)}{v:Value}{s:List UInt8}{b:Bool}{e:Int}(h:ao F w G R v (oP s b e)):ao F' w' G' R' v (oP s b e):=by
 cases h with
 |fL vs _ hl hc=>
  refine .fL vs _ hl λi u c hu hp=> ?_;have h1:=hc i u c hu hp
  match i,hp with
  |0,hp=>
   cases hp;cases h1 with
   |d h1=>exact .d (b8 h1 rfl)
  |1,hp=>
   cases hp;cases h1 with
   |d h1=>exact .d (b8 h1 rfl)
  |2,hp=>
   cases hp;cases h1 with
   |d h1=>exact .d (b8 h1 rfl)
def oQ(o:cO):D:= .agg [.int .i64 o.a,.int .i64 o.n,.int .i64 o.q,.sl 5 (o.l.map ia)]
def rQ(st:JL):D:= .agg [.sl 1 (st.o.map oQ),.sl 1 (st.d.map λx=>fI x.1 x.2)]
theorem wV{x y:cO}(h:oQ x=oQ y):x=y:=by obtain⟨a,b,c,l⟩:=x;obtain⟨a',b',c',l'⟩:=y;simp only[oQ,D.agg.injEq,zbb,D.int.injEq,D.sl.injEq,zcd,zb5] at h;obtain⟨rfl,rfl,rfl,h⟩:=h;rw[zB h]
theorem kU{α:Type}{f:α->D}(hf: ∀x y,f x=f y->x=y): ∀{l m:List α},l.map f=m.map f->l=m
 | [],[],_=>rfl
 | [],_::_,h=>by cases h
 |_::_,[],h=>by cases h
 |x::l,y::m,h=>by simp only[zaO,zbb] at h;rw[hf _ _ h.1,kU hf h.2]
theorem Dy{x y:Int×Int}(h:fI x.1 x.2=fI y.1 y.2):x=y:=by simp only[fI,D.agg.injEq,zbb,D.int.injEq,zcd,zb5] at h;exact Prod.ext h.1 h.2
theorem Dz{x y:JL}(h:rQ x=rQ y):x=y:=by obtain⟨a,b⟩:=x;obtain⟨a',b'⟩:=y;simp only[rQ,D.agg.injEq,zbb,D.sl.injEq,zcd,zb5] at h;rw[kU (λ_ _=>wV) h.1,kU (λ_ _=>Dy) h.2]
structure JQ(st:JL)(w:World)(g:Value):Prop where
 h:JP st w g
abbrev rJ(t:Option Nat)(st:JL):List (Nat×En):=[(0,⟨0,t,.deep (rQ st) (JQ st)⟩)]
structure JW(st:JL)(w:World)(b0 b1 b2:Nat)(al:List jO):Prop where
 a:al.map (·.1)=st.o
 nd:(cB b0 b1 b2 al).Nodup
 c: ∃cc,w.heap[b0]?=some (.cells cc 53 (0,0))/\cc.size=2/\cc.getD 0 undef= .map (some b1)/\cc.getD 1 undef= .map (some b2)
 m: ∃es ck,w.heap[b1]?=some (.map es ck)/\MQ PR Em w (λ_=>undef) [] 58 (aU al) al.length none es.toList ck
 d: ∃es ck,w.heap[b2]?=some (.map es ck)/\fP PR Em w 58 (a7 st.d) st.d.length es.toList ck
 f: ∀x∈al,A6 w x
abbrev HU(b0 b1 b2:Nat)(al:List jO):Value:= .tuple ⟨av b0::(cB b0 b1 b2 al).map av⟩
theorem JW.of{st:JL}{w:World}{g:Value}(h:JP st w g): ∃b0 b1 b2 al,g=HU b0 b1 b2 al/\JW st w b0 b1 b2 al:=by obtain⟨b0,b1,b2,al,cc,es,ck,Bu,Eo,h1,h2,h3,h4,h5,h6,h7,h8,h9,Ko,Kp,Kq⟩:=h;exact⟨b0,b1,b2,al,h2,h1,h3,⟨cc,h4,h5,h6,h7⟩,⟨es,ck,h8,h9⟩,⟨Bu,Eo,Ko,Kp⟩,Kq⟩
theorem JW.to{st:JL}{w:World}{b0 b1 b2:Nat}{al:List jO}(h:JW st w b0 b1 b2 al):JP st w (HU b0 b1 b2 al):=by obtain⟨h1,h3,⟨cc,h4,h5,h6,h7⟩,⟨es,ck,h8,h9⟩,⟨Bu,Eo,Ko,Kp⟩,Kq⟩:=h;exact⟨b0,b1,b2,al,cc,es,ck,Bu,Eo,h1,rfl,h3,h4,h5,h6,h7,h8,h9,Ko,Kp,Kq⟩
theorem JW.Nq{st:JL}{w:World}{b0 b1 b2:Nat}{al:List jO}(h:JW st w b0 b1 b2 al)(hJ:BB st):IW al:=by have:=hJ.nd;rw[<-h.a,List.map_map] at this;exact this
def gJ(b0 b1 b2:Nat)(g3 g4:Value):Nat->Value
 |0=>av b0
 |1=> .map (some b1)
 |2=> .map (some b2)
 |3=>g3
 |_=>g4
theorem hQ{cc:Array Value}{P:Value->Prop}(hs:cc.size=2)(h0:P (cc.getD 0 undef))(h1:P (cc.getD 1 undef)): ∀v∈cc.toList,P v:=λv hv=>by
 obtain⟨i,hi⟩:=zao hv;have il:i<cc.size:=by simpa using(zaa.1 hi).1
 have e:v=cc.getD i undef:=by rw[zbI] at hi;simp[zav,hi]
 rw[e]
 match i,il with
 |0,_=>exact h0
 |1,_=>exact h1
 |i+2,il=>omega
abbrev mW(x:jO):List Nat:=[x.2.1,x.2.2]
theorem zE: ∀{al:List jO},(al.flatMap mW).Nodup-> ∀x∈al,x.2.1≠x.2.2
 | [],_,x,hx=>by cases hx
 |y::al,h,x,hx=>by
  rw[zaZ,za8] at h;rcases zan.1 hx with rfl |hx
  ·have:=h.1;simp[mW] at this;exact this
  exact zE h.2.1 x hx
theorem DA{al:List jO}(h:(al.flatMap mW).Nodup){k:Nat}{x:jO}(hk:al[k]?=some x): ∀y∈al.eraseIdx k,y.2.1≠x.2.1/\y.2.1≠x.2.2/\y.2.2≠x.2.1/\y.2.2≠x.2.2:=by
 have hl:=(zaa.1 hk).1;have e:al=al.take k++x::al.drop (k+1):=by have:=zbH k al;rw[zbX hl,(zaa.1 hk).2] at this;exact this.symm
 rw[zbG];rw[e,zbB,zaZ,za8,za8] at h;obtain⟨_,⟨_,_,h2⟩,h3⟩:=h;intro y hy;rcases zaH.1 hy with hy |hy
 ·have key: ∀b∈mW y,∀c∈mW x,b≠c:=λb hb c hc=>h3 b (zbj.2 ⟨y,hy,hb⟩) c (zaH.2 (.inl hc));exact⟨key _ (by simp) _ (by simp),key _ (by simp) _ (by simp),key _ (by simp) _ (by simp),key _ (by simp) _ (by simp)⟩
 have key: ∀b∈mW y,∀c∈mW x,b≠c:=λb hb c hc=>(h2 c hc b (zbj.2 ⟨y,hy,hb⟩)).symm;exact⟨key _ (by simp) _ (by simp),key _ (by simp) _ (by simp),key _ (by simp) _ (by simp),key _ (by simp) _ (by simp)⟩
section
variable{F:Nat->Prop}{G V:Nat->Value}{w w0:World}{st:JL}{b0 b1 b2:Nat}{al:List jO}
theorem wW{vals:D->Option Value}{m:Int}{d:D->Option D}{c:Int}{g3 g4:Value}{n:Nat}{e:En}{b:Nat}(he:lk (rP vals m d c) n=some e)(hb:ay (gJ b0 b1 b2 g3 g4 n) e.obj b):(n=0/\b=b0)\/(n=1/\b=b1)\/(n=2/\b=b2):=by
 rcases aD he with⟨rfl,rfl⟩|he
 ·exact .inl ⟨rfl,(zal hb).symm⟩
 rcases aD he with⟨rfl,rfl⟩|he
 ·exact .inr (.inl ⟨rfl,(zal hb).symm⟩)
 obtain⟨rfl,rfl⟩:=cj he;exact .inr (.inr ⟨rfl,(zal hb.2).symm⟩)
theorem zF{a n':Int}{vals:D->Option Value}{m:Int}{d:D->Option D}{c:Int}{ps:List (List UInt8)}{k:Int}{r3 r4 N cap:Nat}{n:Nat}{e:En}{b:Nat}(he:lk (uZ a n' vals m d c ps k) n=some e)(hb:ay (gJ b0 b1 b2 (av r3) (.slice (some ⟨r4,0,none⟩) N cap) n) e.obj b):(n=0/\b=b0)\/(n=1/\b=b1)\/(n=2/\b=b2)\/(n=3/\b=r3)\/(n=4/\b=r4):=by
 rcases aD he with⟨rfl,rfl⟩|he
 ·exact .inl ⟨rfl,(zal hb).symm⟩
 rcases aD he with⟨rfl,rfl⟩|he
 ·exact .inr (.inl ⟨rfl,(zal hb).symm⟩)
 rcases aD he with⟨rfl,rfl⟩|he
 ·exact .inr (.inr (.inl ⟨rfl,(zal hb.2).symm⟩))
 rcases aD he with⟨rfl,rfl⟩|he
 ·exact .inr (.inr (.inr (.inl ⟨rfl,(zal hb).symm⟩)))
 obtain⟨rfl,rfl⟩:=cj he;exact .inr (.inr (.inr (.inr ⟨rfl,(zal hb.2).symm⟩)))
theorem jE(hg:G 0=HU b0 b1 b2 al){b:Nat}(hb:b∈cB b0 b1 b2 al){t:Option Nat}:Own G (rJ t st) b:=by refine⟨0,_,rfl,?_⟩;show b∈rj (G 0);rw[hg,dM];exact hb
theorem Bc{al:List jO}{k:Nat}{x:jO}(hk:al[k]?=some x):x.2.1∈cB b0 b1 b2 al/\x.2.2∈cB b0 b1 b2 al:=by have:=zak hk;simp only[cB,zan,zbj];exact⟨.inr (.inr (.inr ⟨x,this,by simp⟩)),.inr (.inr (.inr ⟨x,this,by simp⟩))⟩
theorem JW.zG(hJ:JW st w b0 b1 b2 al){t:Option Nat}(h:aL PR ⟨V,w0,0,false⟩ F G w (rJ t st))(hg:G 0=HU b0 b1 b2 al):
  aL PR ⟨gJ b0 b1 b2 undef undef,w0,0,false⟩ F (gJ b0 b1 b2 undef undef) w (rP (aU al) al.length (a7 st.d) st.d.length):=by
 have hY:=hJ.nd;simp only[cB,zax,zan,zb0] at hY;obtain⟨⟨n1,n2,_⟩,⟨n3,_⟩,_⟩:=hY;refine h.Dl ?_ ?_ ?_ λn e i he hi _=> ?_
 ·intro n e he;rcases aD he with⟨rfl,rfl⟩|he
  ·obtain⟨cc,h1,h2,h3,h4⟩:=hJ.c;refine⟨b0,cc,rfl,h1,h2,hQ h2 (by rw[h3];rfl) (by rw[h4];rfl),λi p hp=> ?_⟩
   match i,hp with
   |0,hp=>cases hp;rw[h3];exact .mp 1 0 _ rfl ⟨_,rfl,zae _,λ_ _=>rfl⟩
   |1,hp=>cases hp;rw[h4];exact .mp 2 0 _ rfl ⟨_,rfl,zae _,λ_ _=>rfl⟩
  rcases aD he with⟨rfl,rfl⟩|he
  ·obtain⟨es,ck,h1,h2⟩:=hJ.m;exact⟨b1,es,ck,rfl,h1,h2.raw⟩
  obtain⟨rfl,rfl⟩:=cj he;obtain⟨es,ck,h1,h2⟩:=hJ.d;exact⟨b2,es,ck,rfl,h1,h2.unit,λh=>by cases h⟩
 ·intro n m e e' b he bb hb cb;rcases wW he hb with⟨rfl,rfl⟩| ⟨rfl,rfl⟩| ⟨rfl,rfl⟩<;>rcases wW bb cb with⟨rfl,h1⟩| ⟨rfl,h1⟩| ⟨rfl,h1⟩<;>first |rfl |exact absurd h1 (by assumption)|exact absurd h1.symm (by assumption)
 ·intro b ⟨n,e,he,hb⟩;rcases wW he hb with⟨rfl,rfl⟩| ⟨rfl,rfl⟩| ⟨rfl,rfl⟩<;>exact jE hg (by simp[cB])
 have e:n=i:=by
  rcases aD he with⟨rfl,rfl⟩|he
  ·exact zal hi
  rcases aD he with⟨rfl,rfl⟩|he
  ·exact zal hi
  obtain⟨rfl,rfl⟩:=cj he;exact zal hi
 rw[e];exact .inl rfl
theorem JW.ne(hJ:JW st w b0 b1 b2 al){k:Nat}{x:jO}(hk:al[k]?=some x):(b0≠b1/\b0≠b2/\b1≠b2)/\(b0≠x.2.1/\b1≠x.2.1/\b2≠x.2.1)/\(b0≠x.2.2/\b1≠x.2.2/\b2≠x.2.2)/\x.2.1≠x.2.2:=by have hY:=hJ.nd;simp only[cB,zax,zan,zb0,zbj] at hY;obtain⟨⟨n1,n2,n3⟩,⟨n4,n5⟩,n6,n7⟩:=hY;have hm:=zak hk;refine⟨⟨n1,n2,n4⟩,⟨λh=>n3 ⟨x,hm,by simp[h]⟩,λh=>n5 ⟨x,hm,by simp[h]⟩,λh=>n6 ⟨x,hm,by simp[h]⟩⟩,⟨λh=>n3 ⟨x,hm,by simp[h]⟩,λh=>n5 ⟨x,hm,by simp[h]⟩,λh=>n6 ⟨x,hm,by simp[h]⟩⟩,λh=> ?_⟩;exact zE n7 x hm h
theorem JW.DB(hJ:JW st w b0 b1 b2 al)(ho:BB st){t:Option Nat}(h:aL PR ⟨V,w0,0,false⟩ F G w (rJ t st))(hg:G 0=HU b0 b1 b2 al){k:Nat}{x:jO}(hk:al[k]?=some x):
  ∃cap,aL PR ⟨gJ b0 b1 b2 (av x.2.1) (.slice (some ⟨x.2.2,0,none⟩) (df x.1).length cap),w0,0,false⟩ F (gJ b0 b1 b2 (av x.2.1) (.slice (some ⟨x.2.2,0,none⟩) (df x.1).length cap)) w (uZ x.1.a x.1.n (aU al) al.length (a7 st.d) st.d.length (df x.1) x.1.l.length):=by
 obtain⟨⟨n1,n2,n3⟩,⟨n4,n5,n6⟩,⟨n7,n8,n9⟩,Qk⟩:=hJ.ne hk;obtain⟨cap,cc,cs,h1,h2,h3,h4,h5,h6,h7,h8,h9⟩:=hJ.f x (zak hk);rw[<-eU] at h3 h6;refine⟨cap,h.Dl ?_ ?_ ?_ λn e i he hi _=> ?_⟩
 ·intro n e he;rcases aD he with⟨rfl,rfl⟩|he
  ·obtain⟨cc,h1,h2,h3,h4⟩:=hJ.c;refine⟨b0,cc,rfl,h1,h2,hQ h2 (by rw[h3];rfl) (by rw[h4];rfl),λi p hp=> ?_⟩
   match i,hp with
   |0,hp=>cases hp;rw[h3];exact .mp 1 0 _ rfl ⟨_,rfl,zae _,λ_ _=>rfl⟩
   |1,hp=>cases hp;rw[h4];exact .mp 2 0 _ rfl ⟨_,rfl,zae _,λ_ _=>rfl⟩
  rcases aD he with⟨rfl,rfl⟩|he
  ·obtain⟨es,ck,h1,h2⟩:=hJ.m;exact⟨b1,es,ck,rfl,h1,h2.raw.hand (Dx (hJ.Nq ho) hk) (.ref 3 0 0 _ ⟨_,rfl,zae _,λ_ _=>⟨x.2.1,rfl,rfl⟩⟩ rfl)⟩
  rcases aD he with⟨rfl,rfl⟩|he
  ·obtain⟨es,ck,h1,h2⟩:=hJ.d;exact⟨b2,es,ck,rfl,h1,h2.unit,λh=>by cases h⟩
  rcases aD he with⟨rfl,rfl⟩|he
  ·refine⟨x.2.1,cc,rfl,h1,h2,hQ h2 (by rw[h3];rfl) (by rw[h4];rfl),λi p hp=> ?_⟩
   match i,hp with
   |0,hp=>cases hp;rw[h3];exact .sl 4 0 _ _ rfl ⟨_,rfl,zae _,λ_ _=>⟨_,_,_,rfl,rfl,zae _⟩⟩
   |1,hp=>cases hp;rw[h4];exact .d (.int _ _)
  obtain⟨rfl,rfl⟩:=cj he;exact .inr ⟨x.2.2,cap,cs,1,by rw[zag];rfl,h5,by kernel_rfl,by decide,by rw[zag];exact h6,h7,h8,(λh=>by cases h),qN h9⟩
 ·intro n m e e' b he bb hb cb;rcases zF he hb with⟨rfl,rfl⟩| ⟨rfl,rfl⟩| ⟨rfl,rfl⟩| ⟨rfl,rfl⟩| ⟨rfl,rfl⟩<;>rcases zF bb cb with⟨rfl,h1⟩| ⟨rfl,h1⟩| ⟨rfl,h1⟩| ⟨rfl,h1⟩| ⟨rfl,h1⟩<;>first |rfl |exact absurd h1 (by assumption)|exact absurd h1.symm (by assumption)
 ·intro b ⟨n,e,he,hb⟩;rcases zF he hb with⟨rfl,rfl⟩| ⟨rfl,rfl⟩| ⟨rfl,rfl⟩| ⟨rfl,rfl⟩| ⟨rfl,rfl⟩
  ·exact jE hg (by simp[cB])
  ·exact jE hg (by simp[cB])
  ·exact jE hg (by simp[cB])
  ·exact jE hg (Bc hk).1
  exact jE hg (Bc hk).2
 have e:n=i:=by
  rcases aD he with⟨rfl,rfl⟩|he
  ·exact zal hi
  rcases aD he with⟨rfl,rfl⟩|he
  ·exact zal hi
  rcases aD he with⟨rfl,rfl⟩|he
  ·exact zal hi
  rcases aD he with⟨rfl,rfl⟩|he
  ·exact zal hi
  obtain⟨rfl,rfl⟩:=cj he;exact zal hi
 rw[e];exact .inl rfl
end
theorem A6.keep{w w2:World}{x:jO}(h:A6 w x)(h1:w2.heap[x.2.1]?=w.heap[x.2.1]?)(h2:w2.heap[x.2.2]?=w.heap[x.2.2]?):A6 w2 x:=by obtain⟨cap,cc,cs,g1,g2,g3,g4,g5,g6,g7,g8,g9⟩:=h;exact⟨cap,cc,cs,h1.trans g1,g2,g3,g4,h2.trans g5,g6,g7,g8,qN g9⟩
section
variable{F F2:Nat->Prop}{G V G1 G2:Nat->Value}{w w2 w0:World}{R1 R2:List (Nat×En)}{st st':JL}{b0 b1 b2:Nat}{al al':List jO}{g3 g4:Value}
theorem DC(h2:aL PR ⟨gJ b0 b1 b2 g3 g4,w0,0,false⟩ F2 G2 w2 R2){o1 o2:Obj}(e0:lk R2 0=some ⟨0,some 0,Fz 1 2⟩)(e1:lk R2 1=some ⟨0,some 1,o1⟩)(e2:lk R2 2=some ⟨0,some 2,o2⟩)(l1:o1.live=true)(l2:o2.live=true):
  (G2 0=av b0/\G2 1= .map (some b1)/\G2 2= .map (some b2))/\ ∃cc,w2.heap[b0]?=some (.cells cc 53 (0,0))/\cc.size=2/\cc.getD 0 undef= .map (some b1)/\cc.getD 1 undef= .map (some b2):=by
 have h3:G2 0=av b0:=(h2.tag 0 _ 0 e0 rfl rfl).eq λl h=>by cases h
 have h4:G2 1= .map (some b1):=(h2.tag 1 _ 1 e1 rfl l1).eq λl h=>by cases h
 have h5:G2 2= .map (some b2):=(h2.tag 2 _ 2 e2 rfl l2).eq λl h=>by cases h
 refine⟨⟨h3,h4,h5⟩,?_⟩;obtain⟨b,cc,k1,k2,k3,_,k5⟩:=h2.rg 0 _ e0;rw[h3] at k1;cases k1;refine⟨cc,k2,k3,?_,?_⟩
 ·have k:=k5 0 _ rfl;generalize cc.getD 0 undef=v at k⊢;cases k with
  |mp _ _ _ _ hr=>obtain⟨e,he,_,hc⟩:=hr;rw[e1] at he;cases he;exact(hc rfl l1).trans h4
 have k:=k5 1 _ rfl;generalize cc.getD 1 undef=v at k⊢;cases k with
 |mp _ _ _ _ hr=>obtain⟨e,he,_,hc⟩:=hr;rw[e2] at he;cases he;exact(hc rfl l2).trans h5
theorem DE(h2:aL PR ⟨gJ b0 b1 b2 g3 g4,w0,0,false⟩ F2 G2 w2 R2){d:List (Int×Int)}{c:Int}{t:Option Nat}(e2:lk R2 2=some ⟨0,t,.map 58 (a7 d) c false⟩)(hg:G2 2= .map (some b2)): ∃es ck,w2.heap[b2]?=some (.map es ck)/\fP PR Em w2 58 (a7 d) c es.toList ck:=by obtain⟨b,es,ck,k1,k2,k3,_⟩:=h2.rg 2 _ e2;rw[hg] at k1;cases k1;exact⟨es,ck,k2,k3.unit⟩
theorem JW.close{t:Option Nat}(h:aL PR ⟨V,w0,0,false⟩ F G w (rJ t st))(hg:G 0=HU b0 b1 b2 al){V1:Nat->Value}(h2:aL PR ⟨V1,w0,0,false⟩ F2 G2 w2 R2)(hx:Ext (Own G1 R1) (Own G2 R2) F F2 w w2)(hs: ∀b,Own G1 R1 b->Own G (rJ t st) b)
  (hJ:JW st' w2 b0 b1 b2 al') (hb: ∀b∈cB b0 b1 b2 al',Own G2 R2 b\/Own G (rJ t st) b):
  ∃G3,aL PR ⟨V,w0,0,false⟩ F G3 w2 (rJ t st')/\Ext (Own G (rJ t st)) (Own G3 (rJ t st')) F F w w2:=by
 have:=h.shut h2 hx hs (t:=t) (x:=rQ st') (p:=JQ st') (u:=av b0) (bs:=cB b0 b1 b2 al') (λw' hw=>⟨hJ.to.keep λb hb=>hw b (by rwa [dM] at hb)⟩) hb (λi hi=>by
  have h3:=(h.tag 0 _ i rfl hi rfl).symm;rw[hg] at h3;rcases h3 with h3 | ⟨v,l,l',h3,h4⟩
  ·exact⟨_,h3⟩
  cases h4;exact⟨l,h3⟩)
 exact⟨_,this⟩
theorem zH(h:al'.Sublist al):(cB b0 b1 b2 al').Sublist (cB b0 b1 b2 al):=by
 have key: ∀{l m:List jO},l.Sublist m->(l.flatMap mW).Sublist (m.flatMap mW):=λh=>by
  induction h with
  |slnil=>exact .refl _
  |cons x _ ih=>rw[zaZ];exact ih.trans (List.sublist_append_right ..)
  |cons_cons x _ ih=>rw[zaZ,zaZ];exact(List.Sublist.refl _).append ih
 exact((((key h).cons_cons b2)).cons_cons b1).cons_cons b0
theorem JW.nF(hJ:JW st w b0 b1 b2 al){t:Option Nat}(h:aL PR ⟨V,w0,0,false⟩ F G w (rJ t st))(hg:G 0=HU b0 b1 b2 al)(h2:aL PR ⟨gJ b0 b1 b2 g3 g4,w0,0,false⟩ F2 G2 w2 R2)(hx:Ext (Own G1 R1) (Own G2 R2) F F2 w w2)(hs: ∀b,Own G1 R1 b->Own G (rJ t st) b)
  (e0:lk R2 0=some ⟨0,some 0,Fz 1 2⟩) (e1:lk R2 1=some ⟨0,some 1,.bS 58 (aU al') al'.length none⟩) (e2:lk R2 2=some ⟨0,some 2,.map 58 (a7 st'.d) st'.d.length false⟩)
  (ha:al'.map (·.1)=st'.o) (xe:al'.Sublist al) (bg: ∀x∈al',¬Own G1 R1 x.2.1/\ ¬Own G1 R1 x.2.2):
  ∃G3,aL PR ⟨V,w0,0,false⟩ F G3 w2 (rJ t st')/\Ext (Own G (rJ t st)) (Own G3 (rJ t st')) F F w w2:=by
 obtain⟨⟨k1,k2,k3⟩,hc⟩:=DC h2 e0 e1 e2 rfl rfl;have eD: ∀b∈cB b0 b1 b2 al',Own G (rJ t st) b:=λb hb=>jE hg ((zH xe).subset hb);refine JW.close h hg h2 hx hs ⟨ha,hJ.nd.sublist (zH xe),hc,?_,DE h2 e2 k3,λx lD=> ?_⟩ λb hb=> .inr (eD b hb)
 ·obtain⟨b,es,ck,m1,m2,m3⟩:=h2.rg 1 _ e1;rw[k2] at m1;cases m1;exact⟨es,ck,m2,m3.raw⟩
 obtain⟨n1,n2⟩:=bg x lD;have hm:x.2.1∈cB b0 b1 b2 al'/\x.2.2∈cB b0 b1 b2 al':=by simp only[cB,zan,zbj];exact⟨.inr (.inr (.inr ⟨x,lD,by simp⟩)),.inr (.inr (.inr ⟨x,lD,by simp⟩))⟩
 exact(hJ.f x (xe.subset lD)).keep (hx.keep _ (h.cz (eD _ hm.1)) n1) (hx.keep _ (h.cz (eD _ hm.2)) n2)
theorem GC(h2:aL PR ⟨gJ b0 b1 b2 g3 g4,w0,0,false⟩ F2 G2 w2 R2){t3 t4:Option Nat}{ps:List (List UInt8)}{k:Int}(km:0<ps.length)(e3:lk R2 3=some ⟨0,t3,IQ 4 ps.length k⟩)(e4:lk R2 4=some ⟨0,t4,Kn ps⟩):
  ∃r3 r4 cap,G2 3=av r3/\G2 4= .slice (some ⟨r4,0,none⟩) ps.length cap/\Own G2 R2 r3/\Own G2 R2 r4/\r3≠r4/\ ∀o:cO,df o=ps->(o.l.length:Int)=k->A6 w2 (o,r3,r4):=by
 obtain⟨r3,cc,k1,k2,k3,_,k5⟩:=h2.rg 3 _ e3;rcases h2.rg 4 _ e4 with⟨_,m1⟩| ⟨r4,cap,cs,z,m1,m2,m3,m4,m5,m6,m7,_,m8⟩
 ·rw[List.map_eq_nil_iff] at m1;rw[m1] at km;exact absurd km (by simp)
 rw[zag] at m1 m5;have hz:z=1:=by
  have:sz PR 9=some 1:=by kernel_rfl
  rw[this] at m3;exact(zal m3).symm
 subst hz;have o3:ay (G2 3) (IQ 4 ps.length k) r3:=by rw[k1];rfl
 have o4:ay (G2 4) (Kn ps) r4:=by rw[m1];exact⟨rfl,rfl⟩
 refine⟨r3,r4,cap,k1,m1,⟨3,_,e3,o3⟩,⟨4,_,e4,o4⟩,λe=> ?_,λo ho hk=> ?_⟩
 ·subst e;have:=h2.own 3 4 _ _ r3 e3 e4 o3 o4;cases this
 have hq:o.q.toNat=ps.length:=by rw[<-ho,eU]
 refine⟨cap,cc,cs,k2,k3,?_,?_,m2,by rw[hq];exact m5,m6,m7,by rw[ho];exact qN m8⟩
 ·have k:=k5 0 _ rfl;generalize cc.getD 0 undef=v at k⊢;cases k with
  |sl _ _ _ _ _ hr=>obtain⟨e,he,_,hc⟩:=hr;rw[e4] at he;cases he;obtain⟨a,N,c,c1,c2,_⟩:=hc rfl rfl;rw[m1] at c1;cases c1;dsimp only;rw[hq];exact c2
 have k:=k5 1 _ rfl;dsimp only;rw[hk];generalize cc.getD 1 undef=v at k⊢;cases k with
 |d hd=>cases hd;rfl
end
abbrev wX(x:HP):P:=oP x.1 x.2.1 x.2.2
def mX:cR:=λps R ae=> ∃st f,ps=[.hd 0 0,.d (ia f)]/\R=rJ (some 0) st/\(BB st/\f.2.2.2.2.length<=100)/\ae (wX (eF st f).1,rJ (some 0) (eF st f).2)
section
variable{st:JL}{f:bp}
theorem FG(h:aN f=false):eF st f=(([],false,11),st):=by unfold eF;rw[zat h]
theorem FH(h:aN f=true)(h2:st.d.contains (f.1,f.2.1)=true):eF st f=(([],false,210),st):=by unfold eF;rw[zaB (by rw[h];simp),zat h2]
theorem Bd(h:aN f=true)(h2:st.d.contains (f.1,f.2.1)=false)(h3:st.o.findIdx? (lv f)=none):eF st f=if 50<=st.o.length then(([],false,211),st) else if 1<f.2.2.2.1 then(([],false,0),⟨st.o++[⟨f.1,f.2.1,f.2.2.2.1,[f]⟩],st.d⟩) else((f.2.2.2.2,true,0),⟨st.o,st.d++[(f.1,f.2.1)]⟩):=by
 rcases sZ (st:=st) (f:=f) with⟨h1,_⟩| ⟨_,h1,_⟩| ⟨_,_,k,o,_,_,_,h1,_⟩| ⟨_,_,_,⟨h1,e⟩| ⟨h1,⟨h4,e⟩| ⟨h4,e⟩⟩⟩
 ·rw[h] at h1;cases h1
 ·rw[h2] at h1;cases h1
 ·rw[h3] at h1;cases h1
 ·rw[e,zat h1]
 ·rw[e,zaB h1,zat h4]
 rw[e,zaB h1,zaB h4]
theorem wY(h:aN f=true)(h2:st.d.contains (f.1,f.2.1)=false){k:Nat}{o:cO}(h3:st.o.findIdx? (lv f)=some k)(h4:st.o[k]?=some o):eF st f=if o.q≠f.2.2.2.1 then(([],false,11),st) else if o.l.any (λx=>decide (x.2.2.1=f.2.2.1))=true then(([],false,210),st) else if((b7 ja o.l f).length:Int)<o.q then(([],false,0),⟨st.o.set k ⟨o.a,o.n,o.q,b7 ja o.l f⟩,st.d⟩)
  else(((b7 ja o.l f).flatMap (·.2.2.2.2),true,0),⟨st.o.eraseIdx k,st.d++[(f.1,f.2.1)]⟩):=by
 unfold eF;rw[zaB (by rw[h];simp),zaB (by rw[h2];simp),h3];simp only[h4];rfl
end
theorem Be{o:cO}(h:A4 o): ∀s∈df o,s.length<=100:=λs hs=>by
 obtain⟨i,_,rfl⟩:=zaQ.1 hs;by_cases hg: ∃g∈o.l,g.2.2.1=(i:Int)
 ·obtain⟨g,hg,e⟩:=hg;rw[<-e,ld (nE h.s) hg];exact(h.m g hg).2.2.2.2.2.2
 rw[mT λg h1 h2=>hg ⟨g,h1,h2⟩];simp
theorem qO: ∀(l:List (List UInt8)),(∀s∈l,s.length<=100)->l.flatten.length<=l.length*100
 | [],_=>by simp
 |s::l,h=>by rw[List.flatten_cons,zaw,zaF];have:=h s (by simp);have:=qO l λg hg=>h g (by simp[hg]);omega
theorem DF{f:bp}(h0:0<=f.2.2.1):df ⟨f.1,f.2.1,f.2.2.2.1,[f]⟩=(List.replicate f.2.2.2.1.toNat []).set f.2.2.1.toNat f.2.2.2.2:=by
 have e:df ⟨f.1,f.2.1,f.2.2.2.1,[]⟩=List.replicate f.2.2.2.1.toNat []:=by refine zb6 (by simp[df]) λi h1 h2=> ?_;simp[df,Ek]
 have:=qK (o:=⟨f.1,f.2.1,f.2.2.2.1,[]⟩) (f:=f) List.Pairwise.nil (λg hg=>by cases hg) h0;rw[e] at this;exact this
theorem lg{α β:Type}(f:α->β): ∀(l:List α) (k:Nat),(l.map f).eraseIdx k=(l.eraseIdx k).map f
 | [],_=>rfl
 |_::_,0=>rfl
 |x::l,k+1=>congrArg (f x:: ·) (lg f l k)
theorem wZ: ∀{al:List jO} {k:Nat} {x y:jO},al[k]?=some x->mW y=mW x->(al.set k y).flatMap mW=al.flatMap mW
 | [],k,x,y,h,_=>by simp at h
 |z::al,0,x,y,h,e=>by cases h;rw[zcj,zaZ,zaZ,e]
 |z::al,k+1,x,y,h,e=>by rw[zck,zaZ,zaZ,wZ (al:=al) (k:=k) h e]
theorem mem_set{α:Type}{l:List α}{k:Nat}{y z:α}(h:y∈l.set k z):y=z\/y∈l.eraseIdx k:=by
 obtain⟨i,hi⟩:=zao h;by_cases e:k=i
 ·subst e;have hl:=(zaa.1 hi).1;rw[zas] at hl;rw[zaE hl] at hi;exact .inl (zal hi).symm
 rw[zau e] at hi;exact .inr (zbc.2 ⟨i,λh=>e h.symm,hi⟩)
section
variable{X:XF}{w0:World}(hX:cL PR w0 X.cf)
include hX
theorem HV:ND w0 13 mX:=by
 intro ps R ae hh F G w vs h hl hv;obtain⟨st,f,rfl,rfl,⟨hJ,hf⟩,hp⟩:=hh;obtain⟨v,bs,hG,_,yZ⟩:=h.rg 0 _ rfl;have HW:=(yZ w (λ_ _=>rfl)).h;rw[<-hG] at HW;obtain⟨b0,b1,b2,al,hg,hj⟩:=JW.of HW
 match vs,hl,hv with
 | [u0,u1],_,hv=>
 have p0:=hv 0 u0 _ rfl rfl;have p1:=hv 1 u1 _ rfl rfl;have eu:u0=av b0:=by
  cases p0 with
  |hd _ _ _ h1 hr=>obtain⟨e,he,_,hc⟩:=hr;cases he;obtain⟨b,l,e1,e2⟩:=hc rfl rfl;rw[hg] at e1;cases e1;rfl
 subst eu;have d1:aA F w u1 (ia f):=by
  cases p1 with
  |d h1=>exact h1
 have AV: ∀k:Nat,al[k]?.map (·.1)=st.o[k]?:=λk=>by rw[<-hj.a,zai]
 have hlen:al.length=st.o.length:=by rw[<-hj.a,zag]
 cases oR:st.o.findIdx? (lv f) with
 |none=>
  have bg:=l9 oR;have HX: ∀x∈al,¬(x.1.a=f.1/\x.1.n=f.2.1):=λx hx=>bg x.1 (by rw[<-hj.a];exact zaQ.2 ⟨x,hx,rfl⟩);have hs: ∀b,Own (gJ b0 b1 b2 undef undef) (rP (aU al) al.length (a7 st.d) st.d.length) b->b=b0\/b=b1\/b=b2:=λb ⟨n,e,he,hb⟩=>by
   rcases wW he hb with⟨_,h⟩| ⟨_,h⟩| ⟨_,h⟩
   ·exact .inl h
   ·exact .inr (.inl h)
   exact .inr (.inr h)
  have Aj: ∀b,Own (gJ b0 b1 b2 undef undef) (rP (aU al) al.length (a7 st.d) st.d.length) b->Own G (rJ (some 0) st) b:=λb hb=>by rcases hs b hb with rfl |rfl |rfl<;>exact jE hg (by simp[cB])
  have rS: ∀x∈al,¬Own (gJ b0 b1 b2 undef undef) (rP (aU al) al.length (a7 st.d) st.d.length) x.2.1/\ ¬Own (gJ b0 b1 b2 undef undef) (rP (aU al) al.length (a7 st.d) st.d.length) x.2.2:=λx hx=>by obtain⟨k,hk⟩:=zao hx;obtain⟨_,⟨n4,n5,n6⟩,⟨n7,n8,n9⟩,_⟩:=hj.ne hk;exact⟨λho=>by rcases hs _ ho with e |e |e<;>first |exact n4 e.symm |exact n5 e.symm |exact n6 e.symm,λho=>by rcases hs _ ho with e |e |e<;>first |exact n7 e.symm |exact n8 e.symm |exact n9 e.symm⟩
  refine bF.mono (Nl hX _ _ (λy=>y.1=wX (eF st f).1/\ ∀F2 G2 w2,aL PR ⟨gJ b0 b1 b2 undef undef,w0,0,false⟩ F2 G2 w2 y.2->Ext (Own (gJ b0 b1 b2 undef undef) (rP (aU al) al.length (a7 st.d) st.d.length)) (Own G2 y.2) F F2 w w2->
    ∃G3,aL PR ⟨G,w0,0,false⟩ F G3 w2 (rJ (some 0) (eF st f).2)/\Ext (Own G (rJ (some 0) st)) (Own G3 (rJ (some 0) (eF st f).2)) F F w w2)
   ⟨f.1,f.2.1,f.2.2.1,f.2.2.2.1,f.2.2.2.2,aU al,al.length,a7 st.d,st.d.length,rfl,rfl,⟨s5 _,ma HX,by omega⟩,λg1=> ?_,λg1 g2=> ?_,λg1 g2 g3=> ?_,λg1 g2 g3 g4=> ?_,λg1 g2 g3 g4=> ?_⟩
   F (gJ b0 b1 b2 undef undef) w [av b0,u1] (hj.zG h hg) rfl (λi v c hv hc=> ?_)) λv w2 ⟨y,⟨rv,AX⟩,F2,G2,h2,vI,hx⟩=> ?_
  ·rw[FG (f:=f) g1];exact⟨rfl,λF2 G2 w2 h2 hx=>hj.nF h hg h2 hx Aj rfl rfl rfl hj.a (.refl _) rS⟩
  ·rw[cY] at g2;rw[FH (f:=f) g1 g2];exact⟨rfl,λF2 G2 w2 h2 hx=>hj.nF h hg h2 hx Aj rfl rfl rfl hj.a (.refl _) rS⟩
  ·rw[cY] at g2;rw[Bd (f:=f) g1 g2 oR,zat (by omega)];exact⟨rfl,λF2 G2 w2 h2 hx=>hj.nF h hg h2 hx Aj rfl rfl rfl hj.a (.refl _) rS⟩
  ·rw[cY] at g2;obtain⟨r1,r2,r3⟩:=(fo (f:=f)).1 g1;have g4: ¬f.2.2.2.1=1:=g4;rw[Bd (f:=f) g1 g2 oR,zaB (by omega),zat (by omega)];refine⟨rfl,λF2 G2 w2 h2 hx=> ?_⟩;have ep:=DF (f:=f) r2.2.2.1;obtain⟨⟨k1,k2,k3⟩,hc⟩:=DC h2 rfl rfl rfl rfl rfl;obtain⟨HY,HZ,cap,m1,m2,m3,m4,m5,m6⟩:=GC h2 (k:=1) (by rw[zas,zaR];omega) rfl rfl;have bX: ∀b,Own G2 (IV f.1 f.2.1 (aU al) al.length (a7 st.d) st.d.length ((List.replicate f.2.2.2.1.toNat []).set f.2.2.1.toNat f.2.2.2.2)) b->b≠b0->b≠b1->b≠b2->w.heap.size<=b:=λb ho h0 h1 JF=>by
    rcases hx.fe b ho with ho |ho
    ·rcases hs b ho with e |e |e
     ·exact absurd e h0
     ·exact absurd e h1
     exact absurd e JF
    exact ho
   have q0: ∀n,n≠0-> ∀e b,lk (IV f.1 f.2.1 (aU al) al.length (a7 st.d) st.d.length ((List.replicate f.2.2.2.1.toNat []).set f.2.2.1.toNat f.2.2.2.2)) n=some e->ay (G2 n) e.obj b->b≠b0:=λn hn e b he hb e2=>hn (h2.own n 0 _ _ b he rfl hb (by rw[k1,e2];rfl));have q1: ∀n,n≠1-> ∀e b,lk (IV f.1 f.2.1 (aU al) al.length (a7 st.d) st.d.length ((List.replicate f.2.2.2.1.toNat []).set f.2.2.1.toNat f.2.2.2.2)) n=some e->ay (G2 n) e.obj b->b≠b1:=λn hn e b he hb e2=>hn (h2.own n 1 _ _ b he rfl hb (by rw[k2,e2];rfl));have q2: ∀n,n≠2-> ∀e b,lk (IV f.1 f.2.1 (aU al) al.length (a7 st.d) st.d.length ((List.replicate f.2.2.2.1.toNat []).set f.2.2.1.toNat f.2.2.2.2)) n=some e->ay (G2 n) e.obj b->b≠b2:=λn hn e b he hb e2=>hn (h2.own n 2 _ _ b he rfl hb (by rw[k3,e2];exact⟨rfl,rfl⟩));have o3:ay (G2 3) (IQ 4 ((List.replicate f.2.2.2.1.toNat ([]:List UInt8)).set f.2.2.1.toNat f.2.2.2.2).length 1) HY:=by rw[m1];rfl
   have o4:ay (G2 4) (Kn ((List.replicate f.2.2.2.1.toNat []).set f.2.2.1.toNat f.2.2.2.2)) HZ:=by rw[m2];exact⟨rfl,rfl⟩
   have Ql:=q0 3 (by decide) _ _ rfl o3;have Qm:=q1 3 (by decide) _ _ rfl o3;have Qn:=q2 3 (by decide) _ _ rfl o3;have Qo:=q0 4 (by decide) _ _ rfl o4;have Qp:=q1 4 (by decide) _ _ rfl o4;have Qq:=q2 4 (by decide) _ _ rfl o4;have s3:=bX _ m3 Ql Qm Qn;have s4:=bX _ m4 Qo Qp Qq;have hold: ∀b∈cB b0 b1 b2 al,b<w.heap.size:=λb hb=>h.cz (jE hg hb);have eb:cB b0 b1 b2 (al++[(⟨f.1,f.2.1,f.2.2.2.1,[f]⟩,HY,HZ)])=cB b0 b1 b2 al++[HY,HZ]:=by simp[cB]
   refine JW.close h hg h2 hx Aj (al':=al++[(⟨f.1,f.2.1,f.2.2.2.1,[f]⟩,HY,HZ)]) ⟨by rw[za0,hj.a];rfl,?_,hc,?_,DE h2 rfl k3,λx lD=> ?_⟩ λb hb=> ?_
   ·rw[eb,za8];refine⟨hj.nd,by simp[m5],λb hb c hc=> ?_⟩;have:=hold b hb;simp only[zan,zbs,zcm] at hc;rcases hc with rfl |rfl<;>omega
   ·obtain⟨b,es,ck,l1,l2,l3⟩:=h2.rg 1 _ rfl;rw[k2] at l1;cases l1;obtain⟨u,hu,l4⟩:=l3.Dm;have eu:u=av HY:=by
     cases hu with
     |ref _ _ _ _ hr _=>obtain⟨e,he,_,hc⟩:=hr;cases he;obtain⟨b',c1,c2⟩:=hc rfl rfl;rw[m1] at c1;cases c1;exact c2
    subst eu;have ev:=yC (al:=al) (y:=(⟨f.1,f.2.1,f.2.2.2.1,[f]⟩,HY,HZ)) HX;rw[ev] at l4;refine⟨es,ck,l2,?_⟩;rw[zaw];exact l4.raw
   ·rcases zaH.1 lD with lD |lD
    ·obtain⟨n1,n2⟩:=rS x lD;obtain⟨k,hk⟩:=zao lD;obtain⟨z1,z2⟩:=Bc (b0:=b0) (b1:=b1) (b2:=b2) hk;exact(hj.f x lD).keep (hx.keep _ (hold _ z1) n1) (hx.keep _ (hold _ z2) n2)
    simp only[zaL] at lD;subst lD;exact m6 _ ep rfl
   rw[eb] at hb;rcases zaH.1 hb with hb |hb
   ·exact .inr (jE hg hb)
   simp only[zan,zbs,zcm] at hb;rcases hb with rfl |rfl
   ·exact .inl m3
   exact .inl m4
  ·rw[cY] at g2;have g4:f.2.2.2.1=1:=g4;rw[Bd (f:=f) g1 g2 oR,zaB (by omega),zaB (by omega)];refine⟨rfl,λF2 G2 w2 h2 hx=>hj.nF h hg h2 hx Aj (al':=al) rfl ?_ ?_ hj.a (.refl _) rS⟩
   ·rw[Bb (ma HX)];simp[lk]
   rw[s6];simp[lk]
  ·match i,hv,hc with
   |0,hv,hc=>cases hv;cases hc;exact .ref 0 0 0 _ ⟨_,rfl,zae _,λ_ _=>⟨b0,rfl,rfl⟩⟩ rfl
   |1,hv,hc=>cases hv;cases hc;exact .d d1
   |i+2,hv,hc=>simp at hv
  obtain⟨G3,FI,zk⟩:=AX F2 G2 w2 h2 hx;refine⟨_,hp,F,G3,FI,?_,zk⟩;rw[rv] at vI;exact pg vI
 |some k=>
  obtain⟨rM,h4,_⟩:=za6.1 oR;have yD:st.o[k]?=some st.o[k]:=zac rM;have OP:=AV k;rw[yD] at OP;obtain⟨x,hk,ex⟩:=zaj.1 OP;rw[<-ex] at yD h4;obtain⟨ea,en⟩:=mV.1 h4;have Qr:=zak yD;have fK:=(hJ.o x.1 Qr).1;have Nr:k<al.length:=by omega
  obtain⟨cap,nc⟩:=hj.DB hJ h hg hk;have km:0<(df x.1).length:=by rw[eU];have:=fK.q;omega
  obtain⟨⟨n1,n2,n3⟩,⟨n4,n5,n6⟩,⟨n7,n8,n9⟩,Qk⟩:=hj.ne hk;rw[ea,en] at nc;generalize Ns:Value.slice (some ⟨x.2.2,0,none⟩) (df x.1).length cap=v4 at nc;have hs: ∀b,Own (gJ b0 b1 b2 (av x.2.1) v4) (uZ f.1 f.2.1 (aU al) al.length (a7 st.d) st.d.length (df x.1) x.1.l.length) b->b=b0\/b=b1\/b=b2\/b=x.2.1\/b=x.2.2:=λb ⟨n,e,he,hb⟩=>by
   rw[<-Ns] at hb;rcases zF he hb with⟨_,h⟩| ⟨_,h⟩| ⟨_,h⟩| ⟨_,h⟩| ⟨_,h⟩
   ·exact .inl h
   ·exact .inr (.inl h)
   ·exact .inr (.inr (.inl h))
   ·exact .inr (.inr (.inr (.inl h)))
   exact .inr (.inr (.inr (.inr h)))
  have Aj: ∀b,Own (gJ b0 b1 b2 (av x.2.1) v4) (uZ f.1 f.2.1 (aU al) al.length (a7 st.d) st.d.length (df x.1) x.1.l.length) b->Own G (rJ (some 0) st) b:=λb hb=>by
   rcases hs b hb with rfl |rfl |rfl |rfl |rfl
   ·exact jE hg (by simp[cB])
   ·exact jE hg (by simp[cB])
   ·exact jE hg (by simp[cB])
   ·exact jE hg (Bc hk).1
   exact jE hg (Bc hk).2
  have Nt:(al.flatMap mW).Nodup:=by have:=hj.nd;simp only[cB,zax] at this;exact this.2.2.2
  have rS: ∀y∈al.eraseIdx k,¬Own (gJ b0 b1 b2 (av x.2.1) v4) (uZ f.1 f.2.1 (aU al) al.length (a7 st.d) st.d.length (df x.1) x.1.l.length) y.2.1/\ ¬Own (gJ b0 b1 b2 (av x.2.1) v4) (uZ f.1 f.2.1 (aU al) al.length (a7 st.d) st.d.length (df x.1) x.1.l.length) y.2.2:=λy hy=>by obtain⟨i,hi⟩:=zao (zaU hy);obtain⟨_,⟨m4,m5,m6⟩,⟨m7,m8,m9⟩,_⟩:=hj.ne hi;obtain⟨z1,z2,z3,z4⟩:=DA Nt hk y hy;exact⟨λho=>by rcases hs _ ho with e |e |e |e |e<;>first |exact m4 e.symm |exact m5 e.symm |exact m6 e.symm |exact z1 e |exact z2 e,λho=>by rcases hs _ ho with e |e |e |e |e<;>first |exact m7 e.symm |exact m8 e.symm |exact m9 e.symm |exact z3 e |exact z4 e⟩
  have DG: ∀(o':cO) (ps:List (List UInt8)) (k':Int),df o'=ps->(o'.l.length:Int)=k'->(o'.a,o'.n)=(x.1.a,x.1.n)->0<ps.length-> ∀F2 G2 w2,aL PR ⟨gJ b0 b1 b2 (av x.2.1) v4,w0,0,false⟩ F2 G2 w2 (uZ f.1 f.2.1 (aU al) al.length (a7 st.d) st.d.length ps k')->
    Ext (Own (gJ b0 b1 b2 (av x.2.1) v4) (uZ f.1 f.2.1 (aU al) al.length (a7 st.d) st.d.length (df x.1) x.1.l.length)) (Own G2 (uZ f.1 f.2.1 (aU al) al.length (a7 st.d) st.d.length ps k')) F F2 w w2->
    ∃G3,aL PR ⟨G,w0,0,false⟩ F G3 w2 (rJ (some 0) ⟨st.o.set k o',st.d⟩)/\Ext (Own G (rJ (some 0) st)) (Own G3 (rJ (some 0) ⟨st.o.set k o',st.d⟩)) F F w w2:=by
   intro o' ps k' zb Lm IC Nu F2 G2 w2 h2 hx;obtain⟨⟨k1,k2,k3⟩,hc⟩:=DC h2 rfl rfl rfl rfl rfl;obtain⟨HY,HZ,dV,m1,m2,m3,m4,m5,m6⟩:=GC h2 Nu rfl rfl;have t3:G2 3=av x.2.1:=(h2.tag 3 _ 3 rfl rfl rfl).eq λl h=>by cases h
   have t4:G2 4=v4:=(h2.tag 4 _ 4 rfl rfl rfl).eq λl h=>by have h:v4= .tuple l:=h;rw[<-Ns] at h;cases h
   rw[m1] at t3;rw[m2,<-Ns] at t4;cases t3;have t4:HZ=x.2.2:=by
    injection t4 with t4
    injection t4 with t4
    injection t4
   subst t4;have eb:cB b0 b1 b2 (al.set k (o',x.2.1,x.2.2))=cB b0 b1 b2 al:=congrArg (λl=>b0::b1::b2::l) (wZ (y:=(o',x.2.1,x.2.2)) hk rfl);refine JW.close h hg h2 hx Aj (al':=al.set k (o',x.2.1,x.2.2)) ⟨by rw[zbx,hj.a],by rw[eb];exact hj.nd,hc,?_,DE h2 rfl k3,λy hy=> ?_⟩ λb hb=> .inr (jE hg (by rw[<-eb];exact hb))
   ·obtain⟨b,es,ck,l1,l2,l3⟩:=h2.rg 1 _ rfl;rw[k2] at l1;cases l1;obtain⟨u,hu,l4⟩:=l3.Dm;have eu:u=av x.2.1:=by
     cases hu with
     |ref _ _ _ _ hr _=>obtain⟨e,he,_,hc⟩:=hr;cases he;obtain⟨b',c1,c2⟩:=hc rfl rfl;rw[m1] at c1;cases c1;exact c2
    subst eu;have ev:=Ba (al:=al) (y:=(o',x.2.1,x.2.2)) (hj.Nq hJ) hk IC;rw[ea,en] at ev;rw[ev] at l4;refine⟨es,ck,l2,?_⟩;rw[zas];exact l4.raw
   rcases mem_set hy with rfl |hy
   ·exact m6 _ zb Lm
   obtain⟨z1,z2⟩:=rS y hy;obtain⟨i,hi⟩:=zao (zaU hy);obtain⟨y1,y2⟩:=Bc (b0:=b0) (b1:=b1) (b2:=b2) hi;exact(hj.f y (zak hi)).keep (hx.keep _ (h.cz (jE hg y1)) z1) (hx.keep _ (h.cz (jE hg y2)) z2)
  have hS:=DG x.1 (df x.1) x.1.l.length rfl rfl rfl km;have es:st.o.set k x.1=st.o:=by have Bt:x.1=st.o[k]:=ex;rw[Bt];exact List.set_getElem_self rM
  rw[es] at hS;have Cm:=fK.lt;have Qs:=fK.q;refine bF.mono (Nk hX _ _ (λy=>y.1=wX (eF st f).1/\ ∀F2 G2 w2,aL PR ⟨gJ b0 b1 b2 (av x.2.1) v4,w0,0,false⟩ F2 G2 w2 y.2->Ext (Own (gJ b0 b1 b2 (av x.2.1) v4) (uZ f.1 f.2.1 (aU al) al.length (a7 st.d) st.d.length (df x.1) x.1.l.length)) (Own G2 y.2) F F2 w w2->
    ∃G3,aL PR ⟨G,w0,0,false⟩ F G3 w2 (rJ (some 0) (eF st f).2)/\Ext (Own G (rJ (some 0) st)) (Own G3 (rJ (some 0) (eF st f).2)) F F w w2)
   ⟨f.1,f.2.1,f.2.2.1,f.2.2.2.1,f.2.2.2.2,aU al,al.length,a7 st.d,st.d.length,df x.1,x.1.l.length,rfl,rfl,⟨s5 _,by rw[eU];omega,⟨by omega,by omega⟩,?_⟩,λg1=> ?_,λg1 g2=> ?_,λg1 g2 g3=> ?_,λg1 g2 g3 g4=> ?_,λg1 g2 g3 g4 g5=> ?_,λg1 g2 g3 g4 g5=> ?_⟩
   F (gJ b0 b1 b2 (av x.2.1) v4) w [av b0,u1] nc rfl (λi v c hv hc=> ?_)) λv w2 ⟨y,⟨rv,AX⟩,F2,G2,h2,vI,hx⟩=> ?_
  ·rw[join_nil];have:=qO ((df x.1).set f.2.2.1.toNat f.2.2.2.2) λs hs=>by
    rcases zbl hs with hs |rfl
    ·exact Be fK s hs
    exact hf
   rw[zas,eU] at this;omega
  ·rw[FG (f:=f) g1];exact⟨rfl,hS⟩
  ·rw[cY] at g2;rw[FH (f:=f) g1 g2];exact⟨rfl,hS⟩
  ·rw[cY] at g2;have g3: ¬((df x.1).length:Int)=f.2.2.2.1:=g3;rw[eU] at g3;rw[wY (f:=f) g1 g2 oR yD,zat (by omega)];exact⟨rfl,hS⟩
  ·rw[cY] at g2;have g3:((df x.1).length:Int)=f.2.2.2.1:=g3;rw[eU] at g3;obtain⟨r1,r2,r3⟩:=(fo (f:=f)).1 g1;rw[wY (f:=f) g1 g2 oR yD,zaB (by omega),zat ((uE fK r2.2.2.1 (by omega)).2 g4)];exact⟨rfl,hS⟩
  ·rw[cY] at g2;have g3:((df x.1).length:Int)=f.2.2.2.1:=g3;have g5:(x.1.l.length:Int)+1<f.2.2.2.1:=g5;rw[eU] at g3;obtain⟨r1,r2,r3⟩:=(fo (f:=f)).1 g1;have Ku: ¬(x.1.l.any (λy=>decide (y.2.2.1=f.2.2.1))=true):=λh=>(uE fK r2.2.2.1 (by omega)).1 h g4;have ca: ∀g∈x.1.l,g.2.2.1≠f.2.2.1:=λg hg e=>Ku (zbe.2 ⟨g,hg,by simpa using e⟩);rw[wY (f:=f) g1 g2 oR yD,zaB (by omega),zaB Ku,zat (by rw[mU];omega)];exact⟨rfl,DG ⟨x.1.a,x.1.n,x.1.q,b7 ja x.1.l f⟩ _ _ (qK fK.s ca r2.2.2.1) (by rw[mU];rfl) rfl (by rw[zas];exact km)⟩
  ·rw[cY] at g2;have g3:((df x.1).length:Int)=f.2.2.2.1:=g3;have g5: ¬(x.1.l.length:Int)+1<f.2.2.2.1:=g5;rw[eU] at g3;obtain⟨r1,r2,r3⟩:=(fo (f:=f)).1 g1;have Ku: ¬(x.1.l.any (λy=>decide (y.2.2.1=f.2.2.1))=true):=λh=>(uE fK r2.2.2.1 (by omega)).1 h g4;have ca: ∀g∈x.1.l,g.2.2.1≠f.2.2.1:=λg hg e=>Ku (zbe.2 ⟨g,hg,by simpa using e⟩);rw[wY (f:=f) g1 g2 oR yD,zaB (by omega),zaB Ku,zaB (by rw[mU];omega)];have eJ:Lib.join ((df x.1).set f.2.2.1.toNat f.2.2.2.2) []=(b7 ja x.1.l f).flatMap (·.2.2.2.2):=by
    rw[join_nil,<-qK fK.s ca r2.2.2.1,A5 (o:=⟨x.1.a,x.1.n,x.1.q,b7 ja x.1.l f⟩),List.flatMap_def]
    ·intro g hg;rcases jD.1 hg with hg |rfl
     ·have:=fK.m g hg;exact⟨this.2.2.2.1,this.2.2.2.2.1⟩
     exact⟨r2.2.2.1,by show _<x.1.q;omega⟩
    ·exact yy fK.s ca
    rw[mU];dsimp only;omega
   refine⟨by dsimp only;rw[eJ],λF2 G2 w2 h2 hx=>hj.nF h hg h2 hx Aj (al':=al.eraseIdx k) rfl ?_ ?_ (by rw[<-hj.a];exact(lg ..).symm) (zbw ..) rS⟩
   ·have ev:=wU (hj.Nq hJ) hk;rw[ea,en] at ev;have el:((al.eraseIdx k).length:Int)=al.length-1:=by rw[zct Nr];omega
    rw[<-ev,el];simp[lk]
   dsimp only;rw[<-s6];simp[lk]
  ·match i,hv,hc with
   |0,hv,hc=>cases hv;cases hc;exact .ref 0 0 0 _ ⟨_,rfl,zae _,λ_ _=>⟨b0,rfl,rfl⟩⟩ rfl
   |1,hv,hc=>cases hv;cases hc;exact .d d1
   |i+2,hv,hc=>simp at hv
  obtain⟨G3,FI,zk⟩:=AX F2 G2 w2 h2 hx;refine⟨_,hp,F,G3,FI,?_,zk⟩;rw[rv] at vI;exact pg vI
end
theorem H0(ae:P×List (Nat×En)->Prop):(ae (P.ref 0 0 0,[(0,En.mk 0 none (Obj.box 53 [P.mp 1 0,P.mp 2 0])),(1,En.mk 0 none (Obj.bS 58 (λ(_:D)=>none) (0:Int) none)),(2,En.mk 0 none (Obj.map 58 (λ(_:D)=>none) (0:Int) false))]))=(l8 [] [] [] 12 [] []) ae:=by kernel_rfl
theorem Kv(vals:D->Option Value)(m:Int)(d:D->Option D)(c:Int)(ae:P×List (Nat×En)->Prop):(ae (P.d (Z4 m),A7 vals m d c))=(l8 [] [] [] 15 [.ref 0 0 0] (rP vals m d c)) ae:=by kernel_rfl
abbrev dz:=cO×Nat×Nat×Nat
def cT(x:dz):D:= .agg [.int .i64 x.1.a,.int .i64 x.1.n,.int .i64 x.1.q,.Bn x.2.1 x.2.2.1 x.2.2.2]
def je(x:Int×Int):D:=fI x.1 x.2
abbrev u0(t:Nat->Option Nat)(L:List dz)(d:List (Int×Int)):List (Nat×En):=[(0,⟨0,t 0,.box 35 [.sl 1 0 L.length,.sl 2 0 d.length]⟩),(1,⟨0,t 1,.bC 67 (L.map cT) none⟩),(2,⟨0,t 2,.arr 57 false (d.map je)⟩)]
abbrev u1(L:List dz)(k:Nat)(l:List bp)(d:List (Int×Int)):List (Nat×En):=[(0,⟨0,some 0,.box 35 [.sl 1 0 L.length,.sl 3 0 d.length]⟩),(1,⟨0,some 1,.bC 67 (L.map cT) (some (k,3,.sl 2 0 l.length))⟩),(2,⟨0,some 2,rO false l⟩),(3,⟨0,some 3,.arr 57 false (d.map je)⟩)]
abbrev DH(a n p q:Int)(s:List UInt8):Obj:= .box 37 [iD a,iD n,iD p,iD q,sD s]
abbrev Nv(f a n p q:Int)(s:List UInt8)(L:List dz)(d:List (Int×Int))(i:Int):S:=⟨28,[(0,.ref 0 0 0),(3,.ref 3 0 0),(5,iD i)],u0 some L d++[(3,⟨0,none,DH a n p q s⟩)]⟩
abbrev Nw(a n p q:Int)(s:List UInt8)(L:List dz)(k:Nat)(l:List bp)(d:List (Int×Int))(i:Int):S:=⟨28,[(0,.ref 0 0 0),(3,.ref 4 0 0),(5,iD i)],u1 L k l d++[(4,⟨0,none,DH a n p q s⟩)]⟩
abbrev Nx(a n p q:Int)(s:List UInt8)(L:List dz)(d:List (Int×Int))(i:Int):S:=⟨40,[(0,.ref 0 0 0),(3,.ref 3 0 0),(5,iD i)],u0 some L d++[(3,⟨0,none,DH a n p q s⟩)]⟩
abbrev Ny(a n p q:Int)(s:List UInt8)(L:List dz)(k:Nat)(l:List bp)(d:List (Int×Int))(i:Int):S:=⟨40,[(0,.ref 0 0 0),(3,.ref 4 0 0),(5,iD i)],u1 L k l d++[(4,⟨0,none,DH a n p q s⟩)]⟩
def mb:P:=P.ref 0 0 0
def fJ:Nat×P:=(0,mb)
def BE:List (Nat×P):=[fJ]
def j7(a:Int)(n:Int)(p:Int)(q:Int)(s:List UInt8):En:=En.mk 0 none (Obj.box (37:TypeId) [P.d (Z4 a),P.d (Z4 n),P.d (Z4 p),P.d (Z4 q),P.d (D.str s)])
def xl(d:List (Int×Int)):En:=En.mk 0 (some 2) (Obj.arr (57:TypeId) false (List.map je d))
def yE(d:List (Int×Int)):Nat×En:=(2,xl d)
def FJ(L:List dz):Nat×En:=(1,En.mk 0 (some 1) (Obj.bC (67:TypeId) (List.map cT L) none))
def Bf(d:List (Int×Int)):List P:=[P.sl 2 0 (List.length d)]
def DI(L:List dz)(d:List (Int×Int)):Nat×En:=(0,En.mk 0 (some 0) (Obj.box (35:TypeId) (P.sl 1 0 (List.length L)::Bf d)))
def Bg(L:List dz)(d:List (Int×Int))(a:Int)(n:Int)(p:Int)(q:Int)(s:List UInt8):List (Nat×En):=[DI L d,FJ L,yE d,(3,j7 a n p q s)]
def q9:Nat×P:=(3,P.ref 3 0 0)
def ra(L:List dz)(d:List (Int×Int)):List (Nat×En):=[DI L d,FJ L,yE d]
def IX:List (Nat×P):=[fJ,(4,ZN)]
def IY(d:List (Int×Int))(i:Int)(a:Int)(n:Int):Bool:=D.bB (D.eL (D.nth (List.map je d) (Zf i)) 0)==a&&(D.bB (D.eL (D.nth (List.map je d) (Zf i)) 1)==n&&true)
theorem DJ(a n p q:Int)(s:List UInt8)(L:List dz)(d:List (Int×Int))(i:Int)(ae:PX×S->Prop):(bif decide (i<(↑(List.length d):Int)) then ob (decide ((0:Int)<=i/\i<(↑(List.length d):Int))) (ob (decide (Zf i<List.length (List.map je d))) (ob (pz PR (57:TypeId) (D.nth (List.map je d) (Zf i))) (bif IY d i a n then ae (PX.ret,S.mk 28 IX (ra L d)) else ob (Zk i) (ae (PX.normal,S.mk 28 (fJ::q9::ZI i) (Bg L d a n p q s)))))) else ae (PX.exit 0,S.mk 28 BE (ra L d)))=(de [] [] 19 2 (Nv 0 a n p q s L d i)) ae:=by kernel_rfl
def ph(d:List (Int×Int)):En:=En.mk 0 (some 3) (Obj.arr (57:TypeId) false (List.map je d))
def DK(l:List bp):Nat×En:=(2,En.mk 0 (some 2) (Obj.arr (37:TypeId) false (List.map ia l)))
def DL(L:List dz)(k:Nat)(l:List bp):Nat×En:=(1,En.mk 0 (some 1) (Obj.bC (67:TypeId) (List.map cT L) (some (k,3,P.sl 2 0 (Z2 l)))))
def DM(L:List dz)(d:List (Int×Int)):Nat×En:=(0,En.mk 0 (some 0) (Obj.box (35:TypeId) [P.sl 1 0 (List.length L),P.sl 3 0 (List.length d)]))
def rT(L:List dz)(d:List (Int×Int))(k:Nat)(l:List bp)(a:Int)(n:Int)(p:Int)(q:Int)(s:List UInt8):List (Nat×En):=[DM L d,DL L k l,DK l,(3,ph d),(4,j7 a n p q s)]
def mY:Nat×P:=(3,P.ref 4 0 0)
def qP(L:List dz)(d:List (Int×Int))(k:Nat)(l:List bp):List (Nat×En):=[DM L d,DL L k l,DK l,(3,ph d)]
theorem DN(a n p q:Int)(s:List UInt8)(L:List dz)(k:Nat)(l:List bp)(d:List (Int×Int))(i:Int)(ae:PX×S->Prop):(bif decide (i<(↑(List.length d):Int)) then ob (decide ((0:Int)<=i/\i<(↑(List.length d):Int))) (ob (decide (Zf i<List.length (List.map je d))) (ob (pz PR (57:TypeId) (D.nth (List.map je d) (Zf i))) (bif IY d i a n then ae (PX.ret,S.mk 28 IX (qP L d k l)) else ob (Zk i) (ae (PX.normal,S.mk 28 (fJ::mY::ZI i) (rT L d k l a n p q s)))))) else ae (PX.exit 0,S.mk 28 BE (qP L d k l)))=(de [] [] 19 2 (Nw a n p q s L k l d i)) ae:=by kernel_rfl
noncomputable def w5(L:List dz)(i:Int):Bool:=pz PR (67:TypeId) (D.nth (List.map cT L) (Zf i))
def w6(i:Int)(L:List dz):Bool:=decide (Zf i<List.length (List.map cT L))
def w7(i:Int)(L:List dz):Bool:=decide ((0:Int)<=i/\i<(↑(List.length L):Int))
theorem DO(a n p q:Int)(s:List UInt8)(L:List dz)(d:List (Int×Int))(i:Int)(ae:PX×S->Prop):(bif decide (i<(↑(List.length L):Int)) then ob (w7 i L) (ob (w6 i L) (ob (w5 L i) (bif D.bB (D.eL (D.nth (List.map cT L) (Zf i)) 0)==a then ob (w7 i L) (ob (w6 i L) (ob (w5 L i) (bif D.bB (D.eL (D.nth (List.map cT L) (Zf i)) 1)==n then ae (PX.ret,S.mk 40 [fJ,(4,P.d (Z4 i))] (ra L d)) else ob (Zk i) (ae (PX.normal,S.mk 40 (fJ::q9::ZI i) (Bg L d a n p q s)))))) else ob (Zk i) (ae (PX.normal,S.mk 40 (fJ::q9::ZI i) (Bg L d a n p q s)))))) else ae (PX.exit 0,S.mk 40 BE (ra L d)))=(de [] [] 20 2 (Nx a n p q s L d i)) ae:=by kernel_rfl
theorem DP(a n p q:Int)(s:List UInt8)(L:List dz)(k:Nat)(l:List bp)(d:List (Int×Int))(i:Int)(ae:PX×S->Prop):(bif decide (i<(↑(List.length L):Int)) then ob (w7 i L) (ob (w6 i L) (ob (w5 L i) (bif D.bB (D.eL (D.nth (List.map cT L) (Zf i)) 0)==a then ob (w7 i L) (ob (w6 i L) (ob (w5 L i) (bif D.bB (D.eL (D.nth (List.map cT L) (Zf i)) 1)==n then ae (PX.ret,S.mk 40 [fJ,(4,P.d (Z4 i))] (qP L d k l)) else ob (Zk i) (ae (PX.normal,S.mk 40 (fJ::mY::ZI i) (rT L d k l a n p q s)))))) else ob (Zk i) (ae (PX.normal,S.mk 40 (fJ::mY::ZI i) (rT L d k l a n p q s)))))) else ae (PX.exit 0,S.mk 40 BE (qP L d k l)))=(de [] [] 20 2 (Ny a n p q s L k l d i)) ae:=by kernel_rfl
def fU(d:List (Int×Int))(a n:Int):Bool:=d.any (λx=>x.1==a&&x.2==n)
def fa(L:List dz)(a n:Int):Int:=A8 (λx=>x.1.a==a&&x.1.n==n) L
def Kw:S->K (PX×S):=λst ae=> ∃a n p q s L d,st=Nv 0 a n p q s L d 0/\(L.length<=1000000/\d.length<=1000000)/\(fU d a n=true->ae (.ret,⟨28,[(0,.ref 0 0 0),(4,.d (.bool true))],u0 some L d⟩))/\(fU d a n=false->ae (.exit 0,⟨28,[(0,.ref 0 0 0)],u0 some L d⟩))
def DQ:cR:=λps R ae=> ∃a n p q s L d,ps=[.ref 0 0 0,xj a n p q s]/\R=u0 some L d/\(L.length<=1000000/\d.length<=1000000)/\ ∀b,b=fU d a n->ae (.d (.bool b),u0 some L d)
def zI(kV:List dz)(jW:List (Int×Int)):Prop:=List.length kV<=1000000/\List.length jW<=1000000
theorem Kx(a n p q:Int)(s:List UInt8)(L:List dz)(d:List (Int×Int))(ae:P×List (Nat×En)->Prop):(∃(qQ:Int) (qR:Int) (Bh:Int) (Bi:Int) (Bj:List UInt8) (kV:List dz) (jW:List (Int×Int)),S.mk 28 (fJ::q9::ZK) (Bg L d a n p q s)=S.mk 28 (fJ::q9::ZK) (Bg kV jW qQ qR Bh Bi Bj)/\zI kV jW/\(fU jW qQ qR=true->ae (ZN,ra kV jW))/\(fU jW qQ qR=false->ae (ZG,ra kV jW)))=(mS [] [(2,aF (gY 19 2) Kw)] 19 [.ref 0 0 0,xj a n p q s] (u0 some L d)) ae:=by kernel_rfl
def Ky:S->K (PX×S):=λst ae=> ∃a n p q s L d,st=Nx a n p q s L d 0/\(L.length<=1000000/\d.length<=1000000)/\(∀i,i=fa L a n->0<=i->ae (.ret,⟨40,[(0,.ref 0 0 0),(4,iD i)],u0 some L d⟩))/\(fa L a n= -1->ae (.exit 0,⟨40,[(0,.ref 0 0 0)],u0 some L d⟩))
def DR:cR:=λps R ae=> ∃a n p q s L d,ps=[.ref 0 0 0,xj a n p q s]/\R=u0 some L d/\(L.length<=1000000/\d.length<=1000000)/\ ∀i,i=fa L a n->ae (iD i,u0 some L d)
theorem Kz(a n p q:Int)(s:List UInt8)(L:List dz)(d:List (Int×Int))(ae:P×List (Nat×En)->Prop):(∃(qQ:Int) (qR:Int) (Bh:Int) (Bi:Int) (Bj:List UInt8) (kV:List dz) (jW:List (Int×Int)),S.mk 40 (fJ::q9::ZK) (Bg L d a n p q s)=S.mk 40 (fJ::q9::ZK) (Bg kV jW qQ qR Bh Bi Bj)/\zI kV jW/\(∀(i:Int),i=fa kV qQ qR->(0:Int)<=i->ae (P.d (Z4 i),ra kV jW))/\(fa kV qQ qR=(-1:Int)->ae (P.d (D.int .i64 (-1:Int)),ra kV jW)))=(mS [] [(2,aF (gY 20 2) Ky)] 20 [.ref 0 0 0,xj a n p q s] (u0 some L d)) ae:=by kernel_rfl
def KA:S->K (PX×S):=λst ae=> ∃a n p q s L d k l,st=Nw a n p q s L k l d 0/\(L.length<=1000000/\d.length<=1000000)/\(fU d a n=true->ae (.ret,⟨28,[(0,.ref 0 0 0),(4,.d (.bool true))],u1 L k l d⟩))/\(fU d a n=false->ae (.exit 0,⟨28,[(0,.ref 0 0 0)],u1 L k l d⟩))
def DS:cR:=λps R ae=> ∃a n p q s L d k l,ps=[.ref 0 0 0,xj a n p q s]/\R=u1 L k l d/\(L.length<=1000000/\d.length<=1000000)/\ ∀b,b=fU d a n->ae (.d (.bool b),u1 L k l d)
theorem KB(a n p q:Int)(s:List UInt8)(L:List dz)(d:List (Int×Int))(k:Nat)(l:List bp)(ae:P×List (Nat×En)->Prop):(∃(qQ:Int) (qR:Int) (Bh:Int) (Bi:Int) (Bj:List UInt8) (kV:List dz) (jW:List (Int×Int)) (jP:Nat) (uY:List bp),S.mk 28 (fJ::mY::ZK) (rT L d k l a n p q s)=S.mk 28 (fJ::mY::ZK) (rT kV jW jP uY qQ qR Bh Bi Bj)/\zI kV jW/\(fU jW qQ qR=true->ae (ZN,qP kV jW jP uY))/\(fU jW qQ qR=false->ae (ZG,qP kV jW jP uY)))=(mS [] [(2,aF (gY 19 2) KA)] 19 [.ref 0 0 0,xj a n p q s] (u1 L k l d)) ae:=by kernel_rfl
def KC:S->K (PX×S):=λst ae=> ∃a n p q s L d k l,st=Ny a n p q s L k l d 0/\(L.length<=1000000/\d.length<=1000000)/\(∀i,i=fa L a n->0<=i->ae (.ret,⟨40,[(0,.ref 0 0 0),(4,iD i)],u1 L k l d⟩))/\(fa L a n= -1->ae (.exit 0,⟨40,[(0,.ref 0 0 0)],u1 L k l d⟩))
def DT:cR:=λps R ae=> ∃a n p q s L d k l,ps=[.ref 0 0 0,xj a n p q s]/\R=u1 L k l d/\(L.length<=1000000/\d.length<=1000000)/\ ∀i,i=fa L a n->ae (iD i,u1 L k l d)
theorem KD(a n p q:Int)(s:List UInt8)(L:List dz)(d:List (Int×Int))(k:Nat)(l:List bp)(ae:P×List (Nat×En)->Prop):(∃(qQ:Int) (qR:Int) (Bh:Int) (Bi:Int) (Bj:List UInt8) (kV:List dz) (jW:List (Int×Int)) (jP:Nat) (uY:List bp),S.mk 40 (fJ::mY::ZK) (rT L d k l a n p q s)=S.mk 40 (fJ::mY::ZK) (rT kV jW jP uY qQ qR Bh Bi Bj)/\zI kV jW/\(∀(i:Int),i=fa kV qQ qR->(0:Int)<=i->ae (P.d (Z4 i),qP kV jW jP uY))/\(fa kV qQ qR=(-1:Int)->ae (P.d (D.int .i64 (-1:Int)),qP kV jW jP uY)))=(mS [] [(2,aF (gY 20 2) KC)] 20 [.ref 0 0 0,xj a n p q s] (u1 L k l d)) ae:=by kernel_rfl
abbrev uT(t1 t2:Option Nat)(a n p q:Int)(s:List UInt8)(N:Nat)(es:List D)(k:Nat)(hp:P)(d:List (Int×Int))(o:cO):List (Nat×En):=[(0,⟨0,some 0,.box 35 [.sl 1 0 N,.sl 2 0 d.length]⟩),(1,⟨0,t1,.bC 67 es (some (k,3,hp))⟩),(2,⟨0,t2,.arr 57 false (d.map je)⟩),(3,⟨0,none,DH a n p q s⟩),(4,⟨0,none,.box 67 [iD o.a,iD o.n,iD o.q,.sl 5 0 o.l.length]⟩),(5,⟨0,none,rO false o.l⟩)]
abbrev uS(t1 t3:Option Nat)(a n p q:Int)(s:List UInt8)(N:Nat)(es:List D)(k:Nat)(d:List (Int×Int))(l:List bp):List (Nat×En):=[(0,⟨0,some 0,.box 35 [.sl 1 0 N,.sl 3 0 d.length]⟩),(1,⟨0,t1,.bC 67 es (some (k,3,.sl 2 0 l.length))⟩),(2,⟨0,none,rO false l⟩),(3,⟨0,t3,.arr 57 false (d.map je)⟩),(4,⟨0,none,DH a n p q s⟩)]
abbrev H2(a n p q:Int)(s:List UInt8)(L:List dz)(k:Nat)(l:List bp)(d:List (Int×Int))(c i:Int):S:=⟨200,[(0,.ref 0 0 0),(3,.ref 4 0 0),(7,iD c),(8,iD i)],u1 L k l d++[(4,⟨0,none,DH a n p q s⟩)]⟩
abbrev w8(t1 t2:Option Nat)(hp:P)(a n p q:Int)(s:List UInt8)(N:Nat)(es:List D)(k:Nat)(d:List (Int×Int))(o:cO)(c i:Int):S:=⟨200,[(0,.ref 0 0 0),(3,.ref 3 0 0),(7,iD c),(9,.ref 4 0 0),(10,iD i)],uT t1 t2 a n p q s N es k hp d o⟩
abbrev zJ(t1 t2:Option Nat)(hp:P)(a n p q:Int)(s:List UInt8)(N:Nat)(es:List D)(k:Nat)(d:List (Int×Int))(o:cO)(c:Int):S:=⟨200,[(0,.ref 0 0 0),(3,.ref 3 0 0),(7,iD c),(9,.ref 4 0 0)],uT t1 t2 a n p q s N es k hp d o⟩
abbrev Bk(t1 t3:Option Nat)(a n p q:Int)(s:List UInt8)(N:Nat)(es:List D)(k:Nat)(d:List (Int×Int))(o:cO)(c:Int)(r:List UInt8)(i:Int):S:=⟨200,[(0,.ref 0 0 0),(3,.ref 4 0 0),(7,iD c),(9,.ref 5 0 0),(11,sD r),(12,iD i)],uS t1 t3 a n p q s N es k d o.l++[(5,⟨0,none,.box 67 [iD o.a,iD o.n,iD o.q,.sl 2 0 o.l.length]⟩)]⟩
abbrev zK(t1 t3:Option Nat)(a n p q:Int)(s:List UInt8)(N:Nat)(es:List D)(k:Nat)(d:List (Int×Int))(o:cO)(c:Int)(r:List UInt8):S:=⟨200,[(0,.ref 0 0 0),(3,.ref 4 0 0),(7,iD c),(11,sD r)],uS t1 t3 a n p q s N es k d o.l⟩
def OQ:S->K (PX×S):=λ_ _=>False
def uH(l:List bp)(p:Int):Bool:=l.any (λx=>x.2.2.1==p)
def KE:S->K (PX×S):=λst ae=> ∃a n p q s L k l d c,st=H2 a n p q s L k l d c 0/\((k<L.length/\c=(k:Int))/\L.length<=1000000/\l.length<=1000000)/\(uH l p=true->ae (.ret,⟨200,[(0,.ref 0 0 0),(3,.ref 4 0 0),(4,.d (.str [])),(5,.d (.bool false)),(6,iD 210),(7,iD c)],u1 L k l d++[(4,⟨0,none,DH a n p q s⟩)]⟩))/\(uH l p=false->ae (.exit 0,⟨200,[(0,.ref 0 0 0),(3,.ref 4 0 0),(7,iD c)],u1 L k l d++[(4,⟨0,none,DH a n p q s⟩)]⟩))
def rb(c:Int):Nat×P:=(7,P.d (Z4 c))
def FK(k:Nat)(c:Int):Bool:=decide (k=Zf c)
theorem DU(a n p q:Int)(s:List UInt8)(L:List dz)(k:Nat)(l:List bp)(d:List (Int×Int))(c i:Int)(ae:PX×S->Prop):(ob (w7 c L) (ob (w6 c L) (ob (w5 L c) (ob (FK k c) (bif decide (i<(↑(Z2 l):Int)) then ob (w7 c L) (ob (w6 c L) (ob (w5 L c) (ob (FK k c) (ob (decide ((0:Int)<=i/\i<(↑(Z2 l):Int))) (ob (decide (Zf i<List.length (List.map ia l))) (ob (Zh l i) (bif D.bB (D.eL (Zg l i) 2)==p then ae (PX.ret,S.mk 200 [fJ,mY,(4,zA),(5,ZG),(6,P.d (D.int .i64 (210:Int))),rb c] (rT L d k l a n p q s)) else ob (Zk i) (ae (PX.normal,S.mk 200 [fJ,mY,rb c,(8,Zl i)] (rT L d k l a n p q s)))))))))) else ae (PX.exit 0,S.mk 200 [fJ,mY,rb c] (rT L d k l a n p q s)))))))=(de [] [] 14 10 (H2 a n p q s L k l d c i)) ae:=by kernel_rfl
def GD:S->K (PX×S):=λst ae=> ∃a n p q s N es k d oa on oq l f c i,st=w8 (some 1) (some 3) .bad a n p q s N es k d ⟨oa,on,oq,l++[f]⟩ c i/\(i=(l.length:Int)/\l.length<=1000000)/\ ∀m,m=b7 ja l f->ae (.exit 2,zJ (some 1) (some 3) .bad a n p q s N es k d ⟨oa,on,oq,m⟩ c)
def GF:S->K (PX×S):=λst ae=> ∃a n p q s N es k d o c,st=Bk (some 1) (some 3) a n p q s N es k d o c [] 0/\(o.l.length<=1000000/\(o.l.flatMap (·.2.2.2.2)).length<=1000000)/\ ∀r,r=o.l.flatMap (·.2.2.2.2)->ae (.exit 4,zK (some 1) (some 3) a n p q s N es k d o c r)
def oB(o:cO):List D:=List.map ia (cO.l o)
def u7(o:cO):En:=En.mk 0 none (Obj.arr (37:TypeId) false (oB o))
def H3(o:cO):Nat×En:=(4,En.mk 0 none (Obj.box (67:TypeId) [P.d (D.int .i64 (cO.a o)),P.d (D.int .i64 (cO.n o)),P.d (D.int .i64 (cO.q o)),P.sl 5 0 (List.length (cO.l o))]))
def FL:Nat×P:=(9,P.ref 4 0 0)
def IZ(c:Int):List (Nat×P):=[fJ,q9,rb c,FL]
def FM(o:cO)(i:Int):List UInt8:=D.py (D.eL (D.nth (oB o) (Zf i)) 4)
def LF(o:cO)(i:Int):List D:=[D.int .i64 (D.bB (D.eL (D.nth (oB o) (Zf i)) 0)),D.int .i64 (D.bB (D.eL (D.nth (oB o) (Zf i)) 1)),D.int .i64 (D.bB (D.eL (D.nth (oB o) (Zf i)) 2)),D.int .i64 (D.bB (D.eL (D.nth (oB o) (Zf i)) 3)),D.str (FM o i)]
def zL(i:Int):Nat:=Int.toNat (i-(1:Int))
def I0(o:cO)(i:Int):List D:=List.set (oB o) (Zf i) (D.cm (D.agg (LF o i)) [D.int .i64 (D.bB (D.eL (D.nth (oB o) (zL i)) 0)),D.int .i64 (D.bB (D.eL (D.nth (oB o) (zL i)) 1)),D.int .i64 (D.bB (D.eL (D.nth (oB o) (zL i)) 2)),D.int .i64 (D.bB (D.eL (D.nth (oB o) (zL i)) 3)),D.str (D.py (D.eL (D.nth (oB o) (zL i)) 4))])
def FO(o:cO)(i:Int):D:=D.nth (I0 o i) (zL i)
def LG(a:Int)(n:Int)(p:Int)(q:Int)(s:List UInt8)(o:cO)(i:Int):List (Nat×En):=[(3,j7 a n p q s),H3 o,(5,En.mk 0 none (Obj.arr (37:TypeId) false (List.set (I0 o i) (zL i) (D.cm (D.agg [D.int .i64 (D.bB (D.eL (FO o i) 0)),D.int .i64 (D.bB (D.eL (FO o i) 1)),D.int .i64 (D.bB (D.eL (FO o i) 2)),D.int .i64 (D.bB (D.eL (FO o i) 3)),D.str (D.py (D.eL (FO o i) 4))]) (LF o i)))))]
def I1(es:List D)(k:Nat):Nat×En:=(1,En.mk 0 (some 1) (Obj.bC (67:TypeId) es (some (k,3,P.bad))))
def Bl(N:Nat)(d:List (Int×Int)):Nat×En:=(0,En.mk 0 (some 0) (Obj.box (35:TypeId) (P.sl 1 0 N::Bf d)))
def LH(c:Int)(i:Int):List (Nat×P):=[fJ,q9,rb c,FL,(10,P.d (D.int .i64 (i-(1:Int))))]
def LI(o:cO)(i:Int):Bool:=decide (D.bB (D.eL (D.nth (oB o) (Zf i)) 2)<D.bB (D.eL (D.nth (oB o) (zL i)) 2))
noncomputable def I2(o:cO)(i:Int):Bool:=pz PR (37:TypeId) (D.nth (oB o) (zL i))
def I3(i:Int)(o:cO):Bool:=decide (zL i<List.length (oB o))
def Er(o:cO):Int:=(↑(List.length (cO.l o)):Int)
def GG(i:Int)(o:cO):Bool:=decide ((0:Int)<=i-(1:Int)/\i-(1:Int)<Er o)
def Es(i:Int):Bool:=decide (Zi<=i-(1:Int)/\i-(1:Int)<=Zj)
noncomputable def zM(o:cO)(i:Int):Bool:=pz PR (37:TypeId) (D.nth (oB o) (Zf i))
def zN(i:Int)(o:cO):Bool:=decide (Zf i<List.length (oB o))
def zO(i:Int)(o:cO):Bool:=decide ((0:Int)<=i/\i<Er o)
theorem FP(a n p q:Int)(s:List UInt8)(N:Nat)(es:List D)(k:Nat)(d:List (Int×Int))(o:cO)(c i:Int)(ae:PX×S->Prop):(bif decide (i>(0:Int)) then ob (zO i o) (ob (zN i o) (ob (zM o i) (ob (Es i) (ob (GG i o) (ob (I3 i o) (ob (I2 o i) (bif LI o i then ob (Es i) (ob (Es i) (ob (GG i o) (ob (I3 i o) (ob (I2 o i) (ob (zO i o) (ob (zN i o) (ob (zM o i) (ob (zO i o) (ob (zN i o) (ob (zM o i) (ob (GG i o) (ob (decide (zL i<List.length (I0 o i))) (ob (pz PR (37:TypeId) (FO o i)) (ob (Es i) (ae (PX.normal,S.mk 200 (LH c i) (Bl N d::I1 es k::(2,ph d)::LG a n p q s o i))))))))))))))))) else ae (PX.exit 2,S.mk 200 (IZ c) [Bl N d,I1 es k,(2,ph d),(3,j7 a n p q s),H3 o,(5,u7 o)])))))))) else ae (PX.exit 2,S.mk 200 (IZ c) [Bl N d,I1 es k,(2,ph d),(3,j7 a n p q s),H3 o,(5,u7 o)]))=(de [] [] 14 21 (w8 (some 1) (some 3) .bad a n p q s N es k d o c i)) ae:=by kernel_rfl
def I4(c:Int)(r:List UInt8):List (Nat×P):=[fJ,mY,rb c,(11,P.d (D.str r))]
def Et(a:Int)(n:Int)(p:Int)(q:Int)(s:List UInt8)(o:cO):List (Nat×En):=[(4,j7 a n p q s),(5,En.mk 0 none (Obj.box (67:TypeId) [P.d (D.int .i64 (cO.a o)),P.d (D.int .i64 (cO.n o)),P.d (D.int .i64 (cO.q o)),P.sl 2 0 (List.length (cO.l o))]))]
def BF(es:List D)(k:Nat)(o:cO):Obj:=Obj.bC (67:TypeId) es (some (k,3,P.sl 2 0 (List.length (cO.l o))))
def zP(N:Nat)(d:List (Int×Int)):Nat×En:=(0,En.mk 0 (some 0) (Obj.box (35:TypeId) [P.sl 1 0 N,P.sl 3 0 (List.length d)]))
def I5(c:Int)(r:List UInt8)(o:cO)(i:Int):List (Nat×P):=[fJ,mY,rb c,(9,P.ref 5 0 0),(11,P.d (D.str (r++FM o i))),(12,Zl i)]
def I6(r:List UInt8)(o:cO)(i:Int):Bool:=decide (List.length r+List.length (FM o i)<=9223372036854775807)
theorem zQ(a n p q:Int)(s:List UInt8)(N:Nat)(es:List D)(k:Nat)(d:List (Int×Int))(o:cO)(c:Int)(r:List UInt8)(i:Int)(ae:PX×S->Prop):(bif decide (i<Er o) then ob (zO i o) (ob (zN i o) (ob (zM o i) (ob (I6 r o i) (ob (Zk i) (ae (PX.normal,S.mk 200 (I5 c r o i) (zP N d::(1,En.mk 0 (some 1) (BF es k o))::(2,u7 o)::(3,ph d)::Et a n p q s o))))))) else ae (PX.exit 4,S.mk 200 (I4 c r) [zP N d,(1,En.mk 0 (some 1) (BF es k o)),(2,u7 o),(3,ph d),(4,j7 a n p q s)]))=(de [] [] 14 29 (Bk (some 1) (some 3) a n p q s N es k d o c r i)) ae:=by kernel_rfl
def GH:S->K (PX×S):=λst ae=> ∃a n p q s N es k d oa on oq l f c i,st=w8 none (some 2) (.d .bu) a n p q s N es k d ⟨oa,on,oq,l++[f]⟩ c i/\(i=(l.length:Int)/\l.length<=1000000)/\ ∀m,m=b7 ja l f->ae (.exit 2,zJ none (some 2) (.d .bu) a n p q s N es k d ⟨oa,on,oq,m⟩ c)
def GI:S->K (PX×S):=λst ae=> ∃a n p q s N es k d o c,st=Bk none (some 2) a n p q s N es k d o c [] 0/\(o.l.length<=1000000/\(o.l.flatMap (·.2.2.2.2)).length<=1000000)/\ ∀r,r=o.l.flatMap (·.2.2.2.2)->ae (.exit 4,zK none (some 2) a n p q s N es k d o c r)
def I7(es:List D)(k:Nat):Nat×En:=(1,En.mk 0 none (Obj.bC (67:TypeId) es (some (k,3,P.d D.bu))))
theorem FQ(a n p q:Int)(s:List UInt8)(N:Nat)(es:List D)(k:Nat)(d:List (Int×Int))(o:cO)(c i:Int)(ae:PX×S->Prop):(bif decide (i>(0:Int)) then ob (zO i o) (ob (zN i o) (ob (zM o i) (ob (Es i) (ob (GG i o) (ob (I3 i o) (ob (I2 o i) (bif LI o i then ob (Es i) (ob (Es i) (ob (GG i o) (ob (I3 i o) (ob (I2 o i) (ob (zO i o) (ob (zN i o) (ob (zM o i) (ob (zO i o) (ob (zN i o) (ob (zM o i) (ob (GG i o) (ob (decide (zL i<List.length (I0 o i))) (ob (pz PR (37:TypeId) (FO o i)) (ob (Es i) (ae (PX.normal,S.mk 200 (LH c i) (Bl N d::I7 es k::yE d::LG a n p q s o i))))))))))))))))) else ae (PX.exit 2,S.mk 200 (IZ c) [Bl N d,I7 es k,yE d,(3,j7 a n p q s),H3 o,(5,u7 o)])))))))) else ae (PX.exit 2,S.mk 200 (IZ c) [Bl N d,I7 es k,yE d,(3,j7 a n p q s),H3 o,(5,u7 o)]))=(de [] [] 14 21 (w8 none (some 2) (.d .bu) a n p q s N es k d o c i)) ae:=by kernel_rfl
theorem zR(a n p q:Int)(s:List UInt8)(N:Nat)(es:List D)(k:Nat)(d:List (Int×Int))(o:cO)(c:Int)(r:List UInt8)(i:Int)(ae:PX×S->Prop):(bif decide (i<Er o) then ob (zO i o) (ob (zN i o) (ob (zM o i) (ob (I6 r o i) (ob (Zk i) (ae (PX.normal,S.mk 200 (I5 c r o i) (zP N d::(1,En.mk 0 none (BF es k o))::(2,u7 o)::(3,xl d)::Et a n p q s o))))))) else ae (PX.exit 4,S.mk 200 (I4 c r) [zP N d,(1,En.mk 0 none (BF es k o)),(2,u7 o),(3,xl d),(4,j7 a n p q s)]))=(de [] [] 14 29 (Bk none (some 2) a n p q s N es k d o c r i)) ae:=by kernel_rfl
def LJ(d:List (Int×Int))(a:Int)(n:Int):En:=En.mk 0 none (Obj.arr (57:TypeId) false (List.take (List.length d) (List.map je d)++[pd a n]))
def DV(dj:List D)(jP:Nat)(o:cO):List D:=bJ dj (some (jP,3,P.sl 2 0 (List.length (cO.l o))))
def I8(gZ:Int)(lx:Nat)(dj:List D)(jP:Nat)(o:cO):List D:=List.drop (Int.toNat (gZ+(1:Int))) (List.take (List.length (List.take lx (DV dj jP o))) (List.take lx (DV dj jP o)))
def FR(gZ:Int)(lx:Nat)(dj:List D)(jP:Nat)(o:cO):Nat:=0+List.length (List.drop 0 (List.take (Zf gZ) (List.take lx (DV dj jP o))))
def LK(gZ:Int)(lx:Nat)(dj:List D)(jP:Nat)(o:cO):En:=En.mk 0 none (Obj.arr (67:TypeId) false (List.take (FR gZ lx dj jP o) ([]++List.drop 0 (List.take (Zf gZ) (List.take lx (DV dj jP o))))++I8 gZ lx dj jP o))
def KG(d:List (Int×Int))(a:Int)(n:Int):Nat:=List.length d+List.length [pd a n]
def LL(r:List UInt8):P:=P.fL [P.d (D.str r),ZN,Zy]
def LM(d:List (Int×Int))(a:Int)(n:Int):Bool:=Nat.ble (List.length d) (List.length (List.map je d))&&bx (KG d a n) 16
def LO(gZ:Int)(lx:Nat)(dj:List D)(jP:Nat)(o:cO):Bool:=Nat.ble (FR gZ lx dj jP o) (List.length ([]++List.drop 0 (List.take (Zf gZ) (List.take lx (DV dj jP o)))))&&bx (FR gZ lx dj jP o+List.length (I8 gZ lx dj jP o)) 48
def LP(gZ:Int)(lx:Nat)(dj:List D)(jP:Nat)(o:cO):Bool:=decide ((0:Int)<=gZ+(1:Int)/\gZ+(1:Int)<=(↑(List.length (List.take lx (DV dj jP o))):Int))
def KH(o:cO):List UInt8:=List.flatMap (λ(x:bp)=>Prod.snd (Prod.snd (Prod.snd (Prod.snd x)))) (cO.l o)
def LQ(o:cO):Prop:=List.length (cO.l o)<=1000000/\List.length (KH o)<=1000000
def LR(yF:Int)(yG:Int)(w9:Int)(yH:Int)(yI:List UInt8)(oa:Int)(on:Int)(oq:Int)(m:List bp):List (Nat×En):=[(4,j7 yF yG w9 yH yI),(5,En.mk 0 none (Obj.box (67:TypeId) [P.d (Z4 oa),P.d (Z4 on),P.d (Z4 oq),P.sl 2 0 (Z2 m)]))]
def LS(es:List D)(c:Int)(oa:Int)(on:Int)(oq:Int)(k:Nat)(m:List bp):Obj:=Obj.bC (67:TypeId) (List.set es (Zf c) (D.agg [Z4 oa,Z4 on,Z4 oq,D.bu])) (some (k,3,P.sl 2 0 (Z2 m)))
def I9(gZ:Int):List (Nat×P):=[fJ,mY,rb gZ,(9,P.ref 5 0 0),(11,zA),(12,Zy)]
def LU(es:List D)(c:Int)(oa:Int)(on:Int)(oq:Int)(k:Nat)(m:List bp):Obj:=Obj.bC (67:TypeId) (List.set es (Zf c) (D.agg [Z4 oa,Z4 on,Z4 oq,D.bu])) (some (k,3,P.sl 3 0 (Z2 m)))
def LV(yF:Int)(yG:Int)(w9:Int)(yH:Int)(yI:List UInt8)(oa:Int)(on:Int)(oq:Int)(l:List bp)(f:bp):List (Nat×En):=[(3,j7 yF yG w9 yH yI),(4,En.mk 0 none (Obj.box (67:TypeId) [P.d (Z4 oa),P.d (Z4 on),P.d (Z4 oq),P.sl 5 0 (List.length (l++[f]))])),(5,En.mk 0 none (Obj.arr (37:TypeId) false (List.map ia (l++[f]))))]
def LW(c:Int)(i:Int):List (Nat×P):=[fJ,q9,rb c,FL,(10,P.d (Z4 i))]
def Eu(a:Int)(n:Int)(p:Int)(q:Int)(s:List UInt8):List D:=[D.agg [Z4 a,Z4 n,Z4 p,Z4 q,D.str s]]
def Ja(a:Int)(n:Int)(q:Int):List D:=[D.agg [Z4 a,Z4 n,Z4 q,D.bu]]
def FT(L:List dz)(a:Int)(n:Int)(q:Int):Int:=(↑(List.length L+List.length (Ja a n q)):Int)-(1:Int)
def LX(L:List dz)(a:Int)(n:Int)(q:Int):List D:=List.take (List.length L) (List.map cT L)++Ja a n q
def KI(L:List dz)(a:Int)(n:Int)(q:Int):D:=D.nth (LX L a n q) (Int.toNat (FT L a n q))
def Ew(qQ:Int)(qR:Int)(Bh:Int)(Bi:Int)(Bj:List UInt8):List P:=[mb,P.d (D.agg [Z4 qQ,Z4 qR,Z4 Bh,Z4 Bi,D.str Bj])]
def Ex(ae:P×List (Nat×En)->Prop)(L:List dz)(d:List (Int×Int)):Prop:=ae (qL,ra L d)
theorem Nz(a n p q:Int)(s:List UInt8)(L:List dz)(d:List (Int×Int))(ae:P×List (Nat×En)->Prop):(bif ZV a then bif ZW a then bif ZX n then bif ZV q then bif ZY q then bif ZX p then bif Ze p q then bif ZZ s then Ex ae L d else∃(qQ:Int) (qR:Int) (Bh:Int) (Bi:Int) (Bj:List UInt8) (kV:List dz) (jW:List (Int×Int)),Ew a n p q s=Ew qQ qR Bh Bi Bj/\ra L d=ra kV jW/\zI kV jW/\ ∀(b:Bool),b=fU jW qQ qR->bif b then ae (Ep,ra kV jW) else∃(KJ:Int) (KK:Int) (NA:Int) (NB:Int) (NC:List UInt8) (L:List dz) (d:List (Int×Int)),Ew a n p q s=Ew KJ KK NA NB NC/\ra kV jW=ra L d/\zI L d/\ ∀(i:Int),i=fa L KJ KK->bif ZX i then ob (w7 i L) (ob (w6 i L) (ob (w5 L i) (ob (D.bB (D.eL (D.nth (List.map cT L) (Zf i)) 2) !=q) (Ex ae L d)))) else bif decide ((↑(List.length L):Int)>=(50:Int)) then ae (IU,ra L d) else ob (Nat.ble (List.length L) (List.length (List.map cT L))&&bx (List.length L+List.length (Ja a n q)) 48) (ob (decide (Zi<=FT L a n q/\FT L a n q<=Zj)) (ob (decide ((0:Int)<=FT L a n q/\FT L a n q<(↑(List.length L+List.length (Ja a n q)):Int))) (ob (decide (Int.toNat (FT L a n q)<List.length (LX L a n q))) (ob (pz PR (67:TypeId) (KI L a n q)) (ob (decide (List.length L=Int.toNat (FT L a n q))) (∃(yF:Int) (yG:Int) (w9:Int) (yH:Int) (yI:List UInt8) (N:Nat) (es:List D) (k:Nat) (DW:List (Int×Int)) (oa:Int) (on:Int) (oq:Int) (l:List bp) (f:bp) (c:Int) (i:Int),S.mk 200 [fJ,q9,(7,P.d (D.int .i64 (FT L a n q))),FL,(10,P.d (D.int .i64 ((↑(List.length (Eu a n p q s)):Int)-(1:Int))))] [(0,En.mk 0 (some 0) (Obj.box (35:TypeId) (P.sl 1 0 (List.length L+List.length (Ja a n q))::Bf d))),(1,En.mk 0 none (Obj.bC (67:TypeId) (LX L a n q) (some (List.length L,3,P.d D.bu)))),yE d,(3,j7 a n p q s),(4,En.mk 0 none (Obj.box (67:TypeId) [P.d (D.int .i64 (D.bB (D.eL (KI L a n q) 0))),P.d (D.int .i64 (D.bB (D.eL (KI L a n q) 1))),P.d (D.int .i64 (D.bB (D.eL (KI L a n q) 2))),P.sl 5 0 1])),(5,En.mk 0 none (Obj.arr (37:TypeId) false (Eu a n p q s)))]=S.mk 200 (LW c i) (Bl N DW::I7 es k::yE DW::LV yF yG w9 yH yI oa on oq l f)/\(i=(↑(Z2 l):Int)/\ZM l)/\ ∀(m:List bp),m=b7 ja l f->ob (decide ((0:Int)<=c/\c<(↑N:Int))) (ob (decide (Zf c<List.length es)) (ob (FK k c) (bif decide ((↑(Z2 m):Int)<oq) then ae (GA,[(0,En.mk 0 (some 0) (Obj.box (35:TypeId) [P.sl 2 0 N,P.sl 1 0 (List.length DW)])),(1,xl DW),(2,En.mk 0 none (LU es c oa on oq k m)),(3,Zc m)]) else∃(a:Int) (n:Int) (p:Int) (q:Int) (s:List UInt8) (lx:Nat) (dj:List D) (jP:Nat) (d:List (Int×Int)) (o:cO) (gZ:Int),S.mk 200 (I9 c) (zP N DW::(1,En.mk 0 none (LS es c oa on oq k m))::(2,Zc m)::(3,xl DW)::LR yF yG w9 yH yI oa on oq m)=S.mk 200 (I9 gZ) (zP lx d::(1,En.mk 0 none (BF dj jP o))::(2,u7 o)::(3,xl d)::Et a n p q s o)/\LQ o/\ ∀(r:List UInt8),r=KH o->ob (decide ((0:Int)<=gZ/\gZ<=(↑(List.length (List.take lx (DV dj jP o))):Int))) (ob (Nat.ble 0 0&&bx (FR gZ lx dj jP o) 48) (ob (Zk gZ) (ob (LP gZ lx dj jP o) (ob (LO gZ lx dj jP o) (ob (LM d a n) (ae (LL r,[(0,En.mk 0 (some 0) (Obj.box (35:TypeId) [P.sl 1 0 (FR gZ lx dj jP o+List.length (I8 gZ lx dj jP o)),P.sl 2 0 (KG d a n)])),(1,LK gZ lx dj jP o),(2,LJ d a n)])))))))))))))))) else Ex ae L d else Ex ae L d else Ex ae L d else Ex ae L d else Ex ae L d else Ex ae L d else Ex ae L d)=(l8 [(19,DQ),(20,DR)] [] [(10,aF (gY 14 10) OQ),(21,aF (gY 14 21) GH),(29,aF (gY 14 29) GI)] 14 [.ref 0 0 0,xj a n p q s] (u0 some L d)) ae:=by kernel_rfl
def Ey(ae:P×List (Nat×En)->Prop)(L:List dz)(d:List (Int×Int))(k:Nat)(l:List bp):Prop:=ae (qL,qP L d k l)
theorem NF(a n p q:Int)(s:List UInt8)(L:List dz)(k:Nat)(l:List bp)(d:List (Int×Int))(ae:P×List (Nat×En)->Prop):(bif ZV a then bif ZW a then bif ZX n then bif ZV q then bif ZY q then bif ZX p then bif Ze p q then bif ZZ s then Ey ae L d k l else∃(qQ:Int) (qR:Int) (Bh:Int) (Bi:Int) (Bj:List UInt8) (kV:List dz) (jW:List (Int×Int)) (jP:Nat) (uY:List bp),Ew a n p q s=Ew qQ qR Bh Bi Bj/\qP L d k l=qP kV jW jP uY/\zI kV jW/\ ∀(b:Bool),b=fU jW qQ qR->bif b then ae (Ep,qP kV jW jP uY) else∃(KJ:Int) (KK:Int) (NA:Int) (NB:Int) (NC:List UInt8) (L:List dz) (d:List (Int×Int)) (k:Nat) (l:List bp),Ew a n p q s=Ew KJ KK NA NB NC/\qP kV jW jP uY=qP L d k l/\zI L d/\ ∀(i:Int),i=fa L KJ KK->bif ZX i then ob (w7 i L) (ob (w6 i L) (ob (w5 L i) (bif D.bB (D.eL (D.nth (List.map cT L) (Zf i)) 2) !=q then Ey ae L d k l else∃(yF:Int) (yG:Int) (w9:Int) (yH:Int) (yI:List UInt8) (BG:List dz) (Jb:Nat) (BH:List bp) (DW:List (Int×Int)) (c:Int),S.mk 200 [fJ,mY,rb i,(8,Zy)] (rT L d k l a n p q s)=S.mk 200 [fJ,mY,rb c,(8,Zy)] (rT BG DW Jb BH yF yG w9 yH yI)/\((Jb<List.length BG/\c=(↑Jb:Int))/\List.length BG<=1000000/\ZM BH)/\(uH BH w9=true->ae (Ep,qP BG DW Jb BH))/\(uH BH w9=false->ob (w7 c BG) (ob (w6 c BG) (ob (w5 BG c) (ob (FK Jb c) (ob (Z3 BH&&bx (Z2 BH+List.length (Eu yF yG w9 yH yI)) 48) (ob (decide (Zi<=(↑(Z2 BH+List.length (Eu yF yG w9 yH yI)):Int)-(1:Int)/\(↑(Z2 BH+List.length (Eu yF yG w9 yH yI)):Int)-(1:Int)<=Zj)) (∃(a:Int) (n:Int) (p:Int) (q:Int) (s:List UInt8) (N:Nat) (es:List D) (k:Nat) (d:List (Int×Int)) (oa:Int) (on:Int) (oq:Int) (l:List bp) (f:bp) (gZ:Int) (i:Int),S.mk 200 [fJ,q9,rb c,FL,(10,P.d (D.int .i64 ((↑(Z2 BH+List.length (Eu yF yG w9 yH yI)):Int)-(1:Int))))] [DI BG DW,(1,En.mk 0 (some 1) (Obj.bC (67:TypeId) (List.map cT BG) (some (Jb,3,P.bad)))),(2,ph DW),(3,j7 yF yG w9 yH yI),(4,En.mk 0 none (Obj.box (67:TypeId) [P.d (D.int .i64 (D.bB (D.eL (D.nth (List.map cT BG) (Zf c)) 0))),P.d (D.int .i64 (D.bB (D.eL (D.nth (List.map cT BG) (Zf c)) 1))),P.d (D.int .i64 (D.bB (D.eL (D.nth (List.map cT BG) (Zf c)) 2))),P.sl 5 0 (Z2 BH+List.length (Eu yF yG w9 yH yI))])),(5,En.mk 0 none (Obj.arr (37:TypeId) false (Za BH++Eu yF yG w9 yH yI)))]=S.mk 200 (LW gZ i) (Bl N d::I1 es k::(2,ph d)::LV a n p q s oa on oq l f)/\(i=(↑(Z2 l):Int)/\ZM l)/\ ∀(m:List bp),m=b7 ja l f->ob (decide ((0:Int)<=gZ/\gZ<(↑N:Int))) (ob (decide (Zf gZ<List.length es)) (ob (FK k gZ) (bif decide ((↑(Z2 m):Int)<oq) then ae (GA,[Bl N d,(1,En.mk 0 (some 1) (LU es gZ oa on oq k m)),(2,ph d),(3,Zc m)]) else∃(LY:Int) (LZ:Int) (Qt:Int) (Qu:Int) (Qv:List UInt8) (lx:Nat) (dj:List D) (FU:Nat) (KL:List (Int×Int)) (o:cO) (c:Int),S.mk 200 (I9 gZ) (zP N d::(1,En.mk 0 (some 1) (LS es gZ oa on oq k m))::(2,Zc m)::(3,ph d)::LR a n p q s oa on oq m)=S.mk 200 (I9 c) (zP lx KL::(1,En.mk 0 (some 1) (BF dj FU o))::(2,u7 o)::(3,ph KL)::Et LY LZ Qt Qu Qv o)/\LQ o/\ ∀(r:List UInt8),r=KH o->ob (decide ((0:Int)<=c/\c<=(↑(List.length (List.take lx (DV dj FU o))):Int))) (ob (Nat.ble 0 0&&bx (FR c lx dj FU o) 48) (ob (Zk c) (ob (LP c lx dj FU o) (ob (LO c lx dj FU o) (ob (LM KL LY LZ) (ae (LL r,[(0,En.mk 0 (some 0) (Obj.box (35:TypeId) [P.sl 2 0 (FR c lx dj FU o+List.length (I8 c lx dj FU o)),P.sl 3 0 (KG KL LY LZ)])),(1,En.mk 0 (some 1) (Obj.arr (67:TypeId) true (DV dj FU o))),(2,LK c lx dj FU o),(3,LJ KL LY LZ)])))))))))))))))))))) else ob (decide ((↑(List.length L):Int)>=(50:Int))) (ae (IU,qP L d k l)) else Ey ae L d k l else Ey ae L d k l else Ey ae L d k l else Ey ae L d k l else Ey ae L d k l else Ey ae L d k l else Ey ae L d k l)=(l8 [(19,DS),(20,DT)] [] [(10,aF (gY 14 10) KE),(21,aF (gY 14 21) GD),(29,aF (gY 14 29) GF)] 14 [.ref 0 0 0,xj a n p q s] (u1 L k l d)) ae:=by kernel_rfl
theorem GJ(x:Int×Int):pz PR 57 (je x)=true:=by kernel_rfl
theorem uI(x:dz):pz PR 67 (cT x)=true:=by kernel_rfl
theorem mc{α:Type}(f:α->D){l:List α}{i:Nat}(h:i<l.length):D.nth (l.map f) i=f l[i]:=by unfold D.nth;simp[h]
section
variable{X:XF}
theorem FV:LD X 19 2 (aF (gY 19 2) Kw):=LD.find (by kernel_rfl) (by kernel_rfl) .nil .nil
 (A:=Int×Int×Int×Int×List UInt8×List dz×List (Int×Int)) (λz c=>Nv 0 z.1 z.2.1 z.2.2.1 z.2.2.2.1 z.2.2.2.2.1 z.2.2.2.2.2.1 z.2.2.2.2.2.2 c) (λz=>z.2.2.2.2.2.2) (λz _ x=>x.1==z.1&&x.2==z.2.1) (λz=>z.2.2.2.2.2.1.length<=1000000/\z.2.2.2.2.2.2.length<=1000000)
 (λz _=>(.ret,⟨28,[(0,.ref 0 0 0),(4,.d (.bool true))],u0 some z.2.2.2.2.2.1 z.2.2.2.2.2.2⟩)) (λz=>(.exit 0,⟨28,[(0,.ref 0 0 0)],u0 some z.2.2.2.2.2.1 z.2.2.2.2.2.2⟩)) (λ_ _ h=>by cases h) (λ_ h=>by cases h)
 (by
  rintro⟨a,n,p,q,s,L,d⟩ i ae hi hC h0 il ht hn;dsimp only at*
  (rw[<-DJ];delta mb fJ BE Z4 j7 xl yE FJ Bf DI Bg Zl ZI q9 Zj Zi Zk ra ZN IX Zf IY)
  rw[mc je hi];refine ow il (aw ⟨h0,il⟩ (aw (by simpa using hi) (bf (GJ _) ?_)));rw[show(D.bB (D.eL (je d[i.toNat]) 0)==a&&(D.bB (D.eL (je d[i.toNat]) 1)==n&&true))=(d[i.toNat].1==a&&d[i.toNat].2==n) by rw[Bool.and_true];rfl];exact eA (λh=>ht h) λh=>aw (by omega) (hn h))
 (by
  rintro⟨a,n,p,q,s,L,d⟩ i ae hC hi hp;dsimp only at*
  (rw[<-DJ];delta mb fJ BE Z4 j7 xl yE FJ Bf DI Bg Zl ZI q9 Zj Zi Zk ra ZN IX Zf IY)
  exact aT (λh=>by omega) λh=>hp)
 (by
  rintro st ae ⟨a,n,p,q,s,L,d,rfl,hl,h1,h2⟩;refine⟨⟨a,n,p,q,s,L,d⟩,rfl,hl,λi hi h0 ht hb=>h1 ?_,λh=>h2 ?_⟩
  ·exact zbe.2 ⟨_,zaX hi,ht⟩
  refine zb1.2 λx hx=> ?_;obtain⟨j,hj,rfl⟩:=zaM hx;have:=h j hj;simpa using this)
theorem FW:FD X 19 DQ:=FD.mk (by kernel_rfl) .nil (.cons FV .nil) (by
 intro ps R ae hh;obtain⟨a,n,p,q,s,L,d,ep,er,hm,hp⟩:=hh
 (rw[ep,er,<-Kx];delta ZG xl yE FJ Bf DI ra ZN zI Z4 j7 Bg Zy ZK q9 mb fJ)
 exact⟨a,n,p,q,s,L,d,rfl,hm,λh=>hp _ h.symm,λh=>hp _ h.symm⟩)
theorem FX:LD X 20 2 (aF (gY 20 2) Ky):=LD.find (by kernel_rfl) (by kernel_rfl) .nil .nil
 (A:=Int×Int×Int×Int×List UInt8×List dz×List (Int×Int)) (λz c=>Nx z.1 z.2.1 z.2.2.1 z.2.2.2.1 z.2.2.2.2.1 z.2.2.2.2.2.1 z.2.2.2.2.2.2 c) (λz=>z.2.2.2.2.2.1) (λz _ x=>x.1.a==z.1&&x.1.n==z.2.1) (λz=>z.2.2.2.2.2.1.length<=1000000/\z.2.2.2.2.2.2.length<=1000000)
 (λz i=>(.ret,⟨40,[(0,.ref 0 0 0),(4,iD i)],u0 some z.2.2.2.2.2.1 z.2.2.2.2.2.2⟩)) (λz=>(.exit 0,⟨40,[(0,.ref 0 0 0)],u0 some z.2.2.2.2.2.1 z.2.2.2.2.2.2⟩)) (λ_ _ h=>by cases h) (λ_ h=>by cases h)
 (by
  rintro⟨a,n,p,q,s,L,d⟩ i ae hi hC h0 il ht hn;dsimp only at*
  (rw[<-DO];delta mb fJ BE Z4 j7 xl yE FJ Bf DI Bg Zl ZI q9 Zj Zi Zk ra Zf w5 w6 w7)
  rw[mc cT hi];have hN:i+1<=1000000:=by omega
  refine ow il (aw ⟨h0,il⟩ (aw (by simpa using hi) (bf (uI _) (eA (λh=> ?_) λh=>aw (by omega) (hn ?_)))))
  ·have h:(L[i.toNat].1.a==a)=true:=h;refine aw ⟨h0,il⟩ (aw (by simpa using hi) (bf (uI _) (eA (λh3=> ?_) λh3=>aw (by omega) (hn ?_))))
   ·have h3:(L[i.toNat].1.n==n)=true:=h3;exact ht (by rw[h,h3];rfl)
   have h3:(L[i.toNat].1.n==n)=false:=h3;rw[h,h3];rfl
  have h:(L[i.toNat].1.a==a)=false:=h;rw[h];rfl)
 (by
  rintro⟨a,n,p,q,s,L,d⟩ i ae hC hi hp;dsimp only at*
  (rw[<-DO];delta mb fJ BE Z4 j7 xl yE FJ Bf DI Bg Zl ZI q9 Zj Zi Zk ra Zf w5 w6 w7)
  exact aT (λh=>by omega) λh=>hp)
 (by
  rintro st ae ⟨a,n,p,q,s,L,d,rfl,hl,h1,h2⟩;refine⟨⟨a,n,p,q,s,L,d⟩,rfl,hl,λi hi h0 ht hb=>h1 i ?_ h0,λh=>h2 ?_⟩
  ·rw[fa,wQ hi ht hb];omega
  exact zD h)
theorem FY:FD X 20 DR:=FD.mk (by kernel_rfl) .nil (.cons FX .nil) (by
 intro ps R ae hh;obtain⟨a,n,p,q,s,L,d,ep,er,hm,hp⟩:=hh
 (rw[ep,er,<-Kz];delta xl yE FJ Bf DI ra Z4 zI j7 Bg Zy ZK q9 mb fJ)
 exact⟨a,n,p,q,s,L,d,rfl,hm,λi hi _=>hp i hi,λh=>hp _ h.symm⟩)
theorem FZ:LD X 19 2 (aF (gY 19 2) KA):=LD.find (by kernel_rfl) (by kernel_rfl) .nil .nil
 (A:=Int×Int×Int×Int×List UInt8×List dz×List (Int×Int)×Nat×List bp) (λz c=>Nw z.1 z.2.1 z.2.2.1 z.2.2.2.1 z.2.2.2.2.1 z.2.2.2.2.2.1 z.2.2.2.2.2.2.2.1 z.2.2.2.2.2.2.2.2 z.2.2.2.2.2.2.1 c) (λz=>z.2.2.2.2.2.2.1) (λz _ x=>x.1==z.1&&x.2==z.2.1) (λz=>z.2.2.2.2.2.1.length<=1000000/\z.2.2.2.2.2.2.1.length<=1000000)
 (λz _=>(.ret,⟨28,[(0,.ref 0 0 0),(4,.d (.bool true))],u1 z.2.2.2.2.2.1 z.2.2.2.2.2.2.2.1 z.2.2.2.2.2.2.2.2 z.2.2.2.2.2.2.1⟩)) (λz=>(.exit 0,⟨28,[(0,.ref 0 0 0)],u1 z.2.2.2.2.2.1 z.2.2.2.2.2.2.2.1 z.2.2.2.2.2.2.2.2 z.2.2.2.2.2.2.1⟩)) (λ_ _ h=>by cases h) (λ_ h=>by cases h)
 (by
  rintro⟨a,n,p,q,s,L,d,k,l⟩ i ae hi hC h0 il ht hn;dsimp only at*
  (rw[<-DN];delta mb fJ BE Z4 j7 ph DK Z2 DL DM rT Zl ZI mY Zj Zi Zk qP ZN IX Zf IY)
  rw[mc je hi];refine ow il (aw ⟨h0,il⟩ (aw (by simpa using hi) (bf (GJ _) ?_)));rw[show(D.bB (D.eL (je d[i.toNat]) 0)==a&&(D.bB (D.eL (je d[i.toNat]) 1)==n&&true))=(d[i.toNat].1==a&&d[i.toNat].2==n) by rw[Bool.and_true];rfl];exact eA (λh=>ht h) λh=>aw (by omega) (hn h))
 (by
  rintro⟨a,n,p,q,s,L,d,k,l⟩ i ae hC hi hp;dsimp only at*
  (rw[<-DN];delta mb fJ BE Z4 j7 ph DK Z2 DL DM rT Zl ZI mY Zj Zi Zk qP ZN IX Zf IY)
  exact aT (λh=>by omega) λh=>hp)
 (by
  rintro st ae ⟨a,n,p,q,s,L,d,k,l,rfl,hl,h1,h2⟩;refine⟨⟨a,n,p,q,s,L,d,k,l⟩,rfl,hl,λi hi h0 ht hb=>h1 ?_,λh=>h2 ?_⟩
  ·exact zbe.2 ⟨_,zaX hi,ht⟩
  refine zb1.2 λx hx=> ?_;obtain⟨j,hj,rfl⟩:=zaM hx;have:=h j hj;simpa using this)
theorem F4:FD X 19 DS:=FD.mk (by kernel_rfl) .nil (.cons FZ .nil) (by
 intro ps R ae hh;obtain⟨a,n,p,q,s,L,d,k,l,ep,er,hm,hp⟩:=hh
 (rw[ep,er,<-KB];delta ZG ph DK Z2 DL DM qP ZN zI Z4 j7 rT Zy ZK mY mb fJ)
 exact⟨a,n,p,q,s,L,d,k,l,rfl,hm,λh=>hp _ h.symm,λh=>hp _ h.symm⟩)
theorem F5:LD X 20 2 (aF (gY 20 2) KC):=LD.find (by kernel_rfl) (by kernel_rfl) .nil .nil
 (A:=Int×Int×Int×Int×List UInt8×List dz×List (Int×Int)×Nat×List bp) (λz c=>Ny z.1 z.2.1 z.2.2.1 z.2.2.2.1 z.2.2.2.2.1 z.2.2.2.2.2.1 z.2.2.2.2.2.2.2.1 z.2.2.2.2.2.2.2.2 z.2.2.2.2.2.2.1 c) (λz=>z.2.2.2.2.2.1) (λz _ x=>x.1.a==z.1&&x.1.n==z.2.1) (λz=>z.2.2.2.2.2.1.length<=1000000/\z.2.2.2.2.2.2.1.length<=1000000)
 (λz i=>(.ret,⟨40,[(0,.ref 0 0 0),(4,iD i)],u1 z.2.2.2.2.2.1 z.2.2.2.2.2.2.2.1 z.2.2.2.2.2.2.2.2 z.2.2.2.2.2.2.1⟩)) (λz=>(.exit 0,⟨40,[(0,.ref 0 0 0)],u1 z.2.2.2.2.2.1 z.2.2.2.2.2.2.2.1 z.2.2.2.2.2.2.2.2 z.2.2.2.2.2.2.1⟩)) (λ_ _ h=>by cases h) (λ_ h=>by cases h)
 (by
  rintro⟨a,n,p,q,s,L,d,k,l⟩ i ae hi hC h0 il ht hn;dsimp only at*
  (rw[<-DP];delta mb fJ BE Z4 j7 ph DK Z2 DL DM rT Zl ZI mY Zj Zi Zk qP Zf w5 w6 w7)
  rw[mc cT hi];have hN:i+1<=1000000:=by omega
  refine ow il (aw ⟨h0,il⟩ (aw (by simpa using hi) (bf (uI _) (eA (λh=> ?_) λh=>aw (by omega) (hn ?_)))))
  ·have h:(L[i.toNat].1.a==a)=true:=h;refine aw ⟨h0,il⟩ (aw (by simpa using hi) (bf (uI _) (eA (λh3=> ?_) λh3=>aw (by omega) (hn ?_))))
   ·have h3:(L[i.toNat].1.n==n)=true:=h3;exact ht (by rw[h,h3];rfl)
   have h3:(L[i.toNat].1.n==n)=false:=h3;rw[h,h3];rfl
  have h:(L[i.toNat].1.a==a)=false:=h;rw[h];rfl)
 (by
  rintro⟨a,n,p,q,s,L,d,k,l⟩ i ae hC hi hp;dsimp only at*
  (rw[<-DP];delta mb fJ BE Z4 j7 ph DK Z2 DL DM rT Zl ZI mY Zj Zi Zk qP Zf w5 w6 w7)
  exact aT (λh=>by omega) λh=>hp)
 (by
  rintro st ae ⟨a,n,p,q,s,L,d,k,l,rfl,hl,h1,h2⟩;refine⟨⟨a,n,p,q,s,L,d,k,l⟩,rfl,hl,λi hi h0 ht hb=>h1 i ?_ h0,λh=>h2 ?_⟩
  ·rw[fa,wQ hi ht hb];omega
  exact zD h)
theorem F6:FD X 20 DT:=FD.mk (by kernel_rfl) .nil (.cons F5 .nil) (by
 intro ps R ae hh;obtain⟨a,n,p,q,s,L,d,k,l,ep,er,hm,hp⟩:=hh
 (rw[ep,er,<-KD];delta ph DK Z2 DL DM qP Z4 zI j7 rT Zy ZK mY mb fJ)
 exact⟨a,n,p,q,s,L,d,k,l,rfl,hm,λi hi _=>hp i hi,λh=>hp _ h.symm⟩)
end
section
variable{X:XF}
theorem F7:LD X 14 10 (aF (gY 14 10) KE):=LD.find (by kernel_rfl) (by kernel_rfl) .nil .nil
 (A:=(Int×Int×Int×Int×List UInt8)×List dz×Nat×List bp×List (Int×Int)×Int) (λz i=>H2 z.1.1 z.1.2.1 z.1.2.2.1 z.1.2.2.2.1 z.1.2.2.2.2 z.2.1 z.2.2.1 z.2.2.2.1 z.2.2.2.2.1 z.2.2.2.2.2 i) (λz=>z.2.2.2.1) (λz _ x=>x.2.2.1==z.1.2.2.1) (λz=>(z.2.2.1<z.2.1.length/\z.2.2.2.2.2=(z.2.2.1:Int))/\z.2.1.length<=1000000/\z.2.2.2.1.length<=1000000)
 (λz _=>(.ret,⟨200,[(0,.ref 0 0 0),(3,.ref 4 0 0),(4,.d (.str [])),(5,.d (.bool false)),(6,iD 210),(7,iD z.2.2.2.2.2)],u1 z.2.1 z.2.2.1 z.2.2.2.1 z.2.2.2.2.1++[(4,⟨0,none,DH z.1.1 z.1.2.1 z.1.2.2.1 z.1.2.2.2.1 z.1.2.2.2.2⟩)]⟩)) (λz=>(.exit 0,⟨200,[(0,.ref 0 0 0),(3,.ref 4 0 0),(7,iD z.2.2.2.2.2)],u1 z.2.1 z.2.2.1 z.2.2.2.1 z.2.2.2.2.1++[(4,⟨0,none,DH z.1.1 z.1.2.1 z.1.2.2.1 z.1.2.2.2.1 z.1.2.2.2.2⟩)]⟩)) (λ_ _ h=>by cases h) (λ_ h=>by cases h)
 (by
  rintro⟨⟨a,n,p,q,s⟩,L,k,l,d,c⟩ i ae hi ⟨⟨hk,hc⟩,hL,hl⟩ h0 il ht hn;dsimp only at*
  (rw[<-DU];delta Zl Zj Zi Zk Z4 j7 ph DK Z2 DL DM rT rb ZG zA mY mb fJ Zf Zg Zh FK w5 w6 w7)
  have e1:c.toNat=k:=by omega
  rw[e1,mc cT hk,mc ia hi];refine aw (by omega) (aw (by simpa using hk) (bf (uI _) (aw rfl (ow il ?_))));refine aw (by omega) (aw (by simpa using hk) (bf (uI _) (aw rfl (aw ⟨h0,il⟩ (aw (by simpa using hi) (bf (l7 _) ?_))))));exact eA (λh=>ht h) λh=>aw (by omega) (hn h))
 (by
  rintro⟨⟨a,n,p,q,s⟩,L,k,l,d,c⟩ i ae ⟨⟨hk,hc⟩,hL,hl⟩ hi hp;dsimp only at*
  (rw[<-DU];delta Zl Zj Zi Zk Z4 j7 ph DK Z2 DL DM rT rb ZG zA mY mb fJ Zf Zg Zh FK w5 w6 w7)
  have e1:c.toNat=k:=by omega
  rw[e1,mc cT hk];refine aw (by omega) (aw (by simpa using hk) (bf (uI _) (aw rfl ?_)));exact aT (λh=>by omega) λh=>hp)
 (by
  rintro st ae ⟨a,n,p,q,s,L,k,l,d,c,rfl,hl,h1,h2⟩;refine⟨((a,n,p,q,s),L,k,l,d,c),rfl,hl,λi hi h0 ht hb=>h1 ?_,λh=>h2 ?_⟩
  ·exact zbe.2 ⟨_,zaX hi,ht⟩
  refine zb1.2 λx hx=> ?_;obtain⟨j,hj,rfl⟩:=zaM hx;have:=h j hj;simpa using this)
theorem DX:LD X 14 21 (aF (gY 14 21) GD):=LD.ins (by kernel_rfl) (by kernel_rfl) .nil .nil
 (A:=(Int×Int×Int×Int×List UInt8)×Nat×List D×Nat×List (Int×Int)×(Int×Int×Int)×Int×Nat) (α:=bp) (λz o i=>w8 (some 1) (some 3) .bad z.1.1 z.1.2.1 z.1.2.2.1 z.1.2.2.2.1 z.1.2.2.2.2 z.2.1 z.2.2.1 z.2.2.2.1 z.2.2.2.2.1 ⟨z.2.2.2.2.2.1.1,z.2.2.2.2.2.1.2.1,z.2.2.2.2.2.1.2.2,o⟩ z.2.2.2.2.2.2.1 i) ja (λz=>z.2.2.2.2.2.2.2) (λ_=>True)
 (λz o=>(.exit 2,zJ (some 1) (some 3) .bad z.1.1 z.1.2.1 z.1.2.2.1 z.1.2.2.2.1 z.1.2.2.2.2 z.2.1 z.2.2.1 z.2.2.2.1 z.2.2.2.2.1 ⟨z.2.2.2.2.2.1.1,z.2.2.2.2.2.1.2.1,z.2.2.2.2.2.1.2.2,o⟩ z.2.2.2.2.2.2.1)) (λ_ _ h=>by cases h)
 (by
  rintro⟨⟨a,n,p,q,s⟩,N,es,kk,d,⟨oa,on,oq⟩,c,M⟩ o k ae _ h0 NG Qw hk hz bg uJ;dsimp only at*
  subst NG
  (rw[<-FP];delta oB u7 H3 Z4 j7 FL rb q9 mb fJ IZ Zf FM LF zL I0 FO LG ph I1 Bf Bl LH LI I2 I3 Er GG Zj Zi Es zM zN zO)
  dsimp only;refine aT (λhp=> ?_) λhp=>hz (by omega);have tH:k.toNat-1<o.length:=by omega
  have ek:(k-1).toNat=k.toNat-1:=by omega
  have e1:D.nth (o.map ia) k.toNat=ia o[k.toNat]:=mc _ hk;have e2:D.nth (o.map ia) (k.toNat-1)=ia o[k.toNat-1]:=mc _ tH;have bg:=bg hp;have uJ:=uJ hp;have H4:=sX ia o k.toNat o[k.toNat] o[k.toNat-1];have e3: ∀z,D.nth ((o.map ia).set k.toNat z) (k.toNat-1)=ia o[k.toNat-1]:=λz=>by grind [D.nth]
  rw[ek,e1,e2];simp only[e3];generalize o[k.toNat]=x at*
  generalize o[k.toNat-1]=y at*
  simp only[zag,zas] at uJ⊢;have H5:0<=k/\k<(o.length:Int):=⟨h0,by omega⟩
  have H6:0<=k-1/\k-1<(o.length:Int):=⟨by omega,by omega⟩
  have hf:(-9223372036854775808:Int)<=k-1/\k-1<=9223372036854775807:=by omega
  refine aw H5 (aw hk (bf (l7 _) (aw hf (aw H6 (aw tH (bf (l7 _) (eA (λh=> ?_) λh=>bg h)))))));have hy:=uJ h;simp only[w8,uT,rO,sW] at hy;rw[<-H4] at hy;refine aw hf (aw hf (aw H6 (aw tH (bf (l7 _) (aw H5 (aw hk (bf (l7 _) (aw H5 (aw hk (bf (l7 _) (aw H6 (aw tH (bf (l7 _) (aw hf ?_))))))))))))));exact hy)
 (by rintro st ae ⟨a,n,p,q,s,N,es,kk,d,oa,on,oq,l,f,c,i,rfl,⟨hi,hl⟩,hp⟩;exact⟨((a,n,p,q,s),N,es,kk,d,(oa,on,oq),c,l.length+1),l,f,i,rfl,hi,trivial,⟨rfl,hl⟩,hp _ rfl⟩)
theorem DY:LD X 14 29 (aF (gY 14 29) GF):=LD.idx (by kernel_rfl) (by kernel_rfl) .nil .nil
 (A:=(Int×Int×Int×Int×List UInt8)×Nat×List D×Nat×List (Int×Int)×cO×Int) (B:=List UInt8) (λz r i=>Bk (some 1) (some 3) z.1.1 z.1.2.1 z.1.2.2.1 z.1.2.2.2.1 z.1.2.2.2.2 z.2.1 z.2.2.1 z.2.2.2.1 z.2.2.2.2.1 z.2.2.2.2.2.1 z.2.2.2.2.2.2 r i) (λz=>z.2.2.2.2.2.1.l.length)
 (λz i r=>(z.2.2.2.2.2.1.l.length<=1000000/\(z.2.2.2.2.2.1.l.flatMap (·.2.2.2.2)).length<=1000000)/\r=(z.2.2.2.2.2.1.l.take i).flatMap (·.2.2.2.2))
 (λz x=>x=(.exit 4,zK (some 1) (some 3) z.1.1 z.1.2.1 z.1.2.2.1 z.1.2.2.2.1 z.1.2.2.2.2 z.2.1 z.2.2.1 z.2.2.2.1 z.2.2.2.2.1 z.2.2.2.2.2.1 z.2.2.2.2.2.2 (z.2.2.2.2.2.1.l.flatMap (·.2.2.2.2))))
 (by
  rintro⟨⟨a,n,p,q,s⟩,N,es,kk,d,o,c⟩ r i ae h0 il hi ⟨⟨h1,h2⟩,hr⟩ hn ho;dsimp only at*
  (rw[<-zQ];delta Z4 j7 rb mY mb fJ I4 Et ph oB u7 BF zP Zl Zf FM I5 Zj Zi Zk I6 zM zN Er zO)
  rw[mc ia hi];have e1:(o.l.take (i.toNat+1)).flatMap (·.2.2.2.2)=r++o.l[i.toNat].2.2.2.2:=by rw[hr,List.take_add_one,zac hi,zbB];simp
  have e2:((o.l.take (i.toNat+1)).flatMap (·.2.2.2.2)).length<=(o.l.flatMap (·.2.2.2.2)).length:=by
   conv=>rhs;rw[<-zbH (i.toNat+1) o.l,zbB,zaw]
   omega
  rw[e1,zaw] at e2;refine ow il (aw ⟨h0,il⟩ (aw (by simpa using hi) (bf (l7 _) (aw (by show r.length+o.l[i.toNat].2.2.2.2.length<=_;omega) (aw (by omega) ?_)))));exact hn (r++o.l[i.toNat].2.2.2.2) ⟨⟨h1,h2⟩,e1.symm⟩)
 (by
  rintro⟨⟨a,n,p,q,s⟩,N,es,kk,d,o,c⟩ r i ae hi ⟨⟨h1,h2⟩,hr⟩ ho;dsimp only at*
  (rw[<-zQ];delta Z4 j7 rb mY mb fJ I4 Et ph oB u7 BF zP Zl Zf FM I5 Zj Zi Zk I6 zM zN Er zO)
  rw[zb7] at hr;subst hr;exact aT (λh=>by omega) λh=>ho _ (by simp) rfl)
 (by rintro st ae ⟨a,n,p,q,s,N,es,kk,d,o,c,rfl,hl,hp⟩;refine⟨((a,n,p,q,s),N,es,kk,d,o,c),[],rfl,⟨hl,by simp⟩,?_⟩;rintro x rfl;exact hp _ rfl)
theorem DZ:LD X 14 21 (aF (gY 14 21) GH):=LD.ins (by kernel_rfl) (by kernel_rfl) .nil .nil
 (A:=(Int×Int×Int×Int×List UInt8)×Nat×List D×Nat×List (Int×Int)×(Int×Int×Int)×Int×Nat) (α:=bp) (λz o i=>w8 none (some 2) (.d .bu) z.1.1 z.1.2.1 z.1.2.2.1 z.1.2.2.2.1 z.1.2.2.2.2 z.2.1 z.2.2.1 z.2.2.2.1 z.2.2.2.2.1 ⟨z.2.2.2.2.2.1.1,z.2.2.2.2.2.1.2.1,z.2.2.2.2.2.1.2.2,o⟩ z.2.2.2.2.2.2.1 i) ja (λz=>z.2.2.2.2.2.2.2) (λ_=>True)
 (λz o=>(.exit 2,zJ none (some 2) (.d .bu) z.1.1 z.1.2.1 z.1.2.2.1 z.1.2.2.2.1 z.1.2.2.2.2 z.2.1 z.2.2.1 z.2.2.2.1 z.2.2.2.2.1 ⟨z.2.2.2.2.2.1.1,z.2.2.2.2.2.1.2.1,z.2.2.2.2.2.1.2.2,o⟩ z.2.2.2.2.2.2.1)) (λ_ _ h=>by cases h)
 (by
  rintro⟨⟨a,n,p,q,s⟩,N,es,kk,d,⟨oa,on,oq⟩,c,M⟩ o k ae _ h0 NG Qw hk hz bg uJ;dsimp only at*
  subst NG
  (rw[<-FQ];delta oB u7 H3 Z4 j7 FL rb q9 mb fJ IZ Zf FM LF zL I0 FO LG xl yE I7 Bf Bl LH LI I2 I3 Er GG Zj Zi Es zM zN zO)
  dsimp only;refine aT (λhp=> ?_) λhp=>hz (by omega);have tH:k.toNat-1<o.length:=by omega
  have ek:(k-1).toNat=k.toNat-1:=by omega
  have e1:D.nth (o.map ia) k.toNat=ia o[k.toNat]:=mc _ hk;have e2:D.nth (o.map ia) (k.toNat-1)=ia o[k.toNat-1]:=mc _ tH;have bg:=bg hp;have uJ:=uJ hp;have H4:=sX ia o k.toNat o[k.toNat] o[k.toNat-1];have e3: ∀z,D.nth ((o.map ia).set k.toNat z) (k.toNat-1)=ia o[k.toNat-1]:=λz=>by grind [D.nth]
  rw[ek,e1,e2];simp only[e3];generalize o[k.toNat]=x at*
  generalize o[k.toNat-1]=y at*
  simp only[zag,zas] at uJ⊢;have H5:0<=k/\k<(o.length:Int):=⟨h0,by omega⟩
  have H6:0<=k-1/\k-1<(o.length:Int):=⟨by omega,by omega⟩
  have hf:(-9223372036854775808:Int)<=k-1/\k-1<=9223372036854775807:=by omega
  refine aw H5 (aw hk (bf (l7 _) (aw hf (aw H6 (aw tH (bf (l7 _) (eA (λh=> ?_) λh=>bg h)))))));have hy:=uJ h;simp only[w8,uT,rO,sW] at hy;rw[<-H4] at hy;refine aw hf (aw hf (aw H6 (aw tH (bf (l7 _) (aw H5 (aw hk (bf (l7 _) (aw H5 (aw hk (bf (l7 _) (aw H6 (aw tH (bf (l7 _) (aw hf ?_))))))))))))));exact hy)
 (by rintro st ae ⟨a,n,p,q,s,N,es,kk,d,oa,on,oq,l,f,c,i,rfl,⟨hi,hl⟩,hp⟩;exact⟨((a,n,p,q,s),N,es,kk,d,(oa,on,oq),c,l.length+1),l,f,i,rfl,hi,trivial,⟨rfl,hl⟩,hp _ rfl⟩)
theorem D0:LD X 14 29 (aF (gY 14 29) GI):=LD.idx (by kernel_rfl) (by kernel_rfl) .nil .nil
 (A:=(Int×Int×Int×Int×List UInt8)×Nat×List D×Nat×List (Int×Int)×cO×Int) (B:=List UInt8) (λz r i=>Bk none (some 2) z.1.1 z.1.2.1 z.1.2.2.1 z.1.2.2.2.1 z.1.2.2.2.2 z.2.1 z.2.2.1 z.2.2.2.1 z.2.2.2.2.1 z.2.2.2.2.2.1 z.2.2.2.2.2.2 r i) (λz=>z.2.2.2.2.2.1.l.length)
 (λz i r=>(z.2.2.2.2.2.1.l.length<=1000000/\(z.2.2.2.2.2.1.l.flatMap (·.2.2.2.2)).length<=1000000)/\r=(z.2.2.2.2.2.1.l.take i).flatMap (·.2.2.2.2))
 (λz x=>x=(.exit 4,zK none (some 2) z.1.1 z.1.2.1 z.1.2.2.1 z.1.2.2.2.1 z.1.2.2.2.2 z.2.1 z.2.2.1 z.2.2.2.1 z.2.2.2.2.1 z.2.2.2.2.2.1 z.2.2.2.2.2.2 (z.2.2.2.2.2.1.l.flatMap (·.2.2.2.2))))
 (by
  rintro⟨⟨a,n,p,q,s⟩,N,es,kk,d,o,c⟩ r i ae h0 il hi ⟨⟨h1,h2⟩,hr⟩ hn ho;dsimp only at*
  (rw[<-zR];delta Z4 j7 rb mY mb fJ I4 Et xl oB u7 BF zP Zl Zf FM I5 Zj Zi Zk I6 zM zN Er zO)
  rw[mc ia hi];have e1:(o.l.take (i.toNat+1)).flatMap (·.2.2.2.2)=r++o.l[i.toNat].2.2.2.2:=by rw[hr,List.take_add_one,zac hi,zbB];simp
  have e2:((o.l.take (i.toNat+1)).flatMap (·.2.2.2.2)).length<=(o.l.flatMap (·.2.2.2.2)).length:=by
   conv=>rhs;rw[<-zbH (i.toNat+1) o.l,zbB,zaw]
   omega
  rw[e1,zaw] at e2;refine ow il (aw ⟨h0,il⟩ (aw (by simpa using hi) (bf (l7 _) (aw (by show r.length+o.l[i.toNat].2.2.2.2.length<=_;omega) (aw (by omega) ?_)))));exact hn (r++o.l[i.toNat].2.2.2.2) ⟨⟨h1,h2⟩,e1.symm⟩)
 (by
  rintro⟨⟨a,n,p,q,s⟩,N,es,kk,d,o,c⟩ r i ae hi ⟨⟨h1,h2⟩,hr⟩ ho;dsimp only at*
  (rw[<-zR];delta Z4 j7 rb mY mb fJ I4 Et xl oB u7 BF zP Zl Zf FM I5 Zj Zi Zk I6 zM zN Er zO)
  rw[zb7] at hr;subst hr;exact aT (λh=>by omega) λh=>ho _ (by simp) rfl)
 (by rintro st ae ⟨a,n,p,q,s,N,es,kk,d,o,c,rfl,hl,hp⟩;refine⟨((a,n,p,q,s),N,es,kk,d,o,c),[],rfl,⟨hl,by simp⟩,?_⟩;rintro x rfl;exact hp _ rfl)
end
theorem LD.ln{X:XF}{w0:World}(hX:cL PR w0 X.cf)(hdr:PR.follows .mixedOrders=true){f id:Nat}(nY:Code.lB (bA PR f id)=id){g:S->K (PX×S)}(h:LD X f id g):LN w0 f id g:=λval lo mk s ae hp=>by obtain⟨x,h2,h1⟩:=h s ae hp;refine TW.Dj (kp:=Ei X) (kp1:=gY f) (T:=⟨val,w0,lo,mk⟩) hX hdr ?_ h1;rw[nY];exact h2
def oC(o:cO):D:= .agg [.int .i64 o.a,.int .i64 o.n,.int .i64 o.q,.bu]
abbrev u2(t1 t2:Option Nat)(N:Nat)(es:List D)(k:Nat)(m:List bp)(d:List (Int×Int)):List (Nat×En):=[(0,⟨0,some 0,.box 35 [.sl 1 0 N,.sl 2 0 d.length]⟩),(1,⟨0,t1,.bC 67 es (some (k,3,.sl 3 0 m.length))⟩),(2,⟨0,t2,.arr 57 false (d.map je)⟩),(3,⟨0,none,rO false m⟩)]
abbrev u3(old:List D)(es:List D)(d:List (Int×Int)):List (Nat×En):=[(0,⟨0,some 0,.box 35 [.sl 2 0 es.length,.sl 3 0 d.length]⟩),(1,⟨0,some 1,.arr 67 true old⟩),(2,⟨0,none,.arr 67 false es⟩),(3,⟨0,none,.arr 57 false (d.map je)⟩)]
def Qx:cR:=λps R ae=> ∃a n p q s L k l d x,ps=[.ref 0 0 0,xj a n p q s]/\R=u1 L k l d/\((fa L a n=(k:Int)/\L[k]?=some x)/\(L.length<=1000000/\d.length<=900000)/\l.length<=900000/\((b7 ja l (a,n,p,q,s)).flatMap (·.2.2.2.2)).length<=1000000)/\
 (aN (a,n,p,q,s)=false->ae (oP [] false 11,u1 L k l d))/\
 (aN (a,n,p,q,s)=true->fU d a n=true->ae (oP [] false 210,u1 L k l d))/\
 (aN (a,n,p,q,s)=true->fU d a n=false->x.1.q≠q->ae (oP [] false 11,u1 L k l d))/\
 (aN (a,n,p,q,s)=true->fU d a n=false->x.1.q=q->uH l p=true->ae (oP [] false 210,u1 L k l d))/\
 (aN (a,n,p,q,s)=true->fU d a n=false->x.1.q=q->uH l p=false-> ∀m,m=b7 ja l (a,n,p,q,s)->(m.length:Int)<q->ae (oP [] false 0,u2 (some 1) (some 3) L.length ((L.map cT).set k (oC x.1)) k m d))/\
 (aN (a,n,p,q,s)=true->fU d a n=false->x.1.q=q->uH l p=false-> ∀m,m=b7 ja l (a,n,p,q,s)-> ¬(m.length:Int)<q-> ∀old,ae (oP (m.flatMap (·.2.2.2.2)) true 0,u3 old ((L.eraseIdx k).map cT) (d++[(a,n)])))
theorem s7(es:List D)(k:Nat)(z:D)(p:P)(hk:k<es.length):([]++List.drop 0 (List.take k (List.take es.length (bJ (es.set k z) (some (k,3,p))))))++List.drop (k+1) (List.take (bJ (es.set k z) (some (k,3,p))).length (List.take es.length (bJ (es.set k z) (some (k,3,p)))))=es.eraseIdx k:=by
 have h1:(bJ (es.set k z) (some (k,3,p))).length=es.length:=by simp[bJ]
 have h2: ∀i,i≠k->(bJ (es.set k z) (some (k,3,p)))[i]?=es[i]?:=λi hi=>by simp only[bJ,List.getElem?_modify];rw[zau (za5 hi)];simp[za5 hi]
 generalize bJ (es.set k z) (some (k,3,p))=U at*
 have h3:List.take es.length U=U:=zay (by omega);rw[h1,h3,h3,zbv,zch,zbG];congr 1
 ·refine za7 λi=> ?_;rw[zaS,zaS];split
  ·exact h2 i (by omega)
  rfl
 refine za7 λi=> ?_;rw[za4,za4];exact h2 _ (by omega)
section
variable{X:XF}{w0:World}(hX:cL PR w0 X.cf)
include hX
theorem NH:ND w0 14 Qx:=ND.mk hX (by kernel_rfl) (by kernel_rfl) (by kernel_rfl) (.cons F4 (.cons F6 .nil)) .nil (.loop (by decide) (LD.ln hX (by kernel_rfl) (by kernel_rfl) F7).T (.loop (by decide) (LD.ln hX (by kernel_rfl) (by kernel_rfl) DX).T (.loop (by decide) (LD.ln hX (by kernel_rfl) (by kernel_rfl) DY).T .nil))) (by
 intro ps R ae hh;obtain⟨a,n,p,q,s,L,k,l,d,x,ep,er,⟨⟨hf,hx⟩,⟨hL,hd⟩,hl,hj⟩,h1,h2,h3,h4,h5,h6⟩:=hh
 (rw[ep,er,<-NF];delta ZG zA IU Z4 pd LJ DV I8 Zf FR LK KG Zy ZN LL LM LO LP Zj Zi Zk KH LQ j7 Et oB u7 BF Z2 LR LS zP rb mY mb fJ I9 Zc LU GA LV I1 Bf Bl FL q9 LW Za ph DI Eu Z3 FK ZM DK DL DM rT w5 w6 w7 Ep zI qP Ew qL Ey ZZ Ze ZY ZX ZW ZV)
 have bg: ¬((1<=a/\a<=16/\0<=n)/\(1<=q/\q<=1000/\0<=p/\p<q)/\s≠[])->aN (a,n,p,q,s)=false:=λh=>zbT h;refine aT (λg1=> ?_) λg=>h1 (bg λh=>g h.1.1);refine aT (λg2=> ?_) λg=>h1 (bg λh=>g h.1.2.1);refine aT (λg3=> ?_) λg=>h1 (bg λh=>g h.1.2.2);refine aT (λg4=> ?_) λg=>h1 (bg λh=>g h.2.1.1);refine aT (λg5=> ?_) λg=>h1 (bg λh=>g h.2.1.2.1);refine aT (λg6=> ?_) λg=>h1 (bg λh=>g h.2.1.2.2.1);refine aT (λg7=> ?_) λg=>h1 (bg λh=>g h.2.1.2.2.2);refine eA (λg=>h1 (bg λh=>h.2.2 (by simpa using g))) λg8=> ?_;have hr:aN (a,n,p,q,s)=true:=zbm ⟨⟨g1,g2,g3⟩,⟨g4,g5,g6,g7⟩,by simpa using g8⟩;refine⟨a,n,p,q,s,L,d,k,l,rfl,rfl,⟨hL,by omega⟩,λb hb=> ?_⟩;refine eA (λg=>h2 hr (by rw[<-hb];exact g)) λg=> ?_;have g9:fU d a n=false:=by rw[<-hb];exact g
 refine⟨a,n,p,q,s,L,d,k,l,rfl,rfl,⟨hL,by omega⟩,λi hi=> ?_⟩;rw[hf] at hi;have hk:k<L.length:=(zaa.1 hx).1;have Qy:L[k]=x:=(zaa.1 hx).2;have e1:i.toNat=k:=by omega
 have e2:D.nth (L.map cT) i.toNat=cT x:=by rw[e1,mc cT hk,Qy]
 rw[e2,show D.bB (D.eL (cT x) 2)=x.1.q from rfl];refine ow (by omega) (aw (by omega) (aw (by rw[zag];omega) (bf (uI _) (eA (λg=>h3 hr g9 (by simpa using g)) λg=> ?_))));have hq:x.1.q=q:=by simpa using g
 refine⟨a,n,p,q,s,L,k,l,d,i,rfl,⟨⟨hk,hi⟩,hL,by omega⟩,λg=>h4 hr g9 hq g,λg10=> ?_⟩;rw[e2];have e5:List.take l.length (l.map ia)++[D.agg [.int .i64 a,.int .i64 n,.int .i64 p,.int .i64 q,.str s]]=(l++[(a,n,p,q,s)]).map ia:=by rw[zay (by simp),za0];rfl
 rw[e5];have e6:l.length+[D.agg [.int .i64 a,.int .i64 n,.int .i64 p,.int .i64 q,.str s]].length=(l++[(a,n,p,q,s)]).length:=by simp
 rw[e6];refine aw (by omega) (aw (by rw[zag];omega) (bf (uI _) (aw (by omega) (bf ?_ (aw ?_ ?_)))))
 ·rw[zaw,zag];simp only[bx,zad,zbd,zaF,zbg];omega
 ·rw[zaw];simp only[zaF,zbg];omega
 refine⟨a,n,p,q,s,L.length,L.map cT,k,d,x.1.a,x.1.n,x.1.q,l,(a,n,p,q,s),i,l.length,?_,⟨rfl,by omega⟩,λm hm=> ?_⟩
 ·have e7:((l++[(a,n,p,q,s)]).length:Int)-1=(l.length:Int):=by rw[zaw];simp only[zaF,zbg];omega
  rw[e7];rfl
 have Iv:m.length=l.length+1:=by rw[hm,wR]
 rw[e1];refine aw (by omega) (aw (by rw[zag];exact hk) (aw rfl (aT (λg=>h5 hr g9 hq g10 m hm (by omega)) λg=> ?_)));refine⟨a,n,p,q,s,L.length,(L.map cT).set k (oC x.1),k,d,⟨x.1.a,x.1.n,x.1.q,m⟩,i,rfl,⟨by show m.length<=1000000;omega,by rw[<-hm] at hj;exact hj⟩,λr KM=> ?_⟩;have hN:L.length=(L.map cT).length:=by rw[zag]
 have hU:(bJ ((L.map cT).set k (oC x.1)) (some (k,3,.sl 2 0 m.length))).length=L.length:=by simp[bJ]
 have hT:List.take L.length (bJ ((L.map cT).set k (oC x.1)) (some (k,3,.sl 2 0 m.length)))=bJ ((L.map cT).set k (oC x.1)) (some (k,3,.sl 2 0 m.length)):=zay (by omega);have hE:=s7 (L.map cT) k (oC x.1) (.sl 2 0 m.length) (by rw[zag];exact hk);dsimp only;rw[<-hN,hT,hU,hT] at hE;simp only[hT,hU];have ei:(i+1).toNat=k+1:=by omega
 rw[e1,ei];generalize bJ ((L.map cT).set k (oC x.1)) (some (k,3,.sl 2 0 m.length))=U at*
 have hA:(List.drop 0 (List.take k U)).length=k:=by simp;omega
 have hB:(List.drop (k+1) U).length=L.length-(k+1):=by simp;omega
 generalize List.drop 0 (List.take k U)=A at*
 generalize List.drop (k+1) U=B at*
 rw[hA,hB];have e8:List.take (0+k) ([]++A)++B=(L.eraseIdx k).map cT:=by rw[zbv,zay (by omega)];rw[zbv] at hE;rw[hE];simp[zbG,List.map_take,List.map_drop]
 have Qz:0+k+(L.length-(k+1))=((L.eraseIdx k).map cT).length:=by rw[zag,zct hk];omega
 have NI:List.take d.length (d.map je)++[D.agg [.int .i64 a,.int .i64 n]]=(d++[(a,n)]).map je:=by rw[zay (by simp),za0];rfl
 have Ki:d.length+[D.agg [.int .i64 a,.int .i64 n]].length=(d++[(a,n)]).length:=by simp
 have NJ:([]++A).length=k:=hA;refine aw (by omega) (bf (by simp[bx];omega) (aw (by omega) (aw (by omega) (bf (by rw[NJ];simp[bx];omega) (bf (by simp[bx];omega) ?_)))));rw[e8,Qz,NI,Ki,KM];exact h6 hr g9 hq g10 m hm (by omega) U)
end
abbrev u4(N:Nat)(es:List D)(k:Nat)(m:List bp)(d:List (Int×Int)):List (Nat×En):=[(0,⟨0,some 0,.box 35 [.sl 2 0 N,.sl 1 0 d.length]⟩),(1,⟨0,some 2,.arr 57 false (d.map je)⟩),(2,⟨0,none,.bC 67 es (some (k,3,.sl 3 0 m.length))⟩),(3,⟨0,none,rO false m⟩)]
abbrev u5(es:List D)(d:List (Int×Int)):List (Nat×En):=[(0,⟨0,some 0,.box 35 [.sl 1 0 es.length,.sl 2 0 d.length]⟩),(1,⟨0,none,.arr 67 false es⟩),(2,⟨0,none,.arr 57 false (d.map je)⟩)]
def QA:cR:=λps R ae=> ∃a n p q s L d,ps=[.ref 0 0 0,xj a n p q s]/\R=u0 some L d/\(fa L a n= -1/\L.length<=900000/\d.length<=900000/\s.length<=1000000)/\
 (aN (a,n,p,q,s)=false->ae (oP [] false 11,u0 some L d))/\
 (aN (a,n,p,q,s)=true->fU d a n=true->ae (oP [] false 210,u0 some L d))/\
 (aN (a,n,p,q,s)=true->fU d a n=false->50<=L.length->ae (oP [] false 211,u0 some L d))/\
 (aN (a,n,p,q,s)=true->fU d a n=false-> ¬50<=L.length->1<q->ae (oP [] false 0,u4 (L.length+1) (L.map cT++[oC ⟨a,n,q,[]⟩]) L.length [(a,n,p,q,s)] d))/\
 (aN (a,n,p,q,s)=true->fU d a n=false-> ¬50<=L.length-> ¬1<q->ae (oP s true 0,u5 (L.map cT) (d++[(a,n)])))
theorem H7{w0:World}:LN w0 14 10 (aF (gY 14 10) OQ):=λ_ _ _ _ _ h=>by
 unfold aF at h;split at h
 ·exact h.elim
 exact h.elim
section
variable{X:XF}{w0:World}(hX:cL PR w0 X.cf)
include hX
theorem NK:ND w0 14 QA:=ND.mk hX (by kernel_rfl) (by kernel_rfl) (by kernel_rfl) (.cons FW (.cons FY .nil)) .nil (.loop (by decide) (H7 (w0:=w0)).T (.loop (by decide) (LD.ln hX (by kernel_rfl) (by kernel_rfl) DZ).T (.loop (by decide) (LD.ln hX (by kernel_rfl) (by kernel_rfl) D0).T .nil))) (by
 intro ps R ae hh;obtain⟨a,n,p,q,s,L,d,ep,er,⟨hf,hL,hd,hs⟩,h1,h2,h3,h4,h5⟩:=hh
 (rw[ep,er,<-Nz];delta Z4 pd LJ DV I8 Zf FR LK KG Zy ZN LL LM LO LP Zj Zi Zk KH LQ j7 Et oB u7 BF Z2 LR LS zP zA rb mY mb fJ I9 Zc LU xl ZG GA FK ZM LV I7 Bf Bl FL q9 LW yE Eu Ja FT LX KI IU w5 w6 w7 Ep zI FJ DI ra Ew qL Ex ZZ Ze ZY ZX ZW ZV)
 have bg: ¬((1<=a/\a<=16/\0<=n)/\(1<=q/\q<=1000/\0<=p/\p<q)/\s≠[])->aN (a,n,p,q,s)=false:=λh=>zbT h;refine aT (λg1=> ?_) λg=>h1 (bg λh=>g h.1.1);refine aT (λg2=> ?_) λg=>h1 (bg λh=>g h.1.2.1);refine aT (λg3=> ?_) λg=>h1 (bg λh=>g h.1.2.2);refine aT (λg4=> ?_) λg=>h1 (bg λh=>g h.2.1.1);refine aT (λg5=> ?_) λg=>h1 (bg λh=>g h.2.1.2.1);refine aT (λg6=> ?_) λg=>h1 (bg λh=>g h.2.1.2.2.1);refine aT (λg7=> ?_) λg=>h1 (bg λh=>g h.2.1.2.2.2);refine eA (λg=>h1 (bg λh=>h.2.2 (by simpa using g))) λg8=> ?_;have hr:aN (a,n,p,q,s)=true:=zbm ⟨⟨g1,g2,g3⟩,⟨g4,g5,g6,g7⟩,by simpa using g8⟩;refine⟨a,n,p,q,s,L,d,rfl,rfl,⟨by omega,by omega⟩,λb hb=> ?_⟩;refine eA (λg=>h2 hr (by rw[<-hb];exact g)) λg=> ?_;have g9:fU d a n=false:=by rw[<-hb];exact g
 refine⟨a,n,p,q,s,L,d,rfl,rfl,⟨by omega,by omega⟩,λi hi=> ?_⟩;rw[hf] at hi;refine aT (λg=>absurd g (by omega)) λg=> ?_;refine aT (λg=>h3 hr g9 (by omega)) λg10=> ?_;have g10: ¬50<=L.length:=by omega
 have h4:=h4 hr g9 g10;have h5:=h5 hr g9 g10;have eM:List.take L.length (L.map cT)=L.map cT:=zay (by simp);have e1:L.length+[D.agg [.int .i64 a,.int .i64 n,.int .i64 q,.bu]].length=L.length+1:=rfl;rw[eM,e1];have e2:(((L.length+1:Nat):Int)-1)=(L.length:Int):=by omega
 rw[e2];have e3:((L.length:Int)).toNat=L.length:=by omega
 rw[e3];have e4:D.nth (L.map cT++[D.agg [.int .i64 a,.int .i64 n,.int .i64 q,.bu]]) L.length= .agg [.int .i64 a,.int .i64 n,.int .i64 q,.bu]:=by unfold D.nth;rw[zaq,zaG (by simp)];simp
 rw[e4];have hlen:(L.map cT++[D.agg [.int .i64 a,.int .i64 n,.int .i64 q,.bu]]).length=L.length+1:=by simp
 refine bf ?_ (aw (by omega) (aw (by omega) (aw (by omega) (bf ?_ (aT (λ_=> ?_) λg=>absurd rfl g)))))
 ·rw[zag];simp only[bx,zad,zbd];omega
 ·kernel_rfl
 refine⟨a,n,p,q,s,L.length+1,L.map cT++[D.agg [.int .i64 a,.int .i64 n,.int .i64 q,.bu]],L.length,d,a,n,q,[],(a,n,p,q,s),L.length,0,rfl,⟨rfl,by simp⟩,λm hm=> ?_⟩;have hm:m=[(a,n,p,q,s)]:=by rw[hm];rfl
 subst hm;rw[e3];have e6:List.set (L.map cT++[D.agg [.int .i64 a,.int .i64 n,.int .i64 q,.bu]]) L.length (D.agg [.int .i64 a,.int .i64 n,.int .i64 q,.bu])=L.map cT++[oC ⟨a,n,q,[]⟩]:=by rw[zby (h:=by simp)];simp[oC]
 rw[e6];refine aw (by omega) (aw (by omega) (aw rfl (aT (λg=>h4 g) λg=> ?_)));have h5:=h5 g;refine⟨a,n,p,q,s,L.length+1,L.map cT++[oC ⟨a,n,q,[]⟩],L.length,d,⟨a,n,q,[(a,n,p,q,s)]⟩,L.length,rfl,⟨by simp,by simpa using hs⟩,λr KM=> ?_⟩;have KM:r=s:=by rw[KM];simp
 subst KM;have hU:(bJ (L.map cT++[oC ⟨a,n,q,[]⟩]) (some (L.length,3,.sl 2 0 [(a,n,p,q,r)].length))).length=L.length+1:=by simp[bJ]
 have hE:=s7 (L.map cT++[oC ⟨a,n,q,[]⟩]) L.length (oC ⟨a,n,q,[]⟩) (.sl 2 0 [(a,n,p,q,r)].length) (by simp);have e7:(L.map cT++[oC ⟨a,n,q,[]⟩]).set L.length (oC ⟨a,n,q,[]⟩)=L.map cT++[oC ⟨a,n,q,[]⟩]:=by rw[zby (h:=by simp)];simp
 have e8:(L.map cT++[oC ⟨a,n,q,[]⟩]).eraseIdx L.length=L.map cT:=by rw[zbE (by simp)];simp
 have e9:(L.map cT++[oC ⟨a,n,q,[]⟩]).length=L.length+1:=by simp
 have hT:List.take (L.length+1) (bJ (L.map cT++[oC ⟨a,n,q,[]⟩]) (some (L.length,3,.sl 2 0 [(a,n,p,q,r)].length)))=bJ (L.map cT++[oC ⟨a,n,q,[]⟩]) (some (L.length,3,.sl 2 0 [(a,n,p,q,r)].length)):=zay (by omega);dsimp only;rw[e7,e8,e9,hT,hU,hT] at hE;simp only[hT,hU];have ei:((L.length:Int)+1).toNat=L.length+1:=by omega
 rw[e3,ei];generalize bJ (L.map cT++[oC ⟨a,n,q,[]⟩]) (some (L.length,3,.sl 2 0 [(a,n,p,q,r)].length))=U at*
 have hA:(List.drop 0 (List.take L.length U)).length=L.length:=by simp;omega
 have hB:(List.drop (L.length+1) U).length=0:=by simp;omega
 generalize List.drop 0 (List.take L.length U)=A at*
 generalize List.drop (L.length+1) U=B at*
 rw[hA,hB];have QB:B=[]:=zcB.1 hB;subst QB;have e8:List.take (0+L.length) ([]++A)++[]=L.map cT:=by rw[zbv,zay (by omega),zcs];simpa using hE
 have NI:List.take d.length (d.map je)++[D.agg [.int .i64 a,.int .i64 n]]=(d++[(a,n)]).map je:=by rw[zay (by simp),za0];rfl
 have Ki:d.length+[D.agg [.int .i64 a,.int .i64 n]].length=(d++[(a,n)]).length:=by simp
 have NJ:([]++A).length=L.length:=hA;obtain⟨ci,QC⟩: ∃ci:Int,ci=(L.length:Int):=⟨_,rfl⟩
 rw[<-QC];refine aw (by omega) (bf (by simp only[bx,zad,zbd];omega) (aw (by omega) (aw (by omega) (bf (by rw[NJ];simp only[bx,zad,zbd];omega) (bf (by rw[zag];simp only[bx,zad,zbd,zaF,zbg];omega) ?_)))));rw[e8,NI,Ki];have QD:0+L.length+0=(L.map cT).length:=by simp
 rw[QD];exact h5)
end
def rU(w:World)(x:dz):Prop:=x.1.l≠[]/\x.2.2.1=x.1.l.length/\ ∃cs,w.heap[x.2.1]?=some (.cells cs 37 (0,0))/\x.1.l.length<=x.2.2.2/\x.2.2.2<=maxLen/\cs.size=x.2.2.2*5/\fC Em w cs 5 (x.1.l.map ia)
structure RW(o:List cO)(w:World)(u:Value)(bs:List Nat)(al:List dz):Prop where
 a:al.map (·.1)=o
 nd:bs.Nodup
 f: ∀x∈al,rU w x
 e:(al=[]/\u= .slice none 0 0/\bs=[])\/ ∃b cap cs,u= .slice (some ⟨b,0,none⟩) al.length cap/\bs=b::al.map (·.2.1)/\w.heap[b]?=some (.cells cs 67 (0,0))/\al.length<=cap/\cap<=maxLen/\cs.size=cap*4/\oH Em w (λ_=>undef) [] cs 4 (al.map cT) none
def RP(o:List cO)(w:World)(g:Value):Prop:= ∃u bs al,g= .tuple ⟨u::bs.map av⟩/\RW o w u bs al
structure RQ(o:List cO)(w:World)(g:Value):Prop where
 h:RP o w g
def GK:D->Bool
 | .Bn .. | .bu=>true
 |x=>D.ve x
theorem s8{F F':Nat->Prop}{w w':World}{v:Value}{x:D}(h:aA F w v x)(hx:GK x=true):aA F' w' v x:=by cases h<;>first | (cases hx;done)|constructor
theorem uK{F F':Nat->Prop}{w w':World}{cs:Array Value}{l:List bp}(h:fC F w cs 5 (l.map ia)):fC F' w' cs 5 (l.map ia):=λi x hx=>by
 obtain⟨h1,h2,h3⟩:=h i x hx;refine⟨h1,h2,λj c hc=> ?_⟩;have h4:=h3 j c hc;rw[zai] at hx;cases hl:l[i]? with
 |none=>rw[hl] at hx;cases hx
 |some s=>
  rw[hl] at hx;cases hx
  match j,hc with
  |0,hc=>cases hc;exact b8 h4 rfl
  |1,hc=>cases hc;exact b8 h4 rfl
  |2,hc=>cases hc;exact b8 h4 rfl
  |3,hc=>cases hc;exact b8 h4 rfl
  |4,hc=>cases hc;exact b8 h4 rfl
  |j+5,hc=>cases hc
theorem H8{F F':Nat->Prop}{w w':World}{cs:Array Value}{l:List (Int×Int)}(h:fC F w cs 2 (l.map je)):fC F' w' cs 2 (l.map je):=λi x hx=>by
 obtain⟨h1,h2,h3⟩:=h i x hx;refine⟨h1,h2,λj c hc=> ?_⟩;have h4:=h3 j c hc;rw[zai] at hx;cases hl:l[i]? with
 |none=>rw[hl] at hx;cases hx
 |some s=>
  rw[hl] at hx;cases hx
  match j,hc with
  |0,hc=>cases hc;exact b8 h4 rfl
  |1,hc=>cases hc;exact b8 h4 rfl
  |j+2,hc=>cases hc
theorem xa{x:dz}{j:Nat}{c:D}(h:(cT x).cells[j]?=some c):GK c=true:=by
 match j,h with
 |0,h=>cases h;rfl
 |1,h=>cases h;rfl
 |2,h=>cases h;rfl
 |3,h=>cases h;rfl
 |j+4,h=>cases h
theorem pj{F F':Nat->Prop}{w w':World}{G G':Nat->Value}{R R':List (Nat×En)}{cs:Array Value}{al:List dz}(h:oH F w G R cs 4 (al.map cT) none):oH F' w' G' R' cs 4 (al.map cT) none:=by
 refine⟨λi x hx=> ?_,λi j p hp=>by cases hp⟩;obtain⟨h1,h2,h3⟩:=h.1 i x hx;refine⟨h1,h2,λj c hc ca=> ?_⟩;rw[zai] at hx;cases hl:al[i]? with
 |none=>rw[hl] at hx;cases hx
 |some y=>rw[hl] at hx;cases hx;exact s8 (h3 j c hc ca) (xa hc)
theorem rU.keep{w w2:World}{x:dz}(h:rU w x)(h1:w2.heap[x.2.1]?=w.heap[x.2.1]?):rU w2 x:=by obtain⟨g0,g1,cs,g2,g3,g4,g5,g6⟩:=h;exact⟨g0,g1,cs,h1.trans g2,g3,g4,g5,uK g6⟩
theorem RW.keep{o:List cO}{w w2:World}{u:Value}{bs:List Nat}{al:List dz}(h:RW o w u bs al)(hw: ∀b∈bs,w2.heap[b]?=w.heap[b]?):RW o w2 u bs al:=by
 refine⟨h.a,h.nd,λx hx=> ?_,?_⟩
 ·rcases h.e with⟨h1,_⟩| ⟨b,cap,cs,_,h2,_⟩
  ·rw[h1] at hx;cases hx
  exact(h.f x hx).keep (hw _ (by rw[h2];exact zaP _ (zaQ.2 ⟨x,hx,rfl⟩)))
 rcases h.e with h1 | ⟨b,cap,cs,h1,h2,h3,h4,h5,h6,h7⟩
 ·exact .inl h1
 exact .inr ⟨b,cap,cs,h1,h2,(hw b (by rw[h2];simp)).trans h3,h4,h5,h6,pj h7⟩
abbrev rR(t0 t1 t2:Option Nat)(st:JL):List (Nat×En):=[(0,⟨0,t0,.box 35 [.rf 1 0 st.o.length,.sl 2 0 st.d.length]⟩),(1,⟨0,t1,.deep (.sl 1 (st.o.map oQ)) (RQ st.o)⟩),(2,⟨0,t2,.arr 57 false (st.d.map je)⟩)]
def gR(g0 g1 g2 g3:Value):Nat->Value
 |0=>g0
 |1=>g1
 |2=>g2
 |_=>g3
theorem uL:sz PR 67=some 4:=by kernel_rfl
theorem D1:sz PR 37=some 5:=by kernel_rfl
theorem GM:sz PR 57=some 2:=by kernel_rfl
theorem pk{cc:Array Value}(hs:cc.size=2){P:Value->Prop}(h: ∀v∈cc.toList,P v):P (cc.getD 0 undef)/\P (cc.getD 1 undef):=by
 have key: ∀i,i<2->P (cc.getD i undef):=λi hi=>by
  have hi:i<cc.size:=by omega
  refine h _ ?_;rw[zav,zba hi];simp
 exact⟨key 0 (by omega),key 1 (by omega)⟩
section
variable{F:Nat->Prop}{G V:Nat->Value}{w w0:World}{st:JL}{t0 t1 t2:Option Nat}{u:Value}{bs:List Nat}{al:List dz}
theorem D2(h:aL PR ⟨V,w0,0,false⟩ F G w (rR t0 t1 t2 st)): ∃b0 cc u bs al,G 0=av b0/\w.heap[b0]?=some (.cells cc 35 (0,0))/\cc.size=2/\G 1= .tuple ⟨u::bs.map av⟩/\RW st.o w u bs al/\(∃a cap,u= .slice a al.length cap/\cc.getD 0 undef=u)/\(∃a N cap,G 2= .slice a N cap/\cc.getD 1 undef= .slice a st.d.length cap/\st.d.length<=N):=by
 obtain⟨b0,cc,h1,h2,h3,h4,h5⟩:=h.rg 0 _ rfl;obtain⟨v,bs,e1,_,hp⟩:=h.rg 1 _ rfl;obtain⟨u,rV,al,e2,hw⟩:=(hp w λ_ _=>rfl).h;have e3:G 1= .tuple ⟨u::rV.map av⟩:=e1.trans e2;refine⟨b0,cc,u,rV,al,h1,h2,h3,e3,hw,?_,?_⟩
 ·have k:=h5 0 _ rfl;generalize cc.getD 0 undef=v at k⊢;cases k with
  |rf _ _ _ _ _ hr=>
   obtain⟨e,he,_,hc⟩:=hr;cases he;obtain⟨a,N,cap,l,c1,c2,c3⟩:=hc rfl rfl;rw[e3] at c1;have c1:u= .slice a N cap:=by
    injection c1 with c1
    injection c1 with c1
    injection c1
   have hlen:al.length=st.o.length:=by rw[<-hw.a,zag]
   rcases hw.e with⟨d1,d2,_⟩| ⟨b,dV,cs,d1,_⟩
   ·rw[d2] at c1;cases c1;refine⟨none,0,by rw[d2,d1];rfl,?_⟩;rw[c2,d2];have:st.o.length=0:=by rw[<-hlen,d1];rfl
    rw[this]
   rw[d1] at c1;cases c1;exact⟨_,_,d1,by rw[c2,d1,hlen]⟩
 have k:=h5 1 _ rfl;generalize cc.getD 1 undef=v at k⊢;cases k with
 |sl _ _ _ _ _ hr=>obtain⟨e,he,_,hc⟩:=hr;cases he;exact hc rfl rfl
theorem nG{L:List dz}{d:List (Int×Int)}{b0:Nat}{g3:Value}{n:Nat}{e:En}{b:Nat}(he:lk (u0 some L d) n=some e)(hb:ay (gR (av b0) u (G 2) g3 n) e.obj b):(n=0/\b=b0)\/(n=1/\aj u=some b)\/(n=2/\aj (G 2)=some b):=by
 rcases aD he with⟨rfl,rfl⟩|he
 ·exact .inl ⟨rfl,(zal hb).symm⟩
 rcases aD he with⟨rfl,rfl⟩|he
 ·exact .inr (.inl ⟨rfl,hb⟩)
 obtain⟨rfl,rfl⟩:=cj he;exact .inr (.inr ⟨rfl,hb.2⟩)
theorem qS{L:List dz}{k:Nat}{l:List bp}{d:List (Int×Int)}{b0 r N cap:Nat}{n:Nat}{e:En}{b:Nat}(he:lk (u1 L k l d) n=some e)(hb:ay (gR (av b0) u (.slice (some ⟨r,0,none⟩) N cap) (G 2) n) e.obj b):(n=0/\b=b0)\/(n=1/\aj u=some b)\/(n=2/\b=r)\/(n=3/\aj (G 2)=some b):=by
 rcases aD he with⟨rfl,rfl⟩|he
 ·exact .inl ⟨rfl,(zal hb).symm⟩
 rcases aD he with⟨rfl,rfl⟩|he
 ·exact .inr (.inl ⟨rfl,hb⟩)
 rcases aD he with⟨rfl,rfl⟩|he
 ·exact .inr (.inr (.inl ⟨rfl,(zal hb.2).symm⟩))
 obtain⟨rfl,rfl⟩:=cj he;exact .inr (.inr (.inr ⟨rfl,hb.2⟩))
theorem RW.BI(hW:RW st.o w u bs al){b:Nat}(hb:aj u=some b):b∈bs:=by
 rcases hW.e with⟨_,h,_⟩| ⟨b',cap,cs,h1,h2,_⟩
 ·rw[h] at hb;cases hb
 rw[h1] at hb;cases hb;rw[h2];simp
theorem jb(hg:G 1= .tuple ⟨u::bs.map av⟩){b:Nat}(hb:b∈bs):Own G (rR t0 t1 t2 st) b:=by refine⟨1,_,rfl,?_⟩;show b∈rj (G 1);rw[hg,dM];exact hb
theorem qT(h:aL PR ⟨V,w0,0,false⟩ F G w (rR t0 t1 t2 st)){b0:Nat}(h0:G 0=av b0)(hg:G 1= .tuple ⟨u::bs.map av⟩):b0∉bs/\aj (G 2)≠some b0/\ ∀b,aj (G 2)=some b->b∉bs:=by
 have o0:ay (G 0) (.box 35 [.rf 1 0 st.o.length,.sl 2 0 st.d.length]) b0:=by rw[h0];rfl
 have o1: ∀b∈bs,ay (G 1) (.deep (.sl 1 (st.o.map oQ)) (RQ st.o)) b:=λb hb=>by show b∈rj (G 1);rw[hg,dM];exact hb
 refine⟨λhb=> ?_,λhb=> ?_,λb hb jT=> ?_⟩
 ·have:=h.own 0 1 _ _ b0 rfl rfl o0 (o1 b0 hb);cases this
 ·have:=h.own 0 2 _ _ b0 rfl rfl o0 ⟨rfl,hb⟩;cases this
 have:=h.own 1 2 _ _ b rfl rfl (o1 b jT) ⟨rfl,hb⟩;cases this
theorem RW.NL(hW:RW st.o w u bs al){G1:Nat->Value}{R:List (Nat×En)}(h1:G1 1=u):eO PR F w G1 R 1 (.bC 67 (al.map cT) none):=by
 rcases hW.e with⟨h2,h3,_⟩| ⟨b,cap,cs,h2,_,h3,h4,h5,h6,h7⟩
 ·exact .inl ⟨h1.trans h3,by rw[h2];rfl,rfl⟩
 exact .inr ⟨b,cap,cs,4,by rw[zag];exact h1.trans h2,h3,uL,by decide,by rw[zag];exact h4,h5,h6,pj h7⟩
theorem RW.zG(hW:RW st.o w u bs al)(h:aL PR ⟨V,w0,0,false⟩ F G w (rR t0 t1 t2 st)){b0:Nat}{cc:Array Value}(h0:G 0=av b0)(h1:w.heap[b0]?=some (.cells cc 35 (0,0)))(h2:cc.size=2)(hg:G 1= .tuple ⟨u::bs.map av⟩)(h3: ∃a cap,u= .slice a al.length cap/\cc.getD 0 undef=u)(h4: ∃a N cap,G 2= .slice a N cap/\cc.getD 1 undef= .slice a st.d.length cap/\st.d.length<=N):
  aL PR ⟨gR (av b0) u (G 2) undef,w0,0,false⟩ F (gR (av b0) u (G 2) undef) w (u0 some al st.d):=by
 obtain⟨n1,n2,n3⟩:=qT h h0 hg;obtain⟨a,cap,h5,h6⟩:=h3;obtain⟨a2,N2,xV,h7,h8,h9⟩:=h4;refine h.Dl ?_ ?_ ?_ λn e i he hi _=> ?_
 ·intro n e he;rcases aD he with⟨rfl,rfl⟩|he
  ·refine⟨b0,cc,rfl,h1,h2,hQ h2 (by rw[h6,h5];rfl) (by rw[h8];rfl),λi p hp=> ?_⟩
   match i,hp with
   |0,hp=>cases hp;rw[h6];exact .sl 1 0 _ _ (by rw[h5];rfl) ⟨_,rfl,zae _,λ_ _=>⟨_,_,_,h5,h5,zae _⟩⟩
   |1,hp=>cases hp;rw[h8];exact .sl 2 0 _ _ rfl ⟨_,rfl,zae _,λ_ _=>⟨_,_,_,h7,rfl,h9⟩⟩
  rcases aD he with⟨rfl,rfl⟩|he
  ·exact hW.NL rfl
  obtain⟨rfl,rfl⟩:=cj he;exact h.rg 2 _ rfl
 ·intro n m e e' b he bb hb cb;rcases nG he hb with⟨rfl,rfl⟩| ⟨rfl,p1⟩| ⟨rfl,p1⟩<;>rcases nG bb cb with⟨rfl,p2⟩| ⟨rfl,p2⟩| ⟨rfl,p2⟩
  ·rfl
  ·exact absurd (hW.BI p2) n1
  ·exact absurd p2 n2
  ·subst p2;exact absurd (hW.BI p1) n1
  ·rfl
  ·exact absurd (hW.BI p1) (n3 _ p2)
  ·subst p2;exact absurd p1 n2
  ·exact absurd (hW.BI p2) (n3 _ p1)
  rfl
 ·intro b ⟨n,e,he,hb⟩;rcases nG he hb with⟨rfl,rfl⟩| ⟨rfl,p1⟩| ⟨rfl,p1⟩
  ·exact⟨0,_,rfl,by rw[h0];rfl⟩
  ·exact jb hg (hW.BI p1)
  exact⟨2,_,rfl,rfl,p1⟩
 have e:n=i:=by
  rcases aD he with⟨rfl,rfl⟩|he
  ·exact zal hi
  rcases aD he with⟨rfl,rfl⟩|he
  ·exact zal hi
  obtain⟨rfl,rfl⟩:=cj he;exact zal hi
 rw[e];exact .inl rfl
end
theorem D3{F:Nat->Prop}{w:World}{G:Nat->Value}{R:List (Nat×En)}{cs:Array Value}{al:List dz}(h:oH Em w (λ_=>undef) [] cs 4 (al.map cT) none){k:Nat}{x:dz}(hk:al[k]?=some x){p:P}(hp:ao F w G R (.slice (some ⟨x.2.1,0,none⟩) x.2.2.1 x.2.2.2) p):oH F w G R cs 4 (al.map cT) (some (k,3,p)):=by
 have hr:=pj (F':=F) (w':=w) (G':=G) (R':=R) h;refine⟨λi y hy=> ?_,λi j q hq=> ?_⟩
 ·obtain⟨h1,h2,h3⟩:=hr.1 i y hy;exact⟨h1,h2,λj c hc _=>h3 j c hc (λ_ h=>by cases h)⟩
 cases hq;obtain⟨_,_,h3⟩:=hr.1 k (cT x) (by rw[zai,hk];rfl);have h4:=h3 3 _ rfl (λ_ h=>by cases h);have e:cs.getD (k*4+3) undef= .slice (some ⟨x.2.1,0,none⟩) x.2.2.1 x.2.2.2:=by generalize cs.getD (k*4+3) undef=v at h4⊢;cases h4;rfl
 refine⟨by rw[zag];exact(zaa.1 hk).1,by decide,?_,?_⟩
 ·rw[e];rfl
 rw[e];exact hp
section
variable{F F2:Nat->Prop}{G V V1 G1 G2:Nat->Value}{w w2 w0:World}{st st':JL}{t0 t1 t2:Option Nat}{u:Value}{bs rV:List Nat}{al al':List dz}{R R1 R2:List (Nat×En)}{b0:Nat}
theorem RW.DB(hW:RW st.o w u bs al)(h:aL PR ⟨V,w0,0,false⟩ F G w (rR t0 t1 t2 st)){cc:Array Value}(h0:G 0=av b0)(h1:w.heap[b0]?=some (.cells cc 35 (0,0)))(h2:cc.size=2)(hg:G 1= .tuple ⟨u::bs.map av⟩)(h3: ∃a cap,u= .slice a al.length cap/\cc.getD 0 undef=u)(h4: ∃a N cap,G 2= .slice a N cap/\cc.getD 1 undef= .slice a st.d.length cap/\st.d.length<=N){k:Nat}{x:dz}(hk:al[k]?=some x):
  aL PR ⟨gR (av b0) u (.slice (some ⟨x.2.1,0,none⟩) x.1.l.length x.2.2.2) (G 2),w0,0,false⟩ F (gR (av b0) u (.slice (some ⟨x.2.1,0,none⟩) x.1.l.length x.2.2.2) (G 2)) w (u1 al k x.1.l st.d):=by
 obtain⟨n1,n2,n3⟩:=qT h h0 hg;obtain⟨a,cap,h5,h6⟩:=h3;obtain⟨a2,N2,xV,h7,h8,h9⟩:=h4;have rM:=(zaa.1 hk).1;obtain⟨z0,z1,QE,z2,z3,z4,z5,z6⟩:=hW.f x (zak hk);obtain⟨b,NM,QF,y1,y2,y3,y4,y5,y6,y7⟩: ∃b cap cs,u= .slice (some ⟨b,0,none⟩) al.length cap/\bs=b::al.map (·.2.1)/\w.heap[b]?=some (.cells cs 67 (0,0))/\al.length<=cap/\cap<=maxLen/\cs.size=cap*4/\oH Em w (λ_=>undef) [] cs 4 (al.map cT) none:=by
  rcases hW.e with⟨e,_⟩|e
  ·rw[e] at rM;simp at rM
  exact e
 have KN:x.2.1∈bs:=by rw[y2];exact zaP _ (zaQ.2 ⟨x,zak hk,rfl⟩)
 have IG:b≠x.2.1:=λe=>by have:=hW.nd;rw[y2,zax] at this;exact this.1 (zaQ.2 ⟨x,zak hk,e.symm⟩)
 have KO: ∀c,aj u=some c->c=b:=λc hc=>by rw[y1] at hc;exact(zal hc).symm
 refine h.Dl ?_ ?_ ?_ λn e i he hi _=> ?_
 ·intro n e he;rcases aD he with⟨rfl,rfl⟩|he
  ·refine⟨b0,cc,rfl,h1,h2,hQ h2 (by rw[h6,h5];rfl) (by rw[h8];rfl),λi p hp=> ?_⟩
   match i,hp with
   |0,hp=>cases hp;rw[h6];exact .sl 1 0 _ _ (by rw[h5];rfl) ⟨_,rfl,zae _,λ_ _=>⟨_,_,_,h5,h5,zae _⟩⟩
   |1,hp=>cases hp;rw[h8];exact .sl 3 0 _ _ rfl ⟨_,rfl,zae _,λ_ _=>⟨_,_,_,h7,rfl,h9⟩⟩
  rcases aD he with⟨rfl,rfl⟩|he
  ·exact .inr ⟨b,NM,QF,4,by rw[zag];exact y1,y3,uL,by decide,by rw[zag];exact y4,y5,y6,D3 y7 hk (.sl 2 0 _ _ rfl ⟨_,rfl,zae _,λ_ _=>⟨_,_,_,rfl,by rw[z1],zae _⟩⟩)⟩
  rcases aD he with⟨rfl,rfl⟩|he
  ·exact .inr ⟨x.2.1,x.2.2.2,QE,5,by rw[zag];rfl,z2,D1,by decide,by rw[zag];exact z3,z4,z5,(λh=>by cases h),uK z6⟩
  obtain⟨rfl,rfl⟩:=cj he;exact h.rg 2 _ rfl
 ·intro n m e e' c he bb hb cb;rcases qS he hb with⟨rfl,p1⟩| ⟨rfl,p1⟩| ⟨rfl,p1⟩| ⟨rfl,p1⟩<;>rcases qS bb cb with⟨rfl,p2⟩| ⟨rfl,p2⟩| ⟨rfl,p2⟩| ⟨rfl,p2⟩
  ·rfl
  ·subst p1;exact absurd (hW.BI p2) n1
  ·subst p1;subst p2;exact absurd KN n1
  ·subst p1;exact absurd p2 n2
  ·subst p2;exact absurd (hW.BI p1) n1
  ·rfl
  ·subst p2;exact absurd (KO _ p1).symm IG
  ·exact absurd (hW.BI p1) (n3 _ p2)
  ·subst p2;subst p1;exact absurd KN n1
  ·subst p1;exact absurd (KO _ p2).symm IG
  ·rfl
  ·subst p1;exact absurd KN (n3 _ p2)
  ·subst p2;exact absurd p1 n2
  ·exact absurd (hW.BI p2) (n3 _ p1)
  ·subst p2;exact absurd KN (n3 _ p1)
  rfl
 ·intro c ⟨n,e,he,hb⟩;rcases qS he hb with⟨rfl,p1⟩| ⟨rfl,p1⟩| ⟨rfl,p1⟩| ⟨rfl,p1⟩
  ·subst p1;exact⟨0,_,rfl,by rw[h0];rfl⟩
  ·exact jb hg (hW.BI p1)
  ·subst p1;exact jb hg KN
  exact⟨2,_,rfl,rfl,p1⟩
 have e:n=i:=by
  rcases aD he with⟨rfl,rfl⟩|he
  ·exact zal hi
  rcases aD he with⟨rfl,rfl⟩|he
  ·exact zal hi
  rcases aD he with⟨rfl,rfl⟩|he
  ·exact zal hi
  obtain⟨rfl,rfl⟩:=cj he;exact zal hi
 rw[e];exact .inl rfl
theorem mZ(h:aL PR ⟨V,w0,0,false⟩ F G w R)(hV:ew (av b0) (V 0))(h2:aL PR ⟨V1,w0,0,false⟩ F2 G2 w2 R2)(hx:Ext (Own G1 R1) (Own G2 R2) F F2 w w2)(hs: ∀b,Own G1 R1 b->Own G R b){i i2:Nat}{ti tj:Option Nat}{oi:Obj}
  (e0:lk R2 0=some ⟨0,some 0,.box 35 [.sl i 0 st'.o.length,.sl i2 0 st'.d.length]⟩) (JM:V1 0=av b0) (ei:lk R2 i=some ⟨0,ti,oi⟩) (li:oi.live=true) (e2:lk R2 i2=some ⟨0,tj,.arr 57 false (st'.d.map je)⟩) (ca:i2≠0)
  (hW:RW st'.o w2 (G2 i) rV al') (hb: ∀b∈rV,(∃n e,n≠0/\n≠i2/\lk R2 n=some e/\ay (G2 n) e.obj b)\/(¬Own G1 R1 b/\Own G R b)):
  ∃G3,aL PR ⟨V,w0,0,false⟩ F G3 w2 (rR (some 0) none none st')/\Ext (Own G R) (Own G3 (rR (some 0) none none st')) F F w w2:=by
 have JJ:G2 0=av b0:=by have:=h2.tag 0 _ 0 e0 rfl rfl;rw[show(⟨V1,w0,0,false⟩:Tg).val 0=av b0 from JM] at this;exact this.eq λl h=>by cases h
 have hold: ∀b,¬Own G1 R1 b->Own G R b-> ¬Own G2 R2 b:=λb h3 h4 h5=>by
  rcases hx.fe b h5 with h6 |h6
  ·exact h3 h6
  have:=h.cz h4;omega
 have o0:ay (G2 0) (.box 35 [.sl i 0 st'.o.length,.sl i2 0 st'.d.length]) b0:=by rw[JJ];rfl
 have bj: ∀b∈rV,b<w2.heap.size:=λb oN=>by
  rcases hb b oN with⟨n,e,_,_,h3,h4⟩| ⟨_,h3⟩
  ·exact h2.cz ⟨n,e,h3,h4⟩
  exact zaK (h.cz h3) hx.size
 have H9: ∀n e b,lk (rR (some 0) none none st') n=some e->ay (gR (av b0) (.tuple ⟨G2 i::rV.map av⟩) (G2 i2) undef n) e.obj b->(n=0/\b=b0)\/(n=1/\b∈rV)\/(n=2/\aj (G2 i2)=some b):=λn e b he oN=>by
  rcases aD he with⟨rfl,rfl⟩|he
  ·exact .inl ⟨rfl,(zal oN).symm⟩
  rcases aD he with⟨rfl,rfl⟩|he
  ·refine .inr (.inl ⟨rfl,?_⟩);have oN:b∈rj (.tuple ⟨G2 i::rV.map av⟩):=oN;rwa [dM] at oN
  obtain⟨rfl,rfl⟩:=cj he;exact .inr (.inr ⟨rfl,oN.2⟩)
 have L0:b0∉rV:=λoN=>by
  rcases hb b0 oN with⟨n,e,h3,_,h4,h5⟩| ⟨h3,h4⟩
  ·exact h3 (h2.own n 0 _ _ b0 h4 e0 h5 o0)
  exact hold b0 h3 h4 ⟨0,_,e0,o0⟩
 have L1:aj (G2 i2)≠some b0:=λoN=>ca (h2.own i2 0 _ _ b0 e2 e0 ⟨rfl,oN⟩ o0);have L2: ∀b,aj (G2 i2)=some b->b∉rV:=λb oN jT=>by
  rcases hb b jT with⟨n,e,_,h3,h4,h5⟩| ⟨h3,h4⟩
  ·exact h3 (h2.own n i2 _ _ b h4 e2 h5 ⟨rfl,oN⟩)
  exact hold b h3 h4 ⟨i2,_,e2,rfl,oN⟩
 refine⟨gR (av b0) (.tuple ⟨G2 i::rV.map av⟩) (G2 i2) undef,h.back h2 hx hs ?_ ?_ ?_ ?_⟩
 ·intro n e he;rcases aD he with⟨rfl,rfl⟩|he
  ·obtain⟨b,cc,k1,k2,k3,k4,k5⟩:=h2.rg 0 _ e0;rw[JJ] at k1;cases k1;refine⟨b0,cc,rfl,k2,k3,k4,λj p hp=> ?_⟩
   match j,hp with
   |0,hp=>
    cases hp;have k:=k5 0 _ rfl;have kk:=pk k3 (P:=λv=>v.oneCell'=true) k4;have kk:=kk.1;generalize cc.getD 0 undef=v at k kk⊢;cases k with
    |sl _ _ _ _ _ hr=>obtain⟨e,he,_,hc⟩:=hr;rw[ei] at he;cases he;obtain⟨a,N,cap,c1,c2,c3⟩:=hc rfl li;exact .rf 1 0 _ _ kk ⟨_,rfl,zae _,λ_ _=>⟨a,N,cap,rV.map av,by show Value.tuple ⟨G2 i::rV.map av⟩=_;rw[c1],c2,c3⟩⟩
   |1,hp=>
    cases hp;have k:=k5 1 _ rfl;have kk:=pk k3 (P:=λv=>v.oneCell'=true) k4;have kk:=kk.2;generalize cc.getD 1 undef=v at k kk⊢;cases k with
    |sl _ _ _ _ _ hr=>obtain⟨e,he,_,hc⟩:=hr;rw[e2] at he;cases he;exact .sl 2 0 _ _ kk ⟨_,rfl,zae _,λ_ _=>hc rfl rfl⟩
  rcases aD he with⟨rfl,rfl⟩|he
  ·exact⟨G2 i,rV,rfl,bj,λw' hw=>⟨⟨_,rV,al',rfl,hW.keep λb oN=>hw b (.inl oN)⟩⟩⟩
  obtain⟨rfl,rfl⟩:=cj he;rcases h2.rg i2 _ e2 with h3 | ⟨b,cap,cs,z,m1,m2,m3,m4,m5,m6,m7,_,m8⟩
  ·exact .inl h3
  rw[GM] at m3;cases m3;exact .inr ⟨b,cap,cs,2,m1,m2,GM,by decide,m5,m6,m7,(λh=>by cases h),H8 m8⟩
 ·intro n m e e' c he bb hc tU;rcases H9 _ _ _ he hc with⟨rfl,p1⟩| ⟨rfl,p1⟩| ⟨rfl,p1⟩<;>rcases H9 _ _ _ bb tU with⟨rfl,p2⟩| ⟨rfl,p2⟩| ⟨rfl,p2⟩
  ·rfl
  ·subst p1;exact absurd p2 L0
  ·subst p1;exact absurd p2 L1
  ·subst p2;exact absurd p1 L0
  ·rfl
  ·exact absurd p1 (L2 _ p2)
  ·subst p2;exact absurd p1 L1
  ·exact absurd p2 (L2 _ p1)
  rfl
 ·intro b ⟨n,e,he,oN⟩;rcases H9 _ _ _ he oN with⟨rfl,rfl⟩| ⟨rfl,p1⟩| ⟨rfl,p1⟩
  ·exact .inl ⟨0,_,e0,o0⟩
  ·rcases hb b p1 with⟨n,e,_,_,h4,h5⟩| ⟨_,h4⟩
   ·exact .inl ⟨n,e,h4,h5⟩
   exact .inr h4
  exact .inl ⟨i2,_,e2,rfl,p1⟩
 intro n e j he hj _;rcases aD he with⟨rfl,rfl⟩|he
 ·cases hj;exact hV
 rcases aD he with⟨rfl,rfl⟩|he
 ·cases hj
 obtain⟨rfl,rfl⟩:=cj he;cases hj
theorem xb{i:Nat}(h3:eO PR F2 w2 G2 R2 i (.bC 67 (al'.map cT) none))(hf: ∀x∈al',rU w2 x)(hY:(al'.map (·.2.1)).Nodup)(AK: ∀b,aj (G2 i)=some b->b∉al'.map (·.2.1)):
  ∃rV,RW (al'.map (·.1)) w2 (G2 i) rV al'/\ ∀b∈rV,aj (G2 i)=some b\/b∈al'.map (·.2.1):=by
 rcases h3 with⟨h3,h4,_⟩| ⟨b,cap,cs,z,m1,m2,m3,m4,m5,m6,m7,m8⟩
 ·have h4:al'=[]:=by simpa using h4
  exact⟨[],⟨rfl,zcg,hf,.inl ⟨h4,h3,rfl⟩⟩,λb h=>by cases h⟩
 rw[uL] at m3;cases m3;rw[zag] at m1 m5;refine⟨b::al'.map (·.2.1),⟨rfl,zax.2 ⟨AK b (by rw[m1];rfl),hY⟩,hf,.inr ⟨b,cap,cs,m1,rfl,m2,m5,m6,m7,pj m8⟩⟩,λc hc=> ?_⟩;rcases zan.1 hc with rfl |hc
 ·exact .inl (by rw[m1];rfl)
 exact .inr hc
theorem qU{i:Nat}{es:List D}(h3:eO PR F2 w2 G2 R2 i (.arr 67 false es)):eO PR F2 w2 G2 R2 i (.bC 67 es none):=by
 rcases h3 with⟨h3,h4⟩| ⟨b,cap,cs,z,m1,m2,m3,m4,m5,m6,m7,_,m8⟩
 ·exact .inl ⟨h3,h4,rfl⟩
 exact .inr ⟨b,cap,cs,z,m1,m2,m3,m4,m5,m6,m7,λj x hx=>let ⟨a,b,c⟩:=m8 j x hx;⟨a,b,λj c' hc _=>c j c' hc⟩,λ_ _ _ h=>by cases h⟩
theorem xc{i j k:Nat}{es:List D}{m:List bp}{tj:Option Nat}(hm:m≠[])(h3:eO PR F2 w2 G2 R2 i (.bC 67 es (some (k,3,.sl j 0 m.length))))(ej:lk R2 j=some ⟨0,tj,rO false m⟩)(h4:eO PR F2 w2 G2 R2 j (rO false m)):
  ∃b bm rW,aj (G2 i)=some b/\aj (G2 j)=some bm/\ ∀o':cO,o'.l=m-> ∀al':List dz,al'[k]?=some (o',bm,m.length,rW)->es.length=al'.length->(∀n,n≠k->es[n]?=(al'.map cT)[n]?)->(∃z,es[k]?=some (.agg [.int .i64 o'.a,.int .i64 o'.n,.int .i64 o'.q,z]))->
   (∀x∈al'.eraseIdx k,rU w2 x)->(b::al'.map (·.2.1)).Nodup->RW (al'.map (·.1)) w2 (G2 i) (b::al'.map (·.2.1)) al':=by
 rcases h4 with⟨_,h4⟩| ⟨bm,rW,QG,z,q1,q2,q3,_,q5,q6,q7,_,q8⟩
 ·exact absurd (by simpa using h4) hm
 rw[D1] at q3;cases q3;rw[zag] at q1 q5;rcases h3 with⟨_,_,h3⟩| ⟨b,cap,cs,z,m1,m2,m3,m4,m5,m6,m7,m8⟩
 ·cases h3
 rw[uL] at m3;cases m3;obtain⟨p1,p2⟩:=m8;obtain⟨_,_,_,p6⟩:=p2 k 3 _ rfl;have ec:cs.getD (k*4+3) undef= .slice (some ⟨bm,0,none⟩) m.length rW:=by
  generalize cs.getD (k*4+3) undef=v at p6⊢;cases p6 with
  |sl _ _ _ _ _ hr=>obtain⟨e,he,_,hc⟩:=hr;rw[ej] at he;cases he;obtain⟨a,N,c,c1,c2,_⟩:=hc rfl rfl;rw[q1] at c1;cases c1;exact c2
 refine⟨b,bm,rW,by rw[m1];rfl,by rw[q1];rfl,λo' ho al' hk hl hn hz hr hY=>⟨rfl,hY,λx hx=> ?_,.inr ⟨b,cap,cs,by rw[m1,hl],rfl,m2,by omega,m6,m7,λn y hy=> ?_,λ_ _ _ h=>by cases h⟩⟩⟩
 ·obtain⟨n,Km⟩:=zao hx;by_cases e:n=k
  ·subst e;rw[hk] at Km;cases Km;exact⟨by dsimp only;rw[ho];exact hm,by dsimp only;rw[ho],QG,q2,by dsimp only;rw[ho];exact q5,q6,q7,by dsimp only;rw[ho];exact uK q8⟩
  exact hr x (zbc.2 ⟨n,e,Km⟩)
 by_cases e:n=k
 ·subst e;obtain⟨z,hz⟩:=hz;rw[zai,hk] at hy;cases hy;obtain⟨y1,y2,y3⟩:=p1 n _ hz;refine⟨rfl,λc hc=> ?_,λj c hc _=> ?_⟩
  ·simp only[cT,D.cells,zan,zbs,zcm] at hc;rcases hc with rfl |rfl |rfl |rfl<;>rfl
  match j,hc with
  |0,hc=>cases hc;exact b8 (y3 0 _ rfl (λ_ h=>by cases h)) rfl
  |1,hc=>cases hc;exact b8 (y3 1 _ rfl (λ_ h=>by cases h)) rfl
  |2,hc=>cases hc;exact b8 (y3 2 _ rfl (λ_ h=>by cases h)) rfl
  |3,hc=>cases hc;rw[ec];exact .Bn _ _ _
  |j+4,hc=>cases hc
 rw[<-hn n e] at hy;obtain⟨y1,y2,y3⟩:=p1 n y hy;refine⟨y1,y2,λj c hc _=> ?_⟩;have h5:=y3 j c hc (λ_ h=>by cases h;exact e rfl);rw[hn n e,zai] at hy;cases xg:al'[n]? with
 |none=>rw[xg] at hy;cases hy
 |some y'=>rw[xg] at hy;cases hy;exact s8 h5 (xa hc)
end
theorem xd{al:List dz}{f:bp}:fa al f.1 f.2.1=match(al.map (·.1)).findIdx? (lv f) with |some i=>(i:Int)|none=> -1:=by
 unfold fa A8;rw[List.findIdx?_map];have:(λx:dz=>x.1.a==f.1&&x.1.n==f.2.1)=lv f∘(·.1):=by funext x;rw[zb9];simp[lv]
 rw[this]
 try (cases List.findIdx? (lv f∘λx=>x.fst) al<;>rfl)
theorem gk{d:List (Int×Int)}{a n:Int}:fU d a n=d.contains (a,n):=by
 unfold fU;rw[zb9,zcc,zbe];constructor
 ·rintro⟨x,hx,h⟩;simp only[zad,beq_iff_eq] at h;rw[<-h.1,<-h.2];exact hx
 intro h;exact⟨_,h,by simp⟩
theorem uM{l:List bp}{p:Int}:uH l p=l.any (λx=>decide (x.2.2.1=p)):=by unfold uH;congr 1
section
variable{X:XF}{w0:World}(hX:cL PR w0 X.cf){F:Nat->Prop}{G:Nat->Value}{w:World}{R:List (Nat×En)}{st:JL}{f:bp}{al:List dz}{u g2:Value}{b0:Nat}
include hX
theorem core0(h:aL PR ⟨G,w0,0,false⟩ F G w R)(h0:ew (av b0) (G 0))(nc:aL PR ⟨gR (av b0) u g2 undef,w0,0,false⟩ F (gR (av b0) u g2 undef) w (u0 some al st.d))(hs: ∀b,Own (gR (av b0) u g2 undef) (u0 some al st.d) b->Own G R b)
  (bg: ∀x∈al,¬Own (gR (av b0) u g2 undef) (u0 some al st.d) x.2.1/\Own G R x.2.1) (NN: ∀x∈al,rU w x) (ha:al.map (·.1)=st.o) (hY:(al.map (·.2.1)).Nodup) (hJ:BB st) (hd:st.d.length<=900000) (hf:f.2.2.2.2.length<=100) {u1:Value} (d1:aA F w u1 (ia f)) (oR:st.o.findIdx? (lv f)=none):
  bF PR 14 ⟨[av b0,u1]⟩ w (λv w'=> ∃F' G',aL PR ⟨G,w0,0,false⟩ F' G' w' (rR (some 0) none none (eF st f).2)/\ao F' w' G' (rR (some 0) none none (eF st f).2) v (wX (eF st f).1)/\Ext (Own G R) (Own G' (rR (some 0) none none (eF st f).2)) F F' w w'):=by
 have hlen:al.length=st.o.length:=by rw[<-ha,zag]
 have OO:=hJ.len;have eD: ∀b,b∈al.map (·.2.1)-> ¬Own (gR (av b0) u g2 undef) (u0 some al st.d) b/\Own G R b:=λb hb=>by obtain⟨x,hx,rfl⟩:=zaQ.1 hb;exact bg x hx
 have bY: ∀{F2:Nat->Prop} {G2:Nat->Value} {w2:World} {R2:List (Nat×En)},Ext (Own (gR (av b0) u g2 undef) (u0 some al st.d)) (Own G2 R2) F F2 w w2-> ∀x∈al,rU w2 x:=λhx x lD=>(NN x lD).keep (hx.keep _ (h.cz (bg x lD).2) (bg x lD).1);have bX: ∀{F2:Nat->Prop} {G2:Nat->Value} {w2:World} {R2:List (Nat×En)},Ext (Own (gR (av b0) u g2 undef) (u0 some al st.d)) (Own G2 R2) F F2 w w2-> ∀b,Own G2 R2 b->b∉al.map (·.2.1):=λhx b hb hm=>by
  obtain⟨h1,h2⟩:=eD b hm;rcases hx.fe b hb with h3 |h3
  ·exact h1 h3
  have:=h.cz h2;omega
 have uN: ∀d':List (Int×Int),∀(t1 t2:Option Nat) (o1:Obj),(∀F2 w2 G2 R2,eO PR F2 w2 G2 R2 1 o1->eO PR F2 w2 G2 R2 1 (.bC 67 (al.map cT) none))->(∀g b,ay g o1 b↔aj g=some b)->o1.live=true-> ∀R2:List (Nat×En),lk R2 0=some ⟨0,some 0,.box 35 [.sl 1 0 al.length,.sl 2 0 d'.length]⟩->lk R2 1=some ⟨0,t1,o1⟩->lk R2 2=some ⟨0,t2,.arr 57 false (d'.map je)⟩->
   ∀F2 G2 w2,aL PR ⟨gR (av b0) u g2 undef,w0,0,false⟩ F2 G2 w2 R2->Ext (Own (gR (av b0) u g2 undef) (u0 some al st.d)) (Own G2 R2) F F2 w w2->
   ∃G3,aL PR ⟨G,w0,0,false⟩ F G3 w2 (rR (some 0) none none ⟨st.o,d'⟩)/\Ext (Own G R) (Own G3 (rR (some 0) none none ⟨st.o,d'⟩)) F F w w2:=by
  intro d' t1 t2 o1 zb Ak Bw R2 e0 e1 e2 F2 G2 w2 h2 hx;have zj: ∀b,aj (G2 1)=some b->ay (G2 1) o1 b:=λb hb=>(Ak _ _).2 hb;obtain⟨rV,q1,q2⟩:=xb (al':=al) (zb _ _ _ _ (h2.rg 1 _ e1)) (bY hx) hY λb hb=>bX hx b ⟨1,_,e1,zj b hb⟩;rw[ha] at q1;refine mZ (st':=⟨st.o,d'⟩) h h0 h2 hx hs (i:=1) (i2:=2) (by rw[<-hlen];exact e0) rfl e1 Bw e2 (by decide) q1 λb hb=> ?_;rcases q2 b hb with hb |hb
  ·exact .inl ⟨1,_,by decide,by decide,e1,zj b hb⟩
  exact .inr (eD b hb)
 refine bF.mono (NK hX _ _ (λy=>y.1=wX (eF st f).1/\ ∀F2 G2 w2,aL PR ⟨gR (av b0) u g2 undef,w0,0,false⟩ F2 G2 w2 y.2->Ext (Own (gR (av b0) u g2 undef) (u0 some al st.d)) (Own G2 y.2) F F2 w w2->
   ∃G3,aL PR ⟨G,w0,0,false⟩ F G3 w2 (rR (some 0) none none (eF st f).2)/\Ext (Own G R) (Own G3 (rR (some 0) none none (eF st f).2)) F F w w2)
  ⟨f.1,f.2.1,f.2.2.1,f.2.2.2.1,f.2.2.2.2,al,st.d,rfl,rfl,⟨by rw[xd,ha,oR],by omega,hd,by omega⟩,λg1=> ?_,λg1 g2=> ?_,λg1 g2 g3=> ?_,λg1 g2 g3 g4=> ?_,λg1 g2 g3 g4=> ?_⟩
  F (gR (av b0) u g2 undef) w [av b0,u1] nc rfl (λi v c hv hc=> ?_)) λv w2 ⟨y,⟨rv,AX⟩,F2,G2,h2,vI,hx⟩=> ?_
 ·rw[FG (f:=f) g1];exact⟨rfl,uN st.d (some 1) (some 2) _ (λ_ _ _ _ h=>h) (λ_ _=>Iff.rfl) rfl _ rfl rfl rfl⟩
 ·rw[gk] at g2;rw[FH (f:=f) g1 g2];exact⟨rfl,uN st.d (some 1) (some 2) _ (λ_ _ _ _ h=>h) (λ_ _=>Iff.rfl) rfl _ rfl rfl rfl⟩
 ·rw[gk] at g2;rw[Bd (f:=f) g1 g2 oR,zat (by omega)];exact⟨rfl,uN st.d (some 1) (some 2) _ (λ_ _ _ _ h=>h) (λ_ _=>Iff.rfl) rfl _ rfl rfl rfl⟩
 ·rw[gk] at g2;have g4:1<f.2.2.2.1:=g4;rw[Bd (f:=f) g1 g2 oR,zaB (by omega),zat g4];refine⟨rfl,λF2 G2 w2 h2 hx=> ?_⟩;obtain⟨b,bm,rW,k1,k2,k3⟩:=xc (i:=2) (j:=3) (m:=[f]) (by simp) (h2.rg 2 _ rfl) rfl (h2.rg 3 _ rfl);have ob:Own G2 (u4 (al.length+1) (al.map cT++[oC ⟨f.1,f.2.1,f.2.2.2.1,[]⟩]) al.length [f] st.d) b:=⟨2,_,rfl,k1⟩
  have NP:Own G2 (u4 (al.length+1) (al.map cT++[oC ⟨f.1,f.2.1,f.2.2.2.1,[]⟩]) al.length [f] st.d) bm:=⟨3,_,rfl,rfl,k2⟩
  have ca:b≠bm:=λe=>by subst e;have:=h2.own 2 3 _ _ b rfl rfl k1 ⟨rfl,k2⟩;cases this
  have hW:=k3 ⟨f.1,f.2.1,f.2.2.2.1,[f]⟩ rfl (al++[(⟨f.1,f.2.1,f.2.2.2.1,[f]⟩,bm,1,rW)]) (by simp) (by simp) (λn hn=>by
   rw[za0];by_cases e:n<al.length
   ·rw[zaD (by simpa using e),zaD (by simpa using e)]
   rw[zbL (by simp;omega),zbL (by simp;omega)]) ⟨.bu,by rw[zaG (by simp)];simp[oC]⟩ (λx lD=>by
   rw[zbE (zae _)] at lD;simp only[Nat.sub_self,zb3,zcs] at lD;exact bY hx x lD) (by
   rw[za0,zax,za8];refine⟨λhb=> ?_,hY,by simp,λc hc c' tU e=> ?_⟩
   ·rcases zaH.1 hb with hb |hb
    ·exact bX hx b ob hb
    simp only[zaO,zbU,zaL] at hb;exact ca hb
   simp only[zaO,zbU,zaL] at tU;subst tU;subst e;exact bX hx _ NP hc)
  rw[za0,ha] at hW;refine mZ (st':=⟨st.o++[⟨f.1,f.2.1,f.2.2.2.1,[f]⟩],st.d⟩) h h0 h2 hx hs (i:=2) (i2:=1) (by rw[zaw,<-hlen];rfl) rfl rfl rfl rfl (by decide) hW λc hc=> ?_;rcases zan.1 hc with rfl |hc
  ·exact .inl ⟨2,_,by decide,by decide,rfl,k1⟩
  rw[za0] at hc;rcases zaH.1 hc with hc |hc
  ·exact .inr (eD c hc)
  simp only[zaO,zbU,zaL] at hc;subst hc;exact .inl ⟨3,_,by decide,by decide,rfl,rfl,k2⟩
 ·rw[gk] at g2;have g4: ¬1<f.2.2.2.1:=g4;rw[Bd (f:=f) g1 g2 oR,zaB (by omega),zaB g4];refine⟨rfl,uN (st.d++[(f.1,f.2.1)]) none none _ (λ_ _ _ _ h=>qU h) (λ_ _=>⟨λh=>h.2,λh=>⟨rfl,h⟩⟩) rfl _ ?_ rfl rfl⟩;simp[lk]
 ·match i,hv,hc with
  |0,hv,hc=>cases hv;cases hc;exact .ref 0 0 0 _ ⟨_,rfl,zae _,λ_ _=>⟨b0,rfl,rfl⟩⟩ rfl
  |1,hv,hc=>cases hv;cases hc;exact .d d1
  |i+2,hv,hc=>simp at hv
 obtain⟨G3,FI,zk⟩:=AX F2 G2 w2 h2 hx;refine⟨F,G3,FI,?_,zk⟩;rw[rv] at vI;exact pg vI
end
abbrev NQ:List (Nat×En):=[(0,⟨0,some 0,.box 35 [.sl 1 0 0,.sl 2 0 0]⟩),(1,⟨0,some 1,.arr 67 false []⟩),(2,⟨0,some 2,.arr 57 false []⟩)]
def NR:Bool->JL->List (Nat×En)
 |true,_=>NQ
 |false,st=>rR (some 0) (some 1) (some 2) st
def oD:cR:=λps R ae=> ∃z st f,ps=[.ref 0 0 0,.d (ia f)]/\R=NR z st/\(BB st/\st.d.length<=900000/\f.2.2.2.2.length<=100/\(z=true->st=⟨[],[]⟩))/\ae (wX (eF st f).1,rR (some 0) none none (eF st f).2)
theorem s9: ∀(l:List Nat) (k b:Nat),l.Nodup->b∉l.eraseIdx k->(l.set k b).Nodup
 | [],_,_,h,_=>h
 |x::l,0,b,h,hb=>zax.2 ⟨hb,(zax.1 h).2⟩
 |x::l,k+1,b,h,hb=>by
  obtain⟨h1,h2⟩:=zax.1 h;rw[zb4,zan,zb0] at hb;refine zax.2 ⟨λhx=> ?_,s9 l k b h2 hb.2⟩;rcases zbl hx with hx |hx
  ·exact h1 hx
  exact hb.1 hx.symm
section
variable{X:XF}{w0:World}(hX:cL PR w0 X.cf){F:Nat->Prop}{G:Nat->Value}{w:World}{R:List (Nat×En)}{st:JL}{f:bp}{al:List dz}{u g2:Value}{b0:Nat}
include hX
theorem KP(h:aL PR ⟨G,w0,0,false⟩ F G w R)(h0:ew (av b0) (G 0)){k:Nat}{x:dz}{v2:Value}(nc:aL PR ⟨gR (av b0) u v2 g2,w0,0,false⟩ F (gR (av b0) u v2 g2) w (u1 al k x.1.l st.d))(hs: ∀b,Own (gR (av b0) u v2 g2) (u1 al k x.1.l st.d) b->Own G R b)
  (bg: ∀y∈al.eraseIdx k,¬Own (gR (av b0) u v2 g2) (u1 al k x.1.l st.d) y.2.1/\Own G R y.2.1) (NN: ∀y∈al,rU w y) (ha:al.map (·.1)=st.o) (hY:(al.map (·.2.1)).Nodup) (hJ:BB st) (hd:st.d.length<=900000) (hf:f.2.2.2.2.length<=100) {Jc:Value} (d1:aA F w Jc (ia f)) (oR:st.o.findIdx? (lv f)=some k) (hk:al[k]?=some x):
  bF PR 14 ⟨[av b0,Jc]⟩ w (λv w'=> ∃F' G',aL PR ⟨G,w0,0,false⟩ F' G' w' (rR (some 0) none none (eF st f).2)/\ao F' w' G' (rR (some 0) none none (eF st f).2) v (wX (eF st f).1)/\Ext (Own G R) (Own G' (rR (some 0) none none (eF st f).2)) F F' w w'):=by
 have hlen:al.length=st.o.length:=by rw[<-ha,zag]
 have OO:=hJ.len;have rM:=(zaa.1 hk).1;have yD:st.o[k]?=some x.1:=by rw[<-ha,zai,hk];rfl
 obtain⟨_,h4,_⟩:=za6.1 oR;rw[(zaa.1 yD).2] at h4;obtain⟨ea,en⟩:=mV.1 h4;obtain⟨fK,NS⟩:=hJ.o x.1 (zak yD);have eD: ∀b,b∈(al.eraseIdx k).map (·.2.1)-> ¬Own (gR (av b0) u v2 g2) (u1 al k x.1.l st.d) b/\Own G R b:=λb hb=>by obtain⟨y,hy,rfl⟩:=zaQ.1 hb;exact bg y hy
 have bY: ∀{F2:Nat->Prop} {G2:Nat->Value} {w2:World} {R2:List (Nat×En)},Ext (Own (gR (av b0) u v2 g2) (u1 al k x.1.l st.d)) (Own G2 R2) F F2 w w2-> ∀y∈al.eraseIdx k,rU w2 y:=λhx y hy=>(NN y (zaU hy)).keep (hx.keep _ (h.cz (bg y hy).2) (bg y hy).1);have bX: ∀{F2:Nat->Prop} {G2:Nat->Value} {w2:World} {R2:List (Nat×En)},Ext (Own (gR (av b0) u v2 g2) (u1 al k x.1.l st.d)) (Own G2 R2) F F2 w w2-> ∀b,Own G2 R2 b->b∉(al.eraseIdx k).map (·.2.1):=λhx b hb hm=>by
  obtain⟨h1,h2⟩:=eD b hm;rcases hx.fe b hb with h3 |h3
  ·exact h1 h3
  have:=h.cz h2;omega
 have NT:((al.eraseIdx k).map (·.2.1)).Nodup:=hY.sublist ((zbw ..).map _);have D4: ∀(o':cO) (es:List D),o'.l≠[]->es.length=al.length->(∀n,n≠k->es[n]?=(al.map cT)[n]?)->(∃z,es[k]?=some (.agg [.int .i64 o'.a,.int .i64 o'.n,.int .i64 o'.q,z]))-> ∀(j i2:Nat) (t1 tj t2:Option Nat) (R2:List (Nat×En)),j≠0->j≠1->j≠i2->i2≠0->i2≠1->lk R2 0=some ⟨0,some 0,.box 35 [.sl 1 0 al.length,.sl i2 0 st.d.length]⟩->
   lk R2 1=some ⟨0,t1,.bC 67 es (some (k,3,.sl j 0 o'.l.length))⟩->lk R2 j=some ⟨0,tj,rO false o'.l⟩->lk R2 i2=some ⟨0,t2,.arr 57 false (st.d.map je)⟩->
   ∀F2 G2 w2,aL PR ⟨gR (av b0) u v2 g2,w0,0,false⟩ F2 G2 w2 R2->Ext (Own (gR (av b0) u v2 g2) (u1 al k x.1.l st.d)) (Own G2 R2) F F2 w w2->
   ∃G3,aL PR ⟨G,w0,0,false⟩ F G3 w2 (rR (some 0) none none ⟨st.o.set k o',st.d⟩)/\Ext (Own G R) (Own G3 (rR (some 0) none none ⟨st.o.set k o',st.d⟩)) F F w w2:=by
  intro o' es ca Dc eP QH j i2 t1 tj t2 R2 HW QI QJ jL By e0 e1 ej e2 F2 G2 w2 h2 hx;obtain⟨b,bm,rW,k1,k2,k3⟩:=xc ca (h2.rg 1 _ e1) ej (h2.rg j _ ej);have ob:Own G2 R2 b:=⟨1,_,e1,k1⟩
  have NP:Own G2 R2 bm:=⟨j,_,ej,rfl,k2⟩
  have QK:b≠bm:=λe=>by subst e;exact QI (h2.own 1 j _ _ b e1 ej k1 ⟨rfl,k2⟩).symm
  have Gt: ∀c,c∈(al.set k (o',bm,o'.l.length,rW)).map (·.2.1)->c=bm\/c∈(al.eraseIdx k).map (·.2.1):=λc hc=>by
   obtain⟨y,hy,rfl⟩:=zaQ.1 hc;rcases mem_set hy with rfl |hy
   ·exact .inl rfl
   exact .inr (zaQ.2 ⟨y,hy,rfl⟩)
  have hW:=k3 o' rfl (al.set k (o',bm,o'.l.length,rW)) (zaE rM) (by rw[zas];exact Dc) (λn hn=>by
   rw[eP n hn,zbx,zau (za5 hn)]) QH (λy hy=>by
    rw[List.eraseIdx_set_eq] at hy;exact bY hx y hy) (by
    refine zax.2 ⟨λhb=> ?_,?_⟩
    ·rcases Gt b hb with h5 |h5
     ·exact QK h5
     exact bX hx b ob h5
    rw[zbx];exact s9 _ k bm hY (by rw[lg];exact bX hx bm NP))
  have eZ:(al.set k (o',bm,o'.l.length,rW)).map (·.1)=st.o.set k o':=by rw[zbx,ha]
  rw[eZ] at hW;refine mZ (st':=⟨st.o.set k o',st.d⟩) h h0 h2 hx hs (i:=1) (i2:=i2) (by rw[zas,<-hlen];exact e0) rfl e1 rfl e2 jL hW λc hc=> ?_;rcases zan.1 hc with rfl |hc
  ·exact .inl ⟨1,_,by decide,za5 By,e1,k1⟩
  rcases Gt c hc with rfl |hc
  ·exact .inl ⟨j,_,HW,QJ,ej,rfl,k2⟩
  exact .inr (eD c hc)
 have hS:=D4 x.1 (al.map cT) NS (by rw[zag]) (λ_ _=>rfl) ⟨.Bn x.2.1 x.2.2.1 x.2.2.2,by rw[zai,hk];rfl⟩ 2 3 (some 1) (some 2) (some 3) (u1 al k x.1.l st.d) (by decide) (by decide) (by decide) (by decide) (by decide) rfl rfl rfl rfl;have es:st.o.set k x.1=st.o:=by have:=(zaa.1 yD).2;rw[<-this];exact List.set_getElem_self _
 rw[es] at hS;have Cm:=fK.lt;have Qs:=fK.q;refine bF.mono (NH hX _ _ (λy=>y.1=wX (eF st f).1/\ ∀F2 G2 w2,aL PR ⟨gR (av b0) u v2 g2,w0,0,false⟩ F2 G2 w2 y.2->Ext (Own (gR (av b0) u v2 g2) (u1 al k x.1.l st.d)) (Own G2 y.2) F F2 w w2->
   ∃G3,aL PR ⟨G,w0,0,false⟩ F G3 w2 (rR (some 0) none none (eF st f).2)/\Ext (Own G R) (Own G3 (rR (some 0) none none (eF st f).2)) F F w w2)
  ⟨f.1,f.2.1,f.2.2.1,f.2.2.2.1,f.2.2.2.2,al,k,x.1.l,st.d,x,rfl,rfl,⟨⟨by rw[xd,ha,oR],hk⟩,⟨by omega,hd⟩,by omega,?_⟩,λg1=> ?_,λg1 g2=> ?_,λg1 g2 g3=> ?_,λg1 g2 g3 g4=> ?_,λg1 g2 g3 g4 m hm g5=> ?_,λg1 g2 g3 g4 m hm g5 old=> ?_⟩
  F (gR (av b0) u v2 g2) w [av b0,Jc] nc rfl (λi v c hv hc=> ?_)) λv w2 ⟨y,⟨rv,AX⟩,F2,G2,h2,vI,hx⟩=> ?_
 ·have:=wS (b7 ja x.1.l f) λg hg=>by
   rcases jD.1 hg with hg |rfl
   ·exact(fK.m g hg).2.2.2.2.2.2
   exact hf
  rw[mU] at this;exact zaN this (by omega)
 ·rw[FG (f:=f) g1];exact⟨rfl,hS⟩
 ·rw[gk] at g2;rw[FH (f:=f) g1 g2];exact⟨rfl,hS⟩
 ·rw[gk] at g2;rw[wY (f:=f) g1 g2 oR yD,zat g3];exact⟨rfl,hS⟩
 ·rw[gk] at g2;have g3: ¬x.1.q≠f.2.2.2.1:=λh=>h g3;rw[uM] at g4;rw[wY (f:=f) g1 g2 oR yD,zaB g3,zat g4];exact⟨rfl,hS⟩
 ·rw[gk] at g2;have hq:x.1.q=f.2.2.2.1:=g3;have g3: ¬x.1.q≠f.2.2.2.1:=λh=>h hq;rw[uM] at g4;have hm:m=b7 ja x.1.l f:=hm;have g5:(m.length:Int)<f.2.2.2.1:=g5;rw[wY (f:=f) g1 g2 oR yD,zaB g3,zaB (by rw[g4];simp),zat (by rw[<-hm];omega),<-hm];refine⟨rfl,D4 ⟨x.1.a,x.1.n,x.1.q,m⟩ ((al.map cT).set k (oC x.1)) (by rw[hm];exact Dv _ _) (by simp) (λn hn=>by rw[zau (za5 hn)]) ⟨.bu,by rw[zaE (by rw[zag];exact rM)];rfl⟩ 3 2 (some 1) none (some 3) _ (by decide) (by decide) (by decide) (by decide) (by decide) rfl rfl rfl rfl⟩
 ·rw[gk] at g2;have hq:x.1.q=f.2.2.2.1:=g3;have g3: ¬x.1.q≠f.2.2.2.1:=λh=>h hq;rw[uM] at g4;have hm:m=b7 ja x.1.l f:=hm;have g5: ¬(m.length:Int)<f.2.2.2.1:=g5;rw[wY (f:=f) g1 g2 oR yD,zaB g3,zaB (by rw[g4];simp),zaB (by rw[<-hm];omega),<-hm];refine⟨rfl,λF2 G2 w2 h2 hx=> ?_⟩;have o1: ∀b,aj (G2 2)=some b->Own G2 (u3 old ((al.eraseIdx k).map cT) (st.d++[(f.1,f.2.1)])) b:=λb hb=>⟨2,_,rfl,rfl,hb⟩
  obtain⟨rV,q1,q2⟩:=xb (al':=al.eraseIdx k) (qU (h2.rg 2 _ rfl)) (bY hx) NT λb hb=>bX hx b (o1 b hb);have eZ:(al.eraseIdx k).map (·.1)=st.o.eraseIdx k:=by rw[<-lg,ha]
  rw[eZ] at q1;refine mZ (st':=⟨st.o.eraseIdx k,st.d++[(f.1,f.2.1)]⟩) h h0 h2 hx hs (i:=2) (i2:=3) (by rw[<-eZ,zag];simp[lk]) rfl rfl rfl rfl (by decide) q1 λb hb=> ?_;rcases q2 b hb with hb |hb
  ·exact .inl ⟨2,_,by decide,by decide,rfl,rfl,hb⟩
  exact .inr (eD b hb)
 ·match i,hv,hc with
  |0,hv,hc=>cases hv;cases hc;exact .ref 0 0 0 _ ⟨_,rfl,zae _,λ_ _=>⟨b0,rfl,rfl⟩⟩ rfl
  |1,hv,hc=>cases hv;cases hc;exact .d d1
  |i+2,hv,hc=>simp at hv
 obtain⟨G3,FI,zk⟩:=AX F2 G2 w2 h2 hx;refine⟨F,G3,FI,?_,zk⟩;rw[rv] at vI;exact pg vI
theorem Ia:ND w0 14 oD:=by
 intro ps R ae hh F G w vs h hl hv;obtain⟨z,st,f,rfl,rfl,⟨hJ,hd,hf,hz⟩,hp⟩:=hh
 match vs,hl,hv with
 | [NU,Jc],_,hv=>
 have p0:=hv 0 NU _ rfl rfl;have p1:=hv 1 Jc _ rfl rfl;have d1:aA F w Jc (ia f):=by
  cases p1 with
  |d h1=>exact h1
 cases z with
 |true=>
  have hz:=hz rfl;subst hz;obtain⟨b0,cc,h1,h2,h3,h4,h5⟩:=h.rg 0 _ rfl;have eu:NU=av b0:=by
   cases p0 with
   |ref _ _ _ _ hr _=>obtain⟨e,he,_,hc⟩:=hr;cases he;obtain⟨b,e1,e2⟩:=hc rfl rfl;rw[h1] at e1;cases e1;exact e2
  subst eu;have own0: ∀n e b,lk (u0 some [] []) n=some e->ay (gR (av b0) (G 1) (G 2) undef n) e.obj b-> ∃e',lk NQ n=some e'/\ay (G n) e'.obj b:=λn e b he hb=>by
   rcases nG he hb with⟨rfl,rfl⟩| ⟨rfl,p1⟩| ⟨rfl,p1⟩
   ·exact⟨_,rfl,by rw[h1];rfl⟩
   ·exact⟨_,rfl,rfl,p1⟩
   exact⟨_,rfl,rfl,p1⟩
  have nc:aL PR ⟨gR (av b0) (G 1) (G 2) undef,w0,0,false⟩ F (gR (av b0) (G 1) (G 2) undef) w (u0 some [] []):=by
   refine h.Dl ?_ ?_ ?_ λn e i he hi _=> ?_
   ·intro n e he;rcases aD he with⟨rfl,rfl⟩|he
    ·refine⟨b0,cc,rfl,h2,h3,h4,λi p hp=> ?_⟩
     match i,hp with
     |0,hp=>
      cases hp;have k:=h5 0 _ rfl;have kk:=(pk h3 (P:=λv=>v.oneCell'=true) h4).1;generalize cc.getD 0 undef=v at k kk⊢;cases k with
      |sl _ _ _ _ _ hr=>obtain⟨e,he,_,hc⟩:=hr;cases he;exact .sl 1 0 _ _ kk ⟨_,rfl,zae _,λ_ _=>hc rfl rfl⟩
     |1,hp=>
      cases hp;have k:=h5 1 _ rfl;have kk:=(pk h3 (P:=λv=>v.oneCell'=true) h4).2;generalize cc.getD 1 undef=v at k kk⊢;cases k with
      |sl _ _ _ _ _ hr=>obtain⟨e,he,_,hc⟩:=hr;cases he;exact .sl 2 0 _ _ kk ⟨_,rfl,zae _,λ_ _=>hc rfl rfl⟩
    rcases aD he with⟨rfl,rfl⟩|he
    ·exact qU (h.rg 1 _ rfl)
    obtain⟨rfl,rfl⟩:=cj he;exact h.rg 2 _ rfl
   ·intro n m e e' b he bb hb cb;obtain⟨e1,q1,q2⟩:=own0 _ _ _ he hb;obtain⟨e2,q3,q4⟩:=own0 _ _ _ bb cb;exact h.own n m e1 e2 b q1 q3 q2 q4
   ·intro b ⟨n,e,he,hb⟩;obtain⟨e1,q1,q2⟩:=own0 _ _ _ he hb;exact⟨n,e1,q1,q2⟩
   have e:n=i:=by
    rcases aD he with⟨rfl,rfl⟩|he
    ·exact zal hi
    rcases aD he with⟨rfl,rfl⟩|he
    ·exact zal hi
    obtain⟨rfl,rfl⟩:=cj he;exact zal hi
   rw[e];exact .inl rfl
  refine bF.mono (core0 hX (al:=[]) (st:=⟨[],[]⟩) (f:=f) (u:=G 1) (g2:=G 2) h (by rw[h1];exact .inl rfl) nc (λb ⟨n,e,he,hb⟩=> ?_) (λx hx=>by cases hx) (λx hx=>by cases hx) rfl zcg hJ hd hf d1 rfl) λv w' ⟨F',G',q1,q2,q3⟩=>⟨_,hp,F',G',q1,q2,q3⟩
  obtain⟨e1,q1,q2⟩:=own0 _ _ _ he hb;exact⟨n,e1,q1,q2⟩
 |false=>
  have h:aL PR ⟨G,w0,0,false⟩ F G w (rR (some 0) (some 1) (some 2) st):=h;obtain⟨b0,cc,u,bs,al,h1,h2,h3,h4,hW,h5,h6⟩:=D2 h;have eu:NU=av b0:=by
   cases p0 with
   |ref _ _ _ _ hr _=>obtain⟨e,he,_,hc⟩:=hr;cases he;obtain⟨b,e1,e2⟩:=hc rfl rfl;rw[h1] at e1;cases e1;exact e2
  subst eu;obtain⟨n1,n2,n3⟩:=qT h h1 h4;have Ge: ∀x∈al,x.2.1∈bs:=λx hx=>by
   rcases hW.e with⟨e,_⟩| ⟨b,cap,cs,_,e,_⟩
   ·rw[e] at hx;cases hx
   rw[e];exact zaP _ (zaQ.2 ⟨x,hx,rfl⟩)
  have Ib:(al.map (·.2.1)).Nodup:=by
   rcases hW.e with⟨e,_⟩| ⟨b,cap,cs,_,e,_⟩
   ·rw[e];exact zcg
   have:=hW.nd;rw[e] at this;exact(zax.1 this).2
  have KO: ∀b,aj u=some b->b∉al.map (·.2.1):=λc hc=>by
   rcases hW.e with⟨e,_⟩| ⟨b,cap,cs,e1,e,_⟩
   ·rw[e];simp
   have:=hW.nd;rw[e] at this;rw[e1] at hc;cases hc;exact(zax.1 this).1
  have cA: ∀x∈al,Own G (rR (some 0) (some 1) (some 2) st) x.2.1:=λx hx=>jb h4 (Ge x hx);cases oR:st.o.findIdx? (lv f) with
  |none=>
   have nc:=hW.zG h h1 h2 h3 h4 h5 h6;refine bF.mono (core0 hX (al:=al) (st:=st) (f:=f) h (by rw[h1];exact .inl rfl) nc (λb ⟨n,e,he,hb⟩=> ?_) (λx hx=>⟨λ⟨n,e,he,hb⟩=> ?_,cA x hx⟩) hW.f hW.a Ib hJ hd hf d1 oR) λv w' ⟨F',G',q1,q2,q3⟩=>⟨_,hp,F',G',q1,q2,q3⟩
   ·rcases nG he hb with⟨rfl,rfl⟩| ⟨rfl,p1⟩| ⟨rfl,p1⟩
    ·exact⟨0,_,rfl,by rw[h1];rfl⟩
    ·exact jb h4 (hW.BI p1)
    exact⟨2,_,rfl,rfl,p1⟩
   have hm:x.2.1∈al.map (·.2.1):=zaQ.2 ⟨x,hx,rfl⟩;rcases nG he hb with⟨_,p1⟩| ⟨_,p1⟩| ⟨_,p1⟩
   ·exact n1 (p1▸Ge x hx)
   ·exact KO _ p1 hm
   exact n3 _ p1 (Ge x hx)
  |some k=>
   obtain⟨rM,_,_⟩:=za6.1 oR;have Nr:k<al.length:=by have:=congrArg List.length hW.a;rw[zag] at this;omega
   have hk:al[k]?=some al[k]:=zac Nr;generalize al[k]=x at hk;have nc:=hW.DB h h1 h2 h3 h4 h5 h6 hk;have lD:=zak hk;refine bF.mono (KP hX (al:=al) (st:=st) (f:=f) h (by rw[h1];exact .inl rfl) nc (λb ⟨n,e,he,hb⟩=> ?_) (λy hy=>⟨λ⟨n,e,he,hb⟩=> ?_,cA y (zaU hy)⟩) hW.f hW.a Ib hJ hd hf d1 oR hk) λv w' ⟨F',G',q1,q2,q3⟩=>⟨_,hp,F',G',q1,q2,q3⟩
   ·rcases qS he hb with⟨rfl,p1⟩| ⟨rfl,p1⟩| ⟨rfl,p1⟩| ⟨rfl,p1⟩
    ·subst p1;exact⟨0,_,rfl,by rw[h1];rfl⟩
    ·exact jb h4 (hW.BI p1)
    ·subst p1;exact cA x lD
    exact⟨2,_,rfl,rfl,p1⟩
   have AX:=zaU hy;have hm:y.2.1∈al.map (·.2.1):=zaQ.2 ⟨y,AX,rfl⟩;rcases qS he hb with⟨_,p1⟩| ⟨_,p1⟩| ⟨_,p1⟩| ⟨_,p1⟩
   ·exact n1 (p1▸Ge y AX)
   ·exact KO _ p1 hm
   ·obtain⟨i,hi,OR⟩:=zbc.1 hy;have il:=(zaa.1 OR).1;have e3:(al.map (·.2.1))[i]?=(al.map (·.2.1))[k]?:=by rw[zai,zai,OR,hk];exact congrArg some p1
    exact hi ((zcp (by simpa using il) Ib).1 e3)
   exact n3 _ p1 (Ge y AX)
end
def KQ:cR:=λps R ae=>ps=[]/\R=[]/\ae (.ref 0 0 0,[(0,⟨0,none,Fz 1 2⟩),(1,⟨0,none,.bS 58 (λ_=>none) 0 none⟩),(2,⟨0,none,.map 58 (λ_=>none) 0 false⟩)])
def oE:cR:=λps R ae=>ps=[]/\R=[]/\ae (.hd 0 0,rJ none ⟨[],[]⟩)
def NV:cR:=λps R ae=> ∃vals m d c,ps=[.ref 0 0 0]/\R=rP vals m d c/\ae (iD m,rP vals m d c)
def uO:cR:=λps R ae=> ∃st:JL,ps=[.hd 0 0]/\R=rJ (some 0) st/\ae (iD st.o.length,rJ (some 0) st)
section
variable{X:XF}{w0:World}(hX:cL PR w0 X.cf)
include hX
theorem Ic:ND w0 12 KQ:=ND.mk hX (by kernel_rfl) (by kernel_rfl) (by kernel_rfl) .nil .nil .nil (by intro ps R ae hh;obtain⟨rfl,rfl,hp⟩:=hh;rw[<-H0];exact hp)
theorem KR:ND w0 15 NV:=ND.mk hX (by kernel_rfl) (by kernel_rfl) (by kernel_rfl) .nil .nil .nil (by
 intro ps R ae hh;obtain⟨vals,m,d,c,rfl,rfl,hp⟩:=hh
 (rw[<-Kv];delta HR FA A7 Z4)
 exact hp)
theorem Ie:ND w0 12 oE:=by
 intro ps R ae hh F G w vs h hl hv;obtain⟨rfl,rfl,hp⟩:=hh;refine bF.mono (Ic hX [] [] (λy=>y=(.ref 0 0 0,[(0,⟨0,none,Fz 1 2⟩),(1,⟨0,none,.bS 58 (λ_=>none) 0 none⟩),(2,⟨0,none,.map 58 (λ_=>none) 0 false⟩)])) ⟨rfl,rfl,rfl⟩ F G w vs h hl hv) λv w2 ⟨y,hy,F2,G2,h2,vI,hx⟩=> ?_;subst hy;obtain⟨b0,cc,k1,k2,k3,_,k5⟩:=h2.rg 0 _ rfl;obtain⟨b1,es,ck,l1,l2,l3⟩:=h2.rg 1 _ rfl;obtain⟨b2,Bu,Eo,m1,m2,m3,_⟩:=h2.rg 2 _ rfl;have o0:ay (G2 0) (Fz 1 2) b0:=by rw[k1];rfl
 have o1:ay (G2 1) (.bS 58 (λ_=>none) 0 none) b1:=by rw[l1];rfl
 have o2:ay (G2 2) (.map 58 (λ_=>none) 0 false) b2:=by rw[m1];exact⟨rfl,rfl⟩
 have L0:b0≠b1:=λe=>by subst e;have:=h2.own 0 1 _ _ b0 rfl rfl o0 o1;cases this
 have L1:b0≠b2:=λe=>by subst e;have:=h2.own 0 2 _ _ b0 rfl rfl o0 o2;cases this
 have L2:b1≠b2:=λe=>by subst e;have:=h2.own 1 2 _ _ b1 rfl rfl o1 o2;cases this
 have hJ:JW ⟨[],[]⟩ w2 b0 b1 b2 []:=by
  refine⟨rfl,by simp[cB,L0,L1,L2],⟨cc,k2,k3,?_,?_⟩,⟨es,ck,l2,l3.raw⟩,⟨Bu,Eo,m2,fP.unit (d:=[]) m3⟩,λx hx=>by cases hx⟩
  ·have k:=k5 0 _ rfl;generalize cc.getD 0 undef=v at k⊢;cases k with
   |mp _ _ _ _ hr=>obtain⟨e,he,_,hc⟩:=hr;cases he;exact(hc rfl rfl).trans l1
  have k:=k5 1 _ rfl;generalize cc.getD 1 undef=v at k⊢;cases k with
  |mp _ _ _ _ hr=>obtain⟨e,he,_,hc⟩:=hr;cases he;exact(hc rfl rfl).trans m1
 have ev:v=av b0:=by
  cases vI with
  |ref _ _ _ _ hr _=>obtain⟨e,he,_,hc⟩:=hr;cases he;obtain⟨b,e1,e2⟩:=hc rfl rfl;rw[k1] at e1;cases e1;exact e2
 subst ev;have:=h.shut h2 hx (λb ⟨n,e,he,_⟩=>by cases he) (t:=none) (x:=rQ ⟨[],[]⟩) (p:=JQ ⟨[],[]⟩) (u:=av b0) (bs:=cB b0 b1 b2 []) (λw' hw=>⟨hJ.to.keep λb hb=>hw b (by rwa [dM] at hb)⟩) (λb hb=>by
  simp only[cB,List.flatMap_nil,zan,zbs,zcm] at hb;rcases hb with rfl |rfl |rfl
  ·exact .inl ⟨0,_,rfl,o0⟩
  ·exact .inl ⟨1,_,rfl,o1⟩
  exact .inl ⟨2,_,rfl,o2⟩) (λi hi=>by cases hi)
 refine⟨_,hp,F,_,this.1,.hd 0 0 _ rfl ⟨_,rfl,zae _,λ_ _=>⟨b0,_,rfl,rfl⟩⟩,this.2⟩
theorem KS:ND w0 15 uO:=by
 intro ps R ae hh F G w vs h hl hv;obtain⟨st,rfl,rfl,hp⟩:=hh;obtain⟨v,bs,hG,_,yZ⟩:=h.rg 0 _ rfl;have HW:=(yZ w (λ_ _=>rfl)).h;rw[<-hG] at HW;obtain⟨b0,b1,b2,al,hg,hj⟩:=JW.of HW
 match vs,hl,hv with
 | [u0],_,hv=>
 have p0:=hv 0 u0 _ rfl rfl;have eu:u0=av b0:=by
  cases p0 with
  |hd _ _ _ h1 hr=>obtain⟨e,he,_,hc⟩:=hr;cases he;obtain⟨b,l,e1,e2⟩:=hc rfl rfl;rw[hg] at e1;cases e1;rfl
 subst eu;have hs: ∀b,Own (gJ b0 b1 b2 undef undef) (rP (aU al) al.length (a7 st.d) st.d.length) b->b=b0\/b=b1\/b=b2:=λb ⟨n,e,he,hb⟩=>by
  rcases wW he hb with⟨_,h⟩| ⟨_,h⟩| ⟨_,h⟩
  ·exact .inl h
  ·exact .inr (.inl h)
  exact .inr (.inr h)
 have Aj: ∀b,Own (gJ b0 b1 b2 undef undef) (rP (aU al) al.length (a7 st.d) st.d.length) b->Own G (rJ (some 0) st) b:=λb hb=>by rcases hs b hb with rfl |rfl |rfl<;>exact jE hg (by simp[cB])
 have rS: ∀x∈al,¬Own (gJ b0 b1 b2 undef undef) (rP (aU al) al.length (a7 st.d) st.d.length) x.2.1/\ ¬Own (gJ b0 b1 b2 undef undef) (rP (aU al) al.length (a7 st.d) st.d.length) x.2.2:=λx hx=>by obtain⟨k,hk⟩:=zao hx;obtain⟨_,⟨n4,n5,n6⟩,⟨n7,n8,n9⟩,_⟩:=hj.ne hk;exact⟨λho=>by rcases hs _ ho with e |e |e<;>first |exact n4 e.symm |exact n5 e.symm |exact n6 e.symm,λho=>by rcases hs _ ho with e |e |e<;>first |exact n7 e.symm |exact n8 e.symm |exact n9 e.symm⟩
 have hlen:al.length=st.o.length:=by rw[<-hj.a,zag]
 refine bF.mono (KR hX _ _ (λy=>y=(iD al.length,rP (aU al) al.length (a7 st.d) st.d.length)) ⟨aU al,al.length,a7 st.d,st.d.length,rfl,rfl,rfl⟩ F (gJ b0 b1 b2 undef undef) w [av b0] (hj.zG h hg) rfl (λi v c hv hc=> ?_)) λv w2 ⟨y,hy,F2,G2,h2,vI,hx⟩=> ?_
 ·match i,hv,hc with
  |0,hv,hc=>cases hv;cases hc;exact .ref 0 0 0 _ ⟨_,rfl,zae _,λ_ _=>⟨b0,rfl,rfl⟩⟩ rfl
  |i+1,hv,hc=>simp at hv
 subst hy;obtain⟨G3,FI,zk⟩:=hj.nF h hg h2 hx Aj rfl rfl rfl hj.a (.refl _) rS;refine⟨_,hp,F,G3,FI,?_,zk⟩;rw[<-hlen];cases vI with
 |d h=>exact .d (b8 h rfl)
end
open Classical in
noncomputable def oF(h:cR):TF:=λps R=>if e: ∃y,h ps R (λz=>z=y) then some e.choose else none
def KT(h:cR):Prop:= ∀ps R y ae,h ps R (λz=>z=y)->h ps R ae->ae y
theorem jF{h:cR}{ps:List P}{R:List (Nat×En)}{y:P×List (Nat×En)}(e:oF h ps R=some y):h ps R (λz=>z=y):=by
 unfold oF at e;split at e
 next e2=>rw[<-zal e];exact e2.choose_spec
 cases e
noncomputable def XF.tell(X:XF)(f:Nat)(g:TF)(hf:eV f Kk=false):XF:=⟨λf' ps R=>if Nat.beq f f' then g ps R else X.cf f' ps R,λf' h ps R=>by
 show(if Nat.beq f f'=true then g ps R else X.cf f' ps R)=_;rw[zaB]
 ·exact X.eq f' h ps R
 intro e;rw[zab e,h] at hf;cases hf⟩
theorem XF.pn{X:XF}{f:Nat}{g:TF}{hf:eV f Kk=false}{w0:World}(h0:w0.drawn=0)(hX:cL PR w0 X.cf)(hg:Fq PR w0 f g):cL PR w0 (X.tell f g hf).cf:=by
 intro fN ps R p R1 h;have h2:(if Nat.beq f fN=true then g ps R else X.cf fN ps R)=some (p,R1):=h;clear h;split at h2
 next e=>have e:=zab e;subst e;exact hg h0 ps R p R1 h2
 exact hX fN ps R p R1 h2
theorem FD.told{X:XF}{f:Nat}{fn:Func}{h:cR}(fg:PR.funcs[f]?=some fn)(hx:eV f HM=true)(hd:KT h)(hy: ∀ps R ae,h ps R ae-> ∃y,h ps R (λz=>z=y))(hX: ∀ps R,X.cf f ps R=oF h ps R):FD X f h:=
 C7.Lw fg hx λps R ae hp=>by have e:=hy ps R ae hp;refine⟨e.choose,?_,hd ps R _ ae e.choose_spec hp⟩;refine(hX ps R).trans ?_;unfold oF;rw[dif_pos e]
abbrev jS(l:List D)(i:Int):S:=⟨83,[(0,.d (.sl 5 l)),(3,.d (.bool true)),(4,.hd 0 0),(5,.ref 1 0 0),(6,iD i)],[(0,⟨0,none,.deep (rQ ⟨[],[]⟩) (JQ ⟨[],[]⟩)⟩),(1,⟨0,none,.box 35 [.sl 2 0 0,.sl 3 0 0]⟩),(2,⟨0,none,.arr 67 false []⟩),(3,⟨0,none,.arr 57 false []⟩)]⟩
abbrev tH(l:List D)(st:JL)(i:Int):S:=⟨83,[(0,.d (.sl 5 l)),(3,.d (.bool true)),(4,.hd 0 0),(5,.ref 1 0 0),(6,iD i)],[(0,⟨0,none,.deep (rQ st) (JQ st)⟩),(1,⟨0,none,.box 35 [.rf 2 0 st.o.length,.sl 3 0 st.d.length]⟩),(2,⟨0,none,.deep (.sl 1 (st.o.map oQ)) (RQ st.o)⟩),(3,⟨0,none,.arr 57 false (st.d.map je)⟩)]⟩
abbrev NW(l:List D)(b:Bool)(i:Int):S:=⟨115,[(0,.d (.sl 4 l)),(1,.d (.bool b)),(5,.d (.bool true)),(6,.hd 0 0),(7,.ref 1 0 0),(8,iD i)],[(0,⟨0,none,.deep (rQ ⟨[],[]⟩) (JQ ⟨[],[]⟩)⟩),(1,⟨0,none,.box 35 [.sl 2 0 0,.sl 3 0 0]⟩),(2,⟨0,none,.arr 67 false []⟩),(3,⟨0,none,.arr 57 false []⟩)]⟩
abbrev NX(l:List D)(b:Bool)(st:JL)(i:Int):S:=⟨115,[(0,.d (.sl 4 l)),(1,.d (.bool b)),(5,.d (.bool true)),(6,.hd 0 0),(7,.ref 1 0 0),(8,iD i)],[(0,⟨0,none,.deep (rQ st) (JQ st)⟩),(1,⟨0,none,.box 35 [.rf 2 0 st.o.length,.sl 3 0 st.d.length]⟩),(2,⟨0,none,.deep (.sl 1 (st.o.map oQ)) (RQ st.o)⟩),(3,⟨0,none,.arr 57 false (st.d.map je)⟩)]⟩
abbrev lh:=Int×Int×Int×Int
def po(x:lh):D:= .agg [.int .u8 x.1,.int .u8 x.2.1,.int .u8 x.2.2.1,.int .u8 x.2.2.2]
def re:P:=P.hd 0 0
def Ig:List P:=[re]
def Jd(jc:JL)(BJ:bp):Bool:=Prod.fst (Prod.snd (Prod.fst (eF jc BJ)))
def Ih(st:JL)(f:bp):Int:=Prod.snd (Prod.snd (Prod.fst (eF st f)))
def GN(jc:JL)(BJ:bp):List (Nat×En):=[(0,En.mk 0 (some 0) (Obj.deep (D.agg [D.sl 1 (List.map oQ (JL.o (Prod.snd (eF jc BJ)))),D.sl 1 (List.map (λ(x:Int×Int)=>fI (Prod.fst x) (Prod.snd x)) (JL.d (Prod.snd (eF jc BJ))))]) (JQ (Prod.snd (eF jc BJ)))))]
def NY:List P:=[re,P.d (D.agg [Zp,D.int .i64 (7:Int),D.int .i64 (0:Int),D.int .i64 (3:Int),D.str [(97:UInt8),(98:UInt8)]])]
def KU(f:bp):Prop:=List.length (Prod.snd (Prod.snd (Prod.snd (Prod.snd f))))<=100
def D5(st:JL)(f:bp):Prop:=BB st/\KU f
def KV(st:JL):Obj:=Obj.deep (D.agg [D.sl 1 (List.map oQ (JL.o st)),D.sl 1 (List.map (λ(x:Int×Int)=>fI (Prod.fst x) (Prod.snd x)) (JL.d st))]) (JQ st)
def yJ(st:JL):List (Nat×En):=[(0,En.mk 0 (some 0) (KV st))]
def KX:Obj:=Obj.deep (D.agg [D.sl 1 [],D.sl 1 []]) (JQ (JL.mk [] []))
def KY:List (Nat×En):=[(0,En.mk 0 (some 0) KX)]
def BK(f:bp):List P:=[P.d (D.agg [D.int .i64 (Prod.fst f),D.int .i64 (Prod.fst (Prod.snd f)),D.int .i64 (Prod.fst (Prod.snd (Prod.snd f))),D.int .i64 (Prod.fst (Prod.snd (Prod.snd (Prod.snd f)))),D.str (Prod.snd (Prod.snd (Prod.snd (Prod.snd f))))])]
theorem KZ(ae:P×List (Nat×En)->Prop):(ZP/\ZQ/\ ∃(st:JL) (f:bp),[re,P.d (D.agg [Zp,D.int .i64 (7:Int),D.int .i64 (2:Int),D.int .i64 (3:Int),D.str [(101:UInt8)]])]=re::BK f/\KY=yJ st/\D5 st f/\ ∃(dE:JL) (rX:bp),NY=re::BK rX/\GN st f=yJ dE/\D5 dE rX/\ ∃(st:JL) (f:bp),NY=re::BK f/\GN dE rX=yJ st/\D5 st f/\ ∃(jc:JL) (BJ:bp),[re,P.d (D.agg [Zp,D.int .i64 (7:Int),Zp,D.int .i64 (3:Int),D.str [(99:UInt8),(100:UInt8)]])]=re::BK BJ/\GN st f=yJ jc/\D5 jc BJ/\bif Ih st f==(210:Int) then bif Prod.fst (Prod.fst (eF jc BJ))==[(97:UInt8),(98:UInt8),(99:UInt8),(100:UInt8),(101:UInt8)] then bif Jd jc BJ then bif Ih jc BJ==(0:Int) then∃(st:JL),Ig=Ig/\GN jc BJ=yJ st/\ae (P.d (D.bool ((↑(List.length (JL.o st)):Int)==(0:Int))),[]) else ZJ ae else ZJ ae else ZJ ae else ZJ ae)=(mS [(12,oE),(13,mX),(15,uO)] [] 8 [] []) ae:=by kernel_rfl
def NZ:List (Nat×En):=[(0,En.mk 0 (some 0) (Obj.box (35:TypeId) [P.sl 1 0 0,P.sl 2 0 0])),(1,En.mk 0 (some 1) (Obj.arr (67:TypeId) false [])),(2,En.mk 0 (some 2) (Obj.arr (57:TypeId) false []))]
def N0(jc:JL)(dE:JL)(rX:bp):List (Nat×En):=[(0,En.mk 0 none (KV jc)),(1,En.mk 0 none (Obj.box (35:TypeId) [P.rf 2 0 (List.length (JL.o (Prod.snd (eF dE rX)))),P.sl 3 0 (List.length (JL.d (Prod.snd (eF dE rX))))])),(2,En.mk 0 none (Obj.deep (D.sl 1 (List.map oQ (JL.o (Prod.snd (eF dE rX))))) (RQ (JL.o (Prod.snd (eF dE rX)))))),(3,En.mk 0 none (Obj.arr (57:TypeId) false (List.map je (JL.d (Prod.snd (eF dE rX))))))]
def N1(jc:JL)(dE:JL)(rX:bp):Bool:=(↑(List.length (JL.o jc)):Int) !=(↑(List.length (JL.o (Prod.snd (eF dE rX)))):Int)
def N3(dE:JL)(rX:bp)(z:Bool):Prop:=BB dE/\List.length (JL.d dE)<=900000/\KU rX/\(z=true->dE=JL.mk [] [])
def N4(s1:List (Nat×En))(dE:JL)(z:Bool):Prop:=s1=Bool.rec ((λ(st:JL)=>rR (some 0) (some 1) (some 2) st) dE) ((λ(x:JL)=>NQ) dE) z
def N5(st:JL):List (Nat×En):=[(0,En.mk 0 (some 0) (Obj.box (35:TypeId) [P.rf 1 0 (List.length (JL.o st)),P.sl 2 0 (List.length (JL.d st))])),(1,En.mk 0 (some 1) (Obj.deep (D.sl 1 (List.map oQ (JL.o st))) (RQ (JL.o st)))),(2,En.mk 0 (some 2) (Obj.arr (57:TypeId) false (List.map je (JL.d st))))]
def Je(ae:PX×S->Prop):Prop:=ae (PX.exit 0,S.mk 115 [(5,ZN)] [])
def GO(i:Int):Int:=Int.tmod i (6:Int)+(1:Int)
def xn(l:List lh)(i:Int):D:=D.nth (List.map po l) (Zf i)
def Ii(l:List lh)(i:Int):Int:=(1:Int)+Int.tmod (D.bB (D.eL (xn l i) 3)) (3:Int)
def L3(l:List lh)(i:Int):List D:=[D.int .i64 (Int.tmod (D.bB (D.eL (xn l i) 2)) (Ii l i)),D.int .i64 (Ii l i),D.str (List.drop (Int.toNat (Int.tmod i (6:Int))) (List.take (Int.toNat (GO i)) [(97:UInt8),(98:UInt8),(99:UInt8),(100:UInt8),(101:UInt8),(102:UInt8)]))]
def Jf(l:List lh)(i:Int):Int:=(1:Int)+Int.tmod (D.bB (D.eL (xn l i) 0)) (2:Int)
def Jg(l:List lh)(i:Int):List P:=[P.d (D.agg (D.int .i64 (Jf l i)::D.int .i64 (Int.tmod (D.bB (D.eL (xn l i) 1)) (3:Int))::L3 l i))]
def Jh(ae:PX×S->Prop):Prop:=ae (PX.ret,S.mk 115 [(4,ZG),(5,ZN)] [])
def Ji(st:JL)(f:bp)(ae:PX×S->Prop)(i:Int)(l:List lh)(b:Bool):List P->List (Nat×En)->Prop:=λ(s0:List P) (s1:List (Nat×En))=> ∃(z:Bool) (dE:JL) (rX:bp),s0=mb::BK rX/\N4 s1 dE z/\N3 dE rX z/\bif !Prod.fst (Prod.fst (eF st f))==Prod.fst (Prod.fst (eF dE rX)) then Jh ae else bif !Jd st f==Jd dE rX then Jh ae else bif Ih st f !=Ih dE rX then Jh ae else∃(jc:JL),Ig=Ig/\GN st f=yJ jc/\bif N1 jc dE rX then Jh ae else ob (Zk i) (ae (PX.normal,S.mk 115 [(0,P.d (D.sl 4 (List.map po l))),(1,P.d (D.bool b)),(5,ZN),(6,re),(7,P.ref 1 0 0),(8,Zl i)] (N0 jc dE rX)))
def Jj(l:List lh)(i:Int):List P:=[P.d (D.agg (D.int .i64 (Jf l i)::D.int .i64 (Int.tmod (D.bB (D.eL (xn l i) 1)) (60:Int))::L3 l i))]
def Jk(i:Int):Bool:=decide ((0:Int)<=Int.tmod i (6:Int)/\Int.tmod i (6:Int)<=(↑(Int.toNat (GO i)):Int))
def Jl(i:Int):Bool:=decide ((0:Int)<=GO i/\GO i<=(6:Int))
def Jm(i:Int):Bool:=decide (Zi<=GO i/\GO i<=Zj)
def Jn(l:List lh)(i:Int):Bool:= !decide (Ii l i=(0:Int))
def Jo(l:List lh)(i:Int):Bool:=decide (Zi<=D.bB (D.eL (xn l i) 2)/\D.bB (D.eL (xn l i) 2)<=Zj)
def Jp(l:List lh)(i:Int):Bool:=decide (Zi<=D.bB (D.eL (xn l i) 1)/\D.bB (D.eL (xn l i) 1)<=Zj)
def Jq(l:List lh)(i:Int):Bool:=decide (Zi<=Jf l i/\Jf l i<=Zj)
def Jr(l:List lh)(i:Int):Bool:=decide (Zi<=D.bB (D.eL (xn l i) 0)/\D.bB (D.eL (xn l i) 0)<=Zj)
def Js(l:List lh)(i:Int):Bool:=decide (Zi<=Ii l i/\Ii l i<=Zj)
def Jt(l:List lh)(i:Int):Bool:=decide (Zi<=D.bB (D.eL (xn l i) 3)/\D.bB (D.eL (xn l i) 3)<=Zj)
noncomputable def u9(l:List lh)(i:Int):Bool:=pz PR (44:TypeId) (xn l i)
def vb(i:Int)(l:List lh):Bool:=decide ((0:Int)<=i/\i<(↑(List.length (List.map po l)):Int))
theorem K0(l:List lh)(b:Bool)(i:Int)(ae:PX×S->Prop):(bif decide (i<(↑(List.length (List.map po l)):Int)) then bif decide (i<(300:Int)) then bif b then ob (vb i l) (ob (u9 l i) (ob (Jt l i) (ob (Js l i) (ob (vb i l) (ob (u9 l i) (ob (Jr l i) (ob (Jq l i) (ob (vb i l) (ob (u9 l i) (ob (Jp l i) (ob (vb i l) (ob (u9 l i) (ob (Jo l i) (ob (Jn l i) (ob (Jm i) (ob (Jl i) (ob (Jk i) (∃(st:JL) (f:bp),re::Jj l i=re::BK f/\KY=yJ st/\D5 st f/\Ji st f ae i l b (mb::Jj l i) NZ)))))))))))))))))) else ob (vb i l) (ob (u9 l i) (ob (Jt l i) (ob (Js l i) (ob (vb i l) (ob (u9 l i) (ob (Jr l i) (ob (Jq l i) (ob (vb i l) (ob (u9 l i) (ob (Jp l i) (ob (vb i l) (ob (u9 l i) (ob (Jo l i) (ob (Jn l i) (ob (Jm i) (ob (Jl i) (ob (Jk i) (∃(st:JL) (f:bp),re::Jg l i=re::BK f/\KY=yJ st/\D5 st f/\Ji st f ae i l b (mb::Jg l i) NZ)))))))))))))))))) else Je ae else Je ae)=(de [(13,mX),(14,oD),(15,uO)] [] 5 8 (NW (l.map po) b i)) ae:=by kernel_rfl
theorem K1(l:List lh)(b:Bool)(st:JL)(i:Int)(ae:PX×S->Prop):(bif decide (i<(↑(List.length (List.map po l)):Int)) then bif decide (i<(300:Int)) then bif b then ob (vb i l) (ob (u9 l i) (ob (Jt l i) (ob (Js l i) (ob (vb i l) (ob (u9 l i) (ob (Jr l i) (ob (Jq l i) (ob (vb i l) (ob (u9 l i) (ob (Jp l i) (ob (vb i l) (ob (u9 l i) (ob (Jo l i) (ob (Jn l i) (ob (Jm i) (ob (Jl i) (ob (Jk i) (∃(dE:JL) (f:bp),re::Jj l i=re::BK f/\yJ st=yJ dE/\D5 dE f/\Ji dE f ae i l b (mb::Jj l i) (N5 st))))))))))))))))))) else ob (vb i l) (ob (u9 l i) (ob (Jt l i) (ob (Js l i) (ob (vb i l) (ob (u9 l i) (ob (Jr l i) (ob (Jq l i) (ob (vb i l) (ob (u9 l i) (ob (Jp l i) (ob (vb i l) (ob (u9 l i) (ob (Jo l i) (ob (Jn l i) (ob (Jm i) (ob (Jl i) (ob (Jk i) (∃(dE:JL) (f:bp),re::Jg l i=re::BK f/\yJ st=yJ dE/\D5 dE f/\Ji dE f ae i l b (mb::Jg l i) (N5 st))))))))))))))))))) else Je ae else Je ae)=(de [(13,mX),(14,oD),(15,uO)] [] 5 8 (NX (l.map po) b st i)) ae:=by kernel_rfl
theorem D6{t:Option Nat}{x y:JL}(h:rJ t x=rJ t y):x=y:=by simp only[rJ,zbb,za9,En.mk.injEq,Obj.deep.injEq,zcd,zb5] at h;exact Dz h.1
theorem Ij{a b c:Option Nat}{x y:JL}(h:rR a b c x=rR a b c y):x=y:=by simp only[rR,zbb,za9,En.mk.injEq,Obj.deep.injEq,Obj.arr.injEq,D.sl.injEq,zcd,zb5] at h;obtain⟨o1,d1⟩:=x;obtain⟨o2,d2⟩:=y;have e1:=kU (λ_ _=>wV) h.2.1.1;have e2:=kU (f:=je) (λ_ _=>Dy) h.2.2;dsimp only at e1 e2;rw[e1,e2]
theorem F8:KT oE:=by intro ps R y ae h h';rw[<-h.2.2];exact h'.2.2
theorem Ik:KT uO:=by intro ps R y ae h h';obtain⟨st,_,rfl,e⟩:=h;obtain⟨st',_,e2,hp⟩:=h';have:=D6 e2;subst this;rw[<-e];exact hp
theorem D7:KT mX:=by intro ps R y ae h h';obtain⟨st,f,rfl,rfl,_,e⟩:=h;obtain⟨st',f',e1,e2,_,hp⟩:=h';have:=D6 e2;subst this;simp only[zbb,P.d.injEq,zcd,zb5] at e1;have:=yA e1;subst this;rw[<-e];exact hp
theorem D8:KT oD:=by
 intro ps R y ae h h';obtain⟨z,st,f,rfl,rfl,⟨_,_,_,h0⟩,e⟩:=h;obtain⟨z',st',f',e1,e2,⟨_,_,_,Li⟩,hp⟩:=h';simp only[zbb,P.d.injEq,zcd,zb5] at e1;have:=yA e1;subst this;have es:st=st':=by
  cases z<;>cases z'
  ·exact Ij e2
  ·simp[NR] at e2
  ·simp[NR] at e2
  rw[h0 rfl,Li rfl]
 subst es;rw[<-e];exact hp
theorem Il(ps:List P)(R:List (Nat×En))(ae:P×List (Nat×En)->Prop)(h:oE ps R ae): ∃y,oE ps R (λz=>z=y):=⟨_,h.1,h.2.1,rfl⟩
theorem K2(ps:List P)(R:List (Nat×En))(ae:P×List (Nat×En)->Prop)(h:uO ps R ae): ∃y,uO ps R (λz=>z=y):=by obtain⟨st,h1,h2,_⟩:=h;exact⟨_,st,h1,h2,rfl⟩
theorem F9(ps:List P)(R:List (Nat×En))(ae:P×List (Nat×En)->Prop)(h:mX ps R ae): ∃y,mX ps R (λz=>z=y):=by obtain⟨st,f,h1,h2,h3,_⟩:=h;exact⟨_,st,f,h1,h2,h3,rfl⟩
theorem Ga(ps:List P)(R:List (Nat×En))(ae:P×List (Nat×En)->Prop)(h:oD ps R ae): ∃y,oD ps R (λz=>z=y):=by obtain⟨z,st,f,h1,h2,h3,_⟩:=h;exact⟨_,z,st,f,h1,h2,h3,rfl⟩
noncomputable def QL:XF:=wO.tell 12 (oF oE) (by kernel_rfl)
noncomputable def QM:XF:=QL.tell 13 (oF mX) (by kernel_rfl)
noncomputable def QN:XF:=QM.tell 15 (oF uO) (by kernel_rfl)
noncomputable def Ez:XF:=QN.tell 14 (oF oD) (by kernel_rfl)
theorem GP:FD Ez 12 oE:=FD.told Try.func12 (by kernel_rfl) F8 Il λ_ _=>rfl
theorem D9:FD Ez 13 mX:=FD.told Try.func13 (by kernel_rfl) D7 F9 λ_ _=>rfl
theorem K3:FD Ez 15 uO:=FD.told Try.func15 (by kernel_rfl) Ik K2 λ_ _=>rfl
theorem Im:FD Ez 14 oD:=FD.told Try.func14 (by kernel_rfl) D8 Ga λ_ _=>rfl
theorem Io{w1:World}(hw:Kl w1):cL Try.prog {w1 with drawn:=0} Ez.cf:=
 XF.pn rfl (XF.pn rfl (XF.pn rfl (XF.pn rfl (wN hw) (Fq.Lz (Ie (X:=wO) (wN hw)) λ_ _ _ h=>jF h)) (Fq.Lz (HV (X:=wO) (wN hw)) λ_ _ _ h=>jF h)) (Fq.Lz (KS (X:=wO) (wN hw)) λ_ _ _ h=>jF h)) (Fq.Lz (Ia (X:=wO) (wN hw)) λ_ _ _ h=>jF h)
theorem K4:FD Ez 8 Dt:=FD.mk (by kernel_rfl) (.cons GP (.cons D9 (.cons K3 .nil))) .nil (by
 intro ps R ae hh;obtain⟨rfl,rfl,hp⟩:=hh
 (rw[<-KZ];delta ZG ZJ re Ig Jd Ih GN Zp NY KU D5 KV yJ KX KY BK ZQ ZP)
 have j1:=(uF (f:=(1,7,2,3,[101])) HT (by decide)).1;have j2:=(uF (f:=(1,7,0,3,[97,98])) j1 (by decide)).1;have j3:=(uF (f:=(1,7,0,3,[97,98])) j2 (by decide)).1;refine⟨rfl,rfl,_,(1,7,2,3,[101]),rfl,rfl,⟨HT,by decide⟩,_,(1,7,0,3,[97,98]),rfl,rfl,⟨j1,by decide⟩,_,(1,7,0,3,[97,98]),rfl,rfl,⟨j2,by decide⟩,_,(1,7,1,3,[99,100]),rfl,rfl,⟨j3,by decide⟩,oe (by decide) (oe (by decide) (oe (by decide) (oe (by decide) ⟨_,rfl,rfl,?_⟩)))⟩;exact hp)
structure K5(st:JL)(i:Int):Prop where
 z:i=0->st=⟨[],[]⟩
 j:BB st
 d:(st.d.length:Int)<=i
 i:0<=i/\i<=300
theorem K5.step{st:JL}{i:Int}(h:K5 st i){f:bp}(hf:f.2.2.2.2.length<=100)(hi:i<300):K5 (eF st f).2 (i+1):=by obtain⟨h1,h2⟩:=uF h.j hf;have:=h.i;have:=h.d;exact⟨λe=>by omega,h1,by omega,by omega,by omega⟩
def Bm(x:lh):Prop:=(0<=x.1/\x.1<=255)/\(0<=x.2.1/\x.2.1<=255)/\(0<=x.2.2.1/\x.2.2.1<=255)/\(0<=x.2.2.2/\x.2.2.2<=255)
def OS:S->K (PX×S):=λs ae=> ∃(l:List lh) (b:Bool),s=NW (l.map po) b 0/\(∀x∈l,Bm x)/\ae (.exit 0,⟨115,[(5,.d (.bool true))],[]⟩)
def OT:List (Nat×En):=[(0,En.mk 0 none KX),(1,En.mk 0 none (Obj.box (35:TypeId) [P.sl 2 0 0,P.sl 3 0 0])),(2,En.mk 0 none (Obj.arr (67:TypeId) false [])),(3,En.mk 0 none (Obj.arr (57:TypeId) false []))]
def N6(uY:List lh)(N7:Bool):S:=S.mk 115 [(0,P.d (D.sl 4 (List.map po uY))),(1,P.d (D.bool N7)),(5,ZN),(6,re),(7,P.ref 1 0 0),(8,Zy)] OT
theorem K6(l:List lh)(b:Bool)(ae:P×List (Nat×En)->Prop):(ZP/\ZQ/\ZP/\ZQ/\ ∃(uY:List lh) (N7:Bool),N6 l b=N6 uY N7/\(∀(x:lh),x∈uY->Bm x)/\ZO ae)=(mS [(8,Dt),(12,oE)] [(8,aF (gY 5 8) OS)] 5 [.d (.sl 4 (l.map po)),.d (.bool b)] []) ae:=by kernel_rfl
theorem zS{α:Type}(f:α->D)(P:D->Prop)(Q:α->Prop)(h1: ∀y,P y-> ∃x,y=f x/\Q x): ∀es:List D,(∀y∈es,P y)-> ∃l:List α,es=l.map f/\ ∀x∈l,Q x
 | [],_=>⟨[],rfl,λ_ h=>by cases h⟩
 |y::es,hy=>by
  obtain⟨l,rfl,hl⟩:=zS f P Q h1 es λy h=>hy y (.tail _ h);obtain⟨x,rfl,hx⟩:=h1 y (hy y (.head _));refine⟨x::l,rfl,λz hz=> ?_⟩;rcases zan.1 hz with rfl |hz
  ·exact hx
  exact hl z hz
theorem uP{n:Int}(hw:(Lit.int .u8 n).wf=true):0<=n/\n<=255:=by
 have h1:IntKind.min .u8=0:=by decide
 have h2:IntKind.max .u8=255:=by decide
 replace hw:(decide (IntKind.min .u8<=n)&&decide (n<=IntKind.max .u8))=true:=hw
 rw[h1,h2,zad,zaI,zaI] at hw;exact hw
theorem ly(x:lh):pz PR 44 (po x)=true:=by kernel_rfl
theorem GQ{l:List lh}{i:Nat}(h:i<l.length):D.nth (l.map po) i=po l[i]:=mc po h
theorem OU(x:lh):D.bB (D.eL (po x) 0)=x.1:=rfl
theorem OV(x:lh):D.bB (D.eL (po x) 1)=x.2.1:=rfl
theorem OW(x:lh):D.bB (D.eL (po x) 2)=x.2.2.1:=rfl
theorem OX(x:lh):D.bB (D.eL (po x) 3)=x.2.2.2:=rfl
theorem ta{a k:Int}(h:0<=a)(hk:0<k):0<=Int.tmod a k/\Int.tmod a k<k:=⟨Int.tmod_nonneg k h,Int.tmod_lt_of_pos a hk⟩
def uQ(l:List D)(b:Bool)(x:JL×Int):S:=if x.2=0 then NW l b x.2 else NX l b x.1 x.2
theorem Ip:LD Ez 5 8 (aF (gY 5 8) OS):=LD.par (by kernel_rfl) (by kernel_rfl) (.cons D9 (.cons Im (.cons K3 .nil))) .nil
 (A:=List lh×Bool) (B:=JL×Int) (λl x=>uQ (l.1.map po) l.2 x) (λl x=>(∀y∈l.1,Bm y)/\K5 x.1 x.2) (λ_ x=>(300-x.2).toNat)
 (λ_ x=>x=(.exit 0,⟨115,[(5,.d (.bool true))],[]⟩))
 (by
  rintro⟨l,b⟩ ⟨st,i⟩ ⟨hl,h⟩;dsimp only at hl h⊢;obtain⟨i0,i3⟩:=h.i;have hd:=h.d;have key: ∀f:bp,f.2.2.2.2.length<=100->i<300->roundPost (300-i).toNat (λm s=> ∃b':JL×Int,s=uQ (l.map po) b b'/\((∀y∈l,Bm y)/\K5 b'.1 b'.2)/\m=(300-b'.2).toNat) (λx=>x=(.exit 0,⟨115,[(5,.d (.bool true))],[]⟩)) (.normal,NX (l.map po) b (eF st f).2 (i+1)):=λf hf hi=>by
   refine⟨_,?_,((eF st f).2,i+1),?_,⟨hl,h.step hf hi⟩,rfl⟩
   ·dsimp only;omega
   unfold uQ;dsimp only;rw[zaB (by omega)]
  unfold uQ;dsimp only;split
  next hz=>
   have Hk:=h.z hz;subst Hk
   (rw[<-K0];delta ZN Je GO Zf xn Ii L3 Jf Jg NZ mb KV N0 Zl re Zj Zi Zk N1 yJ GN Ig Ih Jd ZG Jh KU N3 N4 BK Ji D5 KX KY Jj Jk Jl Jm Jn Jo Jp Jq Jr Js Jt u9 vb)
   refine aT (λg1=> ?_) λ_=>rfl;rw[zag] at g1;have hi:i.toNat<l.length:=by omega
   rw[GQ hi];rw[OU,OV,OW,OX];refine aT (λg2=> ?_) λ_=>rfl;have hx:=hl _ (zaX hi);generalize l[i.toNat]=x at hx⊢;obtain⟨⟨x1,x2⟩,⟨x3,x4⟩,⟨x5,x6⟩,x7,x8⟩:=hx;have q0:=ta x7 (k:=3) (by decide);have a0:=ta x1 (k:=2) (by decide);have r0:=ta i0 (k:=6) (by decide);have hf:(List.drop (Int.tmod i 6).toNat (List.take (Int.tmod i 6+1).toNat ([97,98,99,100,101,102]:List UInt8))).length<=100:=by rw[zbA,zbN];simp only[zaF,zbg];omega
   cases b
   ·rw[zbi];refine aw ⟨i0,by rw[zag];exact g1⟩ (bf (ly _) (aw (by omega) (aw (by omega) (aw ⟨i0,by rw[zag];exact g1⟩ (bf (ly _) (aw (by omega) (aw (by omega) (aw ⟨i0,by rw[zag];exact g1⟩ (bf (ly _) (aw (by omega) (aw ⟨i0,by rw[zag];exact g1⟩ (bf (ly _) (aw (by omega) (bf (by simp;omega) (aw (by omega) (aw ⟨by omega,by omega⟩ (aw ⟨by omega,by omega⟩ ?_)))))))))))))))));refine⟨⟨[],[]⟩,(1+Int.tmod x.1 2,Int.tmod x.2.1 3,Int.tmod x.2.2.1 (1+Int.tmod x.2.2.2 3),1+Int.tmod x.2.2.2 3,List.drop (Int.tmod i 6).toNat (List.take (Int.tmod i 6+1).toNat [97,98,99,100,101,102])),rfl,rfl,⟨h.j,hf⟩,true,⟨[],[]⟩,(1+Int.tmod x.1 2,Int.tmod x.2.1 3,Int.tmod x.2.2.1 (1+Int.tmod x.2.2.2 3),1+Int.tmod x.2.2.2 3,List.drop (Int.tmod i 6).toNat (List.take (Int.tmod i 6+1).toNat [97,98,99,100,101,102])),rfl,rfl,⟨h.j,by simp,hf,λ_=>rfl⟩,?_⟩;refine fY (by simp) (fY (by simp) (fY (by simp) ⟨_,rfl,rfl,fY (by simp) (aw (by omega) ?_)⟩));exact key _ hf g2
   rw[zbk];refine aw ⟨i0,by rw[zag];exact g1⟩ (bf (ly _) (aw (by omega) (aw (by omega) (aw ⟨i0,by rw[zag];exact g1⟩ (bf (ly _) (aw (by omega) (aw (by omega) (aw ⟨i0,by rw[zag];exact g1⟩ (bf (ly _) (aw (by omega) (aw ⟨i0,by rw[zag];exact g1⟩ (bf (ly _) (aw (by omega) (bf (by simp;omega) (aw (by omega) (aw ⟨by omega,by omega⟩ (aw ⟨by omega,by omega⟩ ?_)))))))))))))))));refine⟨⟨[],[]⟩,(1+Int.tmod x.1 2,Int.tmod x.2.1 60,Int.tmod x.2.2.1 (1+Int.tmod x.2.2.2 3),1+Int.tmod x.2.2.2 3,List.drop (Int.tmod i 6).toNat (List.take (Int.tmod i 6+1).toNat [97,98,99,100,101,102])),rfl,rfl,⟨h.j,hf⟩,true,⟨[],[]⟩,(1+Int.tmod x.1 2,Int.tmod x.2.1 60,Int.tmod x.2.2.1 (1+Int.tmod x.2.2.2 3),1+Int.tmod x.2.2.2 3,List.drop (Int.tmod i 6).toNat (List.take (Int.tmod i 6+1).toNat [97,98,99,100,101,102])),rfl,rfl,⟨h.j,by simp,hf,λ_=>rfl⟩,?_⟩;refine fY (by simp) (fY (by simp) (fY (by simp) ⟨_,rfl,rfl,fY (by simp) (aw (by omega) ?_)⟩));exact key _ hf g2
  rename_i hz
  (rw[<-K1];delta ZN Je GO Zf xn Ii L3 Jf Jg N5 mb KV N0 Zl re Zj Zi Zk N1 yJ GN Ig Ih Jd ZG Jh KU N3 N4 BK Ji D5 Jj Jk Jl Jm Jn Jo Jp Jq Jr Js Jt u9 vb)
  refine aT (λg1=> ?_) λ_=>rfl;rw[zag] at g1;have hi:i.toNat<l.length:=by omega
  rw[GQ hi];rw[OU,OV,OW,OX];refine aT (λg2=> ?_) λ_=>rfl;have hx:=hl _ (zaX hi);generalize l[i.toNat]=x at hx⊢;obtain⟨⟨x1,x2⟩,⟨x3,x4⟩,⟨x5,x6⟩,x7,x8⟩:=hx;have q0:=ta x7 (k:=3) (by decide);have a0:=ta x1 (k:=2) (by decide);have r0:=ta i0 (k:=6) (by decide);have hf:(List.drop (Int.tmod i 6).toNat (List.take (Int.tmod i 6+1).toNat ([97,98,99,100,101,102]:List UInt8))).length<=100:=by rw[zbA,zbN];simp only[zaF,zbg];omega
  cases b
  ·rw[zbi];refine aw ⟨i0,by rw[zag];exact g1⟩ (bf (ly _) (aw (by omega) (aw (by omega) (aw ⟨i0,by rw[zag];exact g1⟩ (bf (ly _) (aw (by omega) (aw (by omega) (aw ⟨i0,by rw[zag];exact g1⟩ (bf (ly _) (aw (by omega) (aw ⟨i0,by rw[zag];exact g1⟩ (bf (ly _) (aw (by omega) (bf (by simp;omega) (aw (by omega) (aw ⟨by omega,by omega⟩ (aw ⟨by omega,by omega⟩ ?_)))))))))))))))));refine⟨st,(1+Int.tmod x.1 2,Int.tmod x.2.1 3,Int.tmod x.2.2.1 (1+Int.tmod x.2.2.2 3),1+Int.tmod x.2.2.2 3,List.drop (Int.tmod i 6).toNat (List.take (Int.tmod i 6+1).toNat [97,98,99,100,101,102])),rfl,rfl,⟨h.j,hf⟩,false,st,(1+Int.tmod x.1 2,Int.tmod x.2.1 3,Int.tmod x.2.2.1 (1+Int.tmod x.2.2.2 3),1+Int.tmod x.2.2.2 3,List.drop (Int.tmod i 6).toNat (List.take (Int.tmod i 6+1).toNat [97,98,99,100,101,102])),rfl,rfl,⟨h.j,by omega,hf,λe=>by cases e⟩,?_⟩;refine fY (by simp) (fY (by simp) (fY (by simp) ⟨_,rfl,rfl,fY (by simp) (aw (by omega) ?_)⟩));exact key _ hf g2
  rw[zbk];refine aw ⟨i0,by rw[zag];exact g1⟩ (bf (ly _) (aw (by omega) (aw (by omega) (aw ⟨i0,by rw[zag];exact g1⟩ (bf (ly _) (aw (by omega) (aw (by omega) (aw ⟨i0,by rw[zag];exact g1⟩ (bf (ly _) (aw (by omega) (aw ⟨i0,by rw[zag];exact g1⟩ (bf (ly _) (aw (by omega) (bf (by simp;omega) (aw (by omega) (aw ⟨by omega,by omega⟩ (aw ⟨by omega,by omega⟩ ?_)))))))))))))))));refine⟨st,(1+Int.tmod x.1 2,Int.tmod x.2.1 60,Int.tmod x.2.2.1 (1+Int.tmod x.2.2.2 3),1+Int.tmod x.2.2.2 3,List.drop (Int.tmod i 6).toNat (List.take (Int.tmod i 6+1).toNat [97,98,99,100,101,102])),rfl,rfl,⟨h.j,hf⟩,false,st,(1+Int.tmod x.1 2,Int.tmod x.2.1 60,Int.tmod x.2.2.1 (1+Int.tmod x.2.2.2 3),1+Int.tmod x.2.2.2 3,List.drop (Int.tmod i 6).toNat (List.take (Int.tmod i 6+1).toNat [97,98,99,100,101,102])),rfl,rfl,⟨h.j,by omega,hf,λe=>by cases e⟩,?_⟩;refine fY (by simp) (fY (by simp) (fY (by simp) ⟨_,rfl,rfl,fY (by simp) (aw (by omega) ?_)⟩));exact key _ hf g2)
 (by rintro s ae ⟨l,b,rfl,hl,h1⟩;refine⟨(l,b),(⟨[],[]⟩,0),rfl,⟨hl,λ_=>rfl,HT,by decide,by decide,by decide⟩,?_⟩;rintro x rfl;exact h1)
def N8:cR:=λps R ae=> ∃(l:List lh) (b:Bool),ps=[.d (.sl 4 (l.map po)),.d (.bool b)]/\R=[]/\(∀x∈l,Bm x)/\ae (.d (.bool true),[])
theorem K7:FD Ez 5 N8:=FD.mk (by kernel_rfl) (.cons K4 (.cons GP .nil)) (.cons Ip .nil) (by
 intro ps R ae hh;obtain⟨l,b,rfl,rfl,hl,hp⟩:=hh
 (rw[<-K6];delta ZN ZO KX OT Zy re N6 ZQ ZP)
 exact⟨rfl,rfl,rfl,rfl,l,b,rfl,hl,hp⟩)
theorem K8{m:Nat}{x:D}(h:wA PR (m+4) 44 x): ∃p:lh,x=po p/\Bm p:=by
 obtain⟨cs,rfl,hl,hf⟩:=wB (k:=4) Try.underlying44 (by kernel_rfl) h;obtain⟨a,b,c,d,rfl⟩: ∃a b c d,cs=[a,b,c,d]:=by
  match cs,hl with
  | [a,b,c,d],_=>exact⟨a,b,c,d,rfl⟩
 have c2:PR.cellsOf 5=1:=by kernel_rfl
 have g1:=hf _ (zbW ..);have g2:=hf _ (zaP _ (zbW ..));have g3:=hf _ (zaP _ (zaP _ (zbW ..)));have g4:=hf _ (zaP _ (zaP _ (zaP _ (zbW ..))));simp only[c2,zch,List.drop_succ_cons,List.take_succ_cons,List.take_zero] at g1 g2 g3 g4;obtain⟨x1,rfl,w1⟩:=o9 Try.underlying5 g1;obtain⟨x2,rfl,w2⟩:=o9 Try.underlying5 g2;obtain⟨x3,rfl,w3⟩:=o9 Try.underlying5 g3;obtain⟨x4,rfl,w4⟩:=o9 Try.underlying5 g4;exact⟨(x1,x2,x3,x4),rfl,uP w1,uP w2,uP w3,uP w4⟩
theorem me(xs:List D)(h:l6 PR 8 [42,4] xs): ∃lf k R,dh PR (Ei Ez) lf k 5 (xs.map P.d) []=some (.d (.bool true),R):=by obtain⟨x,r,rfl,hx,h⟩:=fitAll_cons h;obtain⟨y,r,rfl,hy,h⟩:=fitAll_cons h;have e:=fitAll_nil h;subst e;obtain⟨es,rfl,_,hz⟩:=yx (k:=4) Try.underlying42 (by kernel_rfl) hx;obtain⟨l,rfl,hl⟩:=zS po _ _ (λy hy=>K8 hy) es hz;obtain⟨b,rfl⟩:=AY Try.underlying4 hy;obtain⟨lf,k,hr⟩:=K7.run (y:=(.d (.bool true),[])) ⟨l,b,rfl,rfl,hl,rfl⟩;exact⟨lf,k,[],hr⟩
end Pi
