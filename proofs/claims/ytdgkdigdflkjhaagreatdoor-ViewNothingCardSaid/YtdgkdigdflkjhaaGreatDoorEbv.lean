/- The texts Hi1H SR LnP InsP Ef1 Ef1H Ef2 Ef2H Ef3 Ef3H VwP TrC T4 T4H T5 T5H TrD T5N T6 T6H T7 T7H T8 T8H T9 T9H RfP Rd RdH Ef4 Ef4H Ef5H Ef6H Hi2 Hi2H Hi5 Hi5H UtP Vw1 Vw1H. -/
import Derived.Test.YtdgkdigdflkjhaaGreatDoorEbu
import Derived.Lib.IndexAny
namespace Pi
open Go Go.Proofs
set_option maxRecDepth 100000
set_option maxHeartbeats 0
theorem Wr:PR.follows .mixedOrders=true:=by kernel_rfl
theorem OW{o g}(h:cA g=false):kX o g=o:=by unfold kX;rw[zan];rw[h];simp
theorem JQ{o g}(h:(o.any λx=>x.s==g.s)=true):kX o g=o:=by unfold kX;rw[zan];rw[h];simp
theorem JR{o g}(h:cA g=true)(h2:(o.any λx=>x.s==g.s)=false):kX o g=o++[g]:=by unfold kX;rw[zap ⟨h,h2⟩]
theorem xK{l:List ar}{i}(h:i<l.length):aJ (l.take (i+1))=kX (aJ (l.take i)) l[i]:=by rw[zaf h,JN]
theorem cH{m n}(h:m<=1000000)(hn:n<=1000):aG (m+1) n=true:=cL (zaL (Nat.mul_le_mul (by omega:m+1<=1000001) hn) (by omega)) (by omega)
theorem b7{α:Type}(f:α->D) l x:List.take l.length (l.map f)++[f x]=(l++[x]).map f:=by rw[zak (by simp),zaC];rfl
def CY(U:List aF)(o:List ar):= ∀x,x∈U↔(o.any λy=>y.s==x)=true
theorem CY.nil:CY [] []:=λx=>by simp
theorem CY.had{U o x}(h:CY U o)(hx:x∈U):CY (x::U) o:=λy=>by
 rw[zat,h y];constructor
 ·rintro(rfl |h2)
  ·exact(h _).1 hx
  exact h2
 exact .inr
theorem CY.new{U o g}(h:CY U o):CY (g.s::U) (o++[g]):=λy=>by
 rw[zat,h y,zck,za8];simp only[zdd,zdo,zbW,za1];constructor
 ·rintro(rfl |h2)
  ·exact .inr rfl
  exact .inl h2
 rintro(h2 |rfl)
 ·exact .inr h2
 exact .inl rfl
theorem JS n:bO PR 3 (.int .i64 n)=true:=by kernel_rfl
section
variable{X:XF}
theorem qgK:LD X 16 2 (ah (aR 16 2) gFd):=LD.find (by kernel_rfl) (by kernel_rfl) .nil .nil
 (A:=List ar×aF) (λa k=>fdH a.1 a.2 k) (λa=>a.1) (λa _ g=>g.s==a.2) (λa=>a.1.length<=1000000)
 (λa i=>(.ret,⟨20,[(0,.sl 0 0 a.1.length),(4,iD i)],[(0,⟨0,some 0,pW false a.1⟩)]⟩)) (λa=>(.exit 0,⟨20,[(0,.sl 0 0 a.1.length)],[(0,⟨0,some 0,pW false a.1⟩)]⟩)) (λ_ _ h=>by cases h) (λ_ h=>by cases h)
 (by
  rintro⟨m,s⟩ i ae hi hC h0 bJ ht hn
  try dsimp only at*
  (rw[<-qd9];delta nf ni Z5J K1 tT Zl Zm Zn je rJ Z8 Z7 Zh Wp Zt oR CX fS rK qm Ze ln Z5A iY iu B6 r4 B7 SM)
  have e1:D.nth (m.map bZ) i.toNat=bZ m[i.toNat]:=az _ _ _ hi;rw[e1];refine bF bJ (ak ⟨h0,bJ⟩ (ak (by simpa using hi) (aq (mL _) ?_)));rw[show(D.aj (D.au (bZ m[i.toNat]) 0)==s.1&&(D.aj (D.au (bZ m[i.toNat]) 1)==s.2&&true))=(m[i.toNat].s==s) from VN m[i.toNat].s s];exact ay (λh=>ht h) λh=>ak (by omega) (hn h))
 (by
  rintro⟨m,s⟩ i ae hC hi hp
  try dsimp only at*
  (rw[<-qd9];delta nf ni Z5J K1 tT Zl Zm Zn je rJ Z8 Z7 Zh Wp Zt oR CX fS rK qm Ze ln Z5A iY iu B6 r4 B7 SM)
  exact dY (λh=>by omega) λh=>hp)
 (by
  rintro st ae ⟨m,s,rfl,hl,h1,h2⟩;refine⟨(m,s),rfl,hl,λi hi h0 ht hb=>h1 i ?_ h0,λh=>h2 ?_⟩
  ·rw[iQ,JF hi ht hb];omega
  exact OC h)
theorem qbW:FD X 16 Wo:=FD.mk (by kernel_rfl) .nil (.cons qgK .nil) (by
 intro ps R ae hh;obtain⟨m,s,rfl,rfl,hm,hp⟩:=hh
 (rw[<-qnJ];delta My tT Wp Zt fS mM nf ni Z5J K1 Z5 ZK je rJ rK qm Z5L)
 exact⟨m,s,rfl,hm,λi hi _=>hp i hi,λh=>hp _ h.symm⟩)
theorem qbX:LD X 54 3 (ah (aR 54 3) qjJ):=LD.idx (by kernel_rfl) (by kernel_rfl) (.cons qgI (.cons qbW .nil)) .nil
 (A:=List ar) (B:=List ar) (λl o i=>qbV l o i) (λl=>l.length) (λl i o=>CW l/\o=aJ (l.take i))
 (λl x=>x=(.exit 0,⟨35,[(3,.sl 0 0 (aJ l).length)],[(0,⟨0,none,pW false (aJ l)⟩)]⟩))
 (by
  rintro l o i ae h0 bJ bs ⟨hs,rfl⟩ hn ho
  try dsimp only at*
  (rw[<-qea];delta tT RA Zl Zm wH gF gl Z8 Z7 Zh Ze ln Bj Bk OV fS SN iu Rb mM Wp nf ni oQ Ek rK Zx nL nM kc kL nT iY qn Bl)
  have e1:D.nth (l.map bZ) i.toNat=bZ l[i.toNat]:=az _ _ _ bs;rw[e1];simp only[zaa,zao,zav,zaD];have hsg:=hs.2 _ (zas bs);have yl:=xK bs;have jT:=mh (l.take i.toNat);rw[zau] at jT;generalize l[i.toNat]=g at yl hsg;have qJ:=hs.1;have t2:D.agg [D.int .i64 (D.aj (D.au (bZ g) 0)),D.int .i64 (D.aj (D.au (bZ g) 1)),D.int .i64 (D.aj (D.au (bZ g) 2)),D.sl 1 (D.gW (D.au (bZ g) 3)),D.int .i64 (D.aj (D.au (bZ g) 4)),D.int .i64 (D.aj (D.au (bZ g) 5)),D.sl 18 (D.gW (D.au (bZ g) 6))]=bZ g:=rfl;refine bF bJ (ak ⟨h0,bJ⟩ (aq (mL _) ⟨g,rfl,rfl,hsg,λe he=>JP (λh1=>ak ⟨h0,bJ⟩ (aq (mL _) ⟨aJ (l.take i.toNat),g.s,rfl,rfl,by omega,λk hk=>dY (λh2=>ak ⟨h0,bJ⟩ (aq (mL _) (aq ?_ (ak (by omega) ?_)))) λh2=>ak (by omega) (hn _ ⟨hs,?_⟩)⟩)) λh1=>ak (by omega) (hn _ ⟨hs,?_⟩)⟩))
  ·rw[zac];exact⟨by simp,cH (by omega) (by omega)⟩
  ·have hg:cA g=true:=by
    cases hg:cA g with
    |true=>rfl
    |false=>rw[hg,zan (by simp)] at he;omega
   have CK:((aJ (l.take i.toNat)).any λx=>x.s==g.s)=false:=(Bc _ _).1 (by rw[hk] at h2;exact h2);have:=hn (aJ (l.take i.toNat)++[g]) ⟨hs,by rw[yl,JR hg CK]⟩;rw[t2,b7];simp only[qbV,zaj,zao,zav,zaD] at this;exact this
  ·rw[yl,JQ];rw[<-zcJ];intro h;exact h2 (by rw[hk];exact(Bc _ _).2 h)
  rw[yl,OW];cases hg:cA g with
  |false=>rfl
  |true=>rw[hg,zap rfl] at he;exact absurd he h1)
 (by
  rintro l o i ae hi ⟨hs,rfl⟩ ho
  try dsimp only at*
  (rw[<-qea];delta tT RA Zl Zm wH gF gl Z8 Z7 Zh Ze ln Bj Bk OV fS SN iu Rb mM Wp nf ni oQ Ek rK Zx nL nM kc kL nT iY qn Bl)
  simp only[zaa];refine dY (λh=>by omega) λh=>ho _ (λh=>by cases h) ?_;rw[zai])
 (by rintro s ae ⟨l,rfl,hs,hp⟩;refine⟨l,[],rfl,⟨hs,rfl⟩,?_⟩;rintro x rfl;exact hp _ rfl)
theorem Ws:FD X 54 qjI:=FD.mk (by kernel_rfl) .nil (.cons qbX .nil) (by
 intro ps R ae hh;obtain⟨l,rfl,rfl,hs,hp⟩:=hh
 (rw[<-qjK];delta tT RA fS rK SO Z5Z Z5 Ry ZN Wq gF gl)
 exact⟨l,rfl,hs,λm hm=>hp m hm⟩)
end
abbrev El:=S×(PX×S)->K (PX×S×(PX×S))
noncomputable def OX(H HN:List (FuncId×a8))(f id:Nat):S->(PX×S->Prop)->Prop:=FQ PR (runK PR sH rE H 60 60) HN (aR f) [] (rE f) (nI PR f id).asg
noncomputable def Gu(H HN:List (FuncId×a8))(f id:Nat):S->(PX×S->Prop)->Prop:=FQ PR (runK PR sH rE H 60 60) HN (aR f) [] (rE f) (nI PR f id).body
noncomputable def Gv H HN (hk:FuncId->Nat->List (Nat×El))(f id base:Nat) keep s:=
 Md PR (runK PR sH rE H 60 60) (nI PR f id).ps.toList base keep (OX H HN f id) (Gu H HN f id) hk rE (nI PR f id).g s
noncomputable def y5 H HN (f id base:Nat) keep yt fi CZ y:=
 qaO (eQ PR (runK PR sH rE H 60 60) yt (kR (nI PR f id).ps.toList base keep (OX H HN f id) (Gu H HN f id)) [] (rE fi) (bA PR fi CZ)) (aR fi CZ) y
def LY w0 (f id yt fi CZ:Nat)(h:El):= ∀(B:pn PR) (Ti:Tg),Setup B Ti yt w0 (nI PR f id).ps (nI PR f id).asg (nI PR f id).body-> ∀y ae,h y ae->rD B Ti (.loop (bA PR fi CZ)) y.2 y.1 ae
noncomputable def wJ(f id:Nat):=(aN (nI PR f id).asg).isEmpty&&(aN (nI PR f id).body).isEmpty&&(bW (nI PR f id).asg).isEmpty&&(bW (nI PR f id).body).isEmpty&&cj (rE f) (nI PR f id).asg&&cj (rE f) (nI PR f id).body
theorem JT{X w0}(hX:cz PR w0 X.cf){H HN}(hdr:PR.follows .mixedOrders=true)(hH:HD X H)(nO:OS w0 HN){f id}(xZ:wJ f id=true) val lo s ae (hp:OX H HN f id s ae):
  TW PR ⟨val,w0,lo,false⟩ (nI PR f id).asg s ae:=by
 simp only[wJ,zac] at xZ;exact rC (kp:=Oh X) (T:=⟨val,w0,lo,false⟩) nO.get (Bi hH) hX hdr (kp1:=aR f) _ xZ.1.2 (λd hd=>by rw[zbZ.1 xZ.1.1.1.1.1] at hd;cases hd) (λx hx=>by rw[zbZ.1 xZ.1.1.1.2] at hx;cases hx) _ _ hp
theorem Em{X w0}(hX:cz PR w0 X.cf){H HN}(hdr:PR.follows .mixedOrders=true)(hH:HD X H)(nO:OS w0 HN){f id}(xZ:wJ f id=true) val lo s ae (hp:Gu H HN f id s ae):
  TW PR ⟨val,w0,lo,false⟩ (nI PR f id).body s ae:=by
 simp only[wJ,zac] at xZ;exact rC (kp:=Oh X) (T:=⟨val,w0,lo,false⟩) nO.get (Bi hH) hX hdr (kp1:=aR f) _ xZ.2 (λd hd=>by rw[zbZ.1 xZ.1.1.1.1.2] at hd;cases hd) (λx hx=>by rw[zbZ.1 xZ.1.1.2] at hx;cases hx) _ _ hp
theorem FN.mk{X w0}(hX:cz PR w0 X.cf){H HN}(hdr:PR.follows .mixedOrders=true)(hH:HD X H)(nO:OS w0 HN){f id base keep}(xZ:wJ f id=true){hk}
  (hu: ∀fi yt h CZ,lk (hk fi yt) CZ=some h->uniq PR fi=true/\LY w0 f id yt fi CZ h) {g} (hg: ∀s ae,g s ae->Gv H HN hk f id base keep s ae):FN w0 f id g:=by
 intro val lo s ae hp;refine TW.rangeFunc (kp:=Oh X) (T:=⟨val,w0,lo,true⟩) (Bi hH) hX hdr rfl Q7 (λv l s ae hp=>JT hX hdr hH nO xZ v l s ae hp) (λv l s ae hp=>Em hX hdr hH nO xZ v l s ae hp) ?_ (hg s ae hp);intro fi fn c gC hc d hd yt h hh B Ti hs y ae hp;obtain⟨h1,h2⟩:=hu fi yt h _ hh;have e:bA PR fi (Code.s5 d)=d:=by unfold uniq at h1;rw[gC] at h1;simp only[hc] at h1;unfold bA;rw[gC];simp only[hc,jQ _ (dO _ h1) hd,zca]
 have:=h2 B Ti hs y ae hp;rwa [e] at this
theorem LY.par{X w0}(hX:cz PR w0 X.cf){H HN}(hdr:PR.follows .mixedOrders=true)(hH:HD X H)(nO:OS w0 HN){f id base keep yt fi CZ}(xZ:wJ f id=true)(hc:cj (rE fi) (bA PR fi CZ)=true)(vL:(aN (bA PR fi CZ)).isEmpty=true){g:El}
  {A B:Type} (hd:A->B->S×(PX×S)) (Inv:A->B->Prop) (mu:A->B->Nat) (Out:A->PX×S×(PX×S)->Prop)
  (hr: ∀a b,Inv a b->y5 H HN f id base keep yt fi CZ (hd a b) (Me (mu a b) (λm y=> ∃b',y=hd a b'/\Inv a b'/\m=mu a b') (Out a)))
  (hg: ∀y ae,g y ae-> ∃a b,y=hd a b/\Inv a b/\ ∀x,Out a x->ae x):LY w0 f id yt fi CZ (ij (aR fi CZ) g):=by
 intro Be Ti hs y ae hp;unfold ij at hp;cases hh:cG (aR fi CZ) y.1 with
 |none=>simp only[hh] at hp
 |some s0=>
  simp only[hh] at hp;obtain⟨a,b,h0,h1,h2⟩:=hg (s0,y.2) ae hp;refine rD.mono (rD.loop (keep:=aR fi CZ) (I:=λm s c=> ∃b',(s,c)=hd a b'/\Inv a b'/\m=mu a b') (O:=Out a) (hs.w0i.trans hs.w0b.symm) (λn s c hI=> ?_) hh ⟨b,h0,h1,rfl⟩) h2;obtain⟨b',h3,h4,rfl⟩:=hI;have:=hr a b' h4;rw[<-h3] at this;unfold y5 at this;refine rD.mono (ig (B:=Be) (Ti:=Ti) (kp:=Oh X) (Bi hH) (by rw[hs.w0i];exact hX) hdr (hs.w0i.trans hs.w0b.symm) hs.TK hs.yv hs.lp (asg:=OX H HN f id) (body:=Gu H HN f id) (base:=base) (keep:=keep)
   (λv l s ae hp=>by rw[hs.w0b,hs.asg];exact JT hX hdr hH nO xZ v l s ae hp) (λv l s ae hp=>by rw[hs.w0b,hs.body];exact Em hX hdr hH nO xZ v l s ae hp)
   (bA PR fi CZ) hc (λd hd=>by rw[zbZ.1 vL] at hd;cases hd) (s,c) _ (by rw[hs.ps];exact this)) ?_
  rintro⟨e,s1,c1⟩ hx;cases e with
  |normal=>obtain⟨s2,h4,m,h5,h6⟩:=KW.dU (p:=λs2=>cG (aR fi CZ) s1=some s2) (λ_ h=>h) _ hx;exact⟨s2,h4,m,h5,h6⟩
  |exit i=>obtain⟨s2,h4,h5⟩:=KW.dU (p:=λs2=>dL (aR fi CZ) s1=some s2) (λ_ h=>h) _ hx;exact⟨s2,h4,h5⟩
  |ret=>obtain⟨s2,h4,h5⟩:=KW.dU (p:=λs2=>dL (aR fi CZ) s1=some s2) (λ_ h=>h) _ hx;exact⟨s2,h4,h5⟩
variable{X:XF}
theorem LN.idx{w0}(hX:cz PR w0 X.cf){H HN hk}{f id:Nat}{g}(hdr:PR.follows .mixedOrders=true)(hu:uniq PR f=true)(hc:cj (rE f) (bA PR f id)=true)(hnr:(bW (bA PR f id)).isEmpty=true)(hH:HD X H)(nO:OS w0 HN)(hl:LNs w0 f hk)
  {A B:Type} (hd:A->B->Int->S) (len:A->Nat) (Inv:A->Nat->B->Prop) (Out:A->PX×S->Prop)
  (hr: ∀a b (k:Int) ae,0<=k->k<len a->k.toNat<len a->Inv a k.toNat b->(∀b',Inv a (k.toNat+1) b'->ae (.normal,hd a b' (k+1)))->(∀x,x.1≠ .normal->Out a x->ae x)->cC H HN hk f id (hd a b k) ae)
  (hx: ∀a b (k:Int) ae,k=len a->Inv a (len a) b->(∀x,x.1≠ .normal->Out a x->ae x)->cC H HN hk f id (hd a b k) ae)
  (hg: ∀s ae,g s ae-> ∃a b,s=hd a b 0/\Inv a 0 b/\ ∀x,Out a x->ae x):LN w0 f id (ah (aR f id) g):=
 LN.par hX hdr hu hc hnr hH nO hl (A:=A) (B:=B×Int) (λa b=>hd a b.1 b.2) (λa b=>0<=b.2/\b.2.toNat<=len a/\Inv a b.2.toNat b.1) (λa b=>(len a-b.2).toNat) Out
  (by
   rintro a ⟨b,k⟩ ⟨h1,h2,h3⟩;dsimp only at*
   have bw: ∀x:PX×S,x.1≠ .normal->Out a x->roundPost ((len a-k).toNat) (λm s=> ∃b':B×Int,s=hd a b'.1 b'.2/\(0<=b'.2/\b'.2.toNat<=len a/\Inv a b'.2.toNat b'.1)/\m=(len a-b'.2).toNat) (Out a) x:=by
    rintro⟨e,s⟩ cO hx;cases e with
    |normal=>exact absurd rfl cO
    |exit i=>exact hx
    |ret=>exact hx
   by_cases hk:k<len a
   ·refine hr a b k _ h1 hk (by omega) h3 (λb' hb=> ?_) bw;exact⟨((len a:Int)-(k+1)).toNat,by omega,(b',k+1),rfl,⟨by show 0<=k+1;omega,by show(k+1).toNat<=len a;omega,by show Inv a (k+1).toNat b';rw[show(k+1).toNat=k.toNat+1 by omega];exact hb⟩,rfl⟩
   have e:k=len a:=by omega
   refine hx a b k _ e ?_ bw;have:k.toNat=len a:=by omega
   rwa [this] at h3)
  (by intro s ae hp;obtain⟨a,b,h1,h2,h3⟩:=hg s ae hp;exact⟨a,(b,0),h1,⟨zbF _,by simp,h2⟩,h3⟩)
theorem Bm{α:Type}(lt:α->α->Bool) l a:bT lt (l++[a])=cq lt (bT lt l) a:=by simp[bT]
theorem mj{α:Type}(lt:α->α->Bool) o a:(cq lt o a).length=o.length+1:=by rw[(dI o a).length_eq];simp
theorem oF{α:Type}(lt:α->α->Bool) l:(bT lt l).length=l.length:=(bR l).length_eq
def xM{α:Type}(o:List α) k x y:=(o.set k y).set (k-1) x
theorem RB{α:Type}(o:List α) k x y:(xM o k x y).length=o.length:=by simp[xM]
theorem lq{α:Type}(f:α->D) o k x y:(((o.map f).set k (f y)).set (k-1) (f x))=(xM o k x y).map f:=by simp[xM,zb4]
theorem Wt{α:Type}(pre pI:List α) x y:xM (pre++[y]++x::pI) (pre.length+1) x y=pre++x::(y::pI):=by unfold xM;have e:pre++[y]++x::pI=(pre++[y])++x::pI:=rfl;rw[show(pre++[y]++x::pI).set (pre.length+1) y=pre++[y]++y::pI by rw[zcs _ _ (by simp)];simp];rw[zaK,zcs _ _ (by simp)];simp
variable{X:XF}
theorem LD.ins{H hk}{f id:Nat}{g}(hu:uniq PR f=true)(hc:cj (rE f) (bA PR f id)=true)(hH:HD X H)(hl:U2 X f hk)
  {A α:Type} (hd:A->List α->Int->S) lt (N:A->Nat) (C:A->Prop) (ex:A->List α->PX×S) (cO: ∀a o,(ex a o).1≠ .normal)
  (hr: ∀a o (k:Int) ae,C a->0<=k->o.length=N a->N a<=1000001->(eD:k.toNat<o.length)->(k=0->ae (ex a o))->(0<k->lt o[k.toNat] (o[k.toNat-1]'(by omega))=false->ae (ex a o))->
   (0<k->lt o[k.toNat] (o[k.toNat-1]'(by omega))=true->ae (.normal,hd a (xM o k.toNat o[k.toNat] (o[k.toNat-1]'(by omega))) (k-1)))->aD H hk f id (hd a o k) ae)
  (hg: ∀s ae,g s ae-> ∃a o x k,s=hd a (o++[x]) k/\k=o.length/\C a/\(o.length+1=N a/\o.length<=1000000)/\ae (ex a (cq lt o x))):LD X f id (ah (aR f id) g):=
 LD.par hu hc hH hl (A:=A×List α×α) (B:=List α×List α×Int) (λa b=>hd a.1 (b.1++a.2.2::b.2.1) b.2.2)
  (λa b=>(C a.1/\b.1.length+b.2.1.length+1=N a.1)/\b.2.2=b.1.length/\b.1.length+b.2.1.length<=1000000/\(pC lt a.2.2 b.1.reverse).reverse++b.2.1=cq lt a.2.1 a.2.2) (λ_ b=>b.1.length) (λa x=>x=ex a.1 (cq lt a.2.1 a.2.2))
  (by
   rintro⟨a,o,x⟩ ⟨pre,pI,k⟩ ⟨⟨h1,hN⟩,h2,h3,h4⟩;dsimp only at*
   have bw: ∀y,y=ex a (cq lt o x)->roundPost pre.length (λm s=> ∃b':List α×List α×Int,s=hd a (b'.1++x::b'.2.1) b'.2.2/\((C a/\b'.1.length+b'.2.1.length+1=N a)/\b'.2.2=b'.1.length/\b'.1.length+b'.2.1.length<=1000000/\(pC lt x b'.1.reverse).reverse++b'.2.1=cq lt o x)/\m=b'.1.length) (λy=>y=ex a (cq lt o x)) y:=by
    rintro⟨e,s⟩ he;have hn:=cO a (cq lt o x);rw[<-he] at hn;cases e with
    |normal=>exact absurd rfl hn
    |exit i=>exact he
    |ret=>exact he
   have eD:k.toNat=pre.length:=by omega
   have hlen:(pre++x::pI).length=pre.length+pI.length+1:=by simp;omega
   have hx:(pre++x::pI)[k.toNat]'(by omega)=x:=by simp[eD]
   refine hr a (pre++x::pI) k _ h1 (by omega) (by omega) (by omega) (by omega) (λhz=>bw _ ?_) (λhp bK=>bw _ ?_) λhp bK=> ?_
   ·have:pre=[]:=zaB (by omega);subst this;rw[<-h4];simp[pC]
   ·obtain⟨p,y,rfl⟩: ∃p y,pre=p++[y]:=by
     rcases zcZ pre with h | ⟨p,y,h⟩
     ·subst h;simp at h2;omega
     exact⟨p,y,by simpa using h⟩
    have hy:(p++[y]++x::pI)[k.toNat-1]'(by omega)=y:=by simp[eD]
    rw[hx,hy] at bK;rw[<-h4];simp[pC,bK]
   obtain⟨p,y,rfl⟩: ∃p y,pre=p++[y]:=by
    rcases zcZ pre with h | ⟨p,y,h⟩
    ·subst h;simp at h2;omega
    exact⟨p,y,by simpa using h⟩
   have hy:(p++[y]++x::pI)[k.toNat-1]'(by omega)=y:=by simp[eD]
   have hsw:xM (p++[y]++x::pI) k.toNat x y=p++x::(y::pI):=by rw[eD,zaj];exact Wt p pI x y
   have I2:(p++[y]).length=p.length+1:=by simp
   rw[hx,hy] at bK⊢;refine⟨p.length,by omega,(p,y::pI,k-1),by rw[hsw],⟨⟨h1,by show p.length+(y::pI).length+1=N a;simp only[zao];omega⟩,by show k-1=(p.length:Int);omega,by show p.length+(y::pI).length<=1000000;simp only[zao];omega,?_⟩,rfl⟩;show(pC lt x p.reverse).reverse++y::pI=cq lt o x;rw[<-h4];simp[pC,bK])
  (by intro s ae hp;obtain⟨a,o,x,k,h1,h2,h3,⟨h6,h4⟩,h5⟩:=hg s ae hp;refine⟨(a,o,x),(o,[],k),h1,⟨⟨h3,by simpa using h6⟩,h2,by simpa using h4,by simp[cq]⟩,?_⟩;rintro y rfl;exact h5)
def cr(h:Hd):D:= .agg [iE h.1.1,iE h.1.2,iE h.2.1,iE h.2.2]
abbrev arH(z:Bool)(l:List Hd):Obj:= .arr 143 z (l.map cr)
abbrev yn(z:Bool)(l:List Hd):Obj:= .arr 77 z (l.map cr)
abbrev Bn(l:List Hd):P:= .d (.sl 4 (l.map cr))
abbrev MP(l:List Hd):=kB (l.map (·.1))
abbrev MQ(l:List Hd):=kB (l.map (·.2))
abbrev ehH(l out:List Hd)(f:D->Option D)(c i:Int):S:=⟨50,[(0,MP l),(1,MQ l),(5,.sl 0 0 out.length),(6,.mp 1 0),(14,iD (min (((l.map (·.1)).map bC).length:Int) (((l.map (·.2)).map bC).length:Int))),(15,iD i)],[(0,⟨0,none,arH false out⟩),(1,⟨0,none,mpS f c⟩)]⟩
def Z6i out:=(0,En.mk 0 none (Obj.arr (143:TypeId) false (List.map cr out)))
def iR(out:List Hd):=List.length out
def r5 out:=P.sl 0 0 (iR out)
def y7 l:=List.map bC (List.map (λ(x:Hd)=>Prod.fst x) l)
def Z64 l i:=D.int .i64 (D.aj (D.au (D.nth (y7 l) (Ze i)) 0))
def Wu l i:=D.agg [Z64 l i,D.int .i64 (D.aj (D.au (D.nth (y7 l) (Ze i)) 1))]
def Z6f l i:=D.agg [Z64 l i,D.int .i64 (D.aj (D.au (D.nth (y7 l) (Ze i)) mC))]
def Z6g l i f c:=[(1,En.mk 0 none (Obj.map 27 (λk'=>bif D.gH (Z6f l i) k' then some (D.int .i64 (D.aj (aQ (f (Z6f l i)) Z5)+(1:Int))) else aX (Z6f l i) (aQ (f (Z6f l i)) Z5) f k') (bif Option.isSome (f (Wu l i)) then c else c+(1:Int)) false))]
def MR out:=List.take (iR out) (List.map cr out)
def Gw l:=List.map bC (List.map (λ(x:Hd)=>Prod.snd x) l)
def Z62 l:=min (↑(List.length (y7 l)):Int) (↑(List.length (Gw l)):Int)
def Z6c:=(6,P.mp 1 0)
def Z6d l i:=[Z6c,(14,P.d (D.int .i64 (Z62 l))),(15,Zm i)]
def Z6b l:=(1,P.d (D.sl 2 (Gw l)))
def Z6a l:=(0,P.d (D.sl 2 (y7 l)))
def Z69 l i:=[D.agg [Z64 l i,D.int .i64 (D.aj (D.au (D.nth (y7 l) (Ze i)) 1)),D.int .i64 (D.aj (D.au (D.nth (Gw l) (Ze i)) 0)),D.int .i64 (D.aj (D.au (D.nth (Gw l) (Ze i)) 1))]]
def y8 out:=List.length (List.map cr out)
def Z66 l i f:=aQ (aX (Wu l i) (D.int .i64 (D.aj (aQ (f (Wu l i)) Z5)+(1:Int))) (aX (Wu l i) (aQ (f (Wu l i)) Z5) f) (Wu l i)) Z5
def Z63 i l:=decide ((0:Int)<=i/\i<(↑(List.length (y7 l)):Int))
theorem qeb l out f c i ae:(bif decide (i<Z62 l) then ob (Z63 i l) (ob (bO PR (27:TypeId) (D.nth (y7 l) (Ze i))) (ob (bO PR (3:TypeId) (aQ (f (Wu l i)) Z5)) (ob (decide (Z7<=D.aj (aQ (f (Wu l i)) Z5)+(1:Int)/\D.aj (aQ (f (Wu l i)) Z5)+(1:Int)<=Z8)) (ob (Z63 i l) (ob (bO PR (27:TypeId) (D.nth (y7 l) (Ze i))) (ob (bO PR (3:TypeId) (Z66 l i f)) (bif D.aj (Z66 l i f)==(1:Int) then ob (Z63 i l) (ob (bO PR (27:TypeId) (D.nth (y7 l) (Ze i))) (ob (decide ((0:Int)<=i/\i<(↑(List.length (Gw l)):Int))) (ob (bO PR (27:TypeId) (D.nth (Gw l) (Ze i))) (ob (Nat.ble (iR out) (y8 out)&&aG (iR out+List.length (Z69 l i)) 32) (ob (Zh i) (ae (PX.normal,S.mk 50 (Z6a l::Z6b l::(5,P.sl 0 0 (iR out+List.length (Z69 l i)))::Z6d l i) ((0,En.mk 0 none (Obj.arr (143:TypeId) false (MR out++Z69 l i)))::Z6g l i f c)))))))) else ob (Zh i) (ae (PX.normal,S.mk 50 (Z6a l::Z6b l::(5,r5 out)::Z6d l i) (Z6i out::Z6g l i f c)))))))))) else ae (PX.exit 0,S.mk 50 [(5,r5 out)] [Z6i out]))=(aD [] [] 72 3 (ehH l out f c i)) ae:=by kernel_rfl
def gEh:S->K (PX×S):=λst ae=> ∃l,st=ehH l [] (λ_=>none) 0 0/\l.length<=1000000/\ ∀m,m=r3 l->ae (.exit 0,⟨50,[(5,.sl 0 0 m.length)],[(0,⟨0,none,arH false m⟩)]⟩)
def qnK:a8:=λps R ae=> ∃a b,ps=[.d (cr a),.d (cr b)]/\R=[]/\ae (iD (uS a.1.1 a.1.2 b.1.1 b.1.2),[])
def Z6j(a:Hd):=P.d (D.agg [D.int .i64 (Prod.fst (Prod.fst a)),D.int .i64 (Prod.snd (Prod.fst a))])
theorem qjL a b ae:(∃t r t' r',[Z6j a,Z6j b]=Rl t r t' r'/\Zx/\ae (P.d (D.int .i64 (uS t r t' r')),[]))=(aI [(69,Jp)] [] 119 [.d (cr a),.d (cr b)] []) ae:=by kernel_rfl
def Wv:=Gs 119 143 cr (λh:Hd=>h.1) (λa b=>kA a b)
def Z6n l:=[(0,En.mk 0 (some 0) (Obj.arr (143:TypeId) false (List.map cr l)))]
def wK av:=iR av<=1000000
def Z6k:=En.mk 0 none (Obj.map 27 (λ_=>none) (0:Int) false)
def Z6l av:=S.mk 50 [Z6a av,Z6b av,(5,ZN),Z6c,(14,P.d (D.int .i64 (Z62 av))),(15,P.d Z5)] [(0,En.mk 0 none (Obj.arr (143:TypeId) false [])),(1,Z6k)]
theorem qnL l ae:(∃av,Z6l l=Z6l av/\wK av/\ ∀m,m=r3 av-> ∃l,[r5 m,P.fn (119:FuncId) []]=[r5 l,P.fn (119:FuncId) []]/\Z6n m=Z6n l/\wK l/\ ∀l',List.Perm l' l->List.Pairwise (λ(a b:Hd)=>kA (Prod.fst b) (Prod.fst a)=false) l'->ae (r5 m,[Z6i l']))=(aI [(118,Wv)] [(3,ah (aR 72 3) gEh)] 72 [MP l,MQ l] []) ae:=by kernel_rfl
def Ww:a8:=λps R ae=> ∃l,ps=[MP l,MQ l]/\R=[]/\l.length<=1000000/\ ∀m,m=oE l->ae (.sl 0 0 m.length,[(0,⟨0,none,arH false m⟩)])
abbrev qgL(l out:List Hd)(had:Bool)(i k:Int):S:=⟨80,[(0,Bn l),(3,.sl 0 0 out.length),(4,iD i),(5,.d (.bool had)),(6,iD k)],[(0,⟨0,none,yn false out⟩)]⟩
def yo out k:=D.nth (List.map cr out) (Ze k)
noncomputable def Eo out k:=bO PR (77:TypeId) (yo out k)
def K2 k out:=decide (Ze k<y8 out)
def K3 k out:=decide ((0:Int)<=k/\k<(↑(iR out):Int))
def JU out:=En.mk 0 none (Obj.arr (77:TypeId) false (List.map cr out))
def B8 out:=(0,JU out)
def yp out:=[B8 out]
def sQ out:=(3,r5 out)
def Gx l:=(0,P.d (D.sl 4 (List.map cr l)))
def Z6o k out:=decide (k<(↑(iR out):Int))
theorem Wx l out had i k ae:(bif Z6o k out then bif had then ob (Zh k) (ae (PX.normal,S.mk 80 (Gx l::sQ out::oR i::(5,ZL)::ZA k) (yp out))) else ob (K3 k out) (ob (K2 k out) (ob (Eo out k) (ob (decide ((0:Int)<=i/\i<(↑(y8 l):Int))) (ob (Eo l i) (ob (Zh k) (ae (PX.normal,S.mk 80 (Gx l::sQ out::oR i::(5,P.d (D.bool (D.aj (D.au (yo out k) 0)==D.aj (D.au (yo l i) 0)&&(D.aj (D.au (yo out k) 1)==D.aj (D.au (yo l i) 1)&&true))))::ZA k) (yp out)))))))) else ae (PX.exit 2,S.mk 80 [Gx l,sQ out,oR i,(5,fk had)] (yp out)))=(aD [] [] 27 7 (qgL l out had i k)) ae:=by kernel_rfl
abbrev qnM(l out:List Hd)(i k:Int):S:=⟨80,[(0,Bn l),(3,.sl 0 0 out.length),(4,iD i),(7,iD k)],[(0,⟨0,none,yn false out⟩)]⟩
def Z6A out k:=[D.int .i64 (D.aj (D.au (yo out k) 0)),D.int .i64 (D.aj (D.au (yo out k) 1)),D.int .i64 (D.aj (D.au (yo out k) 2)),D.int .i64 (D.aj (D.au (yo out k) 3))]
def Z6z out k:=D.nth (List.map cr out) (Za k)
def Z6B out k:=List.set (List.map cr out) (Ze k) (D.aT (D.agg (Z6A out k)) [D.int .i64 (D.aj (D.au (Z6z out k) 0)),D.int .i64 (D.aj (D.au (Z6z out k) 1)),D.int .i64 (D.aj (D.au (Z6z out k) 2)),D.int .i64 (D.aj (D.au (Z6z out k) 3))])
def Z6C out k:=D.agg [D.int .i64 (D.aj (D.au (yo out k) 0)),D.int .i64 (D.aj (D.au (yo out k) 1))]
def Z6y k out:=decide ((0:Int)<=k-(1:Int)/\k-(1:Int)<(↑(iR out):Int))
theorem qgM l out i k ae:(bif Zr k then ob (Z9 k) (ob (Z6y k out) (ob (decide (Za k<y8 out)) (ob (bO PR (77:TypeId) (Z6z out k)) (ob (K3 k out) (ob (K2 k out) (ob (Eo out k) (∃a b,[P.d (D.agg [D.int .i64 (D.aj (D.au (Z6z out k) 0)),D.int .i64 (D.aj (D.au (Z6z out k) 1))]),P.d (Z6C out k)]=P.d (D.agg [ni a,nf a])::oQ b/\Zx/\ ∀r,r=kA a b->bif r then ob (Z9 k) (ob (Z9 k) (ob (Z6y k out) (ob (decide (Za k<y8 out)) (ob (bO PR (77:TypeId) (Z6z out k)) (ob (K3 k out) (ob (K2 k out) (ob (Eo out k) (ob (K3 k out) (ob (K2 k out) (ob (Eo out k) (ob (Z6y k out) (ob (decide (Za k<List.length (Z6B out k))) (ob (bO PR (77:TypeId) (D.nth (Z6B out k) (Za k))) (ob (Z9 k) (ae (PX.normal,S.mk 80 [Gx l,sQ out,oR i,(7,Zs k)] [(0,En.mk 0 none (Obj.arr (77:TypeId) false (List.set (Z6B out k) (Za k) (D.aT (D.agg [D.int .i64 (D.aj (D.au (D.nth (Z6B out k) (Za k)) 0)),D.int .i64 (D.aj (D.au (D.nth (Z6B out k) (Za k)) 1)),D.int .i64 (D.aj (D.au (D.nth (Z6B out k) (Za k)) 2)),D.int .i64 (D.aj (D.au (D.nth (Z6B out k) (Za k)) 3))]) (Z6A out k)))))])))))))))))))))) else ae (PX.exit 4,S.mk 80 (Gx l::sQ out::CX i) (yp out))))))))) else ae (PX.exit 4,S.mk 80 (Gx l::sQ out::CX i) (yp out)))=(aD [(53,Ec)] [] 27 13 (qnM l out i k)) ae:=by kernel_rfl
abbrev Wy(l out:List Hd)(i:Int):S:=⟨80,[(0,Bn l),(3,.sl 0 0 out.length),(4,iD i)],[(0,⟨0,none,yn false out⟩)]⟩
abbrev qbY(l:List ar)(out:List Hd)(i:Int):S:=⟨26,[(0,dw l),(3,.sl 0 0 out.length),(4,iD i)],[(0,⟨0,none,yn false out⟩)]⟩
def Z6D l i:=[D.int .i64 (D.aj (D.au (ln l i) 4)),D.int .i64 (D.aj (D.au (ln l i) 5))]
def Z6E out l i:=iR out+List.length [D.agg (Bk l i::Bj l i::Z6D l i)]
theorem Wz l out i ae:(bif Bl i l then ob (qn i l) (ob (iY l i) (ob (qn i l) (ob (iY l i) (ob (Nat.ble (iR out) (y8 out)&&aG (Z6E out l i) 32) (ob (Zh i) (ae (PX.normal,S.mk 26 (gl l::(3,P.sl 0 0 (Z6E out l i))::wH i) [(0,En.mk 0 none (Obj.arr (77:TypeId) false (MR out++[D.agg (Bk l i::Bj l i::Z6D l i)])))]))))))) else ae (PX.exit 0,S.mk 26 [sQ out] (yp out)))=(aD [] [] 18 3 (qbY l out i)) ae:=by kernel_rfl
theorem qnN h:bO PR 143 (cr h)=true:=by kernel_rfl
theorem wM h:bO PR 77 (cr h)=true:=by kernel_rfl
def C0(U:List aF)(o:List Hd):= ∀x,x∈U↔(o.any λy=>y.1==x)=true
theorem C0.nil:C0 [] []:=λx=>by simp
theorem C0.had{U o x}(h:C0 U o)(hx:x∈U):C0 (x::U) o:=λy=>by
 rw[zat,h y];constructor
 ·rintro(rfl |h2)
  ·exact(h _).1 hx
  exact h2
 exact .inr
theorem C0.new{U o g}(h:C0 U o):C0 (g.1::U) (o++[g]):=λy=>by
 rw[zat,h y,zck,za8];simp only[zdd,zdo,zbW,za1];constructor
 ·rintro(rfl |h2)
  ·exact .inr rfl
  exact .inl h2
 rintro(h2 |rfl)
 ·exact .inr h2
 exact .inl rfl
theorem JV{l:List Hd}{i}(h:i<l.length):r3 (l.take (i+1))=K0 (r3 (l.take i)) l[i]:=by rw[zaf h];unfold r3;rw[zaY];rfl
theorem OY{o h}(hx:(o.any λx=>x.1==h.1)=true):K0 o h=o:=by unfold K0;rw[zap hx]
theorem OZ{o h}(hx:(o.any λx=>x.1==h.1)=false):K0 o h=o++[h]:=by unfold K0;rw[zan (by rw[hx];simp)]
theorem qjM:FC 119 qnK:=FC.mk (by kernel_rfl) (.cons qd1 .nil) (by
 intro ps R ae hh;obtain⟨a,b,rfl,rfl,hp⟩:=hh
 (rw[<-qjL];delta Zx Zt ZE Rl Z6j)
 exact⟨_,_,_,_,rfl,rfl,hp⟩)
def qnO:D->Hd
 | .agg [.int .i64 a,.int .i64 b,.int .i64 c,.int .i64 d]=>((a,b),(c,d))
 |_=>((0,0),(0,0))
section
variable{X:XF}
theorem qbZ:FD X 118 Wv:=Gt (dec:=qnO) (c:=λa b=>uS a.1.1 a.1.2 b.1.1 b.1.2)
 (λcf=>FD.rZ Tryz.func118 (by kernel_rfl) (by kernel_rfl) λps R ae h=>lW (iP h)) (λ_=>rfl) mg (λx y=>(OJ x.1 y.1).lt) (λ_=>⟨_,rfl⟩)
 (λx y=>FC.Vy qjM ⟨x,y,rfl,rfl,rfl⟩) ⟨_,Tryz.func119,by kernel_rfl,by kernel_rfl⟩
theorem qgN:LD X 72 3 (ah (aR 72 3) gEh):=LD.idx (by kernel_rfl) (by kernel_rfl) .nil .nil
 (A:=List Hd) (B:=List Hd×List aF×Int) (λl b i=>ehH l b.1 (cM b.2.1) b.2.2 i) (λl=>l.length) (λl i b=>l.length<=1000000/\b.1=r3 (l.take i)/\C0 b.2.1 b.1/\b.2.1.length<=i)
 (λl x=>x=(.exit 0,⟨50,[(5,.sl 0 0 (r3 l).length)],[(0,⟨0,none,arH false (r3 l)⟩)]⟩))
 (by
  rintro l ⟨o,U,c⟩ i ae h0 bJ bs ⟨qJ,rfl,hU,SP⟩ hn ho;dsimp only at*
  (rw[<-qeb];delta Z6i iR r5 Ze y7 Z64 Wu Z5 mC Z6f Z6g MR Zl Zm Gw Z62 Z6c Z6d Z6b Z6a Z8 Z7 Zh Z69 y8 Z66 Z63)
  have e1:D.nth ((l.map (·.1)).map bC) i.toNat=bC l[i.toNat].1:=by rw[az _ _ _ (by simpa using bs)];simp
  have e2:D.nth ((l.map (·.2)).map bC) i.toNat=bC l[i.toNat].2:=by rw[az _ _ _ (by simpa using bs)];simp
  rw[e1,e2];simp only[ehH,zaa] at hn⊢;have yl:=JV bs;have jT:=rI (l.take i.toNat);rw[zau] at jT;generalize l[i.toNat]=g at yl;have v1: ∀n:Int,D.aj (iE n)=n:=λ_=>rfl;have t1:D.agg [D.int .i64 (D.aj (D.au (bC g.1) 0)),D.int .i64 (D.aj (D.au (bC g.1) 1))]=bC g.1:=rfl;have t2:D.agg [D.int .i64 (D.aj (D.au (bC g.1) 0)),D.int .i64 (D.aj (D.au (bC g.1) 1)),D.int .i64 (D.aj (D.au (bC g.2) 0)),D.int .i64 (D.aj (D.au (bC g.2) 1))]=cr g:=rfl;have g0:aQ (cM U (bC g.1)) (.int .i64 0)=iE (U.count g.1:Int):=wI U g.1;have Hj:=zb9 (a:=g.1) (l:=U);have u2:=λz=>OU U g.1 z;have u3:=λz=>MO U g.1 z;have g1:aQ (cM (g.1::U) (bC g.1)) (.int .i64 0)= .int .i64 ((U.count g.1:Int)+1):=by have:=wI (g.1::U) g.1;rw[zbP] at this;exact this
  have CD:(U.count g.1:Int)=0↔ ¬g.1∈U:=by rw[<-zde];omega
  have hcb:0<=(U.count g.1:Int)/\(U.count g.1:Int)<=1000000:=by omega
  generalize (U.count g.1:Int)=cn at g0 u2 u3 g1 CD hcb;rw[t1,g0];simp only[v1];refine bF (by omega) (ak ⟨h0,bJ⟩ (aq (iO _) (aq (JS _) (ak (by omega) ?_))));rw[u2,g1,u3];refine ak ⟨h0,bJ⟩ (aq (iO _) (aq (JS _) ?_));simp only[v1,zao,zav,zaD];refine JP (λh2=> ?_) λh2=>ak (by omega) (hn (r3 (l.take i.toNat),g.1::U,_) ⟨qJ,?_,hU.had ?_,zcb SP⟩)
  ·refine ak ⟨h0,bJ⟩ (aq (iO _) (ak ⟨h0,bJ⟩ (aq (iO _) (aq ?_ (ak (by omega) ?_)))))
   ·rw[zac];exact⟨by simp,cH (by omega) (by omega)⟩
   have CK:((r3 (l.take i.toNat)).any λx=>x.1==g.1)=false:=by rw[<-za6,<-hU g.1];exact CD.1 (by omega)
   have:=λc':Int=>hn (r3 (l.take i.toNat)++[g],g.1::U,c') ⟨qJ,by rw[yl,OZ CK],hU.new,zcb SP⟩;rw[t2,b7];simp only[zaj,zao,zav,zaD] at this;exact this _
  ·have hx:g.1∈U:=zaZ λh=>by have:=CD.2 h;omega
   rw[yl,OY ((hU g.1).1 hx)]
  exact zaZ λh=>by have:=CD.2 h;omega)
 (by
  rintro l ⟨o,U,c⟩ i ae hi ⟨qJ,rfl,hU,SP⟩ ho;dsimp only at*
  (rw[<-qeb];delta Z6i iR r5 Ze y7 Z64 Wu Z5 mC Z6f Z6g MR Zl Zm Gw Z62 Z6c Z6d Z6b Z6a Z8 Z7 Zh Z69 y8 Z66 Z63)
  simp only[zaa];refine dY (λh=>by omega) λh=>ho _ (λh=>by cases h) ?_;rw[zai])
 (by rintro s ae ⟨l,rfl,hs,hp⟩;refine⟨l,([],[],0),by rw[MN],⟨hs,rfl,C0.nil,by simp⟩,?_⟩;rintro x rfl;exact hp _ rfl)
theorem qb0:FD X 72 Ww:=FD.mk (by kernel_rfl) (.cons qbZ .nil) (.cons qgN .nil) (by
 intro ps R ae hh;obtain⟨l,rfl,rfl,hs,hp⟩:=hh
 (rw[<-qnL];delta Z6i Z6n iR r5 wK Z6k Z5 Gw y7 Z62 Z6c ZN Z6b Z6a Z6l)
 have hdl:=rI l;refine⟨l,rfl,hs,λm hm=>⟨m,rfl,rfl,by rw[hm];omega,λl' Ep hpw=> ?_⟩⟩;subst hm;have e:=OR Ep hpw;rw[<-Ep.length_eq,e];exact hp _ rfl)
end
abbrev fBk:=117
abbrev bkI(hs:List Hd)(i:Int):S:=⟨19,[(0,.mp 0 0),(1,.ref 1 0 0),(3,iD i)],[(0,⟨0,some 1,.eJ⟩),(1,⟨0,some 0,.box 141 [.d (.sl 4 (hs.map cr))]⟩)]⟩
abbrev bkE(hs:List Hd):S:=⟨19,[(0,.mp 0 0),(1,.ref 1 0 0)],[(0,⟨0,some 1,.eJ⟩),(1,⟨0,some 0,.box 141 [.d (.sl 4 (hs.map cr))]⟩)]⟩
abbrev onC(out:List aF)(n:Nat)(f:D->Option D)(c:Int):S:=
 ⟨37,[(5,.ref 0 0 0),(6,.ref 2 0 0)],[(0,⟨0,none,.box 36 [.sl 1 0 n]⟩),(1,⟨0,none,.arr 27 false (out.map bC)⟩),(2,⟨0,none,.box 100 [.mp 3 0]⟩),(3,⟨0,none,mpS f c⟩)]⟩
abbrev qb1:=some ([5,6],[5,6])
theorem qb2 hs out (n:Nat) f c i ae:(bif decide (i>=(0:Int)) then bif decide ((0:Int)<=i/\i<(↑(List.length (List.map cr hs)):Int)) then bif bO PR 143 (D.nth (List.map cr hs) (Int.toNat i)) then bif bO PR 3 (aQ (f (D.agg [D.int IntKind.i64 (D.aj (D.au (D.nth (List.map cr hs) (Int.toNat i)) 0)),D.int IntKind.i64 (D.aj (D.au (D.nth (List.map cr hs) (Int.toNat i)) 1))])) (D.int IntKind.i64 (0:Int))) then bif decide (D.aj (aQ (f (D.agg [D.int IntKind.i64 (D.aj (D.au (D.nth (List.map cr hs) (Int.toNat i)) 0)),D.int IntKind.i64 (D.aj (D.au (D.nth (List.map cr hs) (Int.toNat i)) 1))])) (D.int IntKind.i64 (0:Int)))>(0:Int)) then bif decide ((-9223372036854775808:Int)<=i-(1:Int)/\i-(1:Int)<=(9223372036854775807:Int)) then ae (PX.normal,S.mk 19 [(0,P.mp 0 0),(1,P.ref 1 0 0),(3,P.d (D.int IntKind.i64 (i-(1:Int))))] [(0,En.mk 0 (some 1) Obj.eJ),(1,En.mk 0 (some 0) (Obj.box 141 [P.d (D.sl 4 (List.map cr hs))]))],PX.normal,S.mk 37 [(5,P.ref 0 0 0),(6,P.ref 2 0 0)] [(0,En.mk 0 none (Obj.box 36 [P.sl 1 0 n])),(1,En.mk 0 none (Obj.arr 27 false (List.map bC out))),(2,En.mk 0 none (Obj.box 100 [P.mp 3 0])),(3,En.mk 0 none (Obj.map 27 f c false))]) else False else bif Nat.ble n (List.length (List.map bC out))&&aG (n+List.length [D.agg [D.int IntKind.i64 (D.aj (D.au (D.nth (List.map cr hs) (Int.toNat i)) 0)),D.int IntKind.i64 (D.aj (D.au (D.nth (List.map cr hs) (Int.toNat i)) 1))]]) 16 then bif bO PR 3 (aQ (f (D.agg [D.int IntKind.i64 (D.aj (D.au (D.nth (List.map cr hs) (Int.toNat i)) 2)),D.int IntKind.i64 (D.aj (D.au (D.nth (List.map cr hs) (Int.toNat i)) 3))])) (D.int IntKind.i64 (0:Int))) then bif decide ((-9223372036854775808:Int)<=D.aj (aQ (f (D.agg [D.int IntKind.i64 (D.aj (D.au (D.nth (List.map cr hs) (Int.toNat i)) 2)),D.int IntKind.i64 (D.aj (D.au (D.nth (List.map cr hs) (Int.toNat i)) 3))])) (D.int IntKind.i64 (0:Int)))+(1:Int)/\D.aj (aQ (f (D.agg [D.int IntKind.i64 (D.aj (D.au (D.nth (List.map cr hs) (Int.toNat i)) 2)),D.int IntKind.i64 (D.aj (D.au (D.nth (List.map cr hs) (Int.toNat i)) 3))])) (D.int IntKind.i64 (0:Int)))+(1:Int)<=(9223372036854775807:Int)) then bif decide ((-9223372036854775808:Int)<=i-(1:Int)/\i-(1:Int)<=(9223372036854775807:Int)) then ae (PX.normal,S.mk 19 [(0,P.mp 0 0),(1,P.ref 1 0 0),(3,P.d (D.int IntKind.i64 (i-(1:Int))))] [(0,En.mk 0 (some 1) Obj.eJ),(1,En.mk 0 (some 0) (Obj.box 141 [P.d (D.sl 4 (List.map cr hs))]))],PX.normal,S.mk 37 [(5,P.ref 0 0 0),(6,P.ref 2 0 0)] [(0,En.mk 0 none (Obj.box 36 [P.sl 1 0 (n+List.length [D.agg [D.int IntKind.i64 (D.aj (D.au (D.nth (List.map cr hs) (Int.toNat i)) 0)),D.int IntKind.i64 (D.aj (D.au (D.nth (List.map cr hs) (Int.toNat i)) 1))]])])),(1,En.mk 0 none (Obj.arr 27 false (List.take n (List.map bC out)++[D.agg [D.int IntKind.i64 (D.aj (D.au (D.nth (List.map cr hs) (Int.toNat i)) 0)),D.int IntKind.i64 (D.aj (D.au (D.nth (List.map cr hs) (Int.toNat i)) 1))]]))),(2,En.mk 0 none (Obj.box 100 [P.mp 3 0])),(3,En.mk 0 none (Obj.map 27 (λk'=>bif D.gH (D.agg [D.int IntKind.i64 (D.aj (D.au (D.nth (List.map cr hs) (Int.toNat i)) (0+1+1))),D.int IntKind.i64 (D.aj (D.au (D.nth (List.map cr hs) (Int.toNat i)) (0+1+1+1)))]) k' then some (D.int IntKind.i64 (D.aj (aQ (f (D.agg [D.int IntKind.i64 (D.aj (D.au (D.nth (List.map cr hs) (Int.toNat i)) (0+1+1))),D.int IntKind.i64 (D.aj (D.au (D.nth (List.map cr hs) (Int.toNat i)) (0+1+1+1)))])) (D.int IntKind.i64 (0:Int)))+(1:Int))) else aX (D.agg [D.int IntKind.i64 (D.aj (D.au (D.nth (List.map cr hs) (Int.toNat i)) (0+1+1))),D.int IntKind.i64 (D.aj (D.au (D.nth (List.map cr hs) (Int.toNat i)) (0+1+1+1)))]) (aQ (f (D.agg [D.int IntKind.i64 (D.aj (D.au (D.nth (List.map cr hs) (Int.toNat i)) (0+1+1))),D.int IntKind.i64 (D.aj (D.au (D.nth (List.map cr hs) (Int.toNat i)) (0+1+1+1)))])) (D.int IntKind.i64 (0:Int))) f k') (bif Option.isSome (f (D.agg [D.int IntKind.i64 (D.aj (D.au (D.nth (List.map cr hs) (Int.toNat i)) 2)),D.int IntKind.i64 (D.aj (D.au (D.nth (List.map cr hs) (Int.toNat i)) 3))])) then c else c+(1:Int)) false))]) else False else False else False else False else False else False else False else ae (PX.exit 0,S.mk 19 [(0,P.mp 0 0),(1,P.ref 1 0 0)] [(0,En.mk 0 (some 1) Obj.eJ),(1,En.mk 0 (some 0) (Obj.box 141 [P.d (D.sl 4 (List.map cr hs))]))],PX.normal,S.mk 37 [(5,P.ref 0 0 0),(6,P.ref 2 0 0)] [(0,En.mk 0 none (Obj.box 36 [P.sl 1 0 n])),(1,En.mk 0 none (Obj.arr 27 false (List.map bC out))),(2,En.mk 0 none (Obj.box 100 [P.mp 3 0])),(3,En.mk 0 none (Obj.map 27 f c false))]))=(y5 [] [] 44 4 2000000 qb1 1 fBk 1 (bkI hs i,(.normal,onC out n f c))) ae:=by kernel_rfl
def Er(l:List Hd):=yZ l.reverse []
theorem WA h l:Er (h::l)=yY (Er l) h:=by simp[Er,yZ]
theorem O0 l:(Er l).length<=l.length:=by simpa [Er] using u9 l.reverse []
theorem qjN l:Ei l=((Er (oE l)).map (·.1)).reverse:=rfl
def jU(l:List Hd):=(l.map (·.2)).reverse
theorem WB l:(jU l).length=l.length:=by simp[jU]
theorem RC l h:jU (l++[h])=h.2::jU l:=by simp[jU]
theorem WC l x:x∈jU l↔(l.any λy=>y.2==x)=true:=by simp[jU,za3]
def gOn:El:=λy ae=> ∃hs:List Hd,hs.length<=1000000/\(∃i:Int,i=(hs.length:Int)-1/\y=(bkI hs i,(.normal,onC [] 0 (λ_=>none) 0)))/\
 ∀c o f,o=Er hs->f=cM (jU o)->ae (.exit 0,bkE hs,(.normal,onC (o.map (·.1)) o.length f c))
section
variable{X:XF}{w0:World}(hX:cz PR w0 X.cf)
include hX
theorem qnP:LY w0 44 4 1 fBk 1 (ij (aR fBk 1) gOn):=LY.par hX (base:=2000000) (keep:=qb1) Wr .nil .nil (by kernel_rfl) (by kernel_rfl) (by kernel_rfl)
 (A:=List Hd) (B:=Nat×Int×Int)
 (λhs b=>(bkI hs b.2.1,(.normal,onC ((Er (hs.drop b.1)).map (·.1)) (Er (hs.drop b.1)).length (cM (jU (Er (hs.drop b.1)))) b.2.2)))
 (λhs b=>hs.length<=1000000/\b.1<=hs.length/\b.2.1=(b.1:Int)-1)
 (λ_ b=>b.1)
 (λhs x=> ∃c,x=(.exit 0,bkE hs,(.normal,onC ((Er hs).map (·.1)) (Er hs).length (cM (jU (Er hs))) c)))
 (by
  rintro hs ⟨k,i,c⟩ ⟨hm,hk,hi⟩;dsimp only at*
  rw[<-qb2];cases k with
  |zero=>refine mD (by omega) ?_;exact⟨c,rfl⟩
  |succ k=>
   have bK:k<hs.length:=by omega
   have hik:i.toNat=k:=by omega
   have hl:=O0 (hs.drop (k+1));have hd:hs.drop k=hs[k]::hs.drop (k+1):=za5 bK;have hdl:(hs.drop (k+1)).length<=1000000:=by simp;omega
   have e1:D.nth (hs.map cr) i.toNat=cr hs[k]:=by rw[hik];exact az _ _ _ bK
   rw[e1];have ho:Er (hs.drop k)=yY (Er (hs.drop (k+1))) hs[k]:=by rw[hd,WA]
   generalize hs[k]=h at ho;generalize Er (hs.drop (k+1))=on at ho hl;have v1: ∀n:Int,D.aj (iE n)=n:=λ_=>rfl;have t1:D.agg [D.int .i64 (D.aj (D.au (cr h) 0)),D.int .i64 (D.aj (D.au (cr h) 1))]=bC h.1:=rfl;have t2:D.agg [D.int .i64 (D.aj (D.au (cr h) 2)),D.int .i64 (D.aj (D.au (cr h) 3))]=bC h.2:=rfl;have g0:aQ (cM (jU on) (bC h.1)) (.int .i64 0)=iE ((jU on).count h.1:Int):=wI _ _;have g2:aQ (cM (jU on) (bC h.2)) (.int .i64 0)=iE ((jU on).count h.2:Int):=wI _ _;have u3:=λz=>MO (jU on) h.2 z;have CD:(jU on).count h.1>0↔(on.any λy=>y.2==h.1)=true:=by rw[<-WC];exact List.count_pos_iff
   have c1:=zb9 (a:=h.1) (l:=jU on);have c2:=zb9 (a:=h.2) (l:=jU on);rw[WB] at c1 c2;have qgO:((jU on).count h.1:Int)>0↔(on.any λy=>y.2==h.1)=true:=by rw[<-CD];omega
   have hcb:0<=((jU on).count h.2:Int)/\((jU on).count h.2:Int)<=1000000:=by omega
   rw[t1,t2,g0,g2,zaa];generalize ((jU on).count h.1:Int)=n1 at qgO⊢;generalize ((jU on).count h.2:Int)=n2 at u3 hcb⊢;simp only[v1,zao,zav,zaD];refine bF (by omega) (ak ⟨by omega,by omega⟩ (aq (qnN _) (aq (JS _) (dY (λhu=>ak (by omega) ?_) λhu=>aq ?_ (aq (JS _) (ak (by omega) (ak (by omega) ?_)))))))
   ·refine⟨k,zcR k,(k,i-1,c),?_,⟨hm,by show k<=hs.length;omega,by show i-1=(k:Int)-1;omega⟩,rfl⟩;rw[ho,yY,zap (qgO.1 hu)]
   ·rw[zac];exact⟨by simp,cH (by omega) (by omega)⟩
   rw[u3];refine⟨k,zcR k,(k,i-1,bif (cM (jU on) (bC h.2)).isSome then c else c+1),?_,⟨hm,by show k<=hs.length;omega,by show i-1=(k:Int)-1;omega⟩,rfl⟩;dsimp only;have e:List.take on.length ((on.map (·.1)).map bC)++[bC h.1]=(on.map (·.1)++[h.1]).map bC:=by rw[zak (by simp),zaC];rfl
   rw[e,ho,yY,zan (λh=>hu (qgO.2 h)),RC,zaj,show(on++[h]).map (λx:Hd=>x.1)=on.map (·.1)++[h.1] from zaC];rfl)
 (by
  rintro y ae ⟨hs,h1,⟨i,hi,rfl⟩,h2⟩;refine⟨hs,(hs.length,i,0),?_,⟨h1,zal _,hi⟩,?_⟩
  ·dsimp only;rw[zct,show jU (Er [])=[] from rfl,MN];rfl
  rintro x ⟨c,rfl⟩;exact h2 c _ _ rfl rfl)
end
abbrev onA(l m:List Hd):S:=⟨37,[(0,MP l),(1,MQ l),(4,.sl 1004 0 0),(5,.ref 1005 0 0),(6,.ref 1006 0 0),(9,.sl 1009 0 0),(10,.mp 1010 0),(11,MP l),(12,MQ l),(13,.sl 1013000 0 m.length),(14,.fn fBk [.ref 1014000 0 0])],
 [(1004,⟨0,none,.arr 27 false []⟩),(1005,⟨0,none,.box 36 [.sl 1009 0 0]⟩),(1006,⟨0,none,.box 100 [.mp 1010 0]⟩),(1009,⟨0,none,.arr 27 false []⟩),(1010,⟨0,none,.map 27 (λ_=>none) 0 false⟩),(1005000,⟨0,none,.arr 27 false []⟩),(1013000,⟨0,none,arH true m⟩),(1014000,⟨0,none,.box 141 [.d (.sl 4 (List.take m.length (m.map cr)))]⟩)]⟩
theorem qb3 l m ae:(bif decide ((-9223372036854775808:Int)<=(↑(List.length (List.take (List.length m) (List.map cr m))):Int)-(1:Int)/\(↑(List.length (List.take (List.length m) (List.map cr m))):Int)-(1:Int)<=(9223372036854775807:Int)) then∃hs,List.length hs<=1000000/\(∃i,i=(↑(List.length hs):Int)-(1:Int)/\(S.mk 19 [(0,P.mp 0 0),(1,P.ref 1 0 0),(3,P.d (D.int IntKind.i64 ((↑(List.length (List.take (List.length m) (List.map cr m))):Int)-(1:Int))))] [(0,En.mk 0 (some 1) Obj.eJ),(1,En.mk 0 (some 0) (Obj.box 141 [P.d (D.sl 4 (List.take (List.length m) (List.map cr m)))]))],PX.normal,S.mk 37 [(5,P.ref 0 0 0),(6,P.ref 2 0 0)] [(0,En.mk 0 none (Obj.box 36 [P.sl 1 0 0])),(1,En.mk 0 none (Obj.arr 27 false [])),(2,En.mk 0 none (Obj.box 100 [P.mp 3 0])),(3,En.mk 0 none (Obj.map 27 (λ_=>none) (0:Int) false))])=(S.mk 19 [(0,P.mp 0 0),(1,P.ref 1 0 0),(3,P.d (D.int IntKind.i64 i))] [(0,En.mk 0 (some 1) Obj.eJ),(1,En.mk 0 (some 0) (Obj.box 141 [P.d (D.sl 4 (List.map cr hs))]))],PX.normal,S.mk 37 [(5,P.ref 0 0 0),(6,P.ref 2 0 0)] [(0,En.mk 0 none (Obj.box 36 [P.sl 1 0 0])),(1,En.mk 0 none (Obj.arr 27 false [])),(2,En.mk 0 none (Obj.box 100 [P.mp 3 0])),(3,En.mk 0 none (Obj.map 27 (λ_=>none) (0:Int) false))]))/\ ∀c o f,o=Er hs->f=cM (jU o)->ae (PX.normal,S.mk 37 [(5,P.ref 0 0 0),(6,P.ref 2 0 0)] [(0,En.mk 0 none (Obj.box 36 [P.sl 1 0 (List.length o)])),(1,En.mk 0 none (Obj.arr 27 false (List.map bC (List.map (λ(x:Hd)=>Prod.fst x) o)))),(2,En.mk 0 none (Obj.box 100 [P.mp 3 0])),(3,En.mk 0 none (Obj.map 27 f c false))]) else False)=(Gv [] [] (λfi yt=>if Nat.beq fi fBk&&Nat.beq yt 1 then [(1,ij (aR fBk 1) gOn)] else []) 44 4 2000000 qb1 (onA l m)) ae:=by kernel_rfl
abbrev nj(z:Bool)(l:List aF):Obj:= .arr 27 z (l.map bC)
def qjO:S->K (PX×S):=λs ae=> ∃l m,s=onA l m/\m.length<=1000000/\ ∀c o f,o=Er m->ae (.normal,onC (o.map (·.1)) o.length f c)
def qec:a8:=λps R ae=> ∃l,ps=[.sl 0 0 l.length]/\R=[(0,⟨0,some 0,nj false l⟩)]/\l.length<=1000000/\ ∀l',l'=l.reverse->ae (.dz [],[(0,⟨0,some 0,nj false l'⟩)])
abbrev rvH(n:Nat)(l:List aF)(i j:Int):S:=⟨28,[(0,.sl 0 0 n),(2,iD i),(3,iD j)],[(0,⟨0,some 0,nj false l⟩)]⟩
def MS l:=(0,En.mk 0 (some 0) (Obj.arr (27:TypeId) false (gb l)))
def xN l:=[MS l]
def sR n:=(0,ZB n)
def Z6H l i j:=List.set (gb l) (Ze i) (D.aT (D.agg (Gk l i)) (Gk l j))
def Hq j l:=decide (Ze j<qe l)
def ke j (n:Nat):=decide ((0:Int)<=j/\j<(↑n:Int))
theorem qjP n l i j ae:(bif ZH i j then ob (ke j n) (ob (Hq j l) (ob (uf l j) (ob (ke i n) (ob (Hq i l) (ob (uf l i) (ob (ke i n) (ob (Hq i l) (ob (uf l i) (ob (ke j n) (ob (decide (Ze j<List.length (Z6H l i j))) (ob (bO PR (27:TypeId) (D.nth (Z6H l i j) (Ze j))) (ob (Zh i) (ob (Z9 j) (ae (PX.normal,S.mk 28 [sR n,(2,Zm i),(3,Zs j)] [(0,En.mk 0 (some 0) (Obj.arr (27:TypeId) false (List.set (Z6H l i j) (Ze j) (D.aT (D.agg [D.int .i64 (D.aj (D.au (D.nth (Z6H l i j) (Ze j)) 0)),D.int .i64 (D.aj (D.au (D.nth (Z6H l i j) (Ze j)) 1))]) (Gk l i)))))]))))))))))))))) else ae (PX.exit 0,S.mk 28 [sR n] (xN l)))=(aD [] [] 73 1 (rvH n l i j)) ae:=by kernel_rfl
def gRv:S->K (PX×S):=λst ae=> ∃l n j,st=rvH n l 0 j/\(n=l.length/\j=(n:Int)-1/\n<=1000000)/\ae (.exit 0,⟨28,[(0,.sl 0 0 n)],[(0,⟨0,some 0,nj false l.reverse⟩)]⟩)
def K4(n:Nat):=(↑n:Int)-(1:Int)
theorem qnQ n l ae:(ob (decide (Z7<=K4 n/\K4 n<=Z8)) (∃av iC j,S.mk 28 [sR n,(2,P.d Z5),(3,P.d (D.int .i64 (K4 n)))] (xN l)=S.mk 28 (sR iC::(2,P.d Z5)::Zu j) (xN av)/\(iC=eH av/\j=K4 iC/\iC<=1000000)/\ae (P.dz [],[(0,En.mk 0 (some 0) (Obj.arr (27:TypeId) false (List.map bC (List.reverse av))))])))=(aI [] [(1,ah (aR 73 1) gRv)] 73 [.sl 0 0 n] [(0,⟨0,some 0,nj false l⟩)]) ae:=by kernel_rfl
def re l':=En.mk 0 none (Obj.arr (27:TypeId) false (gb l'))
def Bo l':=(0,re l')
def B9 l:=eH l<=1000000
def sS l:=P.sl 0 0 (eH l)
def Z6O cg:=[P.d (D.sl 4 (MR cg))]
def Ca:=En.mk 0 none (Obj.arr (27:TypeId) false [])
def Z6P nk cg:=S.mk 37 [Z6a nk,Z6b nk,(4,P.sl 1004 0 0),(5,P.ref 1005 0 0),(6,P.ref 1006 0 0),(9,P.sl 1009 0 0),(10,P.mp 1010 0),(11,P.d (D.sl 2 (y7 nk))),(12,P.d (D.sl 2 (Gw nk))),(13,P.sl 1013000 0 (iR cg)),(14,P.fn (117:FuncId) [P.ref 1014000 0 0])] [(1004,Ca),(1005,En.mk 0 none (Obj.box (36:TypeId) [P.sl 1009 0 0])),(1006,En.mk 0 none (Obj.box (100:TypeId) [P.mp 1010 0])),(1009,Ca),(1010,Z6k),(1005000,Ca),(1013000,En.mk 0 none (Obj.arr (143:TypeId) true (List.map cr cg))),(1014000,En.mk 0 none (Obj.box (141:TypeId) (Z6O cg)))]
def Z6M av:=[P.d (D.sl 2 (y7 av)),P.d (D.sl 2 (Gw av))]
theorem qnR l ae:(∃av,Z6M l=Z6M av/\Zx/\wK av/\ ∀m,m=oE av-> ∃nk cg,Z6P l m=Z6P nk cg/\wK cg/\ ∀(_:Int) (o:List Hd) (_:D->Option D),o=Er cg-> ∃l,[r5 o]=[sS l]/\[(0,En.mk 0 (some 0) (Obj.arr (27:TypeId) false (y7 o)))]=xN l/\B9 l/\ ∀l',l'=List.reverse l->ae (r5 o,[Bo l']))=(gB [(72,Ww),(73,qec)] [] [(500004,qjO)] 44 [MP l,MQ l] []) ae:=by kernel_rfl
def qjQ:a8:=λps R ae=> ∃l,ps=[MP l,MQ l]/\R=[]/\l.length<=1000000/\ ∀o,o=Ei l->ae (.sl 0 0 o.length,[(0,⟨0,none,nj false o⟩)])
def oG(l:List aF) i:=(List.range l.length).map λp=>if p<i\/l.length-i<=p then l.getD (l.length-1-p) (0,0) else l.getD p (0,0)
theorem iS l i:(oG l i).length=l.length:=by simp[oG]
theorem oH l i p (h:p<l.length):(oG l i)[p]'(by rw[iS];exact h)=if p<i\/l.length-i<=p then l.getD (l.length-1-p) (0,0) else l.getD p (0,0):=by simp[oG]
theorem RD l:oG l 0=l:=by apply zbX (iS l 0);intro p h1 h2;rw[oH l 0 p h2,zan (by omega)];exact eS h2 _
theorem WD l i (h:l.length<=2*i+1):oG l i=l.reverse:=by
 apply zbX (by rw[iS];simp);intro p h1 h2;have hp:p<l.length:=by rw[iS] at h1;exact h1
 rw[oH l i p hp,List.getElem_reverse];split
 ·exact eS (by omega) _
 rw[eS hp];congr 1;omega
theorem RE l i (h:2*i+1<l.length):((oG l i).set i ((oG l i)[l.length-1-i]'(by rw[iS];omega))).set (l.length-1-i) ((oG l i)[i]'(by rw[iS];omega))=oG l (i+1):=by
 apply zbX (by simp[iS]);intro p h1 h2;have hp:p<l.length:=by rw[iS] at h2;exact h2
 rw[zcS,zcS,oH l (i+1) p hp,oH l i p hp,oH l i i (by omega),oH l i (l.length-1-i) (by omega)];by_cases e1:l.length-1-i=p
 ·rw[zap e1,zan (by omega),zap (by omega)];congr 1;omega
 rw[zan e1];by_cases e2:i=p
 ·rw[zap e2,zan (by omega),zap (by omega)];congr 1;omega
 rw[zan e2];by_cases e3:p<i\/l.length-i<=p
 ·rw[zap e3,zap (by omega)]
 rw[zan e3,zan (by omega)]
section
variable{X:XF}
theorem qgP:LD X 73 1 (ah (aR 73 1) gRv):=LD.par (by kernel_rfl) (by kernel_rfl) .nil .nil
 (A:=List aF) (B:=Nat×Int×Int) (λl b=>rvH l.length (oG l b.1) b.2.1 b.2.2) (λl b=>l.length<=1000000/\b.2.1=(b.1:Int)/\b.2.2=(l.length:Int)-1-b.1/\2*b.1<=l.length+1) (λl b=>l.length-b.1)
 (λl x=>x=(.exit 0,⟨28,[(0,.sl 0 0 l.length)],[(0,⟨0,some 0,nj false l.reverse⟩)]⟩))
 (by
  rintro l ⟨k,i,j⟩ ⟨hm,hi,hj,hk⟩;dsimp only at*
  (rw[<-qjP];delta gb MS xN Ze Hn Gj Gk Zs Zl Zm ZB sR Z8 Z7 Z9 Zh Z6H uf qe Hq ke ZH)
  refine dY (λrY=> ?_) λrY=> ?_
  ·have bs:i.toNat=k:=by omega
   have Es:j.toNat=l.length-1-k:=by omega
   have hrl:=iS l k;have ei:D.nth ((oG l k).map bC) i.toNat=bC ((oG l k)[k]'(by omega)):=by rw[bs];exact az _ _ _ (by omega)
   have ej:D.nth ((oG l k).map bC) j.toNat=bC ((oG l k)[l.length-1-k]'(by omega)):=by rw[Es];exact az _ _ _ (by omega)
   have kH:=RE l k (by omega);have cO:k≠l.length-1-k:=by omega
   rw[ei,ej];have hx: ∀y,((oG l k).set k y)[l.length-1-k]'(by simp;omega)=(oG l k)[l.length-1-k]'(by omega):=λy=>by rw[List.getElem_set_ne cO]
   generalize hxx:(oG l k)[k]'(by omega)=x at*
   generalize hyy:(oG l k)[l.length-1-k]'(by omega)=y at*
   have w1:D.aT (D.agg [D.int .i64 (D.aj (D.au (bC x) 0)),D.int .i64 (D.aj (D.au (bC x) 1))]) [D.int .i64 (D.aj (D.au (bC y) 0)),D.int .i64 (D.aj (D.au (bC y) 1))]=bC y:=rfl;have w2:D.aT (D.agg [D.int .i64 (D.aj (D.au (bC y) 0)),D.int .i64 (D.aj (D.au (bC y) 1))]) [D.int .i64 (D.aj (D.au (bC x) 0)),D.int .i64 (D.aj (D.au (bC x) 1))]=bC x:=rfl;have e3:D.nth ((oG l k).map bC |>.set i.toNat (bC y)) j.toNat=bC y:=by rw[<-zb4,bs,Es,az _ _ _ (by simp;omega),hx]
   rw[w1,e3,w2,<-zb4,<-zb4];refine ak ⟨by omega,by omega⟩ (ak (by simp;omega) (aq (iO _) (ak ⟨by omega,by omega⟩ (ak (by simp;omega) (aq (iO _) (ak ⟨by omega,by omega⟩ (ak (by simp;omega) (aq (iO _) (ak ⟨by omega,by omega⟩ (ak (by simp;omega) (aq (iO _) (ak (by omega) (ak (by omega) ?_)))))))))))));refine⟨l.length-(k+1),by omega,(k+1,i+1,j-1),?_,⟨hm,by show i+1=((k+1:Nat):Int);omega,by show j-1=(l.length:Int)-1-((k+1:Nat):Int);omega,by show 2*(k+1)<=l.length+1;omega⟩,rfl⟩;dsimp only;rw[<-kH,bs,Es]
  show _=_;rw[WD l k (by omega)])
 (by rintro s ae ⟨l,n,j,rfl,⟨rfl,hj,hn⟩,hp⟩;refine⟨l,(0,0,j),by dsimp only;rw[RD],⟨hn,rfl,by show j=_;omega,by show 2*0<=_;omega⟩,?_⟩;rintro x rfl;exact hp)
theorem qgQ:FD X 73 qec:=FD.mk (by kernel_rfl) .nil (.cons qgP .nil) (by
 intro ps R ae hh;obtain⟨l,rfl,rfl,hm,hp⟩:=hh
 (rw[<-qnQ];delta eH Zt Zu gb MS xN Z5 ZB sR Z8 K4 Z7)
 exact ak (by omega) ⟨l,l.length,_,rfl,⟨rfl,rfl,hm⟩,hp _ rfl⟩)
end
section
variable{X:XF}{w0:World}(hX:cz PR w0 X.cf)
include hX
theorem qnS:FN w0 44 4 qjO:=FN.mk hX Wr .nil .nil (base:=2000000) (keep:=qb1) (by kernel_rfl) (hk:=λfi yt=>if Nat.beq fi fBk&&Nat.beq yt 1 then [(1,ij (aR fBk 1) gOn)] else [])
 (by
  intro fi yt h CZ hl;split at hl
  next hb=>
   rw[zac] at hb;have e1:=zag hb.1;have e2:=zag hb.2;subst e1 e2;unfold lk at hl;split at hl
   next he=>have e3:=zag he;subst e3;cases hl;exact⟨by kernel_rfl,qnP hX⟩
   cases hl
  cases hl)
 (by rintro s ae ⟨l,m,rfl,hm,hp⟩;rw[<-qb3];have e:List.take m.length (m.map cr)=m.map cr:=zak (by simp);rw[e,zaa];exact ak (by omega) ⟨m,hm,⟨_,rfl,rfl⟩,λc o f h1 h2=>hp c o f h1⟩)
theorem qnT:ND w0 44 qjQ:=ND.mk hX Wr (by kernel_rfl) (by kernel_rfl) (.cons qb0 (.cons qgQ .nil)) .nil (.range (qnS hX) .nil) (by
 intro ps R ae hh;obtain⟨l,rfl,rfl,hm,hp⟩:=hh
 (rw[<-qnR];delta gb re Bo eH B9 MS xN y7 sS iR r5 MR Z6O Z6k Ca Gw Z6b Z6a Z6P wK Zx Z6M)
 have hl:=JL l;refine⟨l,rfl,rfl,hm,λm hme=>⟨l,m,rfl,by rw[hme];omega,λc o f ho=>⟨o.map (·.1),by rw[zaa],rfl,?_,λl' NR=> ?_⟩⟩⟩
 ·have:=O0 m;rw[zaa,ho];subst hme;omega
 have e:l'=Ei l:=by rw[NR,ho,hme,qjN]
 have e2:o.length=l'.length:=by rw[NR];simp
 rw[e2];exact hp l' e)
end
abbrev aM:=ao×aF
structure Tl where
 a:List ao
 p:List Pl
 h:List aM
 g:List aM
def tl0:Tl:=⟨[],[],[],[]⟩
def tU(o:bj):Pl:=(o.node,o.parent,o.name,o.dir)
def gm on (o:bj):=o.kind==0 || (o.kind==1&&on)
def gL on (o:bj):=on&& !(o.kind==2)
def WE(on:Bool)(s:aF)(t:Tl)(o:bj)(k:Nat):Tl:=
 ⟨if gm on o=true then t.a++[(s.1,s.2,(k:Int))] else t.a,if gm on o=true then t.p++[tU o] else t.p,
  if gL on o=true then t.h++[(o.node,s)] else t.h,if on=true then t.g++o.cu.map (λd=>(o.node,d)) else t.g⟩
def JW on s (l:List bj) t:=l.zipIdx.foldl (λt p=>WE on s t p.1 p.2) t
def tlG(on:List aF) t (g:ar):=JW (decide (g.s∈on)) g.s g.ops t
def ml on (l:List ar):=l.foldl (tlG on) tl0
theorem Bp{on s}{l:List bj}{t i}(h:i<l.length):JW on s (l.take (i+1)) t=WE on s (JW on s (l.take i) t) l[i] i:=by unfold JW;rw[zaf h,List.zipIdx_append,zaY];simp[zau,zcv (Nat.le_of_lt h)]
theorem vb{on}{l:List ar}{i}(h:i<l.length):ml on (l.take (i+1))=tlG on (ml on (l.take i)) l[i]:=by unfold ml;rw[zaf h,zaY];rfl
def dx(l:List ar):=(l.map λg=>g.ops.length).sum
theorem mn:dx []=0:=rfl
theorem ju g l:dx (g::l)=g.ops.length+dx l:=by simp[dx]
theorem Bq a b:dx (a++b)=dx a+dx b:=by simp[dx]
theorem rL l i:dx (l.take i)<=dx l:=by have:=Bq (l.take i) (l.drop i);rw[zbJ] at this;omega
theorem tV{l:List ar}{i}(h:i<l.length):dx (l.take (i+1))=dx (l.take i)+l[i].ops.length:=by rw[zaf h,Bq,ju,mn];omega
theorem Et: ∀l o,dx (l.foldl kX o)<=dx o+dx l
 | [],o=>by simp[mn]
 |g::r,o=>by
  have h1:=Et r (kX o g);have h2:dx (kX o g)<=dx o+g.ops.length:=by
   unfold kX;split
   ·rw[Bq,ju,mn];omega
   omega
  rw[zaO,ju];omega
theorem MT l:dx (aJ l)<=dx l:=by simpa [aJ,mn] using Et l []
def wN n (t:Tl):=t.a.length=t.p.length/\t.a.length<=n/\t.h.length<=n/\t.g.length<=200*n
theorem wN.zero:wN 0 tl0:=⟨rfl,zal _,zal _,zal _⟩
theorem wN.mono{n m t}(h:wN n t)(hm:n<=m):wN m t:=⟨h.1,by have:=h.2.1;omega,by have:=h.2.2.1;omega,by have:=h.2.2.2;omega⟩
theorem wN.op{n t}(h:wN n t){on s o k}(hd:o.cu.length<=200):wN (n+1) (WE on s t o k):=by
 obtain⟨h0,h1,h2,h3⟩:=h;unfold wN WE;refine⟨?_,?_,?_,?_⟩
 ·dsimp only;split<;>simp[h0]
 ·dsimp only;split
  ·simp;omega
  omega
 ·dsimp only;split
  ·simp;omega
  omega
 dsimp only;split
 ·simp;omega
 omega
theorem wN.ops{n t}(h:wN n t){on s}{l:List bj}(hd: ∀o∈l,o.cu.length<=200): ∀i,i<=l.length->wN (n+i) (JW on s (l.take i) t)
 |0,_=>by simpa [JW] using h
 |i+1,hi=>by rw[Bp hi];exact(wN.ops h hd i (by omega)).op (hd _ (zas hi))
theorem wN.grp{n t}(h:wN n t){on g}(hd: ∀o∈g.ops,o.cu.length<=200):wN (n+g.ops.length) (tlG on t g):=by have:=wN.ops h (on:=decide (g.s∈on)) (s:=g.s) hd g.ops.length (zal _);rwa [zai] at this
theorem WG{s k n o}(h:kW s k o=some n):o.cu.length<=200:=by
 unfold kW at h;split at h
 ·cases h
 rename_i hb;by_cases h2:o.kind=2
 ·rw[zan (by omega),zan (by omega),zap h2] at h;split at h
  next hd=>have:=hd.2;unfold oC at this;rw[zac,zah] at this;exact this.2
  cases h
 have:o.cu.length=0:=by
  simp only[zcJ,fM,nc,zac,za8,za1] at hb;rcases hb.1.1.2 with h |h
  ·exact absurd h h2
  exact h
 omega
theorem JX{P:bj->Prop}{s}(hP: ∀k n o,kW s k o=some n->P o): ∀l k,jt s k l=true-> ∀o∈l,P o
 | [],_,_,_,h=>by cases h
 |o::r,k,h,x,hx=>by
  unfold jt at h;split at h
  next n hn=>
   rcases zat.1 hx with rfl |hx
   ·exact hP k n _ hn
   exact JX hP r _ h x hx
  cases h
theorem Gy{g}(h:cA g=true):jt g.s 0 g.ops=true:=by
 unfold cA at h;rw[zac] at h;have h2:=h.2;split at h2
 ·simp only[zac,za1] at h2;rw[zaB h2.2];rfl
 rw[zac] at h2;exact h2.2
theorem vd{g}(h:cA g=true): ∀o∈g.ops,o.cu.length<=200:=JX (P:=λo=>o.cu.length<=200) (λ_ _ _ h=>WG h) _ _ (Gy h)
theorem ve{g}(h:cA g=true):g.ops.length<=200:=by
 unfold cA at h;rw[zac] at h;have h2:=h.2;split at h2
 ·simp only[zac,za1] at h2;omega
 rw[zac,zah] at h2;exact h2.1.2
theorem Eu{on}{l:List ar}(hc: ∀g∈l,cA g=true): ∀i,i<=l.length->wN (dx (l.take i)) (ml on (l.take i))
 |0,_=>by simpa [ml,mn] using wN.zero
 |i+1,hi=>by rw[vb hi,tV hi];exact(Eu hc i (by omega)).grp (vd (hc _ (zas hi)))
def SmV l:=dx l<=1000
theorem RG{s}(h:bX s=true):q7 s=true:=by have h1:=yR h (c:=126) rfl;simp[q7,FZ h1,h,h1]
def Rt T:=Uq T/\ ∀p∈T,pB p=true
theorem qgR{T}(h:Rt T) p:Rt (BT T p):=by
 unfold BT;split
 ·exact h
 rename_i h0;split
 next hp=>
  refine⟨?_,λq hq=> ?_⟩
  ·unfold Uq;rw[zaC,zaR];refine⟨h.1,by simp,λa ha b hb=> ?_⟩;simp at hb;subst hb;intro e;obtain⟨q,hq,hqa⟩:=zaq.1 ha;apply h0;unfold a7;rw[List.find?_isSome];exact⟨q,hq,by simp[hqa,e]⟩
  rcases zaz.1 hq with hq |hq
  ·exact h.2 q hq
  simp at hq;subst hq;exact hp
 exact h
theorem WH: ∀(l T:List Pl),Rt T->Rt (l.foldl BT T)
 | [],_,h=>h
 |p::r,_,h=>WH r _ (qgR h p)
theorem MU l:Rt (fP l):=WH l [] ⟨by simp[Uq],by simp⟩
theorem qb4 T p:(BT T p).length<=T.length+1:=by
 unfold BT;split
 ·omega
 split
 ·simp
 omega
theorem O1: ∀(l T:List Pl),(l.foldl BT T).length<=T.length+l.length
 | [],_=>by simp
 |p::r,T=>by have:=O1 r (BT T p);have:=qb4 T p;simp only[zaO,zao];omega
theorem y9 l:(fP l).length<=l.length:=by simpa [fP] using O1 l []
def Gz(L:List Pl)(p:Pl):=if L.any (λq=>decide (q.2.1=p.2.1)&&(q.2.2.1==p.2.2.1)&&fc q.1 p.1) then(gw p.2.2.1 p.1.1 p.1.2.1 p.1.2.2).1 else p.2.2.1
def tW(T:List Pl)(live:List ao)(x:ao):List UInt8:=match a7 T x with |some p=>Gz (aS T live) p |none=>[]
def Br(T:List Pl)(live:List ao)(x:ao):List (List UInt8):=match wy T x with |some w=>w.reverse.map (tW T live)|none=>[]
def Bs T live x:=dm (Br T live x)
abbrev It:=ao×List UInt8×Bool×Bool
def dE(T:List Pl)(live:List ao)(p:Pl):It:=(p.1,Bs T live p.1,p.2.2.2,!decide (p.1∈live))
abbrev JY(a b:It):=Op.bytesLess a.2.1 b.2.1
def dy T live:=bT JY ((aS T live).map (dE T live))
section
variable{T:List Pl}{live:List ao}
theorem wO{p}(h:pB p=true):(gw p.2.2.1 p.1.1 p.1.2.1 p.1.2.2).1=p.2.2.1++126::gi p.1.1 p.1.2.1 p.1.2.2:=by simp only[pB,zac] at h;rw[gw,zap h.2,zap h.1]
theorem WI{L p}(h:pB p=true):q7 (Gz L p)=true:=by
 have h':=h;simp only[pB,zac] at h';unfold Gz;split
 ·rw[wO h];exact Mu h'.2 h'.1
 exact RG h'.2
theorem qb5{L p q}(hp:p∈L)(hq:q∈L)(op:pB p=true)(oq:pB q=true)(qb6:p.2.1=q.2.1)(h:Gz L p=Gz L q):p.1=q.1:=by
 have op':=op;have oq':=oq;simp only[pB,zac] at op' oq';unfold Gz at h;split at h
 next c1=>
  split at h
  next c2=>rw[wO op,wO oq] at h;obtain⟨_,h1,h2,h3⟩:=Re op'.2 op'.1 oq'.2 oq'.1 h;exact Prod.ext h1 (Prod.ext h2 h3)
  rw[wO op] at h;rw[<-h] at oq';rw[AV] at oq';cases oq'.2
 rename_i c1;split at h
 ·rw[wO oq] at h;rw[h] at op';rw[AV] at op';cases op'.2
 rename_i c2;refine iq.rU _ _ ?_ ?_
 ·cases hl:fc p.1 q.1 with
  |false=>rfl
  |true=>exact absurd (za3.2 ⟨p,hp,by simp[qb6,h,hl]⟩) c2
 cases hl:fc q.1 p.1 with
 |false=>rfl
 |true=>exact absurd (za3.2 ⟨q,hq,by simp[qb6,h,hl]⟩) c1
theorem Ew: ∀{a b:List (List UInt8)},(∀x∈a,(47:UInt8)∉x)->(∀x∈b,(47:UInt8)∉x)->dm a=dm b->a=b
 | [],[],_,_,_=>rfl
 | [],_::_,_,_,h=>by simp[dm] at h
 |_::_,[],_,_,h=>by simp[dm] at h
 |x::a,y::b,ha,hb,h=>by
  have h':x++dm a=y++dm b:=by simpa [dm] using h
  have key: ∀(x y:List UInt8) (u v:List (List UInt8)),(47:UInt8)∉x->(47:UInt8)∉y->x++dm u=y++dm v->x=y:=by
   intro x
   induction x with
   |nil=>
    intro y u v _ hy h;cases y with
    |nil=>rfl
    |cons c y=>
     cases u with
     |nil=>simp[dm] at h
     |cons z u=>simp[dm] at h;exact absurd (by simp[h.1]) hy
   |cons c x ih=>
    intro y u v hx hy h;cases y with
    |nil=>
     cases v with
     |nil=>simp[dm] at h
     |cons z v=>simp[dm] at h;exact absurd (by simp[h.1]) hx
    |cons d y=>simp only[zdr,zbr] at h;rw[h.1,ih y u v (λm=>hx (by simp[m])) (λm=>hy (by simp[m])) h.2]
  have e:=key x y a b (ha x (by simp)) (hb y (by simp)) h';subst e;rw[Ew (λz hz=>ha z (by simp[hz])) (λz hz=>hb z (by simp[hz])) (List.append_cancel_left h')]
theorem xO(hT:Rt T) x: ∀s∈Br T live x,q7 s=true:=by
 intro s hs;unfold Br at hs;cases hw:wy T x with
 |none=>rw[hw] at hs;cases hs
 |some w=>rw[hw] at hs;obtain⟨u,hu,rfl⟩:=zaq.1 hs;obtain⟨w',h1,_⟩:=(pF.1 hw).sub u (by simpa using hu);obtain⟨p,hp⟩:=h1.at;unfold tW;rw[hp];exact WI (hT.2 p (bN hp).1)
theorem vf{x p}(h:marked T live x=true)(hp:a7 T x=some p):p∈aS T live:=by obtain⟨h1,h2⟩:=bN hp;exact zbT.2 ⟨h1,by rw[h2];exact h⟩
theorem qgS(hT:Rt T){x w}(h:Up T x w): ∀{y v},Up T y v->(∀u∈w,marked T live u=true)->(∀u∈v,marked T live u=true)->w.map (tW T live)=v.map (tW T live)->x=y:=by
 have hd: ∀{a b:ao} {p q:Pl},a7 T a=some p->a7 T b=some q->marked T live a=true->marked T live b=true->p.2.1=q.2.1->tW T live a=tW T live b->a=b:=by intro a b p q ha hb ma mb qb6 h;unfold tW at h;rw[ha,hb] at h;have:=qb5 (vf ma ha) (vf mb hb) (hT.2 p (bN ha).1) (hT.2 q (bN hb).1) qb6 h;rw[<-(bN ha).2,<-(bN hb).2,this]
 induction h with
 | @top x p h h0=>
  intro y v hv mw mv e;cases hv with
  |top h' h0'=>simp only[za4,zcz,zbr,zcA] at e;exact hd h h' (mw _ (by simp)) (mv _ (by simp)) (by rw[h0,h0']) e
  |step _ _ _ _ hw=>obtain⟨r,rfl⟩:=hw.hd;simp at e
 | @step x p q w h h0 hq qgs hw ih=>
  intro y v hv mw mv e;cases hv with
  |top=>obtain⟨r,rfl⟩:=hw.hd;simp at e
  | @step y p' q' v h' h0' _ _ hv=>simp only[za4,zbr] at e;have:=ih hv (λu hu=>mw u (by simp[hu])) (λu hu=>mv u (by simp[hu])) e.2;exact hd h h' (mw _ (by simp)) (mv _ (by simp)) this e.1
theorem vg{x w}(h:Up T x w):Br T live x=w.reverse.map (tW T live):=by unfold Br;rw[pF.2 h]
theorem RH(hT:Rt T){x y}(hx:marked T live x=true)(hy:marked T live y=true)(h:Bs T live x=Bs T live y):x=y:=by obtain⟨w,hw,mw⟩:=ll hx;obtain⟨v,hv,mv⟩:=ll hy;have:=Ew (λs hs=>Oq (xO hT x s hs)) (λs hs=>Oq (xO hT y s hs)) h;rw[vg hw,vg hv,zbH,zbH,List.reverse_inj] at this;exact qgS hT hw hv mw mv this
theorem vi{p}(h:p∈aS T live):p∈T/\marked T live p.1=true:=by unfold aS at h;rw[zbT] at h;exact h
theorem RI(hT:Rt T): ∀a∈(aS T live).map (dE T live),∀b∈(aS T live).map (dE T live),a.2.1=b.2.1->a=b:=by intro a ha b hb h;obtain⟨p,hp,rfl⟩:=zaq.1 ha;obtain⟨q,hq,rfl⟩:=zaq.1 hb;obtain⟨p1,p2⟩:=vi hp;obtain⟨q1,q2⟩:=vi hq;have e:=RH hT p2 q2 h;have e1:=gT hT.1 p1;have e2:=gT hT.1 q1;rw[e,e2] at e1;cases e1;rfl
theorem JZ:(dy T live).Perm ((aS T live).map (dE T live)):=bR _
theorem RJ:(dy T live).Pairwise λa b=>Op.bytesLess b.2.1 a.2.1=false:=rG Jx (λa:It=>a.2.1) _
theorem RL(hT:Rt T){a}(hp:a.Perm ((aS T live).map (dE T live)))(ha:a.Pairwise λx y=>Op.bytesLess y.2.1 x.2.1=false):a=dy T live:=
 pD Jx (λa:It=>a.2.1) (λx hx y hy h=>RI hT x (hp.mem_iff.1 hx) y (hp.mem_iff.1 hy) h) (hp.trans JZ.symm) ha RJ
end
abbrev itE(n:Nat)(g:D->Option D)(e:Option (D×D)):List (Nat×En):=[(n,⟨0,none,.iter 49 103 g e⟩)]
abbrev mk1(T:List Pl)(f2 f3 f4:D->Option D)(g:D->Option D)(e:Option (D×D))(c1 c2 c3 c4:Int):S:=
 ⟨49,[(0,.ref 0 0 0),(13,.ref 5 0 0)],fL (cF T) f2 f3 f4 c1 c2 c3 c4 true false++itE 5 g e⟩
abbrev mk6(T:List Pl)(f2 f3 f4:D->Option D)(g:D->Option D)(e:Option (D×D))(w:List ao)(n:Nat)(k:Int)(c1 c2 c3 c4:Int):S:=
 ⟨49,[(0,.ref 0 0 0),(13,.ref 5 0 0),(26,.sl 6 0 n),(27,iD n),(28,iD k)],fL (cF T) f2 f3 f4 c1 c2 c3 c4 true false++itE 5 g e++[(6,⟨0,none,.arr 49 false (w.map aL)⟩)]⟩
def qjR:S->K (PX×S):=λs ae=> ∃T f2 f4 g e S w c2 c4,s=mk6 T f2 (cU S) f4 g e w w.length 0 (T.length:Int) c2 (S.length:Int) c4/\(w.length<=1000000/\S.length<=1000000)/\
 ae (.exit 1,mk1 T f2 (cU (xI S w)) f4 g e (T.length:Int) c2 ((xI S w).length:Int) c4)/\ae (.exit 2,mk1 T f2 (cU (xI S w)) f4 g e (T.length:Int) c2 ((xI S w).length:Int) c4)
def Z72 w:=[(6,sL w)]
def Z6Z f2 c2:=(2,En.mk 0 (some 2) (Obj.map 49 f2 c2 true))
def MV T c1:=(1,En.mk 0 (some 1) (Obj.map 49 (λx=>match x with |D.agg [D.int .i64 a,D.int .i64 b,D.int .i64 c]=>Option.map bn (a7 T (a,b,c))|_=>none) c1 false))
def Z71(n:Nat):=P.d (D.int .i64 (↑n:Int))
def Z6W:=(13,P.ref 5 0 0)
def Z6X:=[gD,Z6W]
def Z70 T c1 f2 c2 (V:List ao) c3 f4 c4 g e:=S.mk 49 Z6X [hY,MV T c1,Z6Z f2 c2,(3,En.mk 0 (some 3) (Obj.map 49 (λx=>match x with |D.agg [D.int .i64 a,D.int .i64 b,D.int .i64 c]=>Option.map (λ_=>jd) ((λx=>if x∈V then some () else none) (a,b,c))|_=>none) c3 false)),nR f4 c4,(5,En.mk 0 none (Obj.iter 49 103 g e))]
def J0 k w:=decide (Ze k<kU w)
def Ex k (n:Nat):=decide (k<(↑n:Int))
theorem qjS T f2 f4 g e V w n k c1 c2 c3 c4 ae:(bif Ex k n then ob (ke k n) (ob (J0 k w) (ob (q9 w k) (ob (bO PR (103:TypeId) (aQ (cU V (D.agg (xH w k))) jd)) (bif Option.isSome (cU V (D.agg (xH w k))) then ae (PX.exit 1,Z70 T c1 f2 c2 V c3 f4 c4 g e) else ob (Zh k) (ae (PX.normal,S.mk 49 [gD,Z6W,(26,P.sl 6 0 n),(27,Z71 n),(28,Zm k)] (hY::MV T c1::Z6Z f2 c2::(3,En.mk 0 (some 3) (Obj.map 49 (λk'=>bif D.gH (Ox w k) k' then some jd else cU V k') (bif Option.isSome (cU V (D.agg (xH w k))) then c3 else c3+(1:Int)) false))::nR f4 c4::(5,En.mk 0 none (Obj.iter 49 103 g e))::Z72 w))))))) else ae (PX.exit 2,Z70 T c1 f2 c2 V c3 f4 c4 g e))=(cC [] [] [] 81 6 (mk6 T f2 (cU V) f4 g e w n k c1 c2 c3 c4)) ae:=by kernel_rfl
def SQ(g:D->Option D):= ∀k,g k=none
def Z73 eR:=(1,En.mk 0 (some 1) (Obj.map 49 (λx=>match x with |D.agg [D.int .i64 a,D.int .i64 b,D.int .i64 c]=>Option.map bn (a7 eR (a,b,c))|_=>none) (pV eR) false))
def Z75(ae:PX×S->Prop) T f2 c2 S w f4 c4 bp e:=ae (PX.normal,Pi.S.mk 49 Z6X [hY,Z73 T,Z6Z f2 c2,(3,En.mk 0 (some 3) (Obj.map 49 (λx=>match x with |D.agg [D.int .i64 a,D.int .i64 b,D.int .i64 c]=>Option.map (λ_=>jd) ((λx=>if x∈xI S w then some () else none) (a,b,c))|_=>none) (↑(List.length (xI S w)):Int) false)),nR f4 c4,(5,En.mk 0 none (Obj.iter 49 103 bp e))])
def Z79 k:=D.int .i64 (D.aj (D.au k 2))
def Z78 k:=D.int .i64 (D.aj (D.au k 1))
def SR k:=D.int .i64 (D.aj (D.au k 0))
def J1 k:=D.agg [SR k,Z78 k,Z79 k]
def Z77 k k':=D.gH (D.agg [SR k,D.int .i64 (D.aj (D.au k mC)),D.int .i64 (D.aj (D.au k (mC+1)))]) k'
def Z7b k (g:D->Option D):=En.mk 0 none (Obj.iter 49 103 (λk'=>bif Z77 k k' then none else g k') (some (J1 k,jd)))
def Z74 w:=[gD,Z6W,(26,P.sl 6 0 (dH w)),(27,Z2y w),(28,P.d Z5)]
theorem qjT T f2 f3 f4 g e c1 c2 c3 c4 ae:((∀k x,g k=some x->ob (bO PR (49:TypeId) k) (ob (bO PR (103:TypeId) x) (∃eR x qb tQ kz l9 tR kV z2 z3,[b9,P.d (J1 k)]=b9::gA x/\hY::MV T c1::Z6Z f2 c2::(3,En.mk 0 (some 3) (nP f3 c3))::A6 f4 c4=hY::Z73 eR::l8 qb l9 z2::ud tQ tR z3::A6 kz kV/\gx eR/\(∀l,wy eR x=some l-> ∃(T:List Pl) (f2:D->Option D) (f4:D->Option D) (bp:D->Option D) (e:Option (D×D)) (S:List ao) (w:List ao) (c2:Int) (c4:Int),Pi.S.mk 49 (Z74 l) (hY::Z73 eR::l8 qb l9 z2::ud tQ tR z3::nR kz kV::(5,Z7b k g)::Z72 l)=Pi.S.mk 49 (Z74 w) (hY::Z73 T::Z6Z f2 c2::(3,En.mk 0 (some 3) (Obj.map 49 (λx=>match x with |D.agg [D.int .i64 a,D.int .i64 b,D.int .i64 c]=>Option.map (λ_=>jd) ((λx=>if x∈S then some () else none) (a,b,c))|_=>none) (ky S) false))::nR f4 c4::(5,En.mk 0 none (Obj.iter 49 103 bp e))::Z72 w)/\(j8 w/\j8 S)/\Z75 ae T f2 c2 S w f4 c4 bp e/\Z75 ae T f2 c2 S w f4 c4 bp e)/\(wy eR x=none->ae (PX.normal,S.mk 49 Z6X [hY,Z73 eR,l8 qb l9 z2,ud tQ tR z3,nR kz kV,(5,Z7b k g)])))))/\(SQ g->ae (PX.exit 0,S.mk 49 Z3o (hY::MV T c1::Z6Z f2 c2::(3,En.mk 0 (some 3) (nP f3 c3))::A6 f4 c4))))=(cC [(125,qbu)] [] [(6,ah (aR 81 6) qjR)] 81 1 (mk1 T f2 f3 f4 g e c1 c2 c3 c4)) ae:=by kernel_rfl
def qjU:S->K (PX×S):=λs ae=> ∃T V f4 c4,s=mk1 T (cU V) uT f4 (cU V) none (T.length:Int) (V.length:Int) 0 c4/\(T.length<=1000000/\Uq T/\V.Nodup)/\
 ae (.exit 0,⟨49,[(0,.ref 0 0 0)],fL (cF T) (cU V) (cU (aZ T V)) f4 (T.length:Int) (V.length:Int) ((aZ T V).length:Int) c4 true false⟩)
def RM eR V:=(↑(List.length (aZ eR V)):Int)
def Z7f(V:List ao):=En.mk 0 none (Obj.iter 49 103 (λx=>match x with |D.agg [D.int .i64 a,D.int .i64 b,D.int .i64 c]=>Option.map (λ_=>jd) ((λx=>if x∈V then some () else none) (a,b,c))|_=>none) none)
def Z7e:=(3,En.mk 0 (some 3) Ju)
def Z7d(V:List ao):=Obj.map 49 (λx=>match x with |D.agg [D.int .i64 a,D.int .i64 b,D.int .i64 c]=>Option.map (λ_=>jd) ((λx=>if x∈V then some () else none) (a,b,c))|_=>none) (ky V) true
def Z7h f2:=En.mk 0 none (Obj.iter 49 103 f2 none)
theorem qgT T f2 f3 f4 c1 c2 c3 c4 z2 ae:(∃eR V kz kV,S.mk 49 Z6X [hY,MV T c1,Z6Z f2 c2,(3,En.mk 0 (some 3) (nP f3 c3)),nR f4 c4,(5,Z7h f2)]=S.mk 49 Z6X [hY,Z73 eR,(2,En.mk 0 (some 2) (Z7d V)),Z7e,nR kz kV,(5,Z7f V)]/\(gx eR/\Uq eR/\List.Nodup V)/\ae (P.dz [],hY::Z73 eR::(2,En.mk 0 (some 2) (Z7d V))::(3,En.mk 0 (some 3) (Obj.map 49 (λx=>match x with |D.agg [D.int .i64 a,D.int .i64 b,D.int .i64 c]=>Option.map (λ_=>jd) ((λx=>if x∈aZ eR V then some () else none) (a,b,c))|_=>none) (RM eR V) false))::A6 kz kV))=(gB [] [] [(1,ah (aR 81 1) qjU)] 81 [.ref 0 0 0] (fL (cF T) f2 f3 f4 c1 c2 c3 c4 z2 false)) ae:=by kernel_rfl
def qed:a8:=λps R ae=> ∃T V f4 c4 z2,ps=[.ref 0 0 0]/\R=fL (cF T) (cU V) uT f4 (T.length:Int) (V.length:Int) 0 c4 z2 false/\(T.length<=1000000/\Uq T/\V.Nodup)/\
 ae (.dz [],fL (cF T) (cU V) (cU (aZ T V)) f4 (T.length:Int) (V.length:Int) ((aZ T V).length:Int) c4 true false)
def cfX:D->D->Int
 | .agg [.int .i64 a,.int .i64 b,.int .i64 c],.agg [.int .i64 a',.int .i64 b',.int .i64 c']=>mY a b c a' b' c'
 |_,_=>0
abbrev rs3(T:List Pl)(f2 f3 f4 g:D->Option D)(e:Option (D×D))(out:List ao)(n:Nat)(c1 c2 c3 c4:Int)(z2:Bool):S:=
 ⟨27,[(0,.ref 0 0 0),(3,.sl 5 0 n),(15,.ref 6 0 0)],fL (cF T) f2 f3 f4 c1 c2 c3 c4 z2 true++[(5,⟨0,none,.arr 49 false (out.map aL)⟩)]++itE 6 g e⟩
def qjV:S->K (PX×S):=λs ae=> ∃T V f2 f4 c1 c2 c4 z2,s=rs3 T f2 (cU V) f4 (cU V) none [] 0 c1 c2 (V.length:Int) c4 z2/\(V.length<=1000000/\V.Nodup)/\
 ∀out:List ao,out.Perm V->ae (.exit 0,⟨27,[(0,.ref 0 0 0),(3,.sl 5 0 out.length)],fL (cF T) f2 (cU V) f4 c1 c2 (V.length:Int) c4 z2 true++[(5,⟨0,none,.arr 49 false (out.map aL)⟩)]⟩)
def Ey n:=P.sl 5 0 n
def Z7l n out k:=En.mk 0 none (Obj.arr (49:TypeId) false (List.take n (dW out)++[J1 k]))
def O2 f3 c3:=(3,En.mk 0 (some 3) (Obj.map 49 f3 c3 true))
def Z7j:=[(15,P.ref 6 0 0)]
def Z7i n k:=n+List.length [J1 k]
theorem qjW T f2 f3 f4 g e out (n:Nat) c1 c2 c3 c4 z2 ae:((∀k x,g k=some x->ob (bO PR (49:TypeId) k) (ob (bO PR (103:TypeId) x) (ob (Nat.ble n (kU out)&&aG (Z7i n k) 24) (ae (PX.normal,S.mk 27 (gD::(3,P.sl 5 0 (Z7i n k))::Z7j) [hY,MV T c1,l8 f2 c2 z2,O2 f3 c3,nR f4 c4,(5,Z7l n out k),(6,Z7b k g)])))))/\(SQ g->ae (PX.exit 0,S.mk 27 [gD,(3,Ey n)] [hY,MV T c1,l8 f2 c2 z2,O2 f3 c3,nR f4 c4,(5,sL out)])))=(cC [] [] [] 126 3 (rs3 T f2 f3 f4 g e out n c1 c2 c3 c4 z2)) ae:=by kernel_rfl
def za dh:=En.mk 0 none (Obj.arr (49:TypeId) false dh)
def Z7q dh:=List.Pairwise (λa b=> ¬cfX b a<(0:Int)) dh
def Z7t out:=(0,En.mk 0 (some 0) (Obj.arr (49:TypeId) false (dW out)))
def MW out:=[Z7t out]
def Z7o:=[P.fn (78:FuncId) []]
def pJ out:=P.sl 0 0 (dH out)
def O3 V:=j8 V/\List.Nodup V
theorem qgU T f2 f3 f4 c1 c2 c3 c4 z2 z3 ae:(ob (decide ((0:Int)<=(0:Int)/\(0:Int)<=c3/\c3<=Z8/\(24:Int)*c3<=(281474976710656:Int))) (∃eR V qb kz WJ l9 kV uV,S.mk 27 (gD::(3,vN)::Z7j) [hY,MV T c1,l8 f2 c2 z2,O2 f3 c3,nR f4 c4,(5,tO),(6,Z7h f3)]=S.mk 27 (gD::(3,vN)::Z7j) [hY,MV eR WJ,l8 qb l9 uV,(3,En.mk 0 (some 3) (Z7d V)),nR kz kV,(5,tO),(6,Z7f V)]/\O3 V/\ ∀out,List.Perm out V-> ∃es,pJ out::Z7o=P.sl 0 0 (List.length es)::Z7o/\MW out=[(0,En.mk 0 (some 0) (Obj.arr (49:TypeId) false es))]/\mW PR sH (78:FuncId) es cfX/\ ∀dh,List.Perm dh es->Z7q dh->ae (P.sl 5 0 (dH out),[hY,MV eR WJ,l8 qb l9 uV,(3,En.mk 0 (some 3) (Z7d V)),nR kz kV,(5,za dh)])))=(gB [(132,tS 78 cfX 49)] [] [(3,ah (aR 126 3) qjV)] 126 [.ref 0 0 0] (fL (cF T) f2 f3 f4 c1 c2 c3 c4 z2 z3)) ae:=by kernel_rfl
def O4:a8:=λps R ae=> ∃T V f2 f4 c1 c2 c4 z2 z3,ps=[.ref 0 0 0]/\R=fL (cF T) f2 (cU V) f4 c1 c2 (V.length:Int) c4 z2 z3/\(V.length<=1000000/\V.Nodup)/\
 ae (.sl 5 0 V.length,fL (cF T) f2 (cU V) f4 c1 c2 (V.length:Int) c4 z2 true++[(5,⟨0,none,.arr 49 false ((bT fc V).map aL)⟩)])
theorem vj{L k v}(h:cU L k=some v): ∃x∈L,k=aL x/\v= .agg []:=by
 unfold cU xF at h;split at h
 next a b c=>
  by_cases hx:(a,b,c)∈L
  ·simp only[zap hx,zaH,zam] at h;exact⟨_,hx,rfl,h.symm⟩
  simp only[zan hx,zb2] at h;cases h
 cases h
theorem vn{L}(h: ∀k,cU L k=none):L=[]:=by
 cases L with
 |nil=>rfl
 |cons x r=>have:=h (aL x);rw[ra] at this;simp at this
theorem qb7{a b}(h: ∀z,z∈a↔z∈b):cU a=cU b:=by
 have:(λx=>if x∈a then some () else none)=(λx:ao=>if x∈b then some () else none):=by
  funext x;by_cases hx:x∈a
  ·rw[zap hx,zap ((h x).1 hx)]
  rw[zan hx,zan (λhb=>hx ((h x).2 hb))]
 unfold cU;rw[this]
theorem zb{L}(hn:L.Nodup) x:jg (aL x) (cU L)=cU (L.erase x):=by
 funext d;cases hd:D.gH (aL x) d with
 |true=>have:=(D.bS _ _).1 hd;subst this;rw[rA,ra,zan (λh=>(hn.mem_erase_iff.1 h).1 rfl)];rfl
 |false=>
  have cO:aL x≠d:=λe=>by rw[(D.bS _ _).2 e] at hd;cases hd
  rw[yG _ cO];unfold cU xF;split
  next a b c=>
   have hx:(a,b,c)≠x:=λe=>cO (by rw[<-e];rfl);simp only[hn.mem_erase_iff];by_cases h:(a,b,c)∈L
   ·simp[h,hx]
   simp[h]
  rfl
theorem O5:cU []=uT:=by funext d;show xF _ _ d=none;unfold xF;split<;>rfl
theorem MX:bO PR 103 (.agg [])=true:=by kernel_rfl
theorem drop_cons{α:Type}{l:List α}{k}(h:k<l.length) d:l.drop k=l.getD k d::l.drop (k+1):=by rw[za5 h,zab,zad h];rfl
theorem mN:PR.follows .mixedOrders=true:=by kernel_rfl
section
variable{X:XF}{w0:World}(hX:cz PR w0 X.cf)
include hX
theorem qjX:LN w0 81 6 (ah (aR 81 6) qjR):=LN.par hX mN (by kernel_rfl) (by kernel_rfl) (by kernel_rfl) .nil .nil .nil
 (A:=List Pl×(D->Option D)×(D->Option D)×(D->Option D)×Option (D×D)×List ao×List ao×Int×Int) (B:=List ao×Int)
 (λ⟨T,f2,f4,g,e,_,w,c2,c4⟩ b=>mk6 T f2 (cU b.1) f4 g e w w.length b.2 (T.length:Int) c2 (b.1.length:Int) c4)
 (λ⟨_,_,_,_,_,V,w,_,_⟩ b=>w.length<=1000000/\0<=b.2/\b.2<=w.length/\xI b.1 (w.drop b.2.toNat)=xI V w)
 (λ⟨_,_,_,_,_,_,w,_,_⟩ b=>(w.length-b.2).toNat)
 (λ⟨T,f2,f4,g,e,V,w,c2,c4⟩ x=>x=(.exit 1,mk1 T f2 (cU (xI V w)) f4 g e (T.length:Int) c2 ((xI V w).length:Int) c4)\/x=(.exit 2,mk1 T f2 (cU (xI V w)) f4 g e (T.length:Int) c2 ((xI V w).length:Int) c4))
 (by
  rintro⟨T,f2,f4,g,e,V,w,c2,c4⟩ ⟨V',k⟩ ⟨hm,h0,hk,hv⟩;dsimp only at*
  (rw[<-qjS];delta dW sL Z72 nP nR mC Ze A4 Ox Z6Z MV mZ D6 hY Zl Zm Z71 Z6W b9 gD Z8 Z7 Zh jd Z6X Z70 BV BW xH q9 kU J0 ke Ex)
  simp only[zaa];refine aW (λh=> ?_) λh=> ?_
  ·have iB:k.toNat<w.length:=by omega
   rw[A5 iB];rw[drop_cons iB (0,0,0)] at hv;generalize w.getD k.toNat (0,0,0)=u at hv;refine bh ⟨h0,by omega⟩ (aq (by simpa using iB) (aq (ga u) (aq ?_ (ay (λhs=> ?_) λhs=>aq (iZ (by omega) (by omega)) ?_))))
   ·show bO PR 103 (aQ (cU V' (aL u)) _)=true;rw[ra];by_cases hu:u∈V'<;>simp only[hu,zbo,zbn,zaH,zb2]<;>exact MX
   ·have hu:u∈V':=by
     have:(cU V' (aL u)).isSome=true:=hs;rw[ra] at this;by_cases hu:u∈V'
     ·exact hu
     simp[hu] at this
    left;rw[<-hv,xI,zap hu];rfl
   have hu:u∉V':=λhu=>by have:(cU V' (aL u)).isSome=false:=hs;rw[ra] at this;simp[hu] at this
   rw[xI,zan hu] at hv;have e1:Ga V' u=V'++[u]:=by unfold Ga;rw[zan hu]
   refine⟨((w.length:Int)-(k+1)).toNat,by omega,(V'++[u],k+1),?_,⟨hm,by simp only;omega,by simp only;omega,?_⟩,rfl⟩
   ·have a1:=Gb (V:=V') (x:=u);have a2:=Oy V' u;rw[e1] at a1 a2;show _=mk6 T f2 (cU (V'++[u])) f4 g e w w.length (k+1) (T.length:Int) c2 ((V'++[u]).length:Int) c4;rw[<-a1,<-a2];rfl
   simp only;rw[show(k+1).toNat=k.toNat+1 by omega];exact hv
  have:k.toNat=w.length:=by omega
  rw[this,zct,xI] at hv;subst hv;right;rfl)
 (by
  rintro s ae ⟨T,f2,f4,g,e,V,w,c2,c4,rfl,⟨hm,_⟩,h1,h2⟩;refine⟨(T,f2,f4,g,e,V,w,c2,c4),(V,0),rfl,⟨hm,by simp,by simp,by simp⟩,?_⟩;rintro x (rfl |rfl)
  ·exact h1
  exact h2)
theorem qjY:LN w0 81 1 (ah (aR 81 1) qjU):=LN.par hX mN (by kernel_rfl) (by kernel_rfl) (by kernel_rfl) (.cons qd3 .nil) .nil (.cons (qjX hX) .nil)
 (A:=List Pl×List ao×(D->Option D)×Int) (B:=List ao×List ao×List ao×Option (D×D))
 (λ⟨T,V,f4,c4⟩ ⟨S,L,_,e⟩=>mk1 T (cU V) (cU S) f4 (cU L) e (T.length:Int) (V.length:Int) (S.length:Int) c4)
 (λ⟨T,V,_,_⟩ ⟨S,L,Dn,_⟩=>T.length<=1000000/\Uq T/\L.Nodup/\(∀z,z∈V↔z∈Dn\/z∈L)/\UpC T S/\S.Nodup/\ ∀z,z∈S↔marked T Dn z=true)
 (λ_ b=>b.2.1.length)
 (λ⟨T,V,f4,c4⟩ x=>x=(.exit 0,⟨49,[(0,.ref 0 0 0)],fL (cF T) (cU V) (cU (aZ T V)) f4 (T.length:Int) (V.length:Int) ((aZ T V).length:Int) c4 true false⟩))
 (by
  rintro⟨T,V,f4,c4⟩ ⟨S,L,Dn,e⟩ ⟨hm,hu,hn,hV,hS,hSn,hSm⟩;dsimp only at*
  (rw[<-qjT];delta b9 gD Z3o SQ Z6W Z6X nP nR jd Z6Z fo pV Z73 mZ D6 hY Z75 dH j8 ky dW sL Z72 Z79 Z78 SR J1 mC Z77 Z7b Z5 Z2y Z74 gx ud l8 A6 MV gj gk gy fQ fR gS gA)
  have hSl:S.length<=T.length:=by
   have:S⊆T.map (·.1):=λz hz=>by obtain⟨p,hp⟩:=wA ((hSm z).1 hz);obtain⟨h2,h3⟩:=bN hp;exact zaq.2 ⟨p,h2,h3⟩
   simpa using hSn.length_le_of_subset this
  refine⟨λk v hk=> ?_,λbI=> ?_⟩
  ·obtain⟨x,hx,rfl,rfl⟩:=vj hk;have uB:=zb hn x;have hlen:(L.erase x).length<L.length:=by rw[zcg hx];have:0<L.length:=zb0 hx;omega
   have hV': ∀z,z∈V↔z∈Dn++[x]\/z∈L.erase x:=λz=>by
    rw[hV z,zaz,zaJ,hn.mem_erase_iff];constructor
    ·rintro(h |h)
     ·exact .inl (.inl h)
     by_cases hz:z=x
     ·exact .inl (.inr hz)
     exact .inr ⟨hz,h⟩
    rintro((h |h)|h)
    ·exact .inl h
    ·exact .inr (h▸hx)
    exact .inr h.2
   have BS: ∀z,marked T (Dn++[x]) z=true↔marked T Dn z=true\/ ∃w,Up T x w/\z∈w:=λz=>by
    rw[hZ,hZ];constructor
    ·rintro⟨y,hy,h⟩;rcases zaz.1 hy with hy |hy
     ·exact .inl ⟨y,hy,h⟩
     rw[zaJ] at hy;subst hy;exact .inr h
    rintro(⟨y,hy,h⟩|h)
    ·exact⟨y,zbg _ hy,h⟩
    exact⟨x,by simp,h⟩
   have next: ∀S':List ao,S'=Ba T S x-> ∃m,m<L.length/\ ∃b':List ao×List ao×List ao×Option (D×D),(mk1 T (cU V) (cU S') f4 (jg (aL x) (cU L)) (some (aL x,.agg [])) (T.length:Int) (V.length:Int) (S'.length:Int) c4:Pi.S)=mk1 T (cU V) (cU b'.1) f4 (cU b'.2.1) b'.2.2.2 (T.length:Int) (V.length:Int) (b'.1.length:Int) c4/\
     (T.length<=1000000/\Uq T/\b'.2.1.Nodup/\(∀z,z∈V↔z∈b'.2.2.1\/z∈b'.2.1)/\UpC T b'.1/\b'.1.Nodup/\ ∀z,z∈b'.1↔marked T b'.2.2.1 z=true)/\m=b'.2.1.length:=λS' hS'=>by
    obtain⟨g1,g2,g3⟩:=VG x hS hSn;rw[<-hS'] at g1 g2 g3;refine⟨_,hlen,(S',L.erase x,Dn++[x],some (aL x,.agg [])),by rw[uB],⟨hm,hu,hn.erase _,hV',g1,g2,λz=> ?_⟩,rfl⟩;rw[g3,BS,hSm]
   refine aq (ga x) (aq MX ⟨T,x,cU V,cU S,f4,_,_,c4,true,false,rfl,rfl,hm,λw hw=> ?_,λhw=> ?_⟩)
   ·have hup:=pF.1 hw;have:=next (xI S w) (by unfold Ba;rw[hw]);exact⟨T,cU V,f4,_,_,S,w,_,c4,rfl,⟨by have:=hup.len;omega,by omega⟩,this,this⟩
   exact next S (by unfold Ba;rw[hw])
  have:=vn bI;subst this;have hVD: ∀z,z∈V↔z∈Dn:=λz=>by rw[hV z];simp
  have hp:=Ro hu hSn (live:=V) λz=>by rw[hSm,ME hVD]
  show _=_;rw[<-qb7 (a:=S) (b:=aZ T V) λz=>hp.mem_iff,<-hp.length_eq];rfl)
 (by
  rintro s ae ⟨T,V,f4,c4,rfl,⟨hm,hu,hn⟩,hp⟩;refine⟨(T,V,f4,c4),([],V,[],none),?_,⟨hm,hu,hn,λz=>by simp,λz hz=>by simp at hz,by simp,λz=>by simp[marked]⟩,?_⟩
  ·show _=mk1 T (cU V) (cU []) f4 (cU V) none _ _ _ c4;rw[O5];rfl
  rintro x rfl;exact hp)
theorem qgV:ND w0 81 qed:=ND.mk hX mN (by kernel_rfl) (by kernel_rfl) .nil .nil (.loop (by decide) (qjY hX).T .nil) (by
 intro ps R ae hh;obtain⟨T,V,f4,c4,z2,rfl,rfl,hc,hp⟩:=hh
 (rw[<-qgT];delta nP nR A6 RM jd fo gx Z7f Ju Z7e dH ky Z7d pV Z73 Z7h Z6Z MV mZ D6 hY Z6W b9 gD Z6X)
 exact⟨T,V,f4,c4,rfl,hc,hp⟩)
theorem qjZ:LN w0 126 3 (ah (aR 126 3) qjV):=LN.par hX mN (by kernel_rfl) (by kernel_rfl) (by kernel_rfl) .nil .nil .nil
 (A:=List Pl×List ao×(D->Option D)×(D->Option D)×Int×Int×Int×Bool) (B:=List ao×List ao×Option (D×D))
 (λ⟨T,V,f2,f4,c1,c2,c4,z2⟩ ⟨out,L,e⟩=>rs3 T f2 (cU V) f4 (cU L) e out out.length c1 c2 (V.length:Int) c4 z2)
 (λ⟨_,V,_⟩ ⟨out,L,_⟩=>V.length<=1000000/\L.Nodup/\(out++L).Perm V)
 (λ_ b=>b.2.1.length)
 (λ⟨T,V,f2,f4,c1,c2,c4,z2⟩ x=> ∃out:List ao,out.Perm V/\x=(.exit 0,⟨27,[(0,.ref 0 0 0),(3,.sl 5 0 out.length)],fL (cF T) f2 (cU V) f4 c1 c2 (V.length:Int) c4 z2 true++[(5,⟨0,none,.arr 49 false (out.map aL)⟩)]⟩))
 (by
  rintro⟨T,V,f2,f4,c1,c2,c4,z2⟩ ⟨out,L,e⟩ ⟨hm,hn,hp⟩;dsimp only at*
  (rw[<-qjW];delta dW sL Ey SQ jd Z79 Z78 SR J1 mC Z77 Z7b Z7l nP nR O2 l8 MV mZ D6 hY Z7j b9 gD Z7i kU)
  have hl:=hp.length_eq;rw[zaj] at hl;refine⟨λk v hk=> ?_,λbI=> ?_⟩
  ·obtain⟨x,hx,rfl,rfl⟩:=vj hk;have uB:=zb hn x;have h0:0<L.length:=zb0 hx;have hlen:(L.erase x).length<L.length:=by rw[zcg hx];omega
   refine aq (ga x) (aq MX (aq ?_ ⟨_,hlen,(out++[x],L.erase x,some (aL x,.agg [])),?_,⟨hm,hn.erase _,?_⟩,rfl⟩))
   ·rw[zaa];simp[aG];omega
   ·show _=rs3 T f2 (cU V) f4 (cU (L.erase x)) (some (aL x,.agg [])) (out++[x]) (out++[x]).length c1 c2 (V.length:Int) c4 z2;rw[Oz,<-uB];simp only[rs3,zaC,zaj,za4,zcz];rfl
   simp only;refine List.Perm.trans ?_ hp;rw[zaK];exact(zc2 hx).symm.append_left out
  have:=vn bI;subst this;exact⟨out,by simpa using hp,rfl⟩)
 (by rintro s ae ⟨T,V,f2,f4,c1,c2,c4,z2,rfl,⟨hm,hn⟩,hp⟩;refine⟨(T,V,f2,f4,c1,c2,c4,z2),([],V,none),rfl,⟨hm,hn,by simp⟩,?_⟩;rintro x ⟨out,h1,rfl⟩;exact hp out h1)
omit hX in
theorem pK(x y:ao):cfX (aL x) (aL y)<0↔fc x y=true:=ff x y
omit hX in
theorem WK(l:List ao)(hl:l.length<=1000000):mW PR sH 78 (l.map aL) cfX where
 fn:=⟨_,Tryz.func78,by kernel_rfl,by kernel_rfl⟩
 ag:=λd hd=>by obtain⟨x,_,rfl⟩:=zaq.1 hd;exact⟨_,rfl⟩
 len:=by simp;omega
 run:=λa ha b hb=>by obtain⟨x,_,rfl⟩:=zaq.1 ha;obtain⟨y,_,rfl⟩:=zaq.1 hb;exact FC.Vy F9 ⟨_,_,_,_,_,_,rfl,rfl,rfl⟩
 IV:=λa ha=>by obtain⟨x,_,rfl⟩:=zaq.1 ha;rw[pK,iq.IV];simp
 tr:=λa ha b hb c hc=>by obtain⟨x,_,rfl⟩:=zaq.1 ha;obtain⟨y,_,rfl⟩:=zaq.1 hb;obtain⟨z,_,rfl⟩:=zaq.1 hc;rw[pK,pK,pK];exact iq.tr x y z
 ntr:=λa ha b hb c hc=>by obtain⟨x,_,rfl⟩:=zaq.1 ha;obtain⟨y,_,rfl⟩:=zaq.1 hb;obtain⟨z,_,rfl⟩:=zaq.1 hc;rw[pK,pK,pK];intro h1 h2;simpa using iq.ntr (by simpa using h1) (by simpa using h2)
omit hX in
theorem J2:FD X 132 (tS 78 cfX 49):=FD.rZ Tryz.func132 (by kernel_rfl) (by kernel_rfl) λps R ae h=>lW (iP h)
omit hX in
theorem WL{α β:Type}(f:α->β)(g:β->α)(hg: ∀x,g (f x)=x){l:List α}{l':List β}(h:l'.Perm (l.map f)): ∃l2:List α,l'=l2.map f/\l2.Perm l:=by
 refine⟨l'.map g,?_,?_⟩
 ·rw[zb3];refine(zcM l').symm.trans (zbu λb hb=> ?_);obtain⟨a,_,rfl⟩:=zaq.1 (h.mem_iff.1 hb);simp[hg]
 have:=h.map g;rw[zb3] at this;rwa [show(g∘f)=id from funext hg,zcM] at this
def qb8:D->ao
 | .agg [.int .i64 a,.int .i64 b,.int .i64 c]=>(a,b,c)
 |_=>(0,0,0)
theorem WM:ND w0 126 O4:=ND.mk hX mN (by kernel_rfl) (by kernel_rfl) (.cons J2 .nil) .nil (.loop (by decide) (qjZ hX).T .nil) (by
 intro ps R ae hh;obtain⟨T,V,f2,f4,c1,c2,c4,z2,z3,rfl,rfl,⟨hm,hn⟩,hp⟩:=hh
 (rw[<-qgU];delta za dH Z7q dW Z7t MW Z7o pJ j8 O3 jd Z7f ky Z7d Z7h tO nP nR O2 l8 MV mZ D6 hY Z7j vN b9 gD Z8)
 refine aq (iz ⟨by omega,by omega,by omega,by omega⟩) ⟨T,V,f2,f4,c1,c2,c4,z2,rfl,⟨hm,hn⟩,λout ho=>⟨out.map aL,by rw[zaa],rfl,WK out (by rw[ho.length_eq];exact hm),λdh h1 h2=> ?_⟩⟩;obtain⟨l2,rfl,h3⟩:=WL aL qb8 (λ_=>rfl) h1;rw[zbe] at h2;have e:=A8 iq (h3.trans ho) (h2.imp λ{a b} h=>by rw[pK] at h;simpa using h);rw[e,ho.length_eq];exact hp)
end
abbrev nm2(L:List ao)(n:Nat)(k:Int)(h:D->Option D)(c:Int)(T:List Pl)(f2 f3 f4:D->Option D)(c1 c2 c3 c4:Int)(z2:Bool):S:=
 ⟨56,[(0,.ref 0 0 0),(2,.mp 5 0),(9,.sl 6 0 n),(10,iD n),(11,iD k)],fL (cF T) f2 f3 f4 c1 c2 c3 c4 z2 true++[(5,⟨0,none,.map 217 h c false⟩),(6,⟨0,none,.arr 49 false (L.map aL)⟩)]⟩
abbrev Hr T (V L:List ao):=xF D.str (λx=>if x∈L then some (tW T V x) else none)
def qj0:S->K (PX×S):=λs ae=> ∃T V f2 f3 c1 c2 c3 z2,s=nm2 (bT fc (aZ T V)) (aZ T V).length 0 uT 0 T f2 f3 uT c1 c2 c3 0 z2/\(T.length<=1000000/\Rt T)/\
 ae (.exit 0,⟨56,[(0,.ref 0 0 0)],fL (cF T) f2 f3 (Hr T V (aZ T V)) c1 c2 c3 ((aZ T V).length:Int) z2 true⟩)
def Z7v T L k:=aQ (cF T (D.agg (xH L k))) xG
def Z7w T L k:=D.agg [D.int .i64 (D.aj (D.au (Z7v T L k) 3)),D.int .i64 (D.aj (D.au (Z7v T L k) 4)),D.int .i64 (D.aj (D.au (Z7v T L k) 5)),D.str (D.cJ (D.au (Z7v T L k) 6))]
def Z7C:=D.agg [Z5,Z5,Z5,Z5,Z5,Z5,D.str (Array.toList (ByteArray.data (ByteArray.mk #[]))),Z2]
def Z7D T L k:=D.agg [D.int .i64 (D.aj (D.au (aQ (cF T (Ox L k)) Z7C) A2)),D.int .i64 (D.aj (D.au (aQ (cF T (Ox L k)) Z7C) (A2+1))),D.int .i64 (D.aj (D.au (aQ (cF T (Ox L k)) Z7C) KY)),D.str (Array.toList (ByteArray.data (ByteArray.mk (Array.mk (D.cJ (D.au (aQ (cF T (Ox L k)) Z7C) (KY+1)))))))]
def Z7E T L k h c:=(5,En.mk 0 none (Obj.map 217 (λk'=>bif D.gH (Z7D T L k) k' then some (D.int .i64 (D.aj (aQ (h (Z7D T L k)) Z5)+(1:Int))) else aX (Z7D T L k) (aQ (h (Z7D T L k)) Z5) h k') (bif Option.isSome (h (Z7w T L k)) then c else c+(1:Int)) false))::Z72 L
def SS T c1:=(1,En.mk 0 (some 1) (Obj.map 49 (λx=>match x with |D.agg [D.int .i64 a,D.int .i64 b,D.int .i64 c]=>Option.map bn (a7 T (a,b,c))|_=>none) c1 false))
def Z7z k:=[(11,Zm k)]
def Z7y:=(2,P.mp 5 0)
def Z7A n k:=gD::Z7y::(9,P.sl 6 0 n)::(10,Z71 n)::Z7z k
def Z7x T L k h:=aQ (aX (Z7w T L k) (D.int .i64 (D.aj (aQ (h (Z7w T L k)) Z5)+(1:Int))) (aX (Z7w T L k) (aQ (h (Z7w T L k)) Z5) h) (Z7w T L k)) Z5
theorem qj1 L n k h c T f2 f3 f4 c1 c2 c3 c4 z2 ae:(bif Ex k n then ob (ke k n) (ob (J0 k L) (ob (q9 L k) (ob (bO PR (108:TypeId) (Z7v T L k)) (ob (bO PR (3:TypeId) (aQ (h (Z7w T L k)) Z5)) (ob (decide (Z7<=D.aj (aQ (h (Z7w T L k)) Z5)+(1:Int)/\D.aj (aQ (h (Z7w T L k)) Z5)+(1:Int)<=Z8)) (ob (bO PR (3:TypeId) (Z7x T L k h)) (bif decide (D.aj (Z7x T L k h)>(1:Int)) then∃s t r i,[P.d (D.str (D.cJ (D.au (Z7v T L k) 6))),P.d (D.agg (xH L k))]=P.d (D.str s)::ZZ t r i/\Zx/\ob (Zh k) (ae (PX.normal,S.mk 56 (Z7A n k) (hY::SS T c1::l8 f2 c2 z2::O2 f3 c3::(4,En.mk 0 (some 4) (Obj.map 49 (λk'=>bif D.gH (Ox L k) k' then some (D.str (Prod.fst (gw s t r i))) else aX (Ox L k) (D.str (D.cJ (D.au (aQ (cF T (Ox L k)) Z7C) (KY+1)))) f4 k') (bif Option.isSome (aX (D.agg (xH L k)) (D.str (D.cJ (D.au (Z7v T L k) 6))) f4 (D.agg (xH L k))) then Z33 f4 L k c4 else Z33 f4 L k c4+(1:Int)) false))::Z7E T L k h c))) else ob (Zh k) (ae (PX.normal,S.mk 56 (Z7A n k) (hY::SS T c1::l8 f2 c2 z2::O2 f3 c3::(4,En.mk 0 (some 4) (Obj.map 49 (λk'=>bif D.gH (Ox L k) k' then some (D.str (D.cJ (D.au (aQ (cF T (Ox L k)) Z7C) (KY+1)))) else f4 k') (Z33 f4 L k c4) false))::Z7E T L k h c)))))))))) else ae (PX.exit 0,S.mk 56 Z3o (hY::SS T c1::l8 f2 c2 z2::O2 f3 c3::A6 f4 c4)))=(cC [(127,F4)] [] [] 82 2 (nm2 L n k h c T f2 f3 f4 c1 c2 c3 c4 z2)) ae:=by kernel_rfl
def Z7G:=(4,En.mk 0 (some 4) Ju)
def Z7H:=(5,En.mk 0 none (Obj.map 217 (λ_=>none) (0:Int) false))
def Z7F:=[(11,P.d Z5)]
theorem qj2 T f2 f3 f4 c1 c2 c3 c4 z2 z3 ae:(∃(eR:List Pl) (V:List ao) (qb:D->Option D) (kz:D->Option D) (WJ:Int) (l9:Int) (kV:Int) (uV:Bool) (CQ:Bool),tK=tK/\hY::SS T c1::l8 f2 c2 z2::ud f3 c3 z3::A6 f4 c4=hY::SS eR WJ::l8 qb l9 uV::(3,En.mk 0 (some 3) (Obj.map 49 (λx=>match x with |D.agg [D.int .i64 a,D.int .i64 b,D.int .i64 c]=>Option.map (λ_=>jd) ((λx=>if x∈V then some () else none) (a,b,c))|_=>none) (ky V) CQ))::A6 kz kV/\O3 V/\ ∃T ew f2 f3 c1 c2 c3 z2,S.mk 56 (gD::Z7y::(9,P.sl 6 0 (dH V))::(10,Z2y V)::Z7F) [hY,SS eR WJ,l8 qb l9 uV,(3,En.mk 0 (some 3) (Obj.map 49 (λx=>match x with |D.agg [D.int .i64 a,D.int .i64 b,D.int .i64 c]=>Option.map (λ_=>jd) ((λx=>if x∈V then some () else none) (a,b,c))|_=>none) (ky V) true)),nR kz kV,Z7H,(6,En.mk 0 none (Obj.arr (49:TypeId) false (List.map aL (bT fc V))))]=S.mk 56 (gD::Z7y::(9,P.sl 6 0 (List.length (aZ T ew)))::(10,P.d (D.int .i64 (RM T ew)))::Z7F) [hY,SS T c1,l8 f2 c2 z2,O2 f3 c3,Z7G,Z7H,(6,En.mk 0 none (Obj.arr (49:TypeId) false (List.map aL (bT fc (aZ T ew)))))]/\(gx T/\Rt T)/\ae (P.dz [],[hY,SS T c1,l8 f2 c2 z2,O2 f3 c3,(4,En.mk 0 (some 4) (Obj.map 49 (λx=>match x with |D.agg [D.int .i64 a,D.int .i64 b,D.int .i64 c]=>Option.map D.str ((λx=>if x∈aZ T ew then some (tW T ew x) else none) (a,b,c))|_=>none) (RM T ew) false))]))=(gB [] [(126,O4)] [(2,ah (aR 82 2) qj0)] 82 [.ref 0 0 0] (fL (cF T) f2 f3 f4 c1 c2 c3 c4 z2 z3)) ae:=by kernel_rfl
def zY:a8:=λps R ae=> ∃T V f2 c1 c2 z2 z3,ps=[.ref 0 0 0]/\R=fL (cF T) f2 (cU (aZ T V)) uT c1 c2 ((aZ T V).length:Int) 0 z2 z3/\(T.length<=1000000/\Rt T)/\
 ae (.dz [],fL (cF T) f2 (cU (aZ T V)) (Hr T V (aZ T V)) c1 c2 ((aZ T V).length:Int) ((aZ T V).length:Int) z2 true)
abbrev pt4(w:List ao)(n:Nat)(k:Int)(o:List D)(f1 f2 f3 f4:D->Option D)(c1 c2 c3 c4:Int)(z2 z3:Bool):S:=
 ⟨42,[(0,.ref 0 0 0),(5,.sl 5 0 n),(7,.sl 6 0 n),(19,.sl 5 0 n),(20,iD n),(21,iD k)],fL f1 f2 f3 f4 c1 c2 c3 c4 z2 z3++[(5,⟨0,none,.arr 49 false (w.map aL)⟩),(6,⟨0,none,.arr 9 false o⟩)]⟩
def qgW:S->K (PX×S):=λs ae=> ∃w nm f1 f2 f3 f4 c1 c2 c3 c4 z2 z3,s=pt4 w w.length 0 (List.replicate w.length (.str [])) f1 f2 f3 f4 c1 c2 c3 c4 z2 z3/\(w.length<=1000000/\ ∀u∈w,f4 (aL u)=some (.str (nm u)))/\
 ae (.exit 0,⟨42,[(0,.ref 0 0 0),(7,.sl 5 0 w.length)],fL f1 f2 f3 f4 c1 c2 c3 c4 z2 z3++[(5,⟨0,none,.arr 9 false ((w.reverse.map nm).map D.str)⟩)]⟩)
theorem qj3 w n k o f1 f2 f3 f4 c1 c2 c3 c4 z2 z3 ae:(bif Ex k n then ob (ke k n) (ob (J0 k w) (ob (q9 w k) (ob (decide (Z7<=K4 n/\K4 n<=Z8)) (ob (decide (Z7<=K4 n-k/\K4 n-k<=Z8)) (ob (bO PR (9:TypeId) (aQ (f4 (D.agg (xH w k))) oP)) (ob (decide ((0:Int)<=K4 n-k/\K4 n-k<(↑n:Int))) (ob (decide (Int.toNat (K4 n-k)<List.length o)) (ob (bO PR (9:TypeId) (D.nth o (Int.toNat (K4 n-k)))) (ob (Zh k) (ae (PX.normal,S.mk 42 [gD,(5,Ey n),(7,P.sl 6 0 n),(19,Ey n),(20,Z71 n),(21,Zm k)] [hY,Gc f1 c1,l8 f2 c2 z2,ud f3 c3 z3,nR f4 c4,(5,sL w),(6,En.mk 0 none (Obj.arr (9:TypeId) false (List.set o (Int.toNat (K4 n-k)) (D.aT (D.str (D.cJ (D.nth o (Int.toNat (K4 n-k))))) [D.str (D.cJ (aQ (f4 (D.agg (xH w k))) oP))]))))]))))))))))) else ae (PX.exit 0,S.mk 42 [gD,(7,Ey n)] [hY,Gc f1 c1,l8 f2 c2 z2,ud f3 c3 z3,nR f4 c4,(5,En.mk 0 none (Obj.arr (9:TypeId) false o))]))=(aD [] [] 83 4 (pt4 w n k o f1 f2 f3 f4 c1 c2 c3 c4 z2 z3)) ae:=by kernel_rfl
def Z7K f2 c2 z2 f3 c3 z3 f4 c4 w:=[l8 f2 c2 z2,ud f3 c3 z3,nR f4 c4,(5,sL w),(6,En.mk 0 none (Obj.arr (9:TypeId) false (List.replicate (dH w) oP)))]
def Z7J w:=[gD,(5,P.sl 5 0 (dH w)),(7,P.sl 6 0 (dH w)),(19,P.sl 5 0 (dH w)),(20,Z2y w),(21,P.d Z5)]
def Z7L(ae:P×List (Nat×En)->Prop):=λs0=> ∃w nm f1 f2 f3 f4 c1 c2 c3 c4 z2 z3,s0=S.mk 42 (Z7J w) (hY::Gc f1 c1::Z7K f2 c2 z2 f3 c3 z3 f4 c4 w)/\(j8 w/\ ∀u,u∈w->f4 (aL u)=some (D.str (nm u)))/\ ∃l,[P.d (D.sl 1 (List.take (dH w) (List.map D.str (List.map nm (List.reverse w)))))]=[Z1m l]/\Zx/\ye l<=2000000/\ae (P.d (D.str (sJ l)),hY::Gc f1 c1::l8 f2 c2 z2::ud f3 c3 z3::A6 f4 c4)
def Z7I eR:=(1,En.mk 0 (some 1) (Obj.map 49 (λx=>match x with |D.agg [D.int .i64 a,D.int .i64 b,D.int .i64 c]=>Option.map bn (a7 eR (a,b,c))|_=>none) (pV eR) false))
theorem qnU T x f2 f3 f4 c1 c2 c3 c4 z2 z3 ae:(∃eR bm qb tQ kz l9 tR kV uV CQ,b9::gA x=b9::gA bm/\hY::SS T c1::l8 f2 c2 z2::ud f3 c3 z3::A6 f4 c4=hY::Z7I eR::l8 qb l9 uV::ud tQ tR CQ::A6 kz kV/\gx eR/\(∀l,wy eR bm=some l->ob (decide ((0:Int)<=ky l/\ky l<=ky l/\ky l<=Z8/\(16:Int)*ky l<=(281474976710656:Int))) (Z7L ae (S.mk 42 (Z7J l) (hY::Z7I eR::Z7K qb l9 uV tQ tR CQ kz kV l))))/\(wy eR bm=none->Z7L ae (S.mk 42 [gD,(5,vN),(7,P.sl 6 0 0),(19,vN),(20,P.d Z5),(21,P.d Z5)] [hY,Z7I eR,l8 qb l9 uV,ud tQ tR CQ,nR kz kV,(5,tO),(6,Z1Y)])))=(aI [(125,qbu),(128,Mw)] [(4,ah (aR 83 4) qgW)] 83 [.ref 0 0 0,.d (aL x)] (fL (cF T) f2 f3 f4 c1 c2 c3 c4 z2 z3)) ae:=by kernel_rfl
def qee:a8:=λps R ae=> ∃T x w nm f2 f3 f4 c2 c3 c4 z2 z3,ps=[.ref 0 0 0,.d (aL x)]/\R=fL (cF T) f2 f3 f4 (T.length:Int) c2 c3 c4 z2 z3/\(T.length<=1000000/\Up T x w/\(∀u∈w,f4 (aL u)=some (.str (nm u)))/\ye (w.reverse.map nm)<=2000000)/\
 ae (sD (dm (w.reverse.map nm)),fL (cF T) f2 f3 f4 (T.length:Int) c2 c3 c4 z2 z3)
theorem WN{l}(h:l≠[]):sJ l=dm l:=(F7 l h).symm
theorem qb9 m a b v (h:a.length=m) x:((a++x::b).map D.str).set m (.str v)=(a++v::b).map D.str:=by subst h;simp
section
variable{X:XF}
theorem qca:LD X 83 4 (ah (aR 83 4) qgW):=LD.par (by kernel_rfl) (by kernel_rfl) .nil .nil
 (A:=List ao×(ao->List UInt8)×(D->Option D)×(D->Option D)×(D->Option D)×(D->Option D)×Int×Int×Int×Int×Bool×Bool) (B:=Int)
 (λ⟨w,nm,f1,f2,f3,f4,c1,c2,c3,c4,z2,z3⟩ k=>pt4 w w.length k ((List.replicate (w.length-k.toNat) []++(w.take k.toNat).reverse.map nm).map D.str) f1 f2 f3 f4 c1 c2 c3 c4 z2 z3)
 (λ⟨w,nm,_,_,_,f4,_⟩ k=>w.length<=1000000/\0<=k/\k<=w.length/\ ∀u∈w,f4 (aL u)=some (.str (nm u)))
 (λ⟨w,_⟩ k=>(w.length-k).toNat)
 (λ⟨w,nm,f1,f2,f3,f4,c1,c2,c3,c4,z2,z3⟩ x=>x=(.exit 0,⟨42,[(0,.ref 0 0 0),(7,.sl 5 0 w.length)],fL f1 f2 f3 f4 c1 c2 c3 c4 z2 z3++[(5,⟨0,none,.arr 9 false ((w.reverse.map nm).map D.str)⟩)]⟩))
 (by
  rintro⟨w,nm,f1,f2,f3,f4,c1,c2,c3,c4,z2,z3⟩ k ⟨hm,h0,hk,hf⟩;dsimp only at*
  (rw[<-qj3];delta dW sL nP nR ud l8 Gc mZ D6 hY Zl Zm Z71 Ey b9 gD Z8 Z7 Zh oP Ze BV BW A4 xH K4 q9 kU J0 ke Ex)
  refine aW (λh=> ?_) λh=> ?_
  ·have iB:k.toNat<w.length:=by omega
   rw[A5 iB];have hu:w.getD k.toNat (0,0,0)∈w:=by rw[zab,zad iB];exact zas iB
   have hf':=hf _ hu;generalize hge:w.getD k.toNat (0,0,0)=u at hf' hu;have hf2:f4 (D.agg [D.int IntKind.i64 (D.aj (D.au (aL u) 0)),D.int IntKind.i64 (D.aj (D.au (aL u) 1)),D.int IntKind.i64 (D.aj (D.au (aL u) 2))])=some (.str (nm u)):=hf';simp only[hf2];have em:((w.length:Int)-1-k).toNat=w.length-1-k.toNat:=by omega
   rw[em];have er:w.length-k.toNat=(w.length-1-k.toNat)+1:=by omega
   have eo:(List.replicate (w.length-k.toNat) []++(w.take k.toNat).reverse.map nm)=List.replicate (w.length-1-k.toNat) []++[]::(w.take k.toNat).reverse.map nm:=by rw[er,List.replicate_succ'];simp
   rw[eo];refine bh ⟨h0,h⟩ (aq (iz (by simpa using iB)) (aq (ga u) (bh ⟨by omega,by omega⟩ (bh ⟨by omega,by omega⟩ (aq (qje _) (bh ⟨by omega,by omega⟩ (aq (iz (by simp<;>omega)) (aq ?_ (aq (iZ (by omega) (by omega)) ?_)))))))))
   ·rw[Vk (by simp<;>omega)];exact qje _
   refine⟨((w.length:Int)-(k+1)).toNat,by omega,k+1,?_,⟨hm,by omega,by omega,hf⟩,rfl⟩;have et:List.replicate (w.length-(k+1).toNat) []++(w.take (k+1).toNat).reverse.map nm=List.replicate (w.length-1-k.toNat) []++nm u::(w.take k.toNat).reverse.map nm:=by
    have e1:(k+1).toNat=k.toNat+1:=by omega
    rw[e1,zbS,zad iB];have:w[k.toNat]=u:=by rw[<-hge,zab,zad iB];rfl
    rw[this];simp;omega
   have:=qb9 (w.length-1-k.toNat) (List.replicate (w.length-1-k.toNat) []) ((w.take k.toNat).reverse.map nm) (nm u) (by simp) [];show _=pt4 w w.length (k+1) _ f1 f2 f3 f4 c1 c2 c3 c4 z2 z3;rw[et,<-this,Vk (by simp<;>omega)];rfl
  have:k.toNat=w.length:=by omega
  rw[this];simp only[zdn,List.replicate_zero,zbq,zai];rfl)
 (by
  rintro s ae ⟨w,nm,f1,f2,f3,f4,c1,c2,c3,c4,z2,z3,rfl,⟨hm,hf⟩,hp⟩;refine⟨(w,nm,f1,f2,f3,f4,c1,c2,c3,c4,z2,z3),0,?_,⟨hm,by simp,by simp,hf⟩,?_⟩
  ·simp
  rintro x rfl;exact hp)
theorem qgX:FD X 83 qee:=FD.mk (by kernel_rfl) (.cons qd3 (.cons qgl .nil)) (.cons qca .nil) (by
 intro ps R ae hh;obtain⟨T,x,w,nm,f2,f3,f4,c2,c3,c4,z2,z3,h01,h02,⟨hm,hw,hf,hs⟩,hp⟩:=hh;subst h01;have key: ∀c1:Int,c1=(T.length:Int)->aI [(125,qbu),(128,Mw)] [(4,ah (aR 83 4) qgW)] 83 [.ref 0 0 0,.d (aL x)] (fL (cF T) f2 f3 f4 c1 c2 c3 c4 z2 z3) ae:=by
  intro c1 hc
  (rw[<-qnU];delta Z1Y tO nP nR Z5 vN b9 gD oP dH dW sL ud l8 Z7K ky Z2y Z7J A6 Zx Z1m j8 Gc mZ D6 hY Z7L Z8 fo gx pV Z7I SS gj gk gy fQ fR gS gA)
  have hl:=hw.len;refine⟨T,x,f2,f3,f4,c2,c3,c4,z2,z3,rfl,by rw[hc],hm,λl NR=> ?_,λh=>by rw[pF.2 hw] at h;cases h⟩;rw[pF.2 hw] at NR;cases NR;refine bh ⟨by omega,by omega,by omega,by omega⟩ ⟨w,nm,cF T,f2,f3,f4,_,c2,c3,c4,z2,z3,rfl,⟨by omega,hf⟩,w.reverse.map nm,?_,rfl,hs,?_⟩
  ·rw[zak (by simp)]
  rw[WN (by obtain⟨r,rfl⟩:=hw.hd;simp)];exact hp
 rw[h02];clear hp h02;generalize hc:(T.length:Int)=c1;exact key c1 hc.symm)
end
section
variable{T:List Pl}{live:List ao}
def bY T live:=bT fc (aZ T live)
theorem oI{x}:x∈bY T live↔marked T live x=true:=by unfold bY;rw[(bR _).mem_iff,oB]
theorem WO:(bY T live).length=(aZ T live).length:=(bR _).length_eq
theorem Bt(hu:Uq T):(bY T live).Nodup:=by unfold bY;rw[(bR _).nodup_iff];exact jR hu live
theorem qcb(hu:Uq T):(bY T live).Pairwise λx y=>fc x y=true:=by
 refine((uY iq (aZ T live)).and (Bt (live:=live) hu)).imp ?_;intro x y h;cases hl:fc x y with
 |true=>rfl
 |false=>exact absurd (iq.rU _ _ hl h.1) h.2
def Ez(p q:Pl):=decide (q.2.1=p.2.1)&&q.2.2.1==p.2.2.1
def kC(l:List Pl) p:=l.countP (Ez p)
def lr T x:=(a7 T x).getD ((0,0,0),(0,0,0),[],false)
theorem wP{x}(h:marked T live x=true):a7 T x=some (lr T x):=by obtain⟨p,hp⟩:=wA h;unfold lr;rw[hp];rfl
theorem O6(hT:Rt T){k x}(hx:(bY T live)[k]?=some x):0<kC (((bY T live).take k).map (lr T)) (lr T x)↔(aS T live).any (λq=>decide (q.2.1=(lr T x).2.1)&&(q.2.2.1==(lr T x).2.2.1)&&fc q.1 (lr T x).1)=true:=by
 have hk:k<(bY T live).length:=(zae.1 hx).1;have hxk:(bY T live)[k]=x:=(zae.1 hx).2;have SU:marked T live x=true:=oI.1 (zaA hx);have He:(lr T x).1=x:=(bN (wP SU)).2;have bK:=zbb.1 (qcb (live:=live) hT.1);unfold kC;rw[List.countP_pos_iff,za3];constructor
 ·rintro⟨q,hq,hs⟩;obtain⟨y,hy,rfl⟩:=zaq.1 hq;obtain⟨j,hj,hjy⟩:=zaQ hy;rw[zdl] at hjy;rw[zau] at hj;have hmy:marked T live y=true:=oI.1 (zbm hy);have hpy:(lr T y).1=y:=(bN (wP hmy)).2;refine⟨lr T y,vf hmy (wP hmy),?_⟩;have:=bK j k (by omega) hk (by omega);rw[hjy,hxk] at this;rw[He,hpy,this,zb6];exact hs
 rintro⟨q,hq,hs⟩;simp only[zac] at hs;obtain⟨hqT,hqm⟩:=vi hq;have hqa:lr T q.1=q:=by unfold lr;rw[gT hT.1 hqT];rfl
 obtain⟨j,hj,hjq⟩:=zaQ (oI.2 hqm);have hjk:j<k:=by
  rw[He,<-hxk,<-hjq] at hs;rcases zdi j k with h |h |h
  ·exact h
  ·subst h;rw[iq.IV] at hs;cases hs.2
  have:=iq.asymm (bK k j hk hj h);rw[hs.2] at this;cases this
 refine⟨q,zaq.2 ⟨q.1,?_,hqa⟩,?_⟩
 ·rw[<-hjq];exact zcE.2 ⟨j,by omega,rfl⟩
 unfold Ez;rw[zac];exact hs.1
theorem qcc(hT:Rt T){k x}(hx:(bY T live)[k]?=some x):tW T live x=if 0<kC (((bY T live).take k).map (lr T)) (lr T x) then(gw (lr T x).2.2.1 (lr T x).1.1 (lr T x).1.2.1 (lr T x).1.2.2).1 else(lr T x).2.2.1:=by
 have SU:marked T live x=true:=oI.1 (zaA hx);unfold tW;rw[wP SU];simp only[Gz];by_cases h:0<kC (((bY T live).take k).map (lr T)) (lr T x)
 ·rw[zap h,zap ((O6 hT hx).1 h)]
 rw[zan h,zan (λh'=>h ((O6 hT hx).2 h'))]
def df(l:List Pl):D->Option D
 | .agg [.int .i64 a,.int .i64 b,.int .i64 c,.str s]=>if 0<kC l ((0,0,0),(a,b,c),s,false) then some (.int .i64 (kC l ((0,0,0),(a,b,c),s,false):Int)) else none
 |_=>none
def ja(p:Pl):D:= .agg [.int .i64 p.2.1.1,.int .i64 p.2.1.2.1,.int .i64 p.2.1.2.2,.str p.2.2.1]
theorem O7 l p:df l (ja p)=if 0<kC l p then some (.int .i64 (kC l p:Int)) else none:=rfl
theorem WQ l p:(df l (ja p)).getD (.int .i64 0)= .int .i64 (kC l p:Int):=by
 rw[O7];split
 ·rfl
 have:kC l p=0:=by omega
 rw[this];rfl
theorem J3 l p q:kC (l++[p]) q=kC l q+if Ez q p=true then 1 else 0:=by unfold kC;rw[List.countP_append];simp[List.countP_cons]
end
theorem O8 k v u g:aX k v (aX k u g)=aX k v g:=by funext d;unfold aX;cases D.gH k d<;>rfl
theorem MY k v g:aX k v g k=some v:=by unfold aX;rw[(D.bS k k).2 rfl];rfl
theorem WR l p:aX (ja p) (.int .i64 ((kC l p:Int)+1)) (df l)=df (l++[p]):=by
 funext d;cases hd:D.gH (ja p) d with
 |true=>have:=(D.bS _ _).1 hd;subst this;rw[MY,O7,J3,zap (show Ez p p=true by simp[Ez]),zap (by omega)];simp
 |false=>
  have cO:ja p≠d:=λe=>by rw[(D.bS _ _).2 e] at hd;cases hd
  have e0:aX (ja p) (.int .i64 ((kC l p:Int)+1)) (df l) d=df l d:=by unfold aX;rw[hd];rfl
  rw[e0];unfold df;split
  next a b c s=>
   have:kC (l++[p]) ((0,0,0),(a,b,c),s,false)=kC l ((0,0,0),(a,b,c),s,false):=by
    rw[J3,zan]
    ·rfl
    intro h;simp only[Ez,zac,zah,za1] at h;refine cO ?_;unfold ja;rw[h.1,h.2]
   rw[this]
  rfl
theorem qcd{T V L} x:aX (aL x) (.str (tW T V x)) (Hr T V L)=Hr T V (L++[x]):=by refine yS D.str _ _ x (tW T V x) (by simp) λy hy=> ?_;simp[hy]
theorem WS T V L x:Hr T V L (aL x)=(if x∈L then some (tW T V x) else none).map D.str:=rfl
theorem isInt n:bO PR 3 (.int .i64 n)=true:=by kernel_rfl
section
variable{X:XF}{w0:World}(hX:cz PR w0 X.cf)
include hX
theorem qj4:LN w0 82 2 (ah (aR 82 2) qj0):=LN.par hX mN (by kernel_rfl) (by kernel_rfl) (by kernel_rfl) (.cons qbj .nil) .nil .nil
 (A:=List Pl×List ao×(D->Option D)×(D->Option D)×Int×Int×Int×Bool) (B:=Int×Int)
 (λ⟨T,V,f2,f3,c1,c2,c3,z2⟩ b=>nm2 (bY T V) (aZ T V).length b.1 (df (((bY T V).take b.1.toNat).map (lr T))) b.2 T f2 f3 (Hr T V ((bY T V).take b.1.toNat)) c1 c2 c3 b.1 z2)
 (λ⟨T,V,_⟩ b=>T.length<=1000000/\Rt T/\0<=b.1/\b.1<=(bY T V).length)
 (λ⟨T,V,_⟩ b=>((bY T V).length-b.1).toNat)
 (λ⟨T,V,f2,f3,c1,c2,c3,z2⟩ x=>x=(.exit 0,⟨56,[(0,.ref 0 0 0)],fL (cF T) f2 f3 (Hr T V (aZ T V)) c1 c2 c3 ((aZ T V).length:Int) z2 true⟩))
 (by
  rintro⟨T,V,f2,f3,c1,c2,c3,z2⟩ ⟨k,c⟩ ⟨hm,hT,h0,hk⟩;dsimp only at*
  (rw[<-qj1];delta nP nR A6 b9 gD Z3o dW sL Z72 Z2 oP Z5 xG Ze BV BW A4 xH Z7v Z7w mC A2 KY Z7C Ox Z7D Z7E Z33 O2 l8 SS mZ D6 hY Zl Zm Z7z Z71 Z7y Z7A Z8 Z7 Zh Zx Zt ZE ZZ Z7x q9 kU J0 ke Ex)
  have hrl:=WO (T:=T) (live:=V);have Dz:(aZ T V).length<=T.length:=by unfold aZ aS;rw[zaa];exact zaM _ _
  simp only[zaa];refine aW (λh=> ?_) λh=> ?_
  ·have iB:k.toNat<(bY T V).length:=by omega
   rw[A5 iB];have hx:(bY T V)[k.toNat]?=some ((bY T V).getD k.toNat (0,0,0)):=by rw[zab,zad iB];rfl
   generalize (bY T V).getD k.toNat (0,0,0)=x at hx;have SU:marked T V x=true:=oI.1 (zaA hx);have He:=wP SU;have yM:=qcc hT hx;have oc:=hT.2 _ (bN He).1;have Co:(lr T x).1=x:=(bN He).2;have nq:(bY T V).take (k+1).toNat=(bY T V).take k.toNat++[x]:=by rw[show(k+1).toNat=k.toNat+1 by omega,zbS,hx];rfl
   have bI:Hr T V ((bY T V).take k.toNat) (aL x)=none:=by
    rw[WS,zan]
    ·rfl
    intro dB;obtain⟨j,hj,hjx⟩:=zaQ dB;rw[zdl] at hjx;rw[zau] at hj;have hxk:(bY T V)[k.toNat]=x:=(zae.1 hx).2;have:=zbb.1 (Bt (live:=V) hT.1) j k.toNat (by omega) iB (by omega);exact this (by rw[hjx,hxk])
   have qce:=qcd (T:=T) (V:=V) (L:=(bY T V).take k.toNat) x;have qgY:=WR (((bY T V).take k.toNat).map (lr T)) (lr T x);have qj5:=WQ (((bY T V).take k.toNat).map (lr T)) (lr T x);have Hj:kC (((bY T V).take k.toNat).map (lr T)) (lr T x)<=1000000:=by have h1:kC (((bY T V).take k.toNat).map (lr T)) (lr T x)<=(((bY T V).take k.toNat).map (lr T)).length:=List.countP_le_length;rw[zaa,zau] at h1;omega
   rw[show(((bY T V).take k.toNat).map (lr T))++[lr T x]=((bY T V).take (k+1).toNat).map (lr T) by rw[nq];simp] at qgY;rw[<-nq] at qce;generalize Hr T V ((bY T V).take k.toNat)=f4 at bI qce;generalize (((bY T V).take k.toNat).map (lr T))=l at qgY qj5 Hj yM;generalize lr T x=p at*
   have hf:cF T (D.agg [D.int IntKind.i64 (D.aj (D.au (aL x) 0)),D.int IntKind.i64 (D.aj (D.au (aL x) 1)),D.int IntKind.i64 (D.aj (D.au (aL x) 2))])=some (bn p):=by show cF T (aL x)=_;rw[nK,He];rfl
   simp only[zaD,Nat.reduceAdd,hf];have lI:aQ (df l (ja p)) (.int .i64 0)= .int .i64 (kC l p:Int):=qj5;have hgt:aQ (aX (ja p) (.int .i64 (D.aj (aQ (df l (ja p)) (.int .i64 0))+1)) (aX (ja p) (aQ (df l (ja p)) (.int .i64 0)) (df l)) (ja p)) (.int .i64 0)= .int .i64 ((kC l p:Int)+1):=by rw[MY,lI];rfl
   have wg:aX (ja p) (.int .i64 (D.aj (aQ (df l (ja p)) (.int .i64 0))+1)) (aX (ja p) (aQ (df l (ja p)) (.int .i64 0)) (df l))=df (((bY T V).take (k+1).toNat).map (lr T)):=by rw[O8,lI];exact qgY
   refine bh ⟨h0,by omega⟩ (aq (iz iB) (aq (ga x) (aq (dX p) (aq ?_ (aq ?_ (aq ?_ (ay (λhc=> ?_) λhc=> ?_)))))))
   ·show bO PR 3 (aQ (df l (ja p)) (.int .i64 0))=true;rw[lI];exact isInt _
   ·show decide ((-9223372036854775808:Int)<=D.aj (aQ (df l (ja p)) (.int .i64 0))+1/\D.aj (aQ (df l (ja p)) (.int .i64 0))+1<=9223372036854775807)=true;rw[lI];exact iz (show(-9223372036854775808:Int)<=(kC l p:Int)+1/\(kC l p:Int)+1<=9223372036854775807 from⟨by omega,by omega⟩)
   ·show bO PR 3 (aQ (aX (ja p) (.int .i64 (D.aj (aQ (df l (ja p)) (.int .i64 0))+1)) (aX (ja p) (aQ (df l (ja p)) (.int .i64 0)) (df l)) (ja p)) (.int .i64 0))=true;rw[hgt];exact isInt _
   ·have oN:decide (D.aj (aQ (aX (ja p) (.int .i64 (D.aj (aQ (df l (ja p)) (.int .i64 0))+1)) (aX (ja p) (aQ (df l (ja p)) (.int .i64 0)) (df l)) (ja p)) (.int .i64 0))>1)=true:=hc;rw[hgt] at oN;have hc2:(kC l p:Int)+1>1:=zbC oN;rw[zap (by omega)] at yM;refine⟨p.2.2.1,x.1,x.2.1,x.2.2,rfl,rfl,aq (iZ (by omega) (by omega)) ⟨((bY T V).length-(k+1)).toNat,by omega,(k+1,bif (df l (ja p)).isSome then c else c+1),?_,⟨hm,hT,by simp only;omega,by simp only;omega⟩,rfl⟩⟩;simp only;rw[Co] at yM;have CC:(k+1:Int)=bif (aX (aL x) (.str p.2.2.1) f4 (aL x)).isSome then(bif (f4 (aL x)).isSome then k else k+1) else(bif (f4 (aL x)).isSome then k else k+1)+1:=by rw[MY,bI];rfl
    have goal: ∀c4':Int,c4'=k+1->nm2 (bY T V) (aZ T V).length (k+1) (aX (ja p) (.int .i64 (D.aj (aQ (df l (ja p)) (.int .i64 0))+1)) (aX (ja p) (aQ (df l (ja p)) (.int .i64 0)) (df l))) (bif (df l (ja p)).isSome then c else c+1) T f2 f3 (aX (aL x) (.str (gw p.2.2.1 x.1 x.2.1 x.2.2).1) (aX (aL x) (.str p.2.2.1) f4)) c1 c2 c3 c4' z2=nm2 (bY T V) (aZ T V).length (k+1) (aX (ja p) (.int .i64 (D.aj (aQ (df l (ja p)) (.int .i64 0))+1)) (aX (ja p) (aQ (df l (ja p)) (.int .i64 0)) (df l))) (bif (df l (ja p)).isSome then c else c+1) T f2 f3 (aX (aL x) (.str (gw p.2.2.1 x.1 x.2.1 x.2.2).1) (aX (aL x) (.str p.2.2.1) f4)) c1 c2 c3 (k+1) z2:=λc4' h=>by rw[h]
    exact(goal _ CC.symm).trans (by rw[wg,O8,<-yM,qce])
   have oN:decide (D.aj (aQ (aX (ja p) (.int .i64 (D.aj (aQ (df l (ja p)) (.int .i64 0))+1)) (aX (ja p) (aQ (df l (ja p)) (.int .i64 0)) (df l)) (ja p)) (.int .i64 0))>1)=false:=hc;rw[hgt] at oN;have hc2: ¬(kC l p:Int)+1>1:=zcj oN;rw[zan (by omega)] at yM;refine aq (iZ (by omega) (by omega)) ⟨((bY T V).length-(k+1)).toNat,by omega,(k+1,bif (df l (ja p)).isSome then c else c+1),?_,⟨hm,hT,by simp only;omega,by simp only;omega⟩,rfl⟩;simp only;have CC:(bif (f4 (aL x)).isSome then k else k+1:Int)=k+1:=by rw[bI];rfl
   have goal: ∀c4':Int,c4'=k+1->nm2 (bY T V) (aZ T V).length (k+1) (aX (ja p) (.int .i64 (D.aj (aQ (df l (ja p)) (.int .i64 0))+1)) (aX (ja p) (aQ (df l (ja p)) (.int .i64 0)) (df l))) (bif (df l (ja p)).isSome then c else c+1) T f2 f3 (aX (aL x) (.str p.2.2.1) f4) c1 c2 c3 c4' z2=nm2 (bY T V) (aZ T V).length (k+1) (aX (ja p) (.int .i64 (D.aj (aQ (df l (ja p)) (.int .i64 0))+1)) (aX (ja p) (aQ (df l (ja p)) (.int .i64 0)) (df l))) (bif (df l (ja p)).isSome then c else c+1) T f2 f3 (aX (aL x) (.str p.2.2.1) f4) c1 c2 c3 (k+1) z2:=λc4' h=>by rw[h]
   exact(goal _ CC).trans (by rw[wg,<-yM,qce])
  have e1:(bY T V).take k.toNat=bY T V:=zak (by omega);rw[e1];have e2:Hr T V (bY T V)=Hr T V (aZ T V):=by unfold Hr;congr 1;funext z;simp only[oI,oB]
  have e3:k=((aZ T V).length:Int):=by omega
  rw[e2,e3];rfl)
 (by
  rintro s ae ⟨T,V,f2,f3,c1,c2,c3,z2,rfl,⟨hm,hT⟩,hp⟩;refine⟨(T,V,f2,f3,c1,c2,c3,z2),(0,0),?_,⟨hm,hT,by simp,by simp⟩,?_⟩
  ·have e1:df []=uT:=by funext d;unfold df;split<;>rfl
   have e2:Hr T V []=uT:=by funext d;show xF _ _ d=none;unfold xF;split<;>rfl
   show _=nm2 (bY T V) (aZ T V).length 0 (df []) 0 T f2 f3 (Hr T V []) c1 c2 c3 0 z2;rw[e1,e2];rfl
  rintro x rfl;exact hp)
theorem qcf:ND w0 82 zY:=ND.mk hX mN (by kernel_rfl) (by kernel_rfl) .nil (.cons (WM hX) .nil) (.loop (by decide) (qj4 hX).T .nil) (by
 intro ps R ae hh;obtain⟨T,V,f2,c1,c2,z2,z3,rfl,rfl,⟨hm,hT⟩,hp⟩:=hh
 (rw[<-qj2];delta fo gx Ju Z7G O2 RM Z7H nP nR Z5 Z7F dH ky Z2y Z7y b9 gD j8 O3 jd A6 ud l8 SS mZ D6 hY tK)
 have Dz:(aZ T V).length<=T.length:=by unfold aZ aS;rw[zaa];exact zaM _ _
 refine⟨T,aZ T V,f2,uT,c1,c2,0,z2,z3,rfl,rfl,⟨by omega,jR hT.1 V⟩,T,V,f2,cU (aZ T V),c1,c2,_,z2,?_,⟨hm,hT⟩,hp⟩;rfl)
end
def cv(x:It):=itD x.1.1 x.1.2.1 x.1.2.2 x.2.1 x.2.2.1 x.2.2.2
abbrev qnV(f1 f2 f3 f4:D->Option D)(c1 c2 c3 c4:Int):List (Nat×En):=
 [(0,⟨0,none,.box 163 [.mp 1 0,.mp 2 0,.mp 3 0,.mp 4 0]⟩),(1,⟨0,none,.map 49 f1 c1 false⟩),(2,⟨0,none,.map 49 f2 c2 true⟩),(3,⟨0,none,.map 49 f3 c3 true⟩),(4,⟨0,none,.map 49 f4 c4 false⟩)]
abbrev it6(T:List Pl)(V:List ao)(f3 f4:D->Option D)(o:List D)(n:Nat)(g:D->Option D)(e:Option (D×D))(c1 c2 c3 c4:Int):S:=
 ⟨61,[(5,.ref 0 0 0),(6,.sl 5 0 n),(27,.ref 6 0 0)],qnV (cF T) (cU V) f3 f4 c1 c2 c3 c4++[(5,⟨0,none,.arr 66 false o⟩)]++itE 6 g e⟩
def qj6:S->K (PX×S):=λs ae=> ∃T V c2 c3 c4,s=it6 T V (cU (aZ T V)) (Hr T V (aZ T V)) [] 0 (cU (aZ T V)) none (T.length:Int) c2 c3 c4/\(T.length<=1000/\Rt T)/\
 ∀o:List It,o.Perm ((aS T V).map (dE T V))->ae (.exit 0,⟨61,[(6,.sl 0 0 o.length)],[(0,⟨0,none,.arr 66 false (o.map cv)⟩)]⟩)
def Z7U o:=[(0,En.mk 0 none (Obj.arr (66:TypeId) false o))]
def Z7S:=[(27,P.ref 6 0 0)]
def Z7M eR:=Obj.map 49 (λx=>match x with |D.agg [D.int .i64 a,D.int .i64 b,D.int .i64 c]=>Option.map bn (a7 eR (a,b,c))|_=>none) (pV eR) false
def Z7Q:=some (En.mk 0 none D6)=some (En.mk 0 none D6)
def Z7P k (nm:ao->List UInt8) w eR V:=[D.agg [SR k,Z78 k,Z79 k,D.str (dm (List.map nm (List.reverse w))),D.bool (D.dp (D.au (aQ (cF eR (J1 k)) xG) 7)),D.bool !Option.isSome (cU V (J1 k))]]
def yq(n:Nat)(o:List D):=Nat.ble n (List.length o)
def Z7N eR:=(1,En.mk 0 (some 1) (Z7M eR))
def Z7T(V:List ao) c2:=Obj.map 49 (λx=>match x with |D.agg [D.int .i64 a,D.int .i64 b,D.int .i64 c]=>Option.map (λ_=>jd) ((λx=>if x∈V then some () else none) (a,b,c))|_=>none) c2 true
def Z7R T c1:=Obj.map 49 (λx=>match x with |D.agg [D.int .i64 a,D.int .i64 b,D.int .i64 c]=>Option.map bn (a7 T (a,b,c))|_=>none) c1 false
theorem qj7 T V f3 f4 o n g e c1 c2 c3 c4 ae:((∀k x,g k=some x->ob (bO PR (49:TypeId) k) (ob (bO PR (103:TypeId) x) (ob (bO PR (103:TypeId) (aQ (cU V (J1 k)) jd)) (∃eR x w nm f2 tQ kz l9 tR kV z2 z3,[b9,P.d (J1 k)]=b9::gA x/\hY::(1,En.mk 0 (some 1) (Z7R T c1))::(2,En.mk 0 (some 2) (Z7T V c2))::O2 f3 c3::A6 f4 c4=hY::Z7N eR::l8 f2 l9 z2::ud tQ tR z3::A6 kz kV/\(gx eR/\Up eR x w/\(∀u,u∈w->kz (aL u)=some (D.str (nm u)))/\ye (List.map nm (List.reverse w))<=2000000)/\ob (bO PR (108:TypeId) (aQ (cF eR (J1 k)) xG)) (ob (yq n o&&aG (n+List.length (Z7P k nm w eR V)) 48) (Z7Q/\Z7Q/\Z7Q/\some (En.mk 0 none (Z7M eR))=some (En.mk 0 none (Z7R T c1))/\ae (PX.normal,S.mk 61 (wx::(6,P.sl 5 0 (n+List.length (Z7P k nm w eR V)))::Z7S) [KX,(1,En.mk 0 none (Z7M eR)),(2,En.mk 0 none (Obj.map 49 f2 l9 z2)),(3,En.mk 0 none (Obj.map 49 tQ tR z3)),(4,D5 kz kV),(5,En.mk 0 none (Obj.arr (66:TypeId) false (List.take n o++Z7P k nm w eR V))),(6,Z7b k g)])))))))/\(SQ g->ae (PX.exit 0,S.mk 61 [(6,ZB n)] (Z7U o))))=(cC [(83,qee)] [] [] 49 6 (it6 T V f3 f4 o n g e c1 c2 c3 c4)) ae:=by kernel_rfl
def cfP:D->D->Int
 | .agg [_,_,_,.str a,_,_],.agg [_,_,_,.str b,_,_]=>CM a b
 |_,_=>0
def qcg:a8:=λps R ae=> ∃a b,ps=[.d (cv a),.d (cv b)]/\R=[]/\ae (iD (CM a.2.1 b.2.1),[])
theorem WT(a b:It) ae:(∃x y,[P.d (D.str (Prod.fst (Prod.snd a))),P.d (D.str (Prod.fst (Prod.snd b)))]=P.d (D.str x)::pU y/\Zx/\ae (P.d (D.int .i64 (CM x y)),[]))=(aI [(86,wv)] [] 85 [.d (cv a),.d (cv b)] []) ae:=by kernel_rfl
def C1 T:=fo T<=1000
def O9:=En.mk 0 none (Obj.arr (66:TypeId) false [])
def Z7X T V:=[(5,O9),(6,En.mk 0 none (Obj.iter 49 103 (λx=>match x with |D.agg [D.int .i64 a,D.int .i64 b,D.int .i64 c]=>Option.map (λ_=>jd) ((λx=>if x∈aZ T V then some () else none) (a,b,c))|_=>none) none))]
theorem qch l live ae:(∃av fb,[im l,gR live]=[im av,gR fb]/\Zx/\(gx av/\j8 fb)/\ ∃(T:List Pl) (V:List ao) (f4:D->Option D) (c4:Int) (z2:Bool),tK=tK/\[hY,(1,En.mk 0 (some 1) (Obj.map 49 (λx=>match x with |D.agg [D.int .i64 a,D.int .i64 b,D.int .i64 c]=>Option.map bn (a7 (fP av) (a,b,c))|_=>none) (↑(List.length (fP av)):Int) false)),(2,En.mk 0 (some 2) (Obj.map 49 (λx=>match x with |D.agg [D.int .i64 a,D.int .i64 b,D.int .i64 c]=>Option.map (λ_=>jd) ((λx=>if x∈sK fb then some () else none) (a,b,c))|_=>none) (↑(List.length (sK fb)):Int) false)),Z7e,Z7G]=hY::Z7N T::(2,En.mk 0 (some 2) (Obj.map 49 (λx=>match x with |D.agg [D.int .i64 a,D.int .i64 b,D.int .i64 c]=>Option.map (λ_=>jd) ((λx=>if x∈V then some () else none) (a,b,c))|_=>none) (ky V) z2))::Z7e::A6 f4 c4/\(gx T/\Uq T/\List.Nodup V)/\ ∃eR ew f2 c1 c2 z2 z3,tK=tK/\hY::Z7N T::(2,En.mk 0 (some 2) (Obj.map 49 (λx=>match x with |D.agg [D.int .i64 a,D.int .i64 b,D.int .i64 c]=>Option.map (λ_=>jd) ((λx=>if x∈V then some () else none) (a,b,c))|_=>none) (ky V) true))::(3,En.mk 0 (some 3) (Obj.map 49 (λx=>match x with |D.agg [D.int .i64 a,D.int .i64 b,D.int .i64 c]=>Option.map (λ_=>jd) ((λx=>if x∈aZ T V then some () else none) (a,b,c))|_=>none) (RM T V) false))::A6 f4 c4=[hY,(1,En.mk 0 (some 1) (Z7R eR c1)),l8 f2 c2 z2,(3,En.mk 0 (some 3) (Obj.map 49 (λx=>match x with |D.agg [D.int .i64 a,D.int .i64 b,D.int .i64 c]=>Option.map (λ_=>jd) ((λx=>if x∈aZ eR ew then some () else none) (a,b,c))|_=>none) (RM eR ew) z3)),Z7G]/\(gx eR/\Rt eR)/\ob (decide ((0:Int)<=(0:Int)/\(0:Int)<=RM eR ew/\RM eR ew<=Z8/\(48:Int)*RM eR ew<=(281474976710656:Int))) (∃T V l9 c3 c4,S.mk 61 (wx::(6,vN)::Z7S) (KX::(1,En.mk 0 none (Z7R eR c1))::(2,En.mk 0 none (Obj.map 49 f2 c2 z2))::(3,En.mk 0 none (Obj.map 49 (λx=>match x with |D.agg [D.int .i64 a,D.int .i64 b,D.int .i64 c]=>Option.map (λ_=>jd) ((λx=>if x∈aZ eR ew then some () else none) (a,b,c))|_=>none) (RM eR ew) true))::(4,En.mk 0 none (Obj.map 49 (λx=>match x with |D.agg [D.int .i64 a,D.int .i64 b,D.int .i64 c]=>Option.map D.str ((λx=>if x∈aZ eR ew then some (tW eR ew x) else none) (a,b,c))|_=>none) (RM eR ew) false))::Z7X eR ew)=S.mk 61 (wx::(6,vN)::Z7S) (KX::(1,En.mk 0 none (Z7M T))::(2,En.mk 0 none (Z7T V l9))::(3,En.mk 0 none (Obj.map 49 (λx=>match x with |D.agg [D.int .i64 a,D.int .i64 b,D.int .i64 c]=>Option.map (λ_=>jd) ((λx=>if x∈aZ T V then some () else none) (a,b,c))|_=>none) c3 true))::(4,En.mk 0 none (Obj.map 49 (λx=>match x with |D.agg [D.int .i64 a,D.int .i64 b,D.int .i64 c]=>Option.map D.str ((λx=>if x∈aZ T V then some (tW T V x) else none) (a,b,c))|_=>none) c4 false))::Z7X T V)/\(C1 T/\Rt T)/\ ∀o,List.Perm o (List.map (dE T V) (aS T V))-> ∃es,[P.sl 0 0 (List.length o),P.fn (85:FuncId) []]=[P.sl 0 0 (List.length es),P.fn (85:FuncId) []]/\[(0,En.mk 0 (some 0) (Obj.arr (66:TypeId) false (List.map cv o)))]=[(0,En.mk 0 (some 0) (Obj.arr (66:TypeId) false es))]/\mW PR sH (85:FuncId) es cfP/\ ∀dh,List.Perm dh es->List.Pairwise (λa b=> ¬cfP b a<(0:Int)) dh->ae (P.sl 0 0 (List.length o),Z7U dh)))=(gB [(80,Vz),(84,tS 85 cfP 66)] [(81,qed),(82,zY)] [(6,ah (aR 49 6) qj6)] 49 [dD l,ct live] []) ae:=by kernel_rfl
def pL:a8:=λps R ae=> ∃l live,ps=[dD l,ct live]/\R=[]/\(l.length<=1000/\live.length<=1000)/\
 ae (.sl 0 0 (dy (fP l) (sK live)).length,[(0,⟨0,none,.arr 66 false ((dy (fP l) (sK live)).map cv)⟩)])
theorem qj8 x:bO PR 66 (cv x)=true:=by obtain⟨⟨a,b,c⟩,d,e,f⟩:=x;kernel_rfl
theorem WU:FC 85 qcg:=FC.mk (by kernel_rfl) (.cons MA .nil) (by
 intro ps R ae hh;obtain⟨a,b,rfl,rfl,hp⟩:=hh
 (rw[<-WT];delta Zx pU)
 exact⟨_,_,rfl,rfl,hp⟩)
theorem qgZ a b:cfP (cv a) (cv b)=CM a.2.1 b.2.1:=rfl
theorem rf a b:cfP (cv a) (cv b)<0↔Op.bytesLess a.2.1 b.2.1=true:=by rw[qgZ];exact qbv _ _
theorem qg0(l:List It)(hl:l.length<=1000000):mW PR sH 85 (l.map cv) cfP where
 fn:=⟨_,Tryz.func85,by kernel_rfl,by kernel_rfl⟩
 ag:=λd hd=>by obtain⟨x,_,rfl⟩:=zaq.1 hd;exact⟨_,rfl⟩
 len:=by simp;omega
 run:=λa ha b hb=>by obtain⟨x,_,rfl⟩:=zaq.1 ha;obtain⟨y,_,rfl⟩:=zaq.1 hb;exact FC.Vy WU ⟨x,y,rfl,rfl,rfl⟩
 IV:=λa ha=>by obtain⟨x,_,rfl⟩:=zaq.1 ha;rw[rf,Jx.IV];simp
 tr:=λa ha b hb c hc=>by obtain⟨x,_,rfl⟩:=zaq.1 ha;obtain⟨y,_,rfl⟩:=zaq.1 hb;obtain⟨z,_,rfl⟩:=zaq.1 hc;rw[rf,rf,rf];exact Jx.tr _ _ _
 ntr:=λa ha b hb c hc=>by obtain⟨x,_,rfl⟩:=zaq.1 ha;obtain⟨y,_,rfl⟩:=zaq.1 hb;obtain⟨z,_,rfl⟩:=zaq.1 hc;rw[rf,rf,rf];intro h1 h2;simpa using Jx.ntr (by simpa using h1) (by simpa using h2)
theorem MZ{X}:FD X 84 (tS 85 cfP 66):=FD.rZ Tryz.func84 (by kernel_rfl) (by kernel_rfl) λps R ae h=>lW (iP h)
def qnW:D->It
 | .agg [.int .i64 a,.int .i64 b,.int .i64 c,.str p,.bool d,.bool e]=>((a,b,c),p,d,e)
 |_=>((0,0,0),[],false,false)
theorem zd L {p}(h:pB p=true):(Gz L p).length<=200:=by
 have h':=h;simp only[pB,zac] at h';have hn:p.2.2.1.length<=32:=by have:=h'.2;simp only[bX,zah] at this;exact this.2.1
 unfold Gz;split
 ·rw[wO h];have hr:=h'.1;simp only[bf,zah] at hr;have l1:=hQ (n:=p.1.1) (by omega) (by omega);have l2:=hQ (n:=p.1.2.1) (by omega) (by omega);have l3:=hQ (n:=p.1.2.2) (by omega) (by omega);simp[gi];omega
 omega
theorem WV: ∀l,(∀s∈l,s.length<=200)->ye l<=201*l.length
 | [],_=>by simp[ye,dm]
 |s::r,h=>by have h1:=WV r λx hx=>h x (by simp[hx]);have h2:=h s (by simp);simp only[ye,dm,zcI,zaj,zao] at h1⊢;omega
theorem EA{T V}(hT:Rt T){x w}(hw:Up T x w):ye (w.reverse.map (tW T V))<=201*T.length:=by
 have:=WV (w.reverse.map (tW T V)) λs hs=>by obtain⟨u,hu,rfl⟩:=zaq.1 hs;obtain⟨w',h1,_⟩:=hw.sub u (by simpa using hu);obtain⟨p,hp⟩:=h1.at;unfold tW;rw[hp];exact zd _ (hT.2 p (bN hp).1)
 have hl:=hw.len;simp only[zaa,List.length_reverse] at this;omega
section
variable{X:XF}{w0:World}(hX:cz PR w0 X.cf)
include hX
theorem qj9:LN w0 49 6 (ah (aR 49 6) qj6):=LN.par hX mN (by kernel_rfl) (by kernel_rfl) (by kernel_rfl) (.cons qgX .nil) .nil .nil
 (A:=List Pl×List ao×Int×Int×Int) (B:=List ao×List ao×Option (D×D))
 (λ⟨T,V,c2,c3,c4⟩ ⟨o,L,e⟩=>it6 T V (cU (aZ T V)) (Hr T V (aZ T V)) ((o.map λx=>dE T V (lr T x)).map cv) o.length (cU L) e (T.length:Int) c2 c3 c4)
 (λ⟨T,V,_⟩ ⟨o,L,_⟩=>T.length<=1000/\Rt T/\L.Nodup/\(o++L).Perm (aZ T V))
 (λ_ b=>b.2.1.length)
 (λ⟨T,V,_⟩ x=> ∃o:List It,o.Perm ((aS T V).map (dE T V))/\x=(.exit 0,⟨61,[(6,.sl 0 0 o.length)],[(0,⟨0,none,.arr 66 false (o.map cv)⟩)]⟩))
 (by
  rintro⟨T,V,c2,c3,c4⟩ ⟨o,L,e⟩ ⟨hm,hT,hn,hp⟩;dsimp only at*
  (rw[<-qj7];delta Z7U ZB SQ jd Z79 Z78 SR J1 mC Z77 Z7b nP D5 mZ D6 KX Z7S b9 wx fo pV Z7M Z7Q Z2 oP Z5 xG Z7P yq gx ud l8 Z7N nR A6 O2 Z7T Z7R hY gj gk gy fQ fR gS gA)
  have hl:=hp.length_eq;have Dz:(aZ T V).length<=T.length:=by unfold aZ aS;rw[zaa];exact zaM _ _
  rw[zaj] at hl;refine⟨λk v hk=> ?_,λbI=> ?_⟩
  ·obtain⟨x,hx,rfl,rfl⟩:=vj hk;have uB:=zb hn x;have h0:0<L.length:=zb0 hx;have hlen:(L.erase x).length<L.length:=by rw[zcg hx];omega
   have SU:marked T V x=true:=oB.1 (hp.mem_iff.1 (by simp[hx]));obtain⟨w,hw,mw⟩:=ll SU;have He:=wP SU;have hit:dE T V (lr T x)=(x,dm (w.reverse.map (tW T V)),(lr T x).2.2.2,!decide (x∈V)):=by unfold dE;rw[(bN He).2];unfold Bs;rw[vg hw]
   have hf:cF T (D.agg [D.int IntKind.i64 (D.aj (D.au (aL x) 0)),D.int IntKind.i64 (D.aj (D.au (aL x) 1)),D.int IntKind.i64 (D.aj (D.au (aL x) 2))])=some (bn (lr T x)):=by show cF T (aL x)=_;rw[nK,He];rfl
   have bs:(cU V (D.agg [D.int IntKind.i64 (D.aj (D.au (aL x) 0)),D.int IntKind.i64 (D.aj (D.au (aL x) 1)),D.int IntKind.i64 (D.aj (D.au (aL x) 2))])).isSome=decide (x∈V):=by show(cU V (aL x)).isSome=_;rw[ra];by_cases h:x∈V<;>simp[h]
   have Hh:=EA (V:=V) hT hw;refine aq (ga x) (aq MX (aq ?_ ⟨T,x,w,tW T V,cU V,cU (aZ T V),Hr T V (aZ T V),c2,c3,c4,true,true,rfl,rfl,⟨by omega,hw,λu hu=> ?_,by omega⟩,?_⟩))
   ·show bO PR 103 (aQ (cU V (aL x)) (.agg []))=true;rw[ra];by_cases hu:x∈V<;>simp only[hu,zbo,zbn,zaH,zb2]<;>exact MX
   ·rw[WS,zap (oB.2 (mw u hu))];rfl
   simp only[hf,bs];refine aq (dX (lr T x)) (aq ?_ ⟨trivial,trivial,trivial,trivial,?_⟩)
   ·simp only[zaa];simp[aG];omega
   refine⟨_,hlen,(o++[x],L.erase x,some (aL x,.agg [])),?_,⟨hm,hT,hn.erase _,?_⟩,rfl⟩
   ·show _=it6 T V (cU (aZ T V)) (Hr T V (aZ T V)) (((o++[x]).map λx=>dE T V (lr T x)).map cv) (o++[x]).length (cU (L.erase x)) (some (aL x,.agg [])) (T.length:Int) c2 c3 c4;rw[<-uB,zaC,zaC,zaj];simp only[za4,zcz,hit];rw[zak (by simp)];rfl
   simp only;refine List.Perm.trans ?_ hp;rw[zaK];exact(zc2 hx).symm.append_left o
  have:=vn bI;subst this;have ho:o.Perm (aZ T V):=by simpa using hp
  refine⟨o.map λx=>dE T V (lr T x),?_,by rw[zaa]⟩;have h1:=ho.map λx=>dE T V (lr T x);refine h1.trans (List.Perm.of_eq ?_);unfold aZ;rw[zb3];refine zbu λp hp=> ?_;obtain⟨p1,p2⟩:=vi hp;show dE T V (lr T p.1)=_;unfold lr;rw[gT hT.1 p1];rfl)
 (by rintro s ae ⟨T,V,c2,c3,c4,rfl,⟨hm,hT⟩,hp⟩;refine⟨(T,V,c2,c3,c4),([],aZ T V,none),rfl,⟨hm,hT,jR hT.1 V,by simp⟩,?_⟩;rintro x ⟨o,h1,rfl⟩;exact hp o h1)
theorem qci:ND w0 49 pL:=ND.mk hX mN (by kernel_rfl) (by kernel_rfl) (.cons qbt (.cons MZ .nil)) (.cons (qgV hX) (.cons (qcf hX) .nil)) (.loop (by decide) (qj9 hX).T .nil) (by
 intro ps R ae hh;obtain⟨l,live,rfl,rfl,⟨h1,h2⟩,hp⟩:=hh
 (rw[<-qch];delta Z7U fo C1 jd Z7T pV Z7M O9 Z7X mZ D6 KX Z7S vN b9 wx Z8 l8 Z7R RM nP nR A6 dH ky Z7N Ju Z7G Z7e hY tK j8 gx Zx dW gR eu im)
 have hT:=MU l;have hTl:=y9 l;have Dz:(aZ (fP l) (sK live)).length<=(fP l).length:=by unfold aZ aS;rw[zaa];exact zaM _ _
 refine⟨l,live,rfl,rfl,⟨by omega,by omega⟩,fP l,sK live,uT,0,false,rfl,rfl,⟨by omega,hT.1,Rn live⟩,fP l,sK live,cU (sK live),_,_,true,false,rfl,rfl,⟨by omega,hT⟩,aq (iz ⟨by omega,by omega,by omega,by omega⟩) ⟨fP l,sK live,_,_,_,rfl,⟨by omega,hT⟩,λo ho=> ?_⟩⟩;have jT:=ho.length_eq;have hse:((aS (fP l) (sK live)).map (dE (fP l) (sK live))).length<=1000:=by rw[zaa];unfold aZ at Dz;rw[zaa] at Dz;omega
 refine⟨o.map cv,by rw[zaa],rfl,qg0 o (by omega),λdh p1 p2=> ?_⟩;obtain⟨o2,rfl,p3⟩:=WL cv qnW (λ_=>rfl) p1;rw[zbe] at p2;have e:=RL hT (p3.trans ho) (p2.imp λ{a b} h=>by rw[rf] at h;simpa using h);rw[e] at p3⊢;rw[<-p3.length_eq];exact hp)
end
def r6{α:Type}(f:α->Bool)(l:List α):Int:=match l.findIdx? f with |some i=>(i:Int)|none=> -1
abbrev bxI(n:Nat)(x:ao):List (Nat×En):=[(n,⟨0,none,.box 49 [.d (.int .i64 x.1),.d (.int .i64 x.2.1),.d (.int .i64 x.2.2)]⟩)]
abbrev qg1(l:List Pl)(x:ao)(k:Int):S:=⟨20,[(0,dD l),(3,.ref 0 0 0),(5,iD k)],bxI 0 x⟩
def dR l x:=r6 (λp:Pl=>p.1==x) l
def qka:S->K (PX×S):=λs ae=> ∃l x,s=qg1 l x 0/\l.length<=1000000/\(∀i,i=dR l x->0<=i->ae (.ret,⟨20,[(0,dD l),(4,iD i)],[]⟩))/\(dR l x= -1->ae (.exit 0,⟨20,[(0,dD l)],[]⟩))
def ze x:=(0,nS x)
def M0 x:=[ze x]
def vO l:=(0,im l)
def Z80 l k (x:ao):=D.aj (D.au (jG l k) 0)==Prod.fst x&&(D.aj (D.au (jG l k) 1)==gy x&&true)&&(D.aj (D.au (jG l k) 2)==gj x&&true)
def Pa k l:=decide (k<(↑(nQ l):Int))
theorem qef l x k ae:(bif Pa k l then ob (BU k l) (ob (nb l k) (bif Z80 l k x then ae (PX.ret,S.mk 20 (vO l::CX k) []) else ob (Zh k) (ae (PX.normal,S.mk 20 (vO l::dQ::Zn k) (M0 x))))) else ae (PX.exit 0,S.mk 20 [vO l] []))=(aD [] [] 97 2 (qg1 l x k)) ae:=by kernel_rfl
theorem qg2 l x ae:(∃av bm,S.mk 20 (vO l::dQ::ZK) (M0 x)=S.mk 20 (vO av::dQ::ZK) (M0 bm)/\gx av/\(∀i,i=dR av bm->(0:Int)<=i->ae (P.d (Zt i),[]))/\(dR av bm=(-1:Int)->q8 ae))=(aI [] [(2,ah (aR 97 2) qka)] 97 [dD l,.d (aL x)] []) ae:=by kernel_rfl
def qg3:a8:=λps R ae=> ∃l x,ps=[dD l,.d (aL x)]/\R=[]/\l.length<=1000000/\ae (iD (dR l x),[])
abbrev EB(z:Bool)(l:List Pl):List (Nat×En):=[(0,⟨0,some 0,.arr 108 z (l.map bn)⟩)]
abbrev qg4(z:Bool)(l:List Pl)(n:Nat)(x:ao)(k:Int):S:=⟨20,[(0,.sl 0 0 n),(3,.ref 1 0 0),(5,iD k)],EB z l++bxI 1 x⟩
def qeg:S->K (PX×S):=λs ae=> ∃z l x,s=qg4 z l l.length x 0/\l.length<=1000000/\(∀i,i=dR l x->0<=i->ae (.ret,⟨20,[(0,.sl 0 0 l.length),(4,iD i)],EB z l⟩))/\(dR l x= -1->ae (.exit 0,⟨20,[(0,.sl 0 0 l.length)],EB z l⟩))
def WW x:=[(1,nS x)]
def RN z l:=(0,En.mk 0 (some 0) (Obj.arr (108:TypeId) z (eu l)))
def Hs z l:=[RN z l]
def Cb k l:=decide (Ze k<nQ l)
theorem WX z l n x k ae:(bif Ex k n then ob (ke k n) (ob (Cb k l) (ob (nb l k) (bif Z80 l k x then ae (PX.ret,S.mk 20 (sR n::CX k) (Hs z l)) else ob (Zh k) (ae (PX.normal,S.mk 20 (sR n::rJ::Zn k) (RN z l::WW x)))))) else ae (PX.exit 0,S.mk 20 [sR n] (Hs z l)))=(aD [] [] 97 2 (qg4 z l n x k)) ae:=by kernel_rfl
def oS av:=P.sl 0 0 (fo av)
def Ht av:=(0,oS av)
theorem qcj z l n x ae:(∃RO av bm,S.mk 20 (sR n::rJ::ZK) (RN z l::WW x)=S.mk 20 (Ht av::rJ::ZK) (RN RO av::WW bm)/\gx av/\(∀i,i=dR av bm->(0:Int)<=i->ae (P.d (Zt i),Hs RO av))/\(dR av bm=(-1:Int)->ae (My,Hs RO av)))=(aI [] [(2,ah (aR 97 2) qeg)] 97 [.sl 0 0 n,.d (aL x)] (EB z l)) ae:=by kernel_rfl
def qeh:a8:=λps R ae=> ∃z l x,ps=[.sl 0 0 l.length,.d (aL x)]/\R=EB z l/\l.length<=1000000/\ae (iD (dR l x),EB z l)
abbrev hsH(l:List ao)(x:ao)(k:Int):S:=⟨18,[(0,ct l),(3,.ref 0 0 0),(5,iD k)],bxI 0 x⟩
def qkb:S->K (PX×S):=λs ae=> ∃l x,s=hsH l x 0/\l.length<=1000000/\(x∈l->ae (.ret,⟨18,[(0,ct l),(4,.d (.bool true))],[]⟩))/\(x∉l->ae (.exit 0,⟨18,[(0,ct l)],[]⟩))
def Pb:=[(4,ZL)]
def xP l:=(0,gR l)
def Z8a l k (x:ao):=A4 l k==Prod.fst x&&(BW l k==gy x&&true)&&(BV l k==gj x&&true)
theorem qei l x k ae:(bif SJ k l then ob (Hm k l) (ob (q9 l k) (bif Z8a l k x then ae (PX.ret,S.mk 18 (xP l::Pb) []) else ob (Zh k) (ae (PX.normal,S.mk 18 (xP l::dQ::Zn k) (M0 x))))) else ae (PX.exit 0,S.mk 18 [xP l] []))=(aD [] [] 101 2 (hsH l x k)) ae:=by kernel_rfl
theorem qg5 l x ae:(∃av bm,S.mk 18 (xP l::dQ::ZK) (M0 x)=S.mk 18 (xP av::dQ::ZK) (M0 bm)/\j8 av/\(bm∈av->ZM ae)/\(¬bm∈av->Z3 ae))=(aI [] [(2,ah (aR 101 2) qkb)] 101 [ct l,.d (aL x)] []) ae:=by kernel_rfl
def qg6:a8:=λps R ae=> ∃l x,ps=[ct l,.d (aL x)]/\R=[]/\l.length<=1000000/\ae (.d (.bool (decide (x∈l))),[])
theorem J4{α:Type}{f}{l:List α}{i x}(h:l[i]?=some x)(hf:f x=true)(hb: ∀y∈l.take i,f y=false):r6 f l=(i:Int):=by
 have hi:i<l.length:=(zae.1 h).1;have:l.findIdx? f=some i:=by rw[zbz];refine⟨hi,by rw[(zae.1 h).2];exact hf,λj hj=> ?_⟩;rw[hb _ (zcE.2 ⟨j,by omega,rfl⟩)];simp
 unfold r6;rw[this]
theorem Pc{α:Type}{f:α->Bool}{l}(h: ∀x∈l,f x=false):r6 f l= -1:=by
 have:l.findIdx? f=none:=by rw[zbO];exact h
 unfold r6;rw[this]
theorem pM{α:Type} f l:(∃(i:Nat) (x:α),l[i]?=some x/\f x=true/\r6 f l=(i:Int))\/(r6 f l= -1/\ ∀x∈l,f x=false):=by
 cases h:l.findIdx? f with
 |some i=>obtain⟨hi,hf,_⟩:=zbz.1 h;exact .inl ⟨i,l[i],zad hi,hf,by unfold r6;rw[h]⟩
 |none=>exact .inr ⟨by unfold r6;rw[h],zbO.1 h⟩
theorem getD_some{α:Type}{l:List α}{k}(h:k<l.length) d:l[k]?=some (l.getD k d):=by rw[zab,zad h];rfl
section
variable{X:XF}
theorem LD.scan{H hk}{f id:Nat}{g}(hu:uniq PR f=true)(hc:cj (rE f) (bA PR f id)=true)(hH:HD X H)(hl:U2 X f hk)
  {A α:Type} (hd:A->Int->S) (qc:A->List α) d (t:A->α->Bool) (C:A->Prop) (rt:A->Int->S) (ex:A->S)
  (hr: ∀a (k:Int) ae,C a->(qc a).length<=1000000->0<=k->(k<(qc a).length->k.toNat<(qc a).length->(t a ((qc a).getD k.toNat d)=true->ae (.ret,rt a k))->(t a ((qc a).getD k.toNat d)=false->ae (.normal,hd a (k+1)))->aD H hk f id (hd a k) ae))
  (hx: ∀a (k:Int) ae,C a-> ¬k<(qc a).length->ae (.exit 0,ex a)->aD H hk f id (hd a k) ae)
  (hg: ∀s ae,g s ae-> ∃a,s=hd a 0/\C a/\(qc a).length<=1000000/\(∀i,i=r6 (t a) (qc a)->0<=i->ae (.ret,rt a i))/\(r6 (t a) (qc a)= -1->ae (.exit 0,ex a))):LD X f id (ah (aR f id) g):=
 LD.par hu hc hH hl (A:=A) (B:=Int) hd (λa k=>C a/\(qc a).length<=1000000/\0<=k/\k.toNat<=(qc a).length/\ ∀y∈(qc a).take k.toNat,t a y=false) (λa k=>((qc a).length-k).toNat)
  (λa x=>(∃i:Int,i=r6 (t a) (qc a)/\0<=i/\x=(.ret,rt a i))\/(r6 (t a) (qc a)= -1/\x=(.exit 0,ex a)))
  (by
   rintro a k ⟨h1,h2,h3,h4,h5⟩;by_cases hk:k<(qc a).length
   ·have eD:k.toNat<(qc a).length:=by omega
    refine hr a k _ h1 h2 h3 hk eD (λht=> .inl ⟨k,?_,h3,rfl⟩) λht=>⟨((qc a).length-(k+1)).toNat,by omega,k+1,rfl,⟨h1,h2,by omega,by omega,λy hy=> ?_⟩,rfl⟩
    ·rw[J4 (getD_some eD d) ht h5];omega
    rw[show(k+1).toNat=k.toNat+1 by omega,zbS,getD_some eD d] at hy;rcases zaz.1 hy with hy |hy
    ·exact h5 y hy
    simp at hy;rw[hy];simpa using ht
   refine hx a k _ h1 hk (.inr ⟨Pc λy hy=>h5 y ?_,rfl⟩);rw[zak (by omega)];exact hy)
  (by
   intro s ae h;obtain⟨a,rfl,h1,h2,h3,h4⟩:=hg s ae h;refine⟨a,0,rfl,⟨h1,h2,by simp,by simp,by simp⟩,?_⟩;rintro x (⟨i,h5,h6,rfl⟩| ⟨h5,rfl⟩)
   ·exact h3 i h5 h6
   exact h4 h5)
theorem qg7{l:List It}{i}(h:i<l.length) d:D.nth (l.map cv) i=cv (l.getD i d):=by rw[az cv l i h];simp[zab,h]
def it0:It:=((0,0,0),[],false,false)
theorem Pd{α:Type}(f:α->Bool) l:decide (r6 f l>=0)=l.any f:=by
 rcases pM f l with⟨i,x,h1,h2,h3⟩| ⟨h1,h2⟩
 ·rw[h3,za3.2 ⟨x,zaA h1,h2⟩];simp
 rw[h1];cases h:l.any f with
 |false=>rfl
 |true=>obtain⟨x,hx,hf⟩:=za3.1 h;rw[h2 x hx] at hf;cases hf
theorem vo(x y:ao):(x.1==y.1&&(x.2.1==y.2.1&&true)&&(x.2.2==y.2.2&&true))=(x==y):=by rw[zaG];obtain⟨a,b,c⟩:=x;obtain⟨d,e,f⟩:=y;simp[zdb]
theorem qck:LD X 97 2 (ah (aR 97 2) qka):=
 LD.scan (by kernel_rfl) (by kernel_rfl) .nil .nil
  (A:=List Pl×ao) (λa k=>qg1 a.1 a.2 k) (·.1) qa (λa p=>p.1==a.2) (λ_=>True)
  (λa i=>⟨20,[(0,dD a.1),(4,iD i)],[]⟩) (λa=>⟨20,[(0,dD a.1)],[]⟩)
  (by
   rintro⟨l,x⟩ k ae _ hm h0 hk eD ht hf;dsimp only at*
   (rw[<-qef];delta gj gk gy fQ fR nS ze M0 Zl Zm Zn b9 dQ Z8 Z7 Zh Zt oR CX eu im vO Ze jG Z80 nb nQ BU Pa)
   simp only[zaa];rw[iN eD];refine kJ (iz hk) (bh ⟨h0,hk⟩ (aq (dX _) (ay (λh=>ht ?_) λh=>aq (iZ (by omega) (by omega)) (hf ?_))))
   ·rw[<-vo];exact h
   rw[<-vo];exact h)
  (by
   rintro⟨l,p⟩ k ae _ hk hp;dsimp only at*
   (rw[<-qef];delta gj gk gy fQ fR nS ze M0 Zl Zm Zn b9 dQ Z8 Z7 Zh Zt oR CX eu im vO Ze jG Z80 nb nQ BU Pa)
   simp only[zaa];exact fJ (l0 hk) hp)
  (by rintro s ae ⟨l,p,rfl,hm,h1,h2⟩;exact⟨(l,p),rfl,trivial,hm,h1,h2⟩)
theorem qej:FD X 97 qg3:=FD.mk (by kernel_rfl) .nil (.cons qck .nil) (by
 intro ps R ae hh;obtain⟨l,x,rfl,rfl,hm,hp⟩:=hh
 (rw[<-qg2];delta My q8 Zt fo gx gj gk gy fQ fR nS ze M0 Z5 ZK b9 dQ eu im vO)
 refine⟨l,x,rfl,hm,λi hi h0=> ?_,λh=> ?_⟩
 ·rw[hi];exact hp
 rw[h] at hp;exact hp)
theorem WY:LD X 97 2 (ah (aR 97 2) qeg):=
 LD.scan (by kernel_rfl) (by kernel_rfl) .nil .nil
  (A:=List Pl×ao×Bool) (λa k=>qg4 a.2.2 a.1 a.1.length a.2.1 k) (·.1) qa (λa p=>p.1==a.2.1) (λ_=>True)
  (λa i=>⟨20,[(0,.sl 0 0 a.1.length),(4,iD i)],EB a.2.2 a.1⟩) (λa=>⟨20,[(0,.sl 0 0 a.1.length)],EB a.2.2 a.1⟩)
  (by
   rintro⟨l,x,z⟩ k ae _ hm h0 hk eD ht hf;dsimp only at*
   (rw[<-WX];delta gj gk gy fQ fR nS WW eu RN Zl Zm Zn je rJ Z8 Z7 Zh Hs Zt oR CX ZB sR Ze jG Z80 nb nQ Cb ke Ex)
   rw[iN eD];refine kJ (iz hk) (bh ⟨h0,hk⟩ (aq (iz (by rw[zaa];exact eD)) (aq (dX _) (ay (λh=>ht ?_) λh=>aq (iZ (by omega) (by omega)) (hf ?_)))))
   ·rw[<-vo];exact h
   rw[<-vo];exact h)
  (by
   rintro⟨l,p,z⟩ k ae _ hk hp;dsimp only at*
   (rw[<-WX];delta gj gk gy fQ fR nS WW eu RN Zl Zm Zn je rJ Z8 Z7 Zh Hs Zt oR CX ZB sR Ze jG Z80 nb nQ Cb ke Ex)
   exact fJ (l0 hk) hp)
  (by rintro s ae ⟨z,l,p,rfl,hm,h1,h2⟩;exact⟨(l,p,z),rfl,trivial,hm,h1,h2⟩)
theorem WZ:FD X 97 qeh:=FD.mk (by kernel_rfl) .nil (.cons WY .nil) (by
 intro ps R ae hh;obtain⟨z,l,x,rfl,rfl,hm,hp⟩:=hh
 (rw[<-qcj];delta My eu RN Hs Zt fo gx oS Ht gj gk gy fQ fR nS WW Z5 ZK je rJ ZB sR)
 refine⟨z,l,x,rfl,hm,λi hi h0=> ?_,λh=> ?_⟩
 ·rw[hi];exact hp
 rw[h] at hp;exact hp)
theorem GA{α:Type}{f:α->Bool}{l}:0<=r6 f l↔ ∃x∈l,f x=true:=by
 rcases pM f l with⟨i,x,h1,h2,h3⟩| ⟨h1,h2⟩
 ·rw[h3];exact⟨λ_=>⟨x,zaA h1,h2⟩,λ_=>by omega⟩
 rw[h1];exact⟨λh=>by omega,λ⟨x,hx,hf⟩=>by rw[h2 x hx] at hf;cases hf⟩
theorem qcl:LD X 101 2 (ah (aR 101 2) qkb):=
 LD.scan (by kernel_rfl) (by kernel_rfl) .nil .nil
  (A:=List ao×ao) (λa k=>hsH a.1 a.2 k) (·.1) (0,0,0) (λa p=>p==a.2) (λ_=>True)
  (λa i=>⟨18,[(0,ct a.1),(4,.d (.bool true))],[]⟩) (λa=>⟨18,[(0,ct a.1)],[]⟩)
  (by
   rintro⟨l,x⟩ k ae _ hm h0 hk eD ht hf;dsimp only at*
   (rw[<-qei];delta gj gk gy fQ fR nS ze M0 Zl Zm Zn b9 dQ Z8 Z7 Zh ZL Pb dW gR xP Ze BV BW A4 Z8a q9 kU uU Hm SJ)
   simp only[zaa];rw[A5 eD];refine kJ (iz hk) (bh ⟨h0,hk⟩ (aq (ga _) (ay (λh=>ht ?_) λh=>aq (iZ (by omega) (by omega)) (hf ?_))))
   ·rw[<-vo];exact h
   rw[<-vo];exact h)
  (by
   rintro⟨l,p⟩ k ae _ hk hp;dsimp only at*
   (rw[<-qei];delta gj gk gy fQ fR nS ze M0 Zl Zm Zn b9 dQ Z8 Z7 Zh ZL Pb dW gR xP Ze BV BW A4 Z8a q9 kU uU Hm SJ)
   simp only[zaa];exact fJ (l0 hk) hp)
  (by
   rintro s ae ⟨l,x,rfl,hm,h1,h2⟩;refine⟨(l,x),rfl,trivial,hm,λi hi h0=>h1 ?_,λh=>h2 λhx=> ?_⟩
   ·rw[hi] at h0;obtain⟨y,hy,he⟩:=GA.1 h0;have:y=x:=by simpa using he
    exact this▸hy
   have:0<=r6 (λp=>p==x) l:=GA.2 ⟨x,hx,by simp⟩;dsimp only at h;omega)
theorem qek:FD X 101 qg6:=FD.mk (by kernel_rfl) .nil (.cons qcl .nil) (by
 intro ps R ae hh;obtain⟨l,x,rfl,rfl,hm,hp⟩:=hh
 (rw[<-qg5];delta Z2 Z3 ZL ZM dH j8 gj gk gy fQ fR nS ze M0 Z5 ZK b9 dQ dW gR xP)
 exact⟨l,x,rfl,hm,λh=>A0 hp (by simp[h]),λh=>A0 hp (by simp[h])⟩)
end
def Cc l av bm:=D.nth (eu l) (Int.toNat (dR av bm))
def Z8j l av bm:=D.int .i64 (D.aj (D.au (Cc l av bm) 5))
def Z8i l av bm:=D.int .i64 (D.aj (D.au (Cc l av bm) 4))
def Z8h l av bm:=D.int .i64 (D.aj (D.au (Cc l av bm) 3))
def Z8k l av bm:=(0,En.mk 0 none (Obj.box (49:TypeId) [P.d (Z8h l av bm),P.d (Z8i l av bm),P.d (Z8j l av bm)]))
def Z8f av bm l:=decide ((0:Int)<=dR av bm/\dR av bm<(↑(nQ l):Int))
def Z8e av bm:=decide (dR av bm<(0:Int))
def Z8d(x:ao)(y:ao):=Prod.fst x==Prod.fst y&&(gy x==gy y&&true)&&(gj x==gj y&&true)
abbrev wiL(z:Bool)(l:List Pl)(n:Nat)(x y:ao)(k:Int):S:=⟨28,[(0,.sl 0 0 n),(4,.ref 1 0 0),(5,.ref 2 0 0),(7,iD k)],EB z l++bxI 1 x++bxI 2 y⟩
def qkc:S->K (PX×S):=λs ae=> ∃z l x y,s=wiL z l l.length x y 0/\l.length<=1000000/\(∀b,b=within l x y->ae (.ret,⟨28,[(0,.sl 0 0 l.length),(6,.d (.bool b))],EB z l⟩))/\(within l x y=true->ae (.exit 0,⟨28,[(0,.sl 0 0 l.length)],EB z l⟩))
def Pe y:=[(2,nS y)]
def vp:=P.ref 2 0 0
def Hu av bm:=D.nth (eu av) (Int.toNat (dR av bm))
def Z8m av bm:=decide (Int.toNat (dR av bm)<nQ av)
theorem qkd z l (n:Nat) x y k ae:(bif decide (k<=(↑n:Int)) then bif Z8d x y then ae (PX.ret,S.mk 28 [sR n,(6,ZL)] (Hs z l)) else∃RO av bm,ZB n::gA x=oS av::gA bm/\Hs z l=Hs RO av/\gx av/\bif Z8e av bm then ae (PX.ret,S.mk 28 (sR n::Z5l) (Hs RO av)) else ob (decide ((0:Int)<=dR av bm/\dR av bm<(↑n:Int))) (ob (Z8m av bm) (ob (bO PR (108:TypeId) (Hu av bm)) (ob (Zh k) (ae (PX.normal,S.mk 28 (sR n::(4,je)::(5,vp)::ZJ k) (RN RO av::(1,En.mk 0 none (Obj.box (49:TypeId) [P.d (D.int .i64 (D.aj (D.au (Hu av bm) 3))),P.d (D.int .i64 (D.aj (D.au (Hu av bm) 4))),P.d (D.int .i64 (D.aj (D.au (Hu av bm) 5)))]))::Pe y)))))) else ae (PX.exit 0,S.mk 28 [sR n] (Hs z l)))=(aD [(97,qeh)] [] 96 2 (wiL z l n x y k)) ae:=by kernel_rfl
def Z8q:=(4,je)::(5,vp)::ZW
theorem qg8 z l n x y ae:(∃RO av bm Ov,S.mk 28 (sR n::Z8q) (RN z l::(1,nS x)::Pe y)=S.mk 28 (Ht av::Z8q) (RN RO av::(1,nS bm)::Pe Ov)/\gx av/\(∀b,b=within av bm Ov->ae (fk b,Hs RO av))/\(within av bm Ov=true->ae (ZL,Hs RO av)))=(aI [] [(2,ah (aR 96 2) qkc)] 96 [.sl 0 0 n,.d (aL x),.d (aL y)] (EB z l)) ae:=by kernel_rfl
def qke:a8:=λps R ae=> ∃z l x y,ps=[.sl 0 0 l.length,.d (aL x),.d (aL y)]/\R=EB z l/\l.length<=1000000/\ ∀b,b=within l x y->ae (.d (.bool b),EB z l)
abbrev qg9(l:List Pl)(x:ao)(k:Int):S:=⟨39,[(0,dD l),(3,.ref 0 0 0),(5,iD k)],bxI 0 x⟩
def gRo:S->K (PX×S):=λs ae=> ∃l x,s=qg9 l x 0/\l.length<=1000000/\(∀b,b=me l x->ae (.ret,⟨39,[(4,.d (.bool b))],[]⟩))/\(me l x=false->ae (.exit 0,⟨39,[],[]⟩))
def Z8r(ae:PX×S->Prop):=ae (PX.ret,S.mk 39 Zg [])
theorem qkf l x k ae:(bif decide (k<=(↑(nQ l):Int)) then∃av bm,im l::gA x=im av::gA bm/\Zx/\gx av/\bif Z8e av bm then Z8r ae else ob (Z8f av bm l) (ob (bO PR (108:TypeId) (Cc l av bm)) (bif D.aj (D.au (Cc l av bm) 3)==(0:Int)&&(D.aj (D.au (Cc l av bm) 4)==(0:Int)&&true)&&(D.aj (D.au (Cc l av bm) 5)==(0:Int)&&true) then ae (PX.ret,S.mk 39 Pb []) else∃nk x,[im l,P.d (D.agg [Z8h l av bm,Z8i l av bm,Z8j l av bm])]=im nk::gA x/\Zx/\gx nk/\bif Z8e nk x then Z8r ae else ob (Z8f nk x l) (ob (bO PR (108:TypeId) (Cc l nk x)) (bif !D.dp (D.au (Cc l nk x) 7) then Z8r ae else ob (Zh k) (ae (PX.normal,S.mk 39 (vO l::dQ::Zn k) [Z8k l av bm])))))) else ae (PX.exit 0,S.mk 39 [] []))=(aD [(97,qg3)] [] 144 2 (qg9 l x k)) ae:=by kernel_rfl
theorem qkg l x ae:(∃av bm,S.mk 39 (vO l::dQ::ZK) (M0 x)=S.mk 39 (vO av::dQ::ZK) (M0 bm)/\gx av/\(∀b,b=me av bm->ae (fk b,[]))/\(me av bm=false->Z3 ae))=(aI [] [(2,ah (aR 144 2) gRo)] 144 [dD l,.d (aL x)] []) ae:=by kernel_rfl
def qkh:a8:=λps R ae=> ∃l x,ps=[dD l,.d (aL x)]/\R=[]/\l.length<=1000000/\ ∀b,b=me l x->ae (.d (.bool b),[])
def W2:a8:=λps R ae=> ∃l x,ps=[.sl 0 0 l.length,.d (aL x)]/\R=EB false l/\l.length<=1000000/\ae (iD (dR l x),EB false l)
abbrev riH(l o:List Pl)(n:Nat)(k:Int):S:=⟨43,[(0,dD l),(3,.sl 0 0 n),(4,iD k)],[(0,⟨0,none,.arr 108 false (o.map bn)⟩)]⟩
def gRi:S->K (PX×S):=λs ae=> ∃l,s=riH l [] 0 0/\l.length<=1000000/\ae (.exit 0,⟨43,[(3,.sl 0 0 (fP l).length)],[(0,⟨0,none,.arr 108 false ((fP l).map bn)⟩)]⟩)
def Hv av:=En.mk 0 none (Obj.arr (108:TypeId) false (eu av))
def r7 av:=[(0,Hv av)]
def Z8z k (ae:PX×S->Prop) l n av:=ob (Zh k) (ae (PX.normal,S.mk 43 (vO l::(3,ZB n)::wH k) (r7 av)))
def GB l k:=[A3 l k,CP l k,CO l k,D.int .i64 (D.aj (D.au (jG l k) 3)),D.int .i64 (D.aj (D.au (jG l k) 4)),D.int .i64 (D.aj (D.au (jG l k) 5)),D.str (D.cJ (D.au (jG l k) 6)),D.bool (D.dp (D.au (jG l k) 7))]
def Z8w n av l k:=En.mk 0 none (Obj.arr (108:TypeId) false (List.take n (eu av)++[D.agg (GB l k)]))
def Z8v n l k:=n+List.length [D.agg (GB l k)]
def SV av:=(0,En.mk 0 (some 0) (Obj.arr (108:TypeId) false (eu av)))
def SX av:=[SV av]
theorem qnX l o n k ae:(bif Pa k l then ob (BU k l) (ob (nb l k) (∃t r i,VB l k=ZZ t r i/\Zx/\bif bf t r i then ob (BU k l) (ob (nb l k) (∃s,[P.d (D.str (D.cJ (D.au (jG l k) 6)))]=pU s/\Zx/\bif bX s then ob (BU k l) (ob (nb l k) (∃av x,ZB n::VB l k=oS av::gA x/\SX o=SX av/\gx av/\bif Z8e av x then ob (BU k l) (ob (nb l k) (ob (Nat.ble n (nQ av)&&aG (Z8v n l k) 72) (ob (Zh k) (ae (PX.normal,S.mk 43 (vO l::(3,P.sl 0 0 (Z8v n l k))::wH k) [(0,Z8w n av l k)]))))) else Z8z k ae l n av)) else Z8z k ae l n o)) else Z8z k ae l n o)) else ae (PX.exit 0,S.mk 43 [(3,ZB n)] (r7 o)))=(aD [(192,ou),(186,D1),(97,W2)] [] 143 3 (riH l o n k)) ae:=by kernel_rfl
def Z8C av:=(0,En.mk 0 none (Obj.arr (108:TypeId) false (List.map bn (fP av))))
def xQ:=En.mk 0 none (Obj.arr (108:TypeId) false [])
def Z8B av:=S.mk 43 (vO av::Wq) [(0,xQ)]
theorem qki l ae:(∃av,Z8B l=Z8B av/\gx av/\ae (P.sl 0 0 (List.length (fP av)),[Z8C av]))=(aI [] [(3,ah (aR 143 3) gRi)] 143 [dD l] []) ae:=by kernel_rfl
def hRi:a8:=λps R ae=> ∃l,ps=[dD l]/\R=[]/\l.length<=1000000/\ae (.sl 0 0 (fP l).length,[(0,⟨0,none,.arr 108 false ((fP l).map bn)⟩)])
abbrev bxP(n:Nat)(p:Pl):List (Nat×En):=[(n,⟨0,none,.box 108 [.d (.int .i64 p.1.1),.d (.int .i64 p.1.2.1),.d (.int .i64 p.1.2.2),.d (.int .i64 p.2.1.1),.d (.int .i64 p.2.1.2.1),.d (.int .i64 p.2.1.2.2),.d (.str p.2.2.1),.d (.bool p.2.2.2)]⟩)]
abbrev naH(l:List Pl)(p:Pl)(k:Int):S:=⟨54,[(0,dD l),(3,.ref 0 0 0),(5,iD k)],bxP 0 p⟩
def SY(p q:Pl):=decide (q.2.1=p.2.1)&&(q.2.2.1==p.2.2.1)&&fc q.1 p.1
def gNa:S->K (PX×S):=λs ae=> ∃l p,s=naH l p 0/\l.length<=1000000/\(l.any (SY p)=true->ae (.ret,⟨54,[(3,.ref 0 0 0),(4,sD (gw p.2.2.1 p.1.1 p.1.2.1 p.1.2.2).1)],bxP 0 p⟩))/\(l.any (SY p)=false->ae (.exit 0,⟨54,[(3,.ref 0 0 0)],bxP 0 p⟩))
def K5:=[dQ]
def M1(p:Pl):=Prod.fst (Prod.snd (Prod.snd p))
def Pf(p:Pl):=Prod.snd (Prod.snd (Prod.fst (Prod.snd p)))
def Pg(p:Pl):=Prod.fst (Prod.snd (Prod.fst (Prod.snd p)))
def Ph(p:Pl):=Prod.fst (Prod.fst (Prod.snd p))
def Pj(p:Pl):=D.int .i64 (Prod.snd (Prod.snd (Prod.fst p)))
def Pk(p:Pl):=D.int .i64 (Prod.fst (Prod.snd (Prod.fst p)))
def Pm(p:Pl):=D.int .i64 (Prod.fst (Prod.fst p))
def W3 p:=[(0,En.mk 0 none (Obj.box (108:TypeId) [P.d (Pm p),P.d (Pk p),P.d (Pj p),P.d (D.int .i64 (Ph p)),P.d (D.int .i64 (Pg p)),P.d (D.int .i64 (Pf p)),P.d (D.str (M1 p)),P.d (D.bool (Prod.snd (Prod.snd (Prod.snd p))))]))]
def Z8O k (ae:PX×S->Prop) l p:=ob (Zh k) (ae (PX.normal,S.mk 54 (vO l::dQ::Zn k) (W3 p)))
def W4 t r i t' r' i':=decide (mY t r i t' r' i'<(0:Int))
def Z8N p:=D.agg [Pm p,Pk p,Pj p]
theorem qkj l p k ae:(bif Pa k l then ob (BU k l) (ob (nb l k) (bif D.aj (D.au (jG l k) 3)==Ph p&&(D.aj (D.au (jG l k) 4)==Pg p&&true)&&(D.aj (D.au (jG l k) 5)==Pf p&&true) then ob (BU k l) (ob (nb l k) (bif D.cJ (D.au (jG l k) 6)==M1 p then ob (BU k l) (ob (nb l k) (∃t r i t' r' i',[VA l k,P.d (Z8N p)]=P.d (D.agg (Zt t::Zt r::ZE i))::ZZ t' r' i'/\Zx/\bif W4 t r i t' r' i' then∃s t r i,[P.d (D.str (M1 p)),P.d (Z8N p)]=P.d (D.str s)::ZZ t r i/\Zx/\ae (PX.ret,S.mk 54 [dQ,(4,P.d (D.str (Prod.fst (gw s t r i))))] (W3 p)) else Z8O k ae l p)) else Z8O k ae l p)) else Z8O k ae l p)) else ae (PX.exit 0,S.mk 54 K5 (W3 p)))=(aD [(98,l5),(193,F4)] [] 145 2 (naH l p k)) ae:=by kernel_rfl
theorem qkk l p ae:(∃av mE,S.mk 54 (vO l::dQ::ZK) (W3 p)=S.mk 54 (vO av::dQ::ZK) (W3 mE)/\gx av/\(List.any av (SY mE)=true->ae (P.d (D.str (Prod.fst (gw (M1 mE) (Prod.fst (Prod.fst mE)) (Prod.fst (Prod.snd (Prod.fst mE))) (Prod.snd (Prod.snd (Prod.fst mE)))))),[]))/\(List.any av (SY mE)=false->ae (P.d (D.str (M1 mE)),[])))=(aI [] [(2,ah (aR 145 2) gNa)] 145 [dD l,.d (bn p)] []) ae:=by kernel_rfl
def hNa:a8:=λps R ae=> ∃l p,ps=[dD l,.d (bn p)]/\R=[]/\l.length<=1000000/\ ∀s,s=Gz l p->ae (sD s,[])
abbrev paH(l:List Pl)(p:Pl)(s:List UInt8):S:=⟨28,[(0,dD l),(3,.ref 0 0 0),(5,sD s)],bxP 0 p⟩
inductive W5(T:List Pl)(V:List ao)(x:ao)(p:Pl):Prop
 |mk (h1:marked T V x=true) (h2:a7 T x=some p)
def gPa:S->K (PX×S):=λs ae=> ∃T V x p w,s=paH (aS T V) p ([47]++Gz (aS T V) p)/\(T.length<=1000/\Rt T/\W5 T V x p/\Up T x w)/\ae (.exit 0,⟨28,[(5,sD (dm (w.reverse.map (tW T V))))],[]⟩)
def SZ p:=P.d (D.agg [Pm p,Pk p,Pj p,D.int .i64 (Ph p),D.int .i64 (Pg p),D.int .i64 (Pf p),D.str (M1 p),D.bool (Prod.snd (Prod.snd (Prod.snd p)))])
theorem qnY l p s ae:(bif !(Ph p==(0:Int)&&(Pg p==(0:Int)&&true)&&(Pf p==(0:Int)&&true)) then∃av x,[im l,P.d (D.agg [D.int .i64 (Ph p),D.int .i64 (Pg p),D.int .i64 (Pf p)])]=im av::gA x/\Zx/\gx av/\ob (Z8f av x l) (ob (bO PR (108:TypeId) (Cc l av x)) (∃nk p,[im l,P.d (D.agg [D.int .i64 (D.aj (D.au (Cc l av x) 0)),D.int .i64 (D.aj (D.au (Cc l av x) 1)),D.int .i64 (D.aj (D.au (Cc l av x) 2)),Z8h l av x,Z8i l av x,Z8j l av x,D.str (D.cJ (D.au (Cc l av x) 6)),D.bool (D.dp (D.au (Cc l av x) 7))])]=[im nk,SZ p]/\Zx/\gx nk/\ ∀iW,iW=Gz nk p->ob (decide (1+sI iW<=Zy)) (ob (decide (List.length (Z1n++iW)+sI s<=Zy)) (ae (PX.normal,S.mk 28 [vO l,dQ,(5,P.d (D.str (Z1n++iW++s)))] [(0,En.mk 0 none (Obj.box (108:TypeId) [P.d (D.int .i64 (D.aj (D.au (Cc l av x) 0))),P.d (D.int .i64 (D.aj (D.au (Cc l av x) 1))),P.d (D.int .i64 (D.aj (D.au (Cc l av x) 2))),P.d (Z8h l av x),P.d (Z8i l av x),P.d (Z8j l av x),P.d (D.str (D.cJ (D.au (Cc l av x) 6))),P.d (D.bool (D.dp (D.au (Cc l av x) 7)))]))]))))) else ae (PX.exit 0,S.mk 28 [(5,P.d (D.str s))] []))=(aD [(145,hNa),(97,qg3)] [] 100 2 (paH l p s)) ae:=by kernel_rfl
theorem qkl l p ae:(∃av mE,[im l,SZ p]=[im av,SZ mE]/\Zx/\gx av/\ ∀s,s=Gz av mE->ob (decide (1+sI s<=Zy)) (∃T V x p_2 w,S.mk 28 [vO l,dQ,(5,P.d (D.str (Z1n++s)))] (W3 p)=S.mk 28 [(0,P.d (D.sl 8 (List.map bn (aS T V)))),dQ,(5,P.d (D.str (Z1n++Gz (aS T V) p_2)))] (W3 p_2)/\(C1 T/\Rt T/\W5 T V x p_2/\Up T x w)/\ae (P.d (D.str (dm (List.map (tW T V) (List.reverse w)))),[])))=(aI [(145,hNa)] [(2,ah (aR 100 2) gPa)] 100 [dD l,.d (bn p)] []) ae:=by kernel_rfl
def hPa:a8:=λps R ae=> ∃T V p,ps=[dD (aS T V),.d (bn p)]/\R=[]/\(T.length<=1000/\Rt T/\p∈aS T V)/\ae (sD (Bs T V p.1),[])
theorem rM{l x}(h:a7 l x=none):dR l x= -1:=by refine Pc λp hp=> ?_;unfold a7 at h;simpa using zcB.1 h p hp
theorem oJ{l x p}(h:a7 l x=some p): ∃i:Nat,dR l x=(i:Int)/\i<l.length/\l.getD i qa=p:=by
 unfold a7 at h;obtain⟨h1,i,hi,h2,h3⟩:=zdp.1 h;refine⟨i,J4 (x:=p) (by rw[zad hi,h2]) h1 λy hy=> ?_,hi,?_⟩
 ·obtain⟨j,hj,rfl⟩:=zaQ hy;rw[zdl];rw[zau] at hj;simpa using h3 j (by omega)
 rw[zab,zad hi];exact h2
section
variable{X:XF}
theorem qha{x y:ao}(h:(x.1==y.1&&(x.2.1==y.2.1&&true)&&(x.2.2==y.2.2&&true))=true):x=y:=by rw[vo] at h;simpa using h
theorem qhb{x y:ao}(h:(x.1==y.1&&(x.2.1==y.2.1&&true)&&(x.2.2==y.2.2&&true))=false):x≠y:=by rw[vo] at h;simpa using h
theorem qcm:LD X 96 2 (ah (aR 96 2) qkc):=LD.par (by kernel_rfl) (by kernel_rfl) (.cons WZ .nil) .nil
 (A:=List Pl×ao×ao×Bool) (B:=ao×Int) (λa b=>wiL a.2.2.2 a.1 a.1.length b.1 a.2.2.1 b.2)
 (λa b=>a.1.length<=1000000/\0<=b.2/\b.2<=a.1.length+1/\cB a.1 (a.1.length+1-b.2.toNat) b.1 a.2.2.1=within a.1 a.2.1 a.2.2.1)
 (λa b=>a.1.length+1-b.2.toNat)
 (λa r=>(r=(.ret,⟨28,[(0,.sl 0 0 a.1.length),(6,.d (.bool (within a.1 a.2.1 a.2.2.1)))],EB a.2.2.2 a.1⟩))\/(within a.1 a.2.1 a.2.2.1=true/\r=(.exit 0,⟨28,[(0,.sl 0 0 a.1.length)],EB a.2.2.2 a.1⟩)))
 (by
  rintro⟨l,x0,y,z⟩ ⟨x,k⟩ ⟨hm,h0,hk,hw⟩;dsimp only at*
  (rw[<-qkd];delta gj gk gy fQ fR nS Pe eu RN Zl Zm ZJ vp je Z8 Z7 Zh Hu nQ Z8m Z2 Z5l Z8e fo gx oS gS gA ZB Hs ZL sR Z8d)
  refine aW (λh=> ?_) λh=> ?_
  ·obtain⟨n,hn⟩: ∃n,l.length+1-k.toNat=n+1:=⟨l.length-k.toNat,by omega⟩
   rw[hn] at hw;simp only[cB] at hw;refine ay (λhe=> ?_) λhe=>⟨z,l,x,rfl,rfl,hm,?_⟩
   ·rw[zap (qha he)] at hw;left;rw[<-hw]
   rw[zan (qhb he)] at hw;cases hp:a7 l x with
   |none=>rw[hp] at hw;rw[rM hp];refine kJ (iz (by decide)) (.inl ?_);simp only at hw;rw[<-hw]
   |some p=>rw[hp] at hw;obtain⟨i,hi,bJ,hip⟩:=oJ hp;rw[hi];simp only[zbR];rw[iN bJ,hip];refine fJ (l0 (by omega)) (bh ⟨by omega,by omega⟩ (aq (iz (by rw[zaa];exact bJ)) (aq (dX p) (aq (iZ (by omega) (by omega)) ⟨l.length+1-(k+1).toNat,by omega,(p.2.1,k+1),rfl,⟨hm,by simp only;omega,by simp only;omega,?_⟩,rfl⟩))));simp only;rw[show l.length+1-(k+1).toNat=n by omega];exact hw
  have:l.length+1-k.toNat=0:=by omega
  rw[this] at hw;exact .inr ⟨hw.symm,rfl⟩)
 (by
  rintro s ae ⟨z,l,x,y,rfl,hm,h1,h2⟩;refine⟨(l,x,y,z),(x,0),rfl,⟨hm,by simp,by simp only;omega,rfl⟩,?_⟩;rintro r (rfl | ⟨h3,rfl⟩)
  ·exact h1 _ rfl
  exact h2 h3)
theorem qel:FD X 96 qke:=FD.mk (by kernel_rfl) .nil (.cons qcm .nil) (by
 intro ps R ae hh;obtain⟨z,l,x,y,rfl,rfl,hm,hp⟩:=hh
 (rw[<-qg8];delta ZL eu RN Hs fk fo gx oS Ht gj gk gy fQ fR nS Pe Z5 ZW vp je Z8q ZB sR)
 exact⟨z,l,x,y,rfl,hm,λb hb=>hp b hb,λh=>hp true h.symm⟩)
theorem qhc:LD X 144 2 (ah (aR 144 2) gRo):=LD.par (by kernel_rfl) (by kernel_rfl) (.cons qej .nil) .nil
 (A:=List Pl×ao) (B:=ao×Int) (λa b=>qg9 a.1 b.1 b.2)
 (λa b=>a.1.length<=1000000/\0<=b.2/\b.2<=a.1.length+1/\u4 a.1 (a.1.length+1-b.2.toNat) b.1=me a.1 a.2)
 (λa b=>a.1.length+1-b.2.toNat)
 (λa r=>(r=(.ret,⟨39,[(4,.d (.bool (me a.1 a.2)))],[]⟩))\/(me a.1 a.2=false/\r=(.exit 0,⟨39,[],[]⟩)))
 (by
  rintro⟨l,x0⟩ ⟨x,k⟩ ⟨hm,h0,hk,hw⟩;dsimp only at*
  (rw[<-qkf];delta eu Cc Z8j Z8i Z8h Z8k Zl Zm Zn b9 dQ im vO Z8 Z7 Zh ZL Pb nQ Z8f Z2 Zg Z8r Z8e fo gx Zx gj gk gy fQ fR gS gA)
  simp only[zaa];refine aW (λh=> ?_) λh=> ?_
  ·obtain⟨n,hn⟩: ∃n,l.length+1-k.toNat=n+1:=⟨l.length-k.toNat,by omega⟩
   rw[hn] at hw;simp only[u4] at hw;refine⟨l,x,rfl,rfl,hm,?_⟩;cases hp:a7 l x with
   |none=>rw[hp] at hw;rw[rM hp];refine kJ (iz (by decide)) (.inl ?_);simp only at hw;rw[<-hw]
   |some p=>
    rw[hp] at hw;simp only at hw;obtain⟨i,hi,bJ,hip⟩:=oJ hp;rw[hi];simp only[zbR];rw[iN bJ,hip];refine fJ (l0 (by omega)) (bh ⟨by omega,by omega⟩ (aq (dX p) (ay (λhe=> ?_) λhe=>⟨l,p.2.1,rfl,rfl,hm,?_⟩)))
    ·rw[zap (qha (y:=aA) he)] at hw;left;rw[<-hw]
    rw[zan (qhb (y:=aA) he)] at hw;cases hq:a7 l p.2.1 with
    |none=>rw[hq] at hw;rw[rM hq];refine kJ (iz (by decide)) (.inl ?_);simp only at hw;rw[<-hw]
    |some q=>
     rw[hq] at hw;simp only at hw;obtain⟨j,hj,E9,hjq⟩:=oJ hq;rw[hj];simp only[zbR];rw[iN E9,hjq];refine fJ (l0 (by omega)) (bh ⟨by omega,by omega⟩ (aq (dX q) (ay (λhd=> ?_) λhd=>aq (iZ (by omega) (by omega)) ⟨l.length+1-(k+1).toNat,by omega,(p.2.1,k+1),rfl,⟨hm,by simp only;omega,by simp only;omega,?_⟩,rfl⟩)))
     ·have Iu:(!q.2.2.2)=true:=hd;rw[zap (by simpa using Iu)] at hw;left;rw[<-hw]
     have Iu:(!q.2.2.2)=false:=hd;rw[zan (by simpa using Iu)] at hw;simp only;rw[show l.length+1-(k+1).toNat=n by omega];exact hw
  have:l.length+1-k.toNat=0:=by omega
  rw[this] at hw;exact .inr ⟨hw.symm,rfl⟩)
 (by
  rintro s ae ⟨l,x,rfl,hm,h1,h2⟩;refine⟨(l,x),(x,0),rfl,⟨hm,by simp,by simp only;omega,rfl⟩,?_⟩;rintro r (rfl | ⟨h3,rfl⟩)
  ·exact h1 _ rfl
  exact h2 h3)
theorem qkm:FD X 144 qkh:=FD.mk (by kernel_rfl) .nil (.cons qhc .nil) (by
 intro ps R ae hh;obtain⟨l,x,rfl,rfl,hm,hp⟩:=hh
 (rw[<-qkg];delta Z2 Z3 fk fo gx gj gk gy fQ fR nS ze M0 Z5 ZK b9 dQ eu im vO)
 exact⟨l,x,rfl,hm,λb hb=>hp b hb,λh=>hp false h.symm⟩)
theorem W6:FD X 97 W2:=WZ.weaken λps R ae h=>by obtain⟨l,x,h1,h2,h3,h4⟩:=h;exact⟨false,l,x,h1,h2,h3,h4⟩
theorem J5{l x}:dR l x<0↔(a7 l x).isSome=false:=by
 cases h:a7 l x with
 |none=>rw[rM h];simp
 |some p=>obtain⟨i,hi,_⟩:=oJ h;rw[hi];simp
theorem zf(l:List Pl):(l.map bn).take l.length=l.map bn:=zak (by simp)
theorem qhd:LD X 143 3 (ah (aR 143 3) gRi):=LD.par (by kernel_rfl) (by kernel_rfl) (.cons tI (.cons F6 (.cons W6 .nil))) .nil
 (A:=List Pl) (B:=Int) (λa k=>riH a (fP (a.take k.toNat)) (fP (a.take k.toNat)).length k)
 (λa k=>a.length<=1000000/\0<=k/\k.toNat<=a.length)
 (λa k=>(a.length-k).toNat)
 (λa x=>x=(.exit 0,⟨43,[(3,.sl 0 0 (fP a).length)],[(0,⟨0,none,.arr 108 false ((fP a).map bn)⟩)]⟩))
 (by
  rintro l k ⟨hm,h0,h1⟩
  (rw[<-qnX];delta eu Hv r7 Zl Zm wH ZB im vO Z8 Z7 Zh Z8z Ze jG CO CP A3 GB Z8w Z8v nQ Z8e fo gx SV SX gj gk gy fQ fR gS gA oS pU Zx Zt ZE ZZ VA VB nb BU Pa)
  simp only[zaa];refine aW (λh=> ?_) λh=> ?_
  ·have hk:k.toNat<l.length:=by omega
   rw[iN hk];have e:fP (l.take (k+1).toNat)=BT (fP (l.take k.toNat)) (l.getD k.toNat qa):=by rw[show(k+1).toNat=k.toNat+1 by omega];exact tN BT [] l _ k.toNat hk
   have htl:=y9 (l.take k.toNat);rw[zau] at htl;generalize l.getD k.toNat qa=p at e;generalize fP (l.take k.toNat)=T at e htl;have go: ∀T',BT T p=T'-> ∃m,m<((l.length:Int)-k).toNat/\ ∃b,(riH l T' T'.length (k+1):S)=riH l (fP (l.take b.toNat)) (fP (l.take b.toNat)).length b/\(l.length<=1000000/\0<=b/\b.toNat<=l.length)/\m=((l.length:Int)-b).toNat:=λT' hT=>⟨((l.length:Int)-(k+1)).toNat,by omega,k+1,by rw[e,hT],⟨hm,by omega,by omega⟩,rfl⟩
   have fit:decide ((-9223372036854775808:Int)<=k+(1:Int)/\k+(1:Int)<=(9223372036854775807:Int))=true:=iZ (by omega) (by omega);refine bh ⟨h0,by omega⟩ (aq (dX _) ⟨p.1.1,p.1.2.1,p.1.2.2,rfl,rfl,ay (λh3=>bh ⟨h0,by omega⟩ (aq (dX _) ⟨p.2.2.1,rfl,rfl,ay (λh4=>bh ⟨h0,by omega⟩ (aq (dX _) ⟨T,p.1,rfl,rfl,by omega,ay (λh5=>bh ⟨h0,by omega⟩ (aq (dX _) (aq ?_ (aq fit ?_)))) λh5=>aq fit ?_⟩)) λh4=>aq fit ?_⟩)) λh3=>aq fit ?_⟩)
   ·simp[aG];omega
   ·have hs:(a7 T p.1).isSome=false:=J5.1 (zbC h5);have:=go (T++[p]) (by unfold BT;simp[hs,pB,h3,h4]);rw[zf];have e1:(T++[p]).length=T.length+1:=by simp
    have e2:(T++[p]).map bn=T.map bn++[bn p]:=by simp
    simp only[riH,e1,e2] at this;exact this
   ·have hs:(a7 T p.1).isSome=true:=by
     cases hs:(a7 T p.1).isSome with
     |true=>rfl
     |false=>exact absurd (J5.2 hs) (zcj h5)
    exact go T (by unfold BT;simp[hs])
   ·refine go T ?_;unfold BT;split
    ·rfl
    rw[zan (by simp[pB,h4])]
   refine go T ?_;unfold BT;split
   ·rfl
   rw[zan (by simp[pB,h3])]
  rw[zak (by omega)];rfl)
 (by rintro s ae ⟨l,rfl,hm,hp⟩;refine⟨l,0,rfl,⟨hm,by decide,by simp⟩,?_⟩;rintro x rfl;exact hp)
theorem qnZ:FD X 143 hRi:=FD.mk (by kernel_rfl) .nil (.cons qhd .nil) (by
 intro ps R ae hh;obtain⟨l,rfl,rfl,hm,hp⟩:=hh
 (rw[<-qki];delta Z8C fo gx xQ Z5 Ry ZN Wq eu im vO Z8B)
 exact⟨l,rfl,hm,hp⟩)
theorem qhe:LD X 145 2 (ah (aR 145 2) gNa):=
 LD.scan (by kernel_rfl) (by kernel_rfl) (.cons oA (.cons Vl .nil)) .nil
  (A:=List Pl×Pl) (λa k=>naH a.1 a.2 k) (·.1) qa (λa q=>SY a.2 q) (λ_=>True)
  (λa _=>⟨54,[(3,.ref 0 0 0),(4,sD (gw a.2.2.2.1 a.2.1.1 a.2.1.2.1 a.2.1.2.2).1)],bxP 0 a.2⟩) (λa=>⟨54,[(3,.ref 0 0 0)],bxP 0 a.2⟩)
  (by
   rintro⟨l,p⟩ k ae _ hm h0 hk eD ht hf;dsimp only at*
   (rw[<-qkj];delta b9 dQ K5 M1 Pf Pg Ph Pj Pk Pm W3 Zl Zm Zn eu im vO Z8 Z7 Zh Z8O W4 Zx Zt ZE ZZ Z8N Ze jG CO CP A3 VA nb nQ BU Pa)
   simp only[zaa];rw[iN eD];generalize l.getD k.toNat qa=q at ht hf;have fit:decide ((-9223372036854775808:Int)<=k+(1:Int)/\k+(1:Int)<=(9223372036854775807:Int))=true:=iZ (by omega) (by omega);refine kJ (iz hk) (bh ⟨h0,hk⟩ (aq (dX _) (ay (λh1=>bh ⟨h0,hk⟩ (aq (dX _) (ay (λh2=>bh ⟨h0,hk⟩ (aq (dX _) ⟨_,_,_,_,_,_,rfl,rfl,ay (λh3=>⟨_,_,_,_,rfl,rfl,ht ?_⟩) λh3=>aq fit (hf ?_)⟩)) λh2=>aq fit (hf ?_)))) λh1=>aq fit (hf ?_))))
   ·have LC:q.2.1=p.2.1:=qha h1;have h3':=(ff q.1 p.1).1 (zbC h3);have h2':(q.2.2.1==p.2.2.1)=true:=h2;simp[SY,LC,h2',h3']
   ·have h3': ¬fc q.1 p.1=true:=λh=>zcj h3 ((ff q.1 p.1).2 h);simp[SY,h3']
   ·have h2':(q.2.2.1==p.2.2.1)=false:=h2;simp[SY,h2']
   have LC:q.2.1≠p.2.1:=qhb h1;simp[SY,LC])
  (by
   rintro⟨l,p⟩ k ae _ hk hp;dsimp only at*
   (rw[<-qkj];delta b9 dQ K5 M1 Pf Pg Ph Pj Pk Pm W3 Zl Zm Zn eu im vO Z8 Z7 Zh Z8O W4 Zx Zt ZE ZZ Z8N Ze jG CO CP A3 VA nb nQ BU Pa)
   simp only[zaa];exact fJ (l0 hk) hp)
  (by
   rintro s ae ⟨l,p,rfl,hm,h1,h2⟩;refine⟨(l,p),rfl,trivial,hm,λi hi h0=>h1 ?_,λh=>h2 ?_⟩
   ·rw[<-Pd (SY p) l,<-hi];exact iz h0
   rw[<-Pd (SY p) l];dsimp only at h;rw[h];rfl)
theorem qkn:FD X 145 hNa:=FD.mk (by kernel_rfl) .nil (.cons qhe .nil) (by
 intro ps R ae hh;obtain⟨l,p,rfl,rfl,hm,hp⟩:=hh
 (rw[<-qkk];delta M1 fo gx Pf Pg Ph Pj Pk Pm W3 Z5 ZK b9 dQ eu im vO)
 have e:Gz l p=if l.any (SY p)=true then(gw p.2.2.1 p.1.1 p.1.2.1 p.1.2.2).1 else p.2.2.1:=rfl
 exact⟨l,p,rfl,hm,λh=>hp _ (by rw[e,zap h]),λh=>hp _ (by rw[e,h];rfl)⟩)
theorem W7{T V}(hu:Uq T):Uq (aS T V):=by unfold Uq;exact jR hu V
theorem RP{T V}(hu:Uq T){x p}(h:marked T V x=true)(hp:a7 T x=some p):a7 (aS T V) x=some p:=by have:=gT (W7 (V:=V) hu) (vf h hp);rwa [(bN hp).2] at this
theorem qhf:LD X 100 2 (ah (aR 100 2) gPa):=LD.par (by kernel_rfl) (by kernel_rfl) (.cons qkn (.cons qej .nil)) .nil
 (A:=List Pl×List ao×List ao) (B:=Pl×List UInt8×ao×List ao×List ao) (λa b=>paH (aS a.1 a.2.1) b.1 b.2.1)
 (λ⟨T,V,w0⟩ ⟨p,s,x,v,w⟩=>T.length<=1000/\Rt T/\w0.length<=T.length/\marked T V x=true/\a7 T x=some p/\Up T x w/\w0=v++w/\s=dm ((v++[x]).reverse.map (tW T V))/\(∀u∈w,marked T V u=true)/\(dm (w0.reverse.map (tW T V))).length<=201*T.length/\s.length<=201*(v.length+1))
 (λ_ b=>b.2.2.2.2.length)
 (λ⟨T,V,w0⟩ r=>r=(.exit 0,⟨28,[(5,sD (dm (w0.reverse.map (tW T V))))],[]⟩))
 (by
  rintro⟨T,V,w0⟩ ⟨p,s,x,v,w⟩ ⟨hm,hT,hw0,SU,He,hw,E8,hs,hmw,hlen,Dz⟩;dsimp only at*
  have hsL:(aS T V).length<=T.length:=zaM _ _
  (rw[<-qnY];delta b9 dQ eu im vO Z1n Zy sI M1 Pf Pg Ph Pj Pk Pm SZ Cc Z8j Z8i Z8h nQ Z8f fo gx Zx gj gk gy fQ fR gS gA)
  simp only[zaa];cases hw with
  |top h h0=>
   rw[He] at h;cases h;refine fJ ?_ ?_
   ·rw[h0];rfl
   show _=_;rw[E8,hs]
  | @step _ p' q w' h h0 hq hd FL=>
   rw[He] at h;cases h;obtain⟨r,hr⟩:=FL.hd;have hmq:marked T V p.2.1=true:=hmw _ (by rw[hr];simp);have hqs:=RP hT.1 hmq hq;obtain⟨i,hi,bJ,RQ⟩:=oJ hqs;have vL:=zd (aS T V) (hT.2 q (bN hq).1);have DS:tW T V p.2.1=Gz (aS T V) q:=by unfold tW;rw[hq]
   have hvl:v.length+1<=T.length:=by have:=congrArg List.length E8;simp at this;omega
   refine kJ ?_ ⟨aS T V,p.2.1,rfl,rfl,by omega,?_⟩
   ·have:=vo p.2.1 (0,0,0);rw[show(p.2.1==(0,0,0))=false by simpa using h0] at this;simp only at this;show(!_)=true;rw[this];rfl
   rw[hi];simp only[zbR];rw[iN bJ,RQ];refine bh ⟨by omega,by omega⟩ (aq (dX q) ⟨aS T V,q,rfl,rfl,by omega,λs1 s9=> ?_⟩);subst s9;refine bh (by omega) (bh (by simp;omega) ⟨w'.length,by simp,(q,[47]++Gz (aS T V) q++s,p.2.1,v++[x],w'),rfl,⟨hm,hT,hw0,hmq,hq,FL,by rw[E8];simp,?_,λu hu=>hmw u (by simp[hu]),hlen,?_⟩,rfl⟩)
   ·simp only;rw[hs,<-DS];simp[dm]
   simp only;simp;omega)
 (by
  rintro s ae ⟨T,V,x,p,w,rfl,⟨hm,hT,⟨SU,He⟩,hw⟩,hp⟩;obtain⟨w2,hw2,mw⟩:=ll SU;have:=hw.one hw2;subst this;have DS:tW T V x=Gz (aS T V) p:=by unfold tW;rw[He]
  have vL:=zd (aS T V) (hT.2 p (bN He).1);refine⟨(T,V,w),(p,[47]++Gz (aS T V) p,x,[],w),rfl,⟨hm,hT,hw.len,SU,He,hw,rfl,by rw[<-DS];simp[dm],mw,EA hT hw,by simp;omega⟩,?_⟩;rintro r rfl;exact hp)
theorem qn0:FD X 100 hPa:=FD.mk (by kernel_rfl) (.cons qkn .nil) (.cons qhf .nil) (by
 intro ps R ae hh;obtain⟨T,V,p,rfl,rfl,⟨hm,hT,hp0⟩,hp⟩:=hh;obtain⟨hpT,Ep⟩:=vi hp0;have H4:=gT hT.1 hpT;obtain⟨w,hw,_⟩:=ll Ep;have hsL:(aS T V).length<=T.length:=zaM _ _;have vL:=zd (aS T V) (hT.2 p hpT)
 (rw[<-qkl];delta fo C1 M1 Pf Pg Ph Pj Pk Pm W3 Z1n b9 dQ eu im vO Zy sI gx Zx SZ)
 refine⟨aS T V,p,rfl,rfl,by omega,λs hs=> ?_⟩;subst hs;refine bh (by omega) ⟨T,V,p.1,p,w,rfl,⟨hm,hT,⟨Ep,H4⟩,hw⟩,?_⟩;unfold Bs at hp;rw[vg hw] at hp;exact hp)
end
abbrev Pn(n:Nat)(z:Bool)(l:List Pl):List (Nat×En):=[(n,⟨0,none,.arr 108 z (l.map bn)⟩)]
abbrev RR(n:Nat)(l:List It):List (Nat×En):=[(n,⟨0,none,.arr 66 false (l.map cv)⟩)]
abbrev skH(z:Bool)(l:List Pl)(n:Nat)(v:List ao)(o:List Pl)(m:Nat)(i:Int):S:=⟨62,[(0,.sl 0 0 n),(1,ct v),(5,.sl 1 0 m),(6,iD i)],Pn 0 z l++Pn 1 false o⟩
abbrev skI(z:Bool)(l:List Pl)(n:Nat)(v:List ao)(o:List Pl)(m:Nat)(i:Int)(b:Bool)(k:Int):S:=⟨62,[(0,.sl 0 0 n),(1,ct v),(5,.sl 1 0 m),(6,iD i),(7,.d (.bool b)),(8,iD k)],Pn 0 z l++Pn 1 false o⟩
def Po l (v:List ao)(p q:Pl):=decide (q.1∈v)&&me l q.1&&within l q.1 p.1
def qko:S->K (PX×S):=λs ae=> ∃z l v o m i b,s=skI z l l.length v o m i b 0/\(l.length<=1000000/\v.length<=1000000/\0<=i/\i<l.length)/\
 ∀z' b',b'=(b ||l.any (Po l v (l.getD i.toNat qa)))->ae (.exit 2,⟨62,[(0,.sl 0 0 l.length),(1,ct v),(5,.sl 1 0 m),(6,iD i),(7,.d (.bool b'))],Pn 0 z' l++Pn 1 false o⟩)
def Z8W l:=(0,En.mk 0 none (Obj.arr (108:TypeId) true (eu l)))
def yr b:=(7,fk b)
def J6 o:=[(1,Hv o)]
def K6 z xR:=(0,En.mk 0 none (Obj.arr (108:TypeId) z (eu xR)))
def rN k:=[(8,Zm k)]
def Z8R m:=(5,P.sl 1 0 m)
theorem qkp z l n v o m i b k ae:(bif Ex k n then ob (ke k n) (ob (Cb k l) (ob (nb l k) (∃av x,gR v::VB l k=gR av::gA x/\Zx/\j8 av/\bif decide (x∈av) then ob (ke k n) (ob (Cb k l) (ob (nb l k) (∃nk x,P.d (D.sl 8 (List.take n (eu l)))::VB l k=im nk::gA x/\Zx/\gx nk/\ ∀W8,W8=me nk x->bif W8 then ob (ke k n) (ob (Cb k l) (ob (nb l k) (ob (ke i n) (ob (Cb i l) (ob (nb l i) (∃z xR x y,ZB n::VA l k::VB l i=oS xR::P.d (gS x)::gA y/\[(0,En.mk 0 (some 0) (Obj.arr (108:TypeId) true (eu l)))]=Hs z xR/\gx xR/\ ∀b_2,b_2=within xR x y->bif b_2 then ob (Zh k) (ae (PX.normal,S.mk 62 (sR n::l7 v::Z8R m::ZI i::(7,ZL)::rN k) (K6 z xR::J6 o))) else ob (Zh k) (ae (PX.normal,S.mk 62 (sR n::l7 v::Z8R m::ZI i::yr b::rN k) (K6 z xR::J6 o))))))))) else ob (Zh k) (ae (PX.normal,S.mk 62 (sR n::l7 v::Z8R m::ZI i::yr b::rN k) (Z8W l::J6 o)))))) else ob (Zh k) (ae (PX.normal,S.mk 62 (sR n::l7 v::Z8R m::ZI i::yr b::rN k) (K6 z l::J6 o)))))) else ae (PX.exit 2,S.mk 62 [sR n,l7 v,Z8R m,ZI i,yr b] (K6 z l::J6 o)))=(aD [(101,qg6),(144,qkh),(96,qke)] [] 99 8 (skI z l n v o m i b k)) ae:=by kernel_rfl
def wQ:=[(8,P.d Z5)]
theorem qkq z l n v o m i ae:(bif Ex i n then∃RO av dC bq cg bg b,S.mk 62 (sR n::l7 v::Z8R m::ZI i::(7,P.d Z2)::wQ) (K6 z l::J6 o)=S.mk 62 (Ht av::l7 dC::Z8R cg::ZI bg::yr b::wQ) (K6 RO av::J6 bq)/\(gx av/\j8 dC/\(0:Int)<=bg/\bg<pV av)/\ ∀z' b',b'=(b ||List.any av (Po av dC (List.getD av (Ze bg) qa)))->bif b' then ob (decide ((0:Int)<=bg/\bg<pV av)) (ob (Cb bg av) (ob (nb av bg) (ob (Nat.ble cg (nQ bq)&&aG (Z8v cg av bg) 72) (ob (Zh bg) (ae (PX.normal,S.mk 62 (Ht av::l7 dC::(5,P.sl 1 0 (Z8v cg av bg))::ZA bg) [K6 z' av,(1,Z8w cg bq av bg)])))))) else ob (Zh bg) (ae (PX.normal,S.mk 62 (Ht av::l7 dC::Z8R cg::ZA bg) (K6 z' av::J6 bq))) else ae (PX.exit 0,S.mk 62 [ZC m] (r7 o)))=(aD [] [(8,ah (aR 99 8) qko)] 99 4 (skH z l n v o m i)) ae:=by kernel_rfl
def qkr:S->K (PX×S):=λs ae=> ∃l v,s=skH false (fP l) (fP l).length v [] 0 0/\(l.length<=1000000/\v.length<=1000000)/\ae (.exit 0,⟨62,[(5,.sl 0 0 (aS (fP l) v).length)],Pn 0 false (aS (fP l) v)⟩)
def Z91 l dC:=(0,En.mk 0 none (Obj.arr (108:TypeId) false (List.map bn (aS (fP l) dC))))
def K7:=[(6,P.d Z5)]
def Bu:=P.sl 1 0 0
def Z90 l dC:=S.mk 62 ((0,P.sl 0 0 (List.length (fP l)))::l7 dC::(5,Bu)::K7) [Z8C l,(1,xQ)]
theorem qn1 l v ae:(∃av,[im l]=[im av]/\Zx/\gx av/\ ∃l dC,Z90 av v=Z90 l dC/\(gx l/\j8 dC)/\ae (P.sl 0 0 (List.length (aS (fP l) dC)),[Z91 l dC]))=(aI [(143,hRi)] [(4,ah (aR 99 4) qkr)] 99 [dD l,ct v] []) ae:=by kernel_rfl
def W9:a8:=λps R ae=> ∃l v,ps=[dD l,ct v]/\R=[]/\(l.length<=1000000/\v.length<=1000000)/\ae (.sl 0 0 (aS (fP l) v).length,Pn 0 false (aS (fP l) v))
abbrev imH(z:Bool)(l:List Pl)(n:Nat)(v:List ao)(o:List It)(m:Nat)(i:Int):S:=⟨77,[(1,ct v),(5,.sl 0 0 n),(6,.sl 1 0 m),(7,iD i)],Pn 0 z l++RR 1 o⟩
abbrev imI(z:Bool)(l:List Pl)(n:Nat)(v:List ao)(o:List It)(m:Nat)(i k:Int):S:=⟨77,[(1,ct v),(5,.sl 0 0 n),(6,.sl 1 0 m),(7,iD i),(9,iD k)],Pn 0 z l++RR 1 o⟩
def qks:S->K (PX×S):=λs ae=> ∃z l n v o a i k,s=imI z l n v (o++[a]) (o.length+1) i k/\(k=(o.length:Int)/\o.length<=1000000)/\ae (.exit 2,imH z l n v (cq JY o a) (o.length+1) i)
def Z9c o:=En.mk 0 none (Obj.arr (66:TypeId) false (List.map cv o))
def qo i:=(7,P.d (Zt i))
def M3 m:=(6,P.sl 1 0 m)
def Z9d(ae:PX×S->Prop) v n m i z l o:=ae (PX.exit 2,S.mk 77 [l7 v,ZC n,M3 m,qo i] [K6 z l,(1,Z9c o)])
def J7 o k:=D.nth (List.map cv o) (Ze k)
def Z96 o k:=[D.int .i64 (D.aj (D.au (J7 o k) 0)),D.int .i64 (D.aj (D.au (J7 o k) 1)),D.int .i64 (D.aj (D.au (J7 o k) 2)),D.str (D.cJ (D.au (J7 o k) 3)),D.bool (D.dp (D.au (J7 o k) 4)),D.bool (D.dp (D.au (J7 o k) 5))]
def Z9b k:=[(9,Zs k)]
def Z95 o k:=D.nth (List.map cv o) (Za k)
def Z97 o k:=List.set (List.map cv o) (Ze k) (D.aT (D.agg (Z96 o k)) [D.int .i64 (D.aj (D.au (Z95 o k) 0)),D.int .i64 (D.aj (D.au (Z95 o k) 1)),D.int .i64 (D.aj (D.au (Z95 o k) 2)),D.str (D.cJ (D.au (Z95 o k) 3)),D.bool (D.dp (D.au (Z95 o k) 4)),D.bool (D.dp (D.au (Z95 o k) 5))])
def Z98 o k:=D.nth (Z97 o k) (Za k)
def zg k (m:Nat):=decide ((0:Int)<=k-(1:Int)/\k-(1:Int)<(↑m:Int))
def Z92 k o:=decide (Ze k<List.length (List.map cv o))
theorem qkt z l n v o m i k ae:(bif Zr k then ob (ke k m) (ob (Z92 k o) (ob (bO PR (66:TypeId) (J7 o k)) (ob (Z9 k) (ob (zg k m) (ob (decide (Za k<List.length (List.map cv o))) (ob (bO PR (66:TypeId) (Z95 o k)) (bif Op.bytesLess (D.cJ (D.au (J7 o k) 3)) (D.cJ (D.au (Z95 o k) 3)) then ob (Z9 k) (ob (Z9 k) (ob (zg k m) (ob (decide (Za k<List.length (List.map cv o))) (ob (bO PR (66:TypeId) (Z95 o k)) (ob (ke k m) (ob (Z92 k o) (ob (bO PR (66:TypeId) (J7 o k)) (ob (ke k m) (ob (Z92 k o) (ob (bO PR (66:TypeId) (J7 o k)) (ob (zg k m) (ob (decide (Za k<List.length (Z97 o k))) (ob (bO PR (66:TypeId) (Z98 o k)) (ob (Z9 k) (ae (PX.normal,S.mk 77 (l7 v::ZC n::M3 m::qo i::Z9b k) [K6 z l,(1,En.mk 0 none (Obj.arr (66:TypeId) false (List.set (Z97 o k) (Za k) (D.aT (D.agg [D.int .i64 (D.aj (D.au (Z98 o k) 0)),D.int .i64 (D.aj (D.au (Z98 o k) 1)),D.int .i64 (D.aj (D.au (Z98 o k) 2)),D.str (D.cJ (D.au (Z98 o k) 3)),D.bool (D.dp (D.au (Z98 o k) 4)),D.bool (D.dp (D.au (Z98 o k) 5))]) (Z96 o k)))))])))))))))))))))) else Z9d ae v n m i z l o))))))) else Z9d ae v n m i z l o)=(aD [] [] 57 9 (imI z l n v o m i k)) ae:=by kernel_rfl
def Z9f k:=[(9,P.d (Zt k))]
def Z9e l i T V (p:Pl)(av:List ao) x:=[D.agg [A3 l i,CP l i,CO l i,D.str (Bs T V (Prod.fst p)),D.bool (D.dp (D.au (jG l i) 7)),D.bool !decide (x∈av)]]
theorem qku z l n v o (m:Nat) i ae:(bif Ex i n then ob (ke i n) (ob (Cb i l) (ob (nb l i) (∃T V p,[P.d (D.sl 8 (List.take n (eu l))),P.d (D.agg (GB l i))]=[P.d (D.sl 8 (List.map bn (aS T V))),SZ p]/\Zx/\(C1 T/\Rt T/\p∈aS T V)/\ ∃av x,gR v::VB l i=gR av::gA x/\Zx/\j8 av/\ob (Nat.ble m (List.length (List.map cv o))&&aG (m+List.length (Z9e l i T V p av x)) 48) (ob (decide (Z7<=(↑(m+List.length (Z9e l i T V p av x)):Int)-(1:Int)/\(↑(m+List.length (Z9e l i T V p av x)):Int)-(1:Int)<=Z8)) (∃z nk iC dC bq a bg k,S.mk 77 [l7 v,ZC n,(6,P.sl 1 0 (m+List.length (Z9e l i T V p av x))),qo i,(9,P.d (D.int .i64 ((↑(m+List.length (Z9e l i T V p av x)):Int)-(1:Int))))] [Z8W l,(1,En.mk 0 none (Obj.arr (66:TypeId) false (List.take m (List.map cv o)++Z9e l i T V p av x)))]=S.mk 77 (l7 dC::ZC iC::(6,P.sl 1 0 (List.length bq+1))::qo bg::Z9f k) [K6 z nk,(1,En.mk 0 none (Obj.arr (66:TypeId) false (List.map cv (bq++[a]))))]/\(k=(↑(List.length bq):Int)/\List.length bq<=1000000)/\ob (Zh bg) (ae (PX.normal,S.mk 77 (l7 dC::ZC iC::(6,P.sl 1 0 (List.length bq+1))::ZJ bg) [K6 z nk,(1,En.mk 0 none (Obj.arr (66:TypeId) false (List.map cv (cq JY bq a))))]))))))) else ae (PX.exit 0,S.mk 77 [(6,ZB m)] [(0,Z9c o)]))=(aD [(100,hPa),(101,qg6)] [(9,ah (aR 57 9) qks)] 57 4 (imH z l n v o m i)) ae:=by kernel_rfl
def qkv:S->K (PX×S):=λs ae=> ∃T v,s=imH false (aS T v) (aS T v).length v [] 0 0/\(T.length<=1000/\Rt T/\v.length<=1000000)/\ae (.exit 0,⟨77,[(6,.sl 0 0 (dy T v).length)],RR 0 (dy T v)⟩)
def Z9g:=(6,Bu)::ZW
theorem qn2 l v ae:(∃av dC,[im l,gR v]=[im av,gR dC]/\Zx/\(gx av/\j8 dC)/\ ∃T v_2,S.mk 77 (l7 v::(5,P.sl 0 0 (List.length (aS (fP av) dC)))::Z9g) [Z91 av dC,(1,O9)]=S.mk 77 (l7 v_2::(5,P.sl 0 0 (List.length (aS T v_2)))::Z9g) [(0,En.mk 0 none (Obj.arr (108:TypeId) false (List.map bn (aS T v_2)))),(1,O9)]/\(C1 T/\Rt T/\j8 v_2)/\ae (P.sl 0 0 (List.length (dy T v_2)),[(0,En.mk 0 none (Obj.arr (66:TypeId) false (List.map cv (dy T v_2))))]))=(aI [(99,W9)] [(4,ah (aR 57 4) qkv)] 57 [dD l,ct v] []) ae:=by kernel_rfl
def Pp:a8:=λps R ae=> ∃l v,ps=[dD l,ct v]/\R=[]/\(l.length<=1000/\v.length<=1000000)/\ae (.sl 0 0 (dy (fP l) v).length,RR 0 (dy (fP l) v))
theorem qcn{T}(hT:Rt T):a7 T aA=none:=by
 cases h:a7 T aA with
 |none=>rfl
 |some p=>obtain⟨h1,h2⟩:=bN h;have:=hT.2 p h1;simp[pB,h2,bf] at this
theorem M4{T V}(hT:Rt T){p}(hp:p∈T):T.any (Po T V p)=marked T V p.1:=by
 have cO:p.1≠aA:=λe=>by have:=hT.2 p hp;simp[pB,e,bf] at this
 have hw: ∀{x w},Up T x w->within T x p.1=decide (p.1∈w):=λ{x w} h=>MD h cO (qcn hT) _ (by have:=h.len;omega);rw[zaG,za3,hZ];constructor
 ·rintro⟨q,hq,h⟩;simp only[Po,zac,zah] at h;obtain⟨⟨h1,h2⟩,h3⟩:=h;obtain⟨w,FL⟩:=A9.1 h2;rw[hw FL] at h3;exact⟨q.1,h1,w,FL,by simpa using h3⟩
 rintro⟨x,hx,w,FL,hm⟩;obtain⟨q,hq⟩:=FL.at;obtain⟨q1,q2⟩:=bN hq;refine⟨q,q1,?_⟩;simp only[Po,zac,zah,q2];exact⟨⟨hx,A9.2 ⟨w,FL⟩⟩,by rw[hw FL];simpa using hm⟩
theorem RS{α:Type} f (l:List α) d {k}(h:k<l.length):(l.take (k+1)).any f=((l.take k).any f ||f (l.getD k d)):=by rw[zbS,getD_some h d];simp
theorem GC{α:Type} f (l:List α) d {k}(h:k<l.length):(l.take (k+1)).filter f=(l.take k).filter f++(if f (l.getD k d) then [l.getD k d] else []):=by rw[zbS,getD_some h d,zcC];simp only[Option.toList_some,List.filter_cons,List.filter_nil]
theorem Xa{α β:Type}(f:α->β) pre pI b a u v (hu:u=f b)(hv:v=f a):(((pre++b::a::pI).map f).set (pre.length+1) u).set pre.length v=(pre++a::b::pI).map f:=by subst hu;subst hv;simp
section
variable{X:XF}
theorem qco:LD X 99 8 (ah (aR 99 8) qko):=LD.par (by kernel_rfl) (by kernel_rfl) (.cons qek (.cons qkm (.cons qel .nil))) .nil
 (A:=List Pl×List ao×List Pl×Nat×Int×Bool) (B:=Bool×Bool×Int) (λ⟨l,v,o,m,i,_⟩ ⟨z,b,k⟩=>skI z l l.length v o m i b k)
 (λ⟨l,v,_,_,i,b0⟩ ⟨_,b,k⟩=>l.length<=1000000/\v.length<=1000000/\0<=i/\i<l.length/\0<=k/\k<=l.length/\b=(b0 || (l.take k.toNat).any (Po l v (l.getD i.toNat qa))))
 (λ⟨l,_⟩ ⟨_,_,k⟩=>(l.length-k).toNat)
 (λ⟨l,v,o,m,i,b0⟩ x=> ∃z' b',b'=(b0 ||l.any (Po l v (l.getD i.toNat qa)))/\x=(.exit 2,⟨62,[(0,.sl 0 0 l.length),(1,ct v),(5,.sl 1 0 m),(6,iD i),(7,.d (.bool b'))],Pn 0 z' l++Pn 1 false o⟩))
 (by
  rintro⟨l,v,o,m,i,b0⟩ ⟨z,b,k⟩ ⟨hm,hv,ql,hi,h0,hk,hb⟩;dsimp only at*
  (rw[<-qkp];delta eu Z8W fk yr Hv J6 K6 Zl Zm rN ZL Zt ZI Z8R dW gR l7 ZB sR Z8 Z7 Zh RN Hs gj gk gy fQ fR gS fo oS Ze jG CO CP A3 VA gx im dH j8 Zx gA VB nb nQ Cb ke Ex)
  refine aW (λh=> ?_) λh=> ?_
  ·have eD:k.toNat<l.length:=by omega
   have bs:i.toNat<l.length:=by omega
   have M5:=RS (Po l v (l.getD i.toNat qa)) l qa eD;rw[iN eD,iN bs];generalize l.getD k.toNat qa=q at M5;generalize l.getD i.toNat qa=p at M5 hb;have fit:decide ((-9223372036854775808:Int)<=k+(1:Int)/\k+(1:Int)<=(9223372036854775807:Int))=true:=iZ (by omega) (by omega);have go: ∀z' b',b'=(b ||Po l v p q)-> ∃m',m'<((l.length:Int)-k).toNat/\ ∃b2:Bool×Bool×Int,(skI z' l l.length v o m i b' (k+1):S)=skI b2.1 l l.length v o m i b2.2.1 b2.2.2/\
     (l.length<=1000000/\v.length<=1000000/\0<=i/\i<l.length/\0<=b2.2.2/\b2.2.2<=l.length/\b2.2.1=(b0 || (l.take b2.2.2.toNat).any (Po l v p)))/\m'=((l.length:Int)-b2.2.2).toNat:=λz' b' dq=>⟨((l.length:Int)-(k+1)).toNat,by omega,(z',b',k+1),rfl,⟨hm,hv,ql,hi,by simp only;omega,by simp only;omega,by simp only;rw[show(k+1).toNat=k.toNat+1 by omega,M5,dq,hb,zdD]⟩,rfl⟩
   have dl:decide (k.toNat<(l.map bn).length)=true:=iz (by rw[zaa];exact eD);have di:decide (i.toNat<(l.map bn).length)=true:=iz (by rw[zaa];exact bs);refine bh ⟨h0,h⟩ (aq dl (aq (dX q) ⟨v,q.1,rfl,rfl,hv,ay (λh1=>bh ⟨h0,h⟩ (aq dl (aq (dX q) ⟨l,q.1,by rw[zf];rfl,rfl,hm,λb1 la=>ay (λh2=>bh ⟨h0,h⟩ (aq dl (aq (dX q) (bh ⟨ql,hi⟩ (aq di (aq (dX p) ⟨true,l,q.1,p.1,rfl,rfl,hm,λb2 cP=>ay (λh3=>aq fit (go _ _ ?_)) λh3=>aq fit (go _ _ ?_)⟩)))))) λh2=>aq fit (go _ _ ?_)⟩))) λh1=>aq fit (go _ _ ?_)⟩))
   ·unfold Po;rw[h1,<-la,h2,<-cP,h3];simp
   ·unfold Po;rw[h1,<-la,h2,<-cP,h3];simp
   ·unfold Po;rw[h1,<-la,h2];simp
   unfold Po;rw[h1];simp
  refine⟨z,b,?_,rfl⟩;rw[hb,zak (by omega)])
 (by rintro s ae ⟨z,l,v,o,m,i,b,rfl,⟨hm,hv,ql,hi⟩,hp⟩;refine⟨(l,v,o,m,i,b),(z,b,0),rfl,⟨hm,hv,ql,hi,by simp,by simp,by simp⟩,?_⟩;rintro x ⟨z',b',h1,rfl⟩;exact hp z' b' h1)
theorem qcp:LD X 99 4 (ah (aR 99 4) qkr):=LD.par (by kernel_rfl) (by kernel_rfl) .nil (.cons qco .nil)
 (A:=List Pl×List ao) (B:=Bool×Int) (λa b=>skH b.1 a.1 a.1.length a.2 ((a.1.take b.2.toNat).filter λp=>marked a.1 a.2 p.1) ((a.1.take b.2.toNat).filter λp=>marked a.1 a.2 p.1).length b.2)
 (λa b=>a.1.length<=1000000/\a.2.length<=1000000/\Rt a.1/\0<=b.2/\b.2<=a.1.length)
 (λa b=>(a.1.length-b.2).toNat)
 (λa x=>x=(.exit 0,⟨62,[(5,.sl 0 0 (aS a.1 a.2).length)],Pn 0 false (aS a.1 a.2)⟩))
 (by
  rintro⟨l,v⟩ ⟨z,i⟩ ⟨hm,hv,hT,h0,hi⟩;dsimp only at*
  (rw[<-qkq];delta eu Hv r7 ZB ZC Ze jG CO CP A3 GB Z8w Zl Zm ZA Z8 Z7 Zh Z8v nQ nb Cb fo pV dH j8 gx fk yr oS Ht J6 K6 Z5 wQ Z2 Zt ZI Z8R dW gR l7 sR Ex)
  refine aW (λh=> ?_) λh=> ?_
  ·have bs:i.toNat<l.length:=by omega
   have lu:=GC (λp:Pl=>marked l v p.1) l qa bs;have Ep:l.getD i.toNat qa∈l:=zaA (getD_some bs qa);have xZ:((l.take i.toNat).filter λp=>marked l v p.1).length<=l.length:=zaL (zaM _ _) (by rw[zau];omega);refine⟨z,l,v,_,_,i,false,rfl,⟨hm,hv,h0,h⟩,λz' b' dq=> ?_⟩;rw[M4 hT Ep] at dq;rw[iN bs];generalize l.getD i.toNat qa=p at lu dq;generalize hoo:((l.take i.toNat).filter λp=>marked l v p.1)=o at lu xZ;have fit:decide ((-9223372036854775808:Int)<=i+(1:Int)/\i+(1:Int)<=(9223372036854775807:Int))=true:=iZ (by omega) (by omega);have go: ∀o',((l.take (i+1).toNat).filter λp=>marked l v p.1)=o'-> ∃m',m'<((l.length:Int)-i).toNat/\ ∃b2:Bool×Int,(skH z' l l.length v o' o'.length (i+1):S)=skH b2.1 l l.length v ((l.take b2.2.toNat).filter λp=>marked l v p.1) ((l.take b2.2.toNat).filter λp=>marked l v p.1).length b2.2/\
     (l.length<=1000000/\v.length<=1000000/\Rt l/\0<=b2.2/\b2.2<=l.length)/\m'=((l.length:Int)-b2.2).toNat:=λo' gK=>⟨((l.length:Int)-(i+1)).toNat,by omega,(z',i+1),by simp only;rw[gK],⟨hm,hv,hT,by simp only;omega,by simp only;omega⟩,rfl⟩
   have hs:(i+1).toNat=i.toNat+1:=by omega
   refine ay (λhb=>bh ⟨h0,h⟩ (aq (iz (by rw[zaa];exact bs)) (aq (dX p) (aq ?_ (aq fit ?_))))) λhb=>aq fit ?_
   ·simp[aG];omega
   ·have:=go (o++[p]) (by rw[hs,lu,zap (by rw[<-hb,dq];rfl)]);rw[zf];have e1:(o++[p]).length=o.length+1:=by simp
    have e2:(o++[p]).map bn=o.map bn++[bn p]:=by simp
    simp only[skH,Pn,e1,e2] at this;exact this
   exact go o (by
    have:marked l v p.1=false:=by rw[<-hb,dq];rfl
    rw[hs,lu,this];simp)
  rw[zak (by omega)];rfl)
 (by rintro s ae ⟨l,v,rfl,⟨hm,hv⟩,hp⟩;have htl:=y9 l;refine⟨(fP l,v),(false,0),rfl,⟨by simp only;omega,hv,MU l,by simp,by simp⟩,?_⟩;rintro x rfl;exact hp)
theorem Xb:FD X 99 W9:=FD.mk (by kernel_rfl) (.cons qnZ .nil) (.cons qcp .nil) (by
 intro ps R ae hh;obtain⟨l,v,rfl,rfl,⟨hm,hv⟩,hp⟩:=hh
 (rw[<-qn1];delta Z91 dH j8 xQ Z8C Z5 K7 Bu dW gR l7 Z90 fo gx Zx eu im)
 exact⟨l,rfl,rfl,hm,l,v,rfl,⟨hm,hv⟩,hp⟩)
theorem Pq{l:List It}{i}(h:i<l.length) x (hx:l[i]?=some x):D.nth (l.map cv) i=cv x:=by rw[qg7 h it0];congr 1;rw[zab,hx];rfl
theorem qcq:LD X 57 9 (ah (aR 57 9) qks):=LD.par (by kernel_rfl) (by kernel_rfl) .nil .nil
 (A:=Bool×List Pl×Nat×List ao×List It×It×Int) (B:=List It×List It) (λ⟨z,l,n,v,o,a,i⟩ ⟨pre,pI⟩=>imI z l n v (pre++a::pI) (o.length+1) i (pre.length:Int))
 (λ⟨_,_,_,_,o,a,_⟩ ⟨pre,pI⟩=>o.length<=1000000/\pre.length+pI.length=o.length/\(pC JY a pre.reverse).reverse++pI=cq JY o a)
 (λ_ ⟨pre,_⟩=>pre.length)
 (λ⟨z,l,n,v,o,a,i⟩ x=>x=(.exit 2,imH z l n v (cq JY o a) (o.length+1) i))
 (by
  rintro⟨z,l,n,v,o,a,i⟩ ⟨pre,pI⟩ ⟨hm,hl,hr⟩;dsimp only at*
  (rw[<-qkt];delta Z9c eu K6 Zt qo M3 ZB ZC dW gR l7 Z9d Ze J7 Z96 Zs Z9b Za Z95 Z97 Z98 zg Z8 Z7 Z9 Z92 ke Zr)
  rcases zcZ pre with rfl | ⟨pre,b,rfl⟩
  ·refine fJ (l0 (by simp)) ?_;show _=_;rw[<-hr];rfl
  simp only[List.concat_eq_append] at*
  rw[zaj,zbM] at hl;have fU:(((pre++[b]).length:Int)).toNat=pre.length+1:=by simp
  have qj:(((pre++[b]).length:Int)-1).toNat=pre.length:=by simp
  rw[fU,qj];have hlen:(((pre++[b])++a::pI).map cv).length=pre.length+pI.length+2:=by simp;omega
  have n1:D.nth (((pre++[b])++a::pI).map cv) (pre.length+1)=cv a:=Pq (by simp) _ (by simp);have n2:D.nth (((pre++[b])++a::pI).map cv) pre.length=cv b:=Pq (by simp) _ (by simp);have n3: ∀u,D.nth ((((pre++[b])++a::pI).map cv).set (pre.length+1) u) pre.length=cv b:=λu=>by rw[<-n2];simp only[D.nth,zab];rw[zbc (by omega)]
  have hc:(((pre++[b]).length:Nat):Int)=(pre.length:Int)+1:=by simp
  rw[hc];rw[n1,n2];simp only[zbp,hlen,n3];have dl: ∀x,x<pre.length+pI.length+2->decide (x<pre.length+pI.length+2)=true:=λx h=>iz h;refine kJ (iz (by omega)) ?_
  repeat (first
   |refine aq (iz (show _/\_ from⟨by omega,by omega⟩)) ?_
   |refine aq (iz (show _<_ by omega)) ?_
   |refine aq (qj8 _) ?_)
  refine ay (λbK=> ?_) λbK=> ?_
  ·repeat (first
    |refine aq (iz (show _/\_ from⟨by omega,by omega⟩)) ?_
    |refine aq (iz (show _<_ by omega)) ?_
    |refine aq (qj8 _) ?_)
   have NR:JY a b=true:=bK;refine⟨pre.length,by simp,(pre,b::pI),?_,⟨hm,by simp only[zao];omega,?_⟩,rfl⟩
   ·have hsw:=Xa cv pre pI b a (cv b) (cv a) rfl rfl;show _=imI z l n v (pre++a::b::pI) (o.length+1) i (pre.length:Int);have hk3:(pre.length:Int)+1-1=(pre.length:Int):=by omega
    rw[hk3];simp only[imI,RR];rw[<-hsw];simp only[zaK,zcp];rfl
   simp only;rw[<-hr,List.reverse_append,List.reverse_singleton,zcp,pC,zap NR];simp
  have NR: ¬JY a b=true:=by rw[show JY a b=false from bK];simp
  show _=_;rw[List.reverse_append,List.reverse_singleton,zcp,pC,zan NR] at hr;rw[<-hr];simp)
 (by rintro s ae ⟨z,l,n,v,o,a,i,k,rfl,⟨hk,hm⟩,hp⟩;subst hk;refine⟨(z,l,n,v,o,a,i),(o,[]),rfl,⟨hm,by simp,by simp[cq]⟩,?_⟩;rintro x rfl;exact hp)
theorem qcr:LD X 57 4 (ah (aR 57 4) qkv):=LD.par (by kernel_rfl) (by kernel_rfl) (.cons qn0 (.cons qek .nil)) (.cons qcq .nil)
 (A:=List Pl×List ao) (B:=Bool×Int) (λ⟨T,v⟩ ⟨z,i⟩=>imH z (aS T v) (aS T v).length v (bT JY (((aS T v).take i.toNat).map (dE T v))) (bT JY (((aS T v).take i.toNat).map (dE T v))).length i)
 (λ⟨T,v⟩ ⟨_,i⟩=>T.length<=1000/\Rt T/\v.length<=1000000/\0<=i/\i<=(aS T v).length)
 (λ⟨T,v⟩ ⟨_,i⟩=>((aS T v).length-i).toNat)
 (λ⟨T,v⟩ x=>x=(.exit 0,⟨77,[(6,.sl 0 0 (dy T v).length)],RR 0 (dy T v)⟩))
 (by
  rintro⟨T,v⟩ ⟨z,i⟩ ⟨hm,hT,hv,h0,hi⟩;dsimp only at*
  have hsL:(aS T v).length<=T.length:=zaM _ _
  (rw[<-qku];delta Z9c ZB Zl Zm ZJ Z8 Z7 Zh eu K6 Zt Z9f Z8W qo ZC dW gR l7 Ze jG CO CP A3 Z9e dH j8 gj gk gy fQ fR gS gA VA VB fo C1 Zx M1 Pf Pg Ph Pj Pk Pm SZ GB nb nQ Cb ke Ex)
  refine aW (λh=> ?_) λh=> ?_
  ·have bs:i.toNat<(aS T v).length:=by omega
   have Ep:(aS T v).getD i.toNat qa∈aS T v:=zaA (getD_some bs qa);have nq:((aS T v).take (i+1).toNat).map (dE T v)=((aS T v).take i.toNat).map (dE T v)++[dE T v ((aS T v).getD i.toNat qa)]:=by rw[show(i+1).toNat=i.toNat+1 by omega,zbS,getD_some bs qa];simp
   have jT:(bT JY (((aS T v).take i.toNat).map (dE T v))).length=i.toNat:=by rw[(bR _).length_eq,zaa,zau];omega
   have SL:bT JY (((aS T v).take (i+1).toNat).map (dE T v))=cq JY (bT JY (((aS T v).take i.toNat).map (dE T v))) (dE T v ((aS T v).getD i.toNat qa)):=by rw[nq];unfold bT;rw[zaY];rfl
   rw[iN bs];generalize (aS T v).getD i.toNat qa=p at Ep SL;generalize bT JY (((aS T v).take i.toNat).map (dE T v))=o at jT SL;have qkw:(bT JY (((aS T v).take (i+1).toNat).map (dE T v))).length=o.length+1:=by rw[SL,(dI _ _).length_eq];simp
   have fit:decide ((-9223372036854775808:Int)<=i+(1:Int)/\i+(1:Int)<=(9223372036854775807:Int))=true:=iZ (by omega) (by omega);refine bh ⟨h0,h⟩ (aq (iz (by rw[zaa];exact bs)) (aq (dX p) ⟨T,v,p,by rw[zf];rfl,rfl,⟨hm,hT,Ep⟩,v,p.1,rfl,rfl,hv,aq ?_ (aq ?_ ⟨true,aS T v,(aS T v).length,v,o,dE T v p,i,((o.length+1:Nat):Int)-1,?_,⟨by omega,by omega⟩,aq fit ⟨((aS T v).length-(i+1)).toNat,by omega,(true,i+1),?_,⟨hm,hT,hv,by simp only;omega,by simp only;omega⟩,rfl⟩⟩)⟩))
   ·simp[aG];omega
   ·refine iz (show(-9223372036854775808:Int)<=((o.length+1:Nat):Int)-1/\((o.length+1:Nat):Int)-1<=9223372036854775807 from⟨by omega,by omega⟩)
   ·have e2:(o++[dE T v p]).map cv=(o.map cv).take o.length++[cv (dE T v p)]:=by rw[zak (by simp)];simp
    rw[e2];rfl
   simp only;rw[qkw,SL];rfl
  have qkx:(aS T v).take i.toNat=aS T v:=zak (by omega);rw[qkx];rfl)
 (by rintro s ae ⟨T,v,rfl,⟨hm,hT,hv⟩,hp⟩;refine⟨(T,v),(false,0),rfl,⟨hm,hT,hv,by simp,by simp⟩,?_⟩;rintro x rfl;exact hp)
theorem Xc:FD X 57 Pp:=FD.mk (by kernel_rfl) (.cons Xb .nil) (.cons qcr .nil) (by
 intro ps R ae hh;obtain⟨l,v,rfl,rfl,⟨hm,hv⟩,hp⟩:=hh
 (rw[<-qn2];delta fo C1 O9 Z91 Z5 ZW Bu Z9g dW gR l7 dH j8 gx Zx eu im)
 have htl:=y9 l;exact⟨l,v,rfl,rfl,⟨by omega,hv⟩,fP l,v,rfl,⟨by omega,MU l,hv⟩,hp⟩)
end
abbrev Td:=ao×Pl
def RT(a b:Td):=fc a.1 b.1
def ltN(a b:Pl):=fc a.1 b.1
def yu o t:=if(o.any λx=>x.1==t.1)=true then o else cq RT o t
def M6(a:List ao) p:=(a.zip p).foldl yu []
def zh o (t:Td):=
 if t.2.1=aA\/within o t.2.2.1 t.2.1=true then o
 else if 0<=dR o t.2.1 then o.set (dR o t.2.1).toNat (t.2.1,t.2.2.1,t.2.2.2.1,(o.getD (dR o t.2.1).toNat qa).2.2.2) else cq ltN o t.2
def r8(l:List Td):=l.foldl zh []
def C2(x:Pl)(o:bj):List Pl:=if o.kind=0/\o.node=x.1 then [(x.1,x.2.1,x.2.2.1,o.dir)] else []
def mdG x (g:ar):=g.ops.flatMap (C2 x)
def Hw(l:List ar) x:=l.flatMap (mdG x)
def K8 l (p:List Pl):=p.flatMap (Hw l)
def GD(gone:List aM) o d:=if d∈gone\/d.1∈o then o else cq fc o d.1
def C3(hv gone:List aM):=hv.foldl (GD gone) []
theorem qcs o t:(yu o t).length<=o.length+1:=by
 unfold yu;split
 ·omega
 rw[(dI _ _).length_eq];simp
theorem GF: ∀(l o:List Td),(l.foldl yu o).length<=o.length+l.length
 | [],_=>by simp
 |x::r,o=>by have:=GF r (yu o x);have:=qcs o x;simp only[zaO,zao];omega
theorem zi a p:(M6 a p).length<=a.length:=by have:=GF (a.zip p) [];simp only[List.length_zip,zav] at this;unfold M6;omega
theorem qct o t:(zh o t).length<=o.length+1:=by
 unfold zh;split
 ·omega
 split
 ·simp
 rw[(dI _ _).length_eq];simp
theorem Pr: ∀(l:List Td) (o:List Pl),(l.foldl zh o).length<=o.length+l.length
 | [],_=>by simp
 |x::r,o=>by have:=Pr r (zh o x);have:=qct o x;simp only[zaO,zao];omega
theorem rO l:(r8 l).length<=l.length:=by simpa [r8] using Pr l []
theorem Ps g o d:(GD g o d).length<=o.length+1:=by
 unfold GD;split
 ·omega
 rw[(dI _ _).length_eq];simp
theorem J8 g: ∀(l:List aM) (o:List ao),(l.foldl (GD g) o).length<=o.length+l.length
 | [],_=>by simp
 |x::r,o=>by have:=J8 g r (GD g o x);have:=Ps g o x;simp only[zaO,zao];omega
theorem Pt hv g:(C3 hv g).length<=hv.length:=by simpa [C3] using J8 g hv []
theorem qcu{s k n o}(h:kW s k o=some n):0<=n:=by
 unfold kW at h;split at h
 ·cases h
 split at h
 ·split at h<;>cases h;decide
 split at h
 ·split at h<;>cases h;decide
 split at h
 ·split at h<;>cases h;decide
 split at h
 ·split at h
  next hh=>cases h;have:=hh.2.2.2;unfold oD at this;rw[zac,zah] at this;omega
  cases h
 split at h
 ·split at h<;>cases h;decide
 cases h
theorem J9{s k n o}(h:kW s k o=some n)(h0:o.kind=0):o.node=(s.1,s.2,k)/\n=1:=by
 unfold kW at h;rw[zap h0] at h;split at h
 ·cases h
 split at h
 next hh=>cases h;exact⟨hh.1,rfl⟩
 cases h
theorem Pu x o:(C2 x o).length<=1:=by unfold C2;split<;>simp
theorem Pv{s} x: ∀l k,jt s k l=true->(l.flatMap (C2 x)).length<=1/\(l.flatMap (C2 x)≠[]-> ∃j,k<=j/\x.1=(s.1,s.2,j))
 | [],_,_=>⟨by simp,λh=>absurd rfl h⟩
 |o::r,k,h=>by
  unfold jt at h;split at h
  next n hn=>
   obtain⟨h1,h2⟩:=Pv x r _ h;have h3:=qcu hn;rw[zcI];by_cases ho:o.kind=0/\o.node=x.1
   ·obtain⟨h4,h5⟩:=J9 hn ho.1;have hx:x.1=(s.1,s.2,k):=by rw[<-ho.2,h4]
    have hr:r.flatMap (C2 x)=[]:=zaZ λhr=>by
     obtain⟨j,h6,h7⟩:=h2 hr;rw[hx] at h7;injection h7 with _ h7
     injection h7 with _ h7
     omega
    rw[hr,zbi];exact⟨Pu x o,λ_=>⟨k,zbF _,hx⟩⟩
   have:C2 x o=[]:=by unfold C2;rw[zan ho]
   rw[this,zbq];exact⟨h1,λhr=>by obtain⟨j,h6,h7⟩:=h2 hr;exact⟨j,by omega,h7⟩⟩
  cases h
theorem Pw{l} x:(∀g∈l,cA g=true)->(l.map (·.s)).Nodup->(Hw l x).length<=1/\(Hw l x≠[]-> ∃g∈l,g.s=JB x.1):=by
 induction l with
 |nil=>exact λ_ _=>⟨by simp[Hw],λh=>absurd rfl h⟩
 |cons g r ih=>
  intro hc hn;rw[za4,za9] at hn;obtain⟨h1,h2⟩:=ih (λy hy=>hc y (.tail _ hy)) hn.2;obtain⟨h3,h4⟩:=Pv x g.ops 0 (Gy (hc g (.head _)));have e:Hw (g::r) x=g.ops.flatMap (C2 x)++Hw r x:=rfl;rw[e];by_cases hg:g.ops.flatMap (C2 x)=[]
  ·rw[hg,zbq];exact⟨h1,λh=>by obtain⟨y,hy,e⟩:=h2 h;exact⟨y,.tail _ hy,e⟩⟩
  obtain⟨j,_,hx⟩:=h4 hg;have hs:g.s=JB x.1:=by rw[hx]
  have hr:Hw r x=[]:=zaZ λhr=>by obtain⟨y,hy,e⟩:=h2 hr;exact hn.1 (zaq.2 ⟨y,hy,by rw[e,hs]⟩)
  rw[hr,zbi];exact⟨h3,λ_=>⟨g,.head _,hs⟩⟩
theorem GG{l}(hc: ∀g∈l,cA g=true)(hn:(l.map (·.s)).Nodup): ∀p,(K8 l p).length<=p.length
 | []=>by simp[K8]
 |x::r=>by have h1:=GG hc hn r;have h2:=(Pw x hc hn).1;have e:K8 l (x::r)=Hw l x++K8 l r:=rfl;rw[e,zaj,zao];omega
def cV(d:aM):D:= .agg [iE d.1.1,iE d.1.2.1,iE d.1.2.2,iE d.2.1,iE d.2.2]
abbrev eI(l:List aM):P:= .d (.sl 5 (l.map cV))
abbrev qn3(x:aM):Obj:= .box 121 [iD x.1.1,iD x.1.2.1,iD x.1.2.2,iD x.2.1,iD x.2.2]
abbrev qky(z:Bool)(l:List aM):Obj:= .arr 121 z (l.map cV)
abbrev fm(z:Bool)(l:List ao):Obj:= .arr 49 z (l.map aL)
abbrev rh(z:Bool)(l:List Pl):Obj:= .arr 108 z (l.map bn)
abbrev qcv(l:List aM)(x:aM)(i:Int):S:=⟨18,[(0,eI l),(3,.ref 0 0 0),(5,iD i)],[(0,⟨0,none,qn3 x⟩)]⟩
def Z9o(x:aM):=[(0,En.mk 0 none (Obj.box (121:TypeId) [P.d (D.int .i64 (Prod.fst (Prod.fst x))),P.d (D.int .i64 (Prod.fst (Prod.snd (Prod.fst x)))),P.d (D.int .i64 (Prod.snd (Prod.snd (Prod.fst x)))),P.d (D.int .i64 (Prod.fst (Prod.snd x))),P.d (D.int .i64 (Prod.snd (Prod.snd x)))]))]
def oT l:=P.d (D.sl 5 (List.map cV l))
def vq l:=(0,oT l)
def ug l i:=D.nth (List.map cV l) (Ze i)
noncomputable def GH l i:=bO PR (121:TypeId) (ug l i)
def Ka l:=(↑(List.length (List.map cV l)):Int)
def GI i l:=decide ((0:Int)<=i/\i<Ka l)
def M7 i l:=decide (i<Ka l)
theorem qem l (x:aM) i ae:(bif M7 i l then ob (GI i l) (ob (GH l i) (bif D.aj (D.au (ug l i) 0)==Prod.fst (Prod.fst x)&&(D.aj (D.au (ug l i) 1)==Prod.fst (Prod.snd (Prod.fst x))&&true)&&(D.aj (D.au (ug l i) 2)==Prod.snd (Prod.snd (Prod.fst x))&&true)&&(D.aj (D.au (ug l i) 3)==Prod.fst (Prod.snd x)&&(D.aj (D.au (ug l i) 4)==Prod.snd (Prod.snd x)&&true)&&true) then ae (PX.ret,S.mk 18 Pb []) else ob (Zh i) (ae (PX.normal,S.mk 18 (vq l::dQ::Zn i) (Z9o x))))) else ae (PX.exit 0,S.mk 18 [] []))=(aD [] [] 63 2 (qcv l x i)) ae:=by kernel_rfl
def qkz:S->K (PX×S):=λs ae=> ∃l x,s=qcv l x 0/\l.length<=1000000/\(x∈l->ae (.ret,⟨18,[(4,.d (.bool true))],[]⟩))/\(x∉l->ae (.exit 0,⟨18,[],[]⟩))
def tX(av:List aM):=List.length av<=1000000
theorem qn4 l x ae:(∃av bm,S.mk 18 (vq l::dQ::ZK) (Z9o x)=S.mk 18 (vq av::dQ::ZK) (Z9o bm)/\tX av/\(bm∈av->ZM ae)/\(¬bm∈av->Z3 ae))=(aI [] [(2,ah (aR 63 2) qkz)] 63 [eI l,.d (cV x)] []) ae:=by kernel_rfl
def qhg:a8:=λps R ae=> ∃l x,ps=[eI l,.d (cV x)]/\R=[]/\l.length<=1000000/\ ∀b,b=decide (x∈l)->ae (.d (.bool b),[])
abbrev qn5(x:aF):Obj:= .box 27 [iD x.1,iD x.2]
def Z9r l:=(0,Ed l)
def Z9q l i (x:aF):=Gj l i==Prod.fst x&&(Hn l i==Prod.snd x&&true)
abbrev qcw(l:List aF)(x:aF)(i:Int):S:=⟨18,[(0,.sl 0 0 l.length),(3,.ref 1 0 0),(5,iD i)],[(0,⟨0,some 0,nj false l⟩),(1,⟨0,none,qn5 x⟩)]⟩
def Z9t i l:=decide ((0:Int)<=i/\i<(↑(eH l):Int))
def S0 i l:=decide (i<(↑(eH l):Int))
theorem Xd l x i ae:(bif S0 i l then ob (Z9t i l) (ob (Hq i l) (ob (uf l i) (bif Z9q l i x then ae (PX.ret,S.mk 18 ((0,sS l)::Pb) (xN l)) else ob (Zh i) (ae (PX.normal,S.mk 18 ((0,sS l)::rJ::Zn i) (MS l::K1 x)))))) else ae (PX.exit 0,S.mk 18 [(0,sS l)] (xN l)))=(aD [] [] 14 2 (qcw l x i)) ae:=by kernel_rfl
def qen:S->K (PX×S):=λs ae=> ∃l x,s=qcw l x 0/\l.length<=1000000/\(x∈l->ae (.ret,⟨18,[(0,.sl 0 0 l.length),(4,.d (.bool true))],[(0,⟨0,some 0,nj false l⟩)]⟩))/\(x∉l->ae (.exit 0,⟨18,[(0,.sl 0 0 l.length)],[(0,⟨0,some 0,nj false l⟩)]⟩))
def Z9v av bm:=S.mk 18 ((0,sS av)::rJ::ZK) (MS av::K1 bm)
theorem qkA l x ae:(∃av bm,Z9v l x=Z9v av bm/\B9 av/\(bm∈av->ae (ZL,xN av))/\(¬bm∈av->ae (P.d Z2,xN av)))=(aI [] [(2,ah (aR 14 2) qen)] 14 [.sl 0 0 l.length,.d (bC x)] [(0,⟨0,some 0,nj false l⟩)]) ae:=by kernel_rfl
def Px:a8:=λps R ae=> ∃l x,ps=[.sl 0 0 l.length,.d (bC x)]/\R=[(0,⟨0,some 0,nj false l⟩)]/\l.length<=1000000/\ ∀b,b=decide (x∈l)->ae (.d (.bool b),[(0,⟨0,some 0,nj false l⟩)])
abbrev qcx(l:List ao)(x:ao)(i:Int):S:=⟨18,[(0,.sl 0 0 l.length),(3,.ref 1 0 0),(5,iD i)],[(0,⟨0,some 0,fm false l⟩),(1,⟨0,none,.box 49 [iD x.1,iD x.2.1,iD x.2.2]⟩)]⟩
theorem Xe l x i ae:(bif decide (i<ky l) then ob (decide ((0:Int)<=i/\i<ky l)) (ob (J0 i l) (ob (q9 l i) (bif Z8a l i x then ae (PX.ret,S.mk 18 ((0,pJ l)::Pb) (MW l)) else ob (Zh i) (ae (PX.normal,S.mk 18 ((0,pJ l)::rJ::Zn i) (Z7t l::WW x)))))) else ae (PX.exit 0,S.mk 18 [(0,pJ l)] (MW l)))=(aD [] [] 101 2 (qcx l x i)) ae:=by kernel_rfl
def qeo:S->K (PX×S):=λs ae=> ∃l x,s=qcx l x 0/\l.length<=1000000/\(x∈l->ae (.ret,⟨18,[(0,.sl 0 0 l.length),(4,.d (.bool true))],[(0,⟨0,some 0,fm false l⟩)]⟩))/\(x∉l->ae (.exit 0,⟨18,[(0,.sl 0 0 l.length)],[(0,⟨0,some 0,fm false l⟩)]⟩))
def Z9w av bm:=S.mk 18 ((0,pJ av)::rJ::ZK) (Z7t av::WW bm)
theorem qkB l x ae:(∃av bm,Z9w l x=Z9w av bm/\j8 av/\(bm∈av->ae (ZL,MW av))/\(¬bm∈av->ae (P.d Z2,MW av)))=(aI [] [(2,ah (aR 101 2) qeo)] 101 [.sl 0 0 l.length,.d (aL x)] [(0,⟨0,some 0,fm false l⟩)]) ae:=by kernel_rfl
def qep:a8:=λps R ae=> ∃l x,ps=[.sl 0 0 l.length,.d (aL x)]/\R=[(0,⟨0,some 0,fm false l⟩)]/\l.length<=1000000/\ ∀b,b=decide (x∈l)->ae (.d (.bool b),[(0,⟨0,some 0,fm false l⟩)])
abbrev lvI(h g:List aM)(o:List ao)(n:Nat)(i k:Int):S:=⟨72,[(0,eI h),(1,eI g),(5,.sl 0 0 n),(6,iD i),(8,iD k)],[(0,⟨0,none,fm false o⟩)]⟩
def vP o:=[(0,sL o)]
def EC i:=[ZI i]
def Z9y o k:=List.set (dW o) (Ze k) (D.aT (D.agg (xH o k)) (Z4A o k))
def Z9A o k:=En.mk 0 none (Obj.arr (49:TypeId) false (List.set (Z9y o k) (Za k) (D.aT (D.agg [D.int .i64 (D.aj (D.au (D.nth (Z9y o k) (Za k)) 0)),D.int .i64 (D.aj (D.au (D.nth (Z9y o k) (Za k)) 1)),D.int .i64 (D.aj (D.au (D.nth (Z9y o k) (Za k)) 2))]) (xH o k))))
def vr g:=(1,oT g)
def Z9D o k:=[P.d (D.agg (xH o k)),P.d (D.agg (Z4A o k))]
def Z9x k o:=decide (Za k<kU o)
theorem qkC h g o n i k ae:(bif Zr k then ob (ke k n) (ob (J0 k o) (ob (q9 o k) (ob (Z9 k) (ob (zg k n) (ob (Z9x k o) (ob (SI o k) (∃t r bg t' r' i',Z9D o k=P.d (D.agg (Zt t::Zt r::ZE bg))::ZZ t' r' i'/\Zx/\bif W4 t r bg t' r' i' then ob (Z9 k) (ob (Z9 k) (ob (zg k n) (ob (Z9x k o) (ob (SI o k) (ob (ke k n) (ob (J0 k o) (ob (q9 o k) (ob (ke k n) (ob (J0 k o) (ob (q9 o k) (ob (zg k n) (ob (decide (Za k<List.length (Z9y o k))) (ob (bO PR (49:TypeId) (D.nth (Z9y o k) (Za k))) (ob (Z9 k) (ae (PX.normal,S.mk 72 [vq h,vr g,ZC n,ZI i,(8,Zs k)] [(0,Z9A o k)])))))))))))))))) else ae (PX.exit 2,S.mk 72 (vq h::vr g::ZC n::EC i) (vP o))))))))) else ae (PX.exit 2,S.mk 72 (vq h::vr g::ZC n::EC i) (vP o)))=(aD [(98,l5)] [] 58 9 (lvI h g o n i k)) ae:=by kernel_rfl
abbrev lvH(h g:List aM)(o:List ao)(i:Int):S:=⟨72,[(0,eI h),(1,eI g),(5,.sl 0 0 o.length),(6,iD i)],[(0,⟨0,none,fm false o⟩)]⟩
def qkD:S->K (PX×S):=λst ae=> ∃h g o x n i k,st=lvI h g (o++[x]) n i k/\(k=(o.length:Int)/\n=o.length+1/\o.length<=1000000)/\ ∀o',o'=cq fc o x->ae (.exit 2,lvH h g o' i)
def Z9K bq x:=En.mk 0 none (Obj.arr (49:TypeId) false (List.map aL (bq++[x])))
def uh k:=(8,P.d (Zt k))
def Xf h i:=D.int .i64 (D.aj (D.au (ug h i) 0))
def Z9H h i:=D.agg [Xf h i,D.int .i64 (D.aj (D.au (ug h i) 1)),D.int .i64 (D.aj (D.au (ug h i) 2))]
def Z9I o h i:=dH o+List.length [Z9H h i]
def Z9F i (ae:PX×S->Prop) h g o:=ob (Zh i) (ae (PX.normal,S.mk 72 (vq h::vr g::(5,pJ o)::ZA i) (vP o)))
def S1 h i:=[D.int .i64 (D.aj (D.au (ug h i) 3)),D.int .i64 (D.aj (D.au (ug h i) 4))]
def S2 h i:=D.agg (Xf h i::D.int .i64 (D.aj (D.au (ug h i) 1))::D.int .i64 (D.aj (D.au (ug h i) 2))::S1 h i)
theorem qeq h g o i ae:(bif M7 i h then ob (GI i h) (ob (GH h i) (ob (GI i h) (ob (GH h i) (∃(l:List aM) (x:aM),[oT g,P.d (S2 h i)]=[oT l,P.d (D.agg [D.int .i64 (Prod.fst (Prod.fst x)),D.int .i64 (Prod.fst (Prod.snd (Prod.fst x))),D.int .i64 (Prod.snd (Prod.snd (Prod.fst x))),D.int .i64 (Prod.fst (Prod.snd x)),D.int .i64 (Prod.snd (Prod.snd x))])]/\Zx/\tX l/\ ∀b,b=decide (x∈l)->bif b then Z9F i ae h g o else∃l x,[pJ o,P.d (Z9H h i)]=pJ l::gA x/\MW o=MW l/\j8 l/\ ∀b,b=decide (x∈l)->bif b then ob (Zh i) (ae (PX.normal,S.mk 72 (vq h::vr g::(5,pJ o)::ZA i) (vP l))) else ob (Nat.ble (dH o) (kU l)&&aG (Z9I o h i) 24) (ob (decide (Z7<=(↑(Z9I o h i):Int)-(1:Int)/\(↑(Z9I o h i):Int)-(1:Int)<=Z8)) (∃h_1 bp bq x n bg k,S.mk 72 [vq h,vr g,(5,P.sl 0 0 (Z9I o h i)),ZI i,(8,P.d (D.int .i64 ((↑(Z9I o h i):Int)-(1:Int))))] [(0,En.mk 0 none (Obj.arr (49:TypeId) false (List.take (dH o) (dW l)++[Z9H h i])))]=S.mk 72 [vq h_1,vr bp,ZC n,ZI bg,uh k] [(0,Z9K bq x)]/\(k=ky bq/\n=dH bq+1/\j8 bq)/\ ∀o',o'=cq fc bq x->Z9F bg ae h_1 bp o')))))) else ae (PX.exit 0,S.mk 72 [(5,pJ o)] (vP o)))=(aD [(63,qhg),(101,qep)] [(9,ah (aR 58 9) qkD)] 58 3 (lvH h g o i)) ae:=by kernel_rfl
def gLv:S->K (PX×S):=λs ae=> ∃h g,s=lvH h g [] 0/\(h.length<=1000000/\g.length<=1000000)/\ ∀o,o=C3 h g->ae (.exit 0,⟨72,[(5,.sl 0 0 o.length)],[(0,⟨0,none,fm false o⟩)]⟩)
def S3(ae:P×List (Nat×En)->Prop) o:=ae (pJ o,vP o)
def Xg:=(5,ZN)::K7
def Z9O h_1 bp:=S.mk 72 (vq h_1::vr bp::Xg) [(0,tO)]
theorem qn6 h g ae:(∃h_1 bp,Z9O h g=Z9O h_1 bp/\(tX h_1/\tX bp)/\ ∀o,o=C3 h_1 bp->S3 ae o)=(aI [] [(3,ah (aR 58 3) gLv)] 58 [eI h,eI g] []) ae:=by kernel_rfl
def qer:a8:=λps R ae=> ∃h g,ps=[eI h,eI g]/\R=[]/\(h.length<=1000000/\g.length<=1000000)/\ ∀o,o=C3 h g->ae (.sl 0 0 o.length,[(0,⟨0,none,fm false o⟩)])
theorem C4 d:bO PR 121 (cV d)=true:=by kernel_rfl
theorem qn7(y x:aM):(y.1.1==x.1.1&&(y.1.2.1==x.1.2.1&&true)&&(y.1.2.2==x.1.2.2&&true)&&(y.2.1==x.2.1&&(y.2.2==x.2.2&&true)&&true))=(y==x):=by rw[zaG];obtain⟨⟨a,b,c⟩,d,e⟩:=y;obtain⟨⟨a',b',c'⟩,d',e'⟩:=x;simp[zdb]
theorem Bv{α:Type}[BEq α][LawfulBEq α] {l:List α}{x i}(hi:i<l.length)(ht:(l[i]==x)=true):x∈l:=by rw[<-eq_of_beq ht];exact zas hi
theorem Bw{α:Type}[BEq α][LawfulBEq α] {l:List α}{x}(h: ∀j (hj:j<l.length),(l[j]==x)=false):x∉l:=λhx=>by obtain⟨j,hj,rfl⟩:=zaQ hx;have:=h j hj;simp at this
section
variable{X:XF}
theorem qcy:LD X 63 2 (ah (aR 63 2) qkz):=LD.find (by kernel_rfl) (by kernel_rfl) .nil .nil
 (A:=List aM×aM) (λa k=>qcv a.1 a.2 k) (·.1) (λa _ x=>x==a.2) (λa=>a.1.length<=1000000) (λ_ _=>(.ret,⟨18,[(4,.d (.bool true))],[]⟩)) (λ_=>(.exit 0,⟨18,[],[]⟩)) (λ_ _ h=>by cases h) (λ_ h=>by cases h)
 (by
  rintro⟨l,x⟩ k ae eD hm h0 hk ht hf;dsimp only at*
  (rw[<-qem];delta Z9o Zl Zm Zn b9 dQ oT vq Z8 Z7 Zh ZL Pb Ze ug GH Ka GI M7)
  have e1:D.nth (l.map cV) k.toNat=cV l[k.toNat]:=az _ _ _ eD;have bs:k.toNat<(l.map cV).length:=by rw[zaa];exact eD
  rw[e1];have v:=qn7 l[k.toNat] x;generalize l[k.toNat]=y at*
  rw[<-v] at ht hf;simp only[qcv,zaa] at hf bs⊢;exact bF hk (ak ⟨h0,hk⟩ (aq (C4 _) (ay (λh=>ht h) λh=>ak (by omega) (hf h)))))
 (by
  rintro⟨l,x⟩ k ae hm hk hp;dsimp only at*
  (rw[<-qem];delta Z9o Zl Zm Zn b9 dQ oT vq Z8 Z7 Zh ZL Pb Ze ug GH Ka GI M7)
  exact mD (by first |omega | (simp only[zaa];omega)) hp)
 (by rintro s ae ⟨l,x,rfl,hm,h1,h2⟩;exact⟨(l,x),rfl,hm,λ_ hi _ ht _=>h1 (Bv hi ht),λh=>h2 (Bw h)⟩)
theorem qes:FD X 63 qhg:=FD.mk (by kernel_rfl) .nil (.cons qcy .nil) (by
 intro ps R ae hh;obtain⟨l,x,rfl,rfl,hm,hp⟩:=hh
 (rw[<-qn4];delta Z2 Z3 ZL ZM tX Z9o Z5 ZK b9 dQ oT vq)
 exact⟨l,x,rfl,hm,λh=>hp _ (by simp[h]),λh=>hp _ (by simp[h])⟩)
theorem Xh:LD X 14 2 (ah (aR 14 2) qen):=LD.find (by kernel_rfl) (by kernel_rfl) .nil .nil
 (A:=List aF×aF) (λa k=>qcw a.1 a.2 k) (·.1) (λa _ x=>x==a.2) (λa=>a.1.length<=1000000) (λa _=>(.ret,⟨18,[(0,.sl 0 0 a.1.length),(4,.d (.bool true))],[(0,⟨0,some 0,nj false a.1⟩)]⟩)) (λa=>(.exit 0,⟨18,[(0,.sl 0 0 a.1.length)],[(0,⟨0,some 0,nj false a.1⟩)]⟩)) (λ_ _ h=>by cases h) (λ_ h=>by cases h)
 (by
  rintro⟨l,x⟩ k ae eD hm h0 hk ht hf;dsimp only at*
  (rw[<-Xd];delta nf ni Z5J K1 gb MS Zl Zm Zn je rJ Z8 Z7 Zh xN ZL Pb eH sS Ze Hn Gj Z9q uf qe Hq Z9t S0)
  have e1:D.nth (l.map bC) k.toNat=bC l[k.toNat]:=az _ _ _ eD;have bs:k.toNat<(l.map bC).length:=by rw[zaa];exact eD
  rw[e1];have v:=VN l[k.toNat] x;generalize l[k.toNat]=y at*
  rw[<-v] at ht hf;simp only[qcw,zaa] at hf bs⊢;exact bF hk (ak ⟨h0,hk⟩ (ak bs (aq (iO _) (ay (λh=>ht h) λh=>ak (by omega) (hf h))))))
 (by
  rintro⟨l,x⟩ k ae hm hk hp;dsimp only at*
  (rw[<-Xd];delta nf ni Z5J K1 gb MS Zl Zm Zn je rJ Z8 Z7 Zh xN ZL Pb eH sS Ze Hn Gj Z9q uf qe Hq Z9t S0)
  exact mD (by first |omega | (simp only[zaa];omega)) hp)
 (by rintro s ae ⟨l,x,rfl,hm,h1,h2⟩;exact⟨(l,x),rfl,hm,λ_ hi _ ht _=>h1 (Bv hi ht),λh=>h2 (Bw h)⟩)
theorem M8:FD X 14 Px:=FD.mk (by kernel_rfl) .nil (.cons Xh .nil) (by
 intro ps R ae hh;obtain⟨l,x,rfl,rfl,hm,hp⟩:=hh
 (rw[<-qkA];delta Z2 gb MS xN ZL eH B9 nf ni Z5J K1 Z5 ZK je rJ sS Z9v)
 exact⟨l,x,rfl,hm,λh=>hp _ (by simp[h]),λh=>hp _ (by simp[h])⟩)
theorem Xi:LD X 101 2 (ah (aR 101 2) qeo):=LD.find (by kernel_rfl) (by kernel_rfl) .nil .nil
 (A:=List ao×ao) (λa k=>qcx a.1 a.2 k) (·.1) (λa _ x=>x==a.2) (λa=>a.1.length<=1000000) (λa _=>(.ret,⟨18,[(0,.sl 0 0 a.1.length),(4,.d (.bool true))],[(0,⟨0,some 0,fm false a.1⟩)]⟩)) (λa=>(.exit 0,⟨18,[(0,.sl 0 0 a.1.length)],[(0,⟨0,some 0,fm false a.1⟩)]⟩)) (λ_ _ h=>by cases h) (λ_ h=>by cases h)
 (by
  rintro⟨l,x⟩ k ae eD hm h0 hk ht hf;dsimp only at*
  (rw[<-Xe];delta gj gk gy fQ fR nS WW dW Z7t Zl Zm Zn je rJ Z8 Z7 Zh MW ZL Pb dH pJ Ze BV BW A4 Z8a q9 kU J0 ky)
  have e1:D.nth (l.map aL) k.toNat=aL l[k.toNat]:=az _ _ _ eD;have bs:k.toNat<(l.map aL).length:=by rw[zaa];exact eD
  rw[e1];have v:=Ho l[k.toNat] x;generalize l[k.toNat]=y at*
  rw[<-v] at ht hf;simp only[qcx,zaa] at hf bs⊢;exact bF hk (ak ⟨h0,hk⟩ (ak bs (aq (ga _) (ay (λh=>ht h) λh=>ak (by omega) (hf h))))))
 (by
  rintro⟨l,x⟩ k ae hm hk hp;dsimp only at*
  (rw[<-Xe];delta gj gk gy fQ fR nS WW dW Z7t Zl Zm Zn je rJ Z8 Z7 Zh MW ZL Pb dH pJ Ze BV BW A4 Z8a q9 kU J0 ky)
  exact mD (by first |omega | (simp only[zaa];omega)) hp)
 (by rintro s ae ⟨l,x,rfl,hm,h1,h2⟩;exact⟨(l,x),rfl,hm,λ_ hi _ ht _=>h1 (Bv hi ht),λh=>h2 (Bw h)⟩)
theorem qhh:FD X 101 qep:=FD.mk (by kernel_rfl) .nil (.cons Xi .nil) (by
 intro ps R ae hh;obtain⟨l,x,rfl,rfl,hm,hp⟩:=hh
 (rw[<-qkB];delta Z2 dW Z7t MW ZL dH j8 gj gk gy fQ fR nS WW Z5 ZK je rJ pJ Z9w)
 exact⟨l,x,rfl,hm,λh=>hp _ (by simp[h]),λh=>hp _ (by simp[h])⟩)
theorem qcz:LD X 58 9 (ah (aR 58 9) qkD):=LD.ins (by kernel_rfl) (by kernel_rfl) (.cons oA .nil) .nil
 (A:=List aM×List aM×Nat×Int) (α:=ao) (λa o k=>lvI a.1 a.2.1 o a.2.2.1 a.2.2.2 k) fc (λa=>a.2.2.1) (λ_=>True) (λa o=>(.exit 2,⟨72,[(0,eI a.1),(1,eI a.2.1),(5,.sl 0 0 a.2.2.1),(6,iD a.2.2.2)],[(0,⟨0,none,fm false o⟩)]⟩)) (λ_ _ h=>by cases h)
 (by
  rintro⟨h,g,n,i⟩ o k ae _ h0 Hx jT hk hz bI dV;dsimp only at*
  subst Hx
  (rw[<-qkC];delta dW sL vP Zt ZI EC Ze BV BW A4 xH Za Z4A Z9y Z9A Zs ZB ZC oT vr vq W4 Zx ZE ZZ Z9D SI kU Z9x zg Z8 Z7 Z9 q9 J0 ke Zr)
  refine dY (λhp=> ?_) λhp=>hz (by omega);have fU:k.toNat-1<o.length:=by omega
  have ek:(k-1).toNat=k.toNat-1:=by omega
  have e1:D.nth (o.map aL) k.toNat=aL o[k.toNat]:=az _ _ _ hk;have e2:D.nth (o.map aL) (k.toNat-1)=aL o[k.toNat-1]:=az _ _ _ fU;have bI:=bI hp;have dV:=dV hp;have Bx:=lq aL o k.toNat o[k.toNat] o[k.toNat-1];have e3: ∀z,D.nth ((o.map aL).set k.toNat z) (k.toNat-1)=aL o[k.toNat-1]:=λz=>by unfold D.nth;rw[zab,zbc (by omega)];simp[fU]
  rw[ek,e1,e2];simp only[e3];generalize o[k.toNat]=x at*
  generalize o[k.toNat-1]=y at*
  simp only[zaa,zbp] at dV⊢;have By:0<=k/\k<(o.length:Int):=⟨h0,by omega⟩
  have Bz:0<=k-1/\k-1<(o.length:Int):=⟨by omega,by omega⟩
  have hf:(-9223372036854775808:Int)<=k-1/\k-1<=9223372036854775807:=by omega
  refine ak By (ak hk (aq (ga _) (ak hf (ak Bz (ak fU (aq (ga _) ⟨(x).1,(x).2.1,(x).2.2,(y).1,(y).2.1,(y).2.2,rfl,rfl,dY (λh=> ?_) λh=>bI (by rw[<-za6];exact λh2=>h ((ff (x) (y)).2 h2))⟩))))));have hy:=dV ((ff (x) (y)).1 h);simp only[lvI,fm] at hy;rw[<-Bx] at hy;refine ak hf (ak hf (ak Bz (ak fU (aq (ga _) (ak By (ak hk (aq (ga _) (ak By (ak hk (aq (ga _) (ak Bz (ak fU (aq (ga _) (ak hf ?_))))))))))))));exact hy)
 (by rintro s ae ⟨h,g,o,x,n,i,k,rfl,⟨hk,hn,ho⟩,hp⟩;refine⟨(h,g,n,i),o,x,k,rfl,hk,trivial,⟨hn.symm,ho⟩,?_⟩;have:=hp _ rfl;rw[lvH,mj,<-hn] at this;exact this)
theorem qcA{h g:List aM}{i}(hi:i<h.length):C3 (h.take (i+1)) g=GD g (C3 (h.take i) g) h[i]:=by unfold C3;rw[zaf hi,zaY];rfl
theorem qhi:LD X 58 3 (ah (aR 58 3) gLv):=LD.idx (by kernel_rfl) (by kernel_rfl) (.cons qes (.cons qhh .nil)) (.cons qcz .nil)
 (A:=List aM×List aM) (B:=List ao) (λa o i=>lvH a.1 a.2 o i) (λa=>a.1.length) (λa i o=>(a.1.length<=1000000/\a.2.length<=1000000)/\o=C3 (a.1.take i) a.2)
 (λa x=>x=(.exit 0,⟨72,[(5,.sl 0 0 (C3 a.1 a.2).length)],[(0,⟨0,none,fm false (C3 a.1 a.2)⟩)]⟩))
 (by
  rintro⟨h,g⟩ o i ae h0 bJ bs ⟨hm,ho⟩ hn bw;dsimp only at*
  (rw[<-qeq];delta dH ky Z9K Zt uh ZB ZC dW ZI Z8 Z7 Ze ug Xf Z9H Z9I kU sL vP Zl Zm ZA oT vr vq Zh j8 Z7t MW gj gk gy fQ fR gS gA pJ Z9F tX Zx S1 S2 GH Ka GI M7)
  have jT:o.length<=i.toNat:=by have:=Pt (h.take i.toNat) g;rw[zau] at this;rw[ho];omega
  have e1:D.nth (h.map cV) i.toNat=cV h[i.toNat]:=az _ _ _ bs;have lu:=qcA (g:=g) bs;rw[<-ho] at lu;have dB:=λo' (gK:o'=GD g o h[i.toNat])=>hn o' ⟨hm,by rw[lu];exact gK⟩;generalize h[i.toNat]=d at*
  rw[e1];simp only[zaa];have t1:List.take o.length (o.map aL)++[aL d.1]=(o++[d.1]).map aL:=b7 aL o d.1;refine bF bJ (ak ⟨h0,bJ⟩ (aq (C4 _) (ak ⟨h0,bJ⟩ (aq (C4 _) ⟨g,d,rfl,rfl,hm.2,λb hb=> ?_⟩))));refine ay (λHp=>ak (by omega) (dB o ?_)) λED=>⟨o,d.1,rfl,rfl,by omega,λb2 cP=>ay (λXj=>ak (by omega) (dB o ?_)) λXk=> ?_⟩
  ·unfold GD;rw[hb,zah] at Hp;rw[zap (.inl Hp)]
  ·unfold GD;rw[cP,zah] at Xj;rw[zap (.inr Xj)]
  rw[hb,zaP] at ED;rw[cP,zaP] at Xk;have Xl:GD g o d=cq fc o d.1:=by unfold GD;rw[zan (λhh=>hh.elim ED Xk)]
  simp only[zao,zav,zaD];refine aq ?_ (ak (by omega) ⟨h,g,o,d.1,o.length+1,i,((o.length+1:Nat):Int)-1,congrArg (λz=>(⟨72,[(0,eI h),(1,eI g),(5,.sl 0 0 (o.length+1)),(6,iD i),(8,iD (((o.length+1:Nat):Int)-1))],[(0,⟨0,none,.arr 49 false z⟩)]⟩:S)) t1,⟨by omega,rfl,by omega⟩,λo' gK=>ak (by omega) (dB o' (by rw[Xl];exact gK))⟩);rw[zac];exact⟨by simp,cH (by omega) (by omega)⟩
 )
 (by
  rintro⟨h,g⟩ o i ae hi ⟨hm,ho⟩ bw;dsimp only at*
  (rw[<-qeq];delta dH ky Z9K Zt uh ZB ZC dW ZI Z8 Z7 Ze ug Xf Z9H Z9I kU sL vP Zl Zm ZA oT vr vq Zh j8 Z7t MW gj gk gy fQ fR gS gA pJ Z9F tX Zx S1 S2 GH Ka GI M7)
  refine mD (by simp only[zaa];omega) (bw _ (λh=>by cases h) ?_);rw[ho,zai])
 (by rintro s ae ⟨h,g,rfl,hs,hp⟩;refine⟨(h,g),[],rfl,⟨hs,rfl⟩,?_⟩;rintro x rfl;exact hp _ rfl)
theorem qhj:FD X 58 qer:=FD.mk (by kernel_rfl) .nil (.cons qhi .nil) (by
 intro ps R ae hh;obtain⟨h,g,rfl,rfl,hs,hp⟩:=hh
 (rw[<-qn6];delta dW sL vP dH pJ S3 tX tO Z5 K7 ZN Xg oT vr vq Z9O)
 exact⟨h,g,rfl,hs,λo ho=>hp o ho⟩)
end
abbrev Oa:Hd:=((0,0),(0,0))
def qet:S->K (PX×S):=λst ae=> ∃l out i b,st=qgL l out b i 0/\(b=false/\0<=i/\i<(l.length:Int)/\l.length<=1000000/\out.length<=1000000)/\ ∀h,h=out.any (λy=>y.1==(l.getD i.toNat Oa).1)->ae (.exit 2,⟨80,[(0,Bn l),(3,.sl 0 0 out.length),(4,iD i),(5,.d (.bool h))],[(0,⟨0,none,yn false out⟩)]⟩)
def RU(a b:Hd):=kA b.1 a.1
abbrev Xm(l out:List Hd)(n:Nat)(i k:Int):S:=⟨80,[(0,Bn l),(3,.sl 0 0 n),(4,iD i),(7,iD k)],[(0,⟨0,none,yn false out⟩)]⟩
def qeu:S->K (PX×S):=λst ae=> ∃l o x n i k,st=Xm l (o++[x]) n i k/\(k=(o.length:Int)/\n=o.length+1/\o.length<=1000000)/\ ∀o',o'=cq RU o x->ae (.exit 4,Wy l o' i)
def Z9R jf av bg:=En.mk 0 none (Obj.arr (77:TypeId) false (MR jf++[D.agg (Z6A av bg)]))
def Xn jf av bg:=iR jf+List.length [D.agg (Z6A av bg)]
theorem Xo l out i ae:(bif decide (i<(↑(y8 l):Int)) then∃av jf bg b,S.mk 80 (Gx l::sQ out::oR i::(5,P.d Z2)::K7) (yp out)=S.mk 80 (Gx av::sQ jf::oR bg::(5,fk b)::K7) (yp jf)/\(b=false/\(0:Int)<=bg/\bg<(↑(iR av):Int)/\wK av/\wK jf)/\ ∀h,(h=List.any jf λy=>Prod.fst y==Prod.fst (List.getD av (Ze bg) Oa))->bif h then ob (Zh bg) (ae (PX.normal,S.mk 80 (Gx av::sQ jf::wH bg) (yp jf))) else ob (decide ((0:Int)<=bg/\bg<(↑(y8 av):Int))) (ob (Eo av bg) (ob (Nat.ble (iR jf) (y8 jf)&&aG (Xn jf av bg) 32) (ob (decide (Z7<=(↑(Xn jf av bg):Int)-(1:Int)/\(↑(Xn jf av bg):Int)-(1:Int)<=Z8)) (∃l o x n i k,S.mk 80 [Gx av,(3,P.sl 0 0 (Xn jf av bg)),oR bg,(7,P.d (D.int .i64 ((↑(Xn jf av bg):Int)-(1:Int))))] [(0,Z9R jf av bg)]=S.mk 80 [Gx l,(3,ZB n),oR i,qo k] [(0,En.mk 0 none (Obj.arr (77:TypeId) false (List.map cr (o++[x]))))]/\(k=(↑(iR o):Int)/\n=iR o+1/\wK o)/\ ∀o',o'=cq RU o x->ob (Zh i) (ae (PX.normal,S.mk 80 (Gx l::sQ o'::wH i) (yp o'))))))) else ae (PX.exit 0,S.mk 80 [sQ out] (yp out)))=(aD [] [(7,ah (aR 27 7) qet),(13,ah (aR 27 13) qeu)] 27 3 (Wy l out i)) ae:=by kernel_rfl
def qev:S->K (PX×S):=λst ae=> ∃l,st=Wy l [] 0/\l.length<=1000000/\ ∀o,o=bT RU (r3 l)->ae (.exit 0,⟨80,[(3,.sl 0 0 o.length)],[(0,⟨0,none,yn false o⟩)]⟩)
def Z9S:=En.mk 0 none (Obj.arr (77:TypeId) false [])
def Z9T av:=S.mk 80 (Gx av::Wq) [(0,Z9S)]
theorem qkE l ae:(∃av,Z9T l=Z9T av/\wK av/\ ∀o,o=bT RU (r3 av)->ae (r5 o,yp o))=(aI [] [(3,ah (aR 27 3) qev)] 27 [Bn l] []) ae:=by kernel_rfl
def qkF:a8:=λps R ae=> ∃l,ps=[Bn l]/\R=[]/\l.length<=1000000/\ ∀o,o=bT RU (r3 l)->ae (.sl 0 0 o.length,[(0,⟨0,none,yn false o⟩)])
def qkG:S->K (PX×S):=λst ae=> ∃l,st=qbY l [] 0/\l.length<=1000000/\ ∀o,o=l.map j9->ae (.exit 0,⟨26,[(3,.sl 0 0 o.length)],[(0,⟨0,none,yn false o⟩)]⟩)
def Z9U av:=S.mk 26 (gl av::Wq) [(0,Z9S)]
theorem qkH l ae:(∃av,Z9U l=Z9U av/\mM av/\ ∀o,o=List.map j9 av->ae (r5 o,yp o))=(aI [] [(3,ah (aR 18 3) qkG)] 18 [dw l] []) ae:=by kernel_rfl
def qhk:a8:=λps R ae=> ∃l,ps=[dw l]/\R=[]/\l.length<=1000000/\ ∀o,o=l.map j9->ae (.sl 0 0 o.length,[(0,⟨0,none,yn false o⟩)])
abbrev qhl(m on:List Hd)(i:Int)(un:Bool)(k:Int):S:=⟨63,[(3,.sl 0 0 m.length),(4,.sl 1 0 on.length),(5,iD i),(6,.d (.bool un)),(7,iD k)],[(0,⟨0,none,yn false m⟩),(1,⟨0,none,yn false on⟩)]⟩
def qew:S->K (PX×S):=λst ae=> ∃m on i b,st=qhl m on i b 0/\(b=false/\0<=i/\i<(m.length:Int)/\m.length<=1000000/\on.length<=1000000)/\ ∀h,h=on.any (λy=>y.2==(m.getD i.toNat Oa).1)->ae (.exit 2,⟨63,[(3,.sl 0 0 m.length),(4,.sl 1 0 on.length),(5,iD i),(6,.d (.bool h))],[(0,⟨0,none,yn false m⟩),(1,⟨0,none,yn false on⟩)]⟩)
def Z9X m on:=[B8 m,(1,JU on)]
def C5 i:=(5,P.d (Zt i))
def Z9V on:=(4,P.sl 1 0 (iR on))
theorem Xp m on i un k ae:(bif Z6o k on then bif un then ob (Zh k) (ae (PX.normal,S.mk 63 (sQ m::Z9V on::C5 i::(6,ZL)::ZJ k) (Z9X m on))) else ob (K3 k on) (ob (K2 k on) (ob (Eo on k) (ob (K3 i m) (ob (K2 i m) (ob (Eo m i) (ob (Zh k) (ae (PX.normal,S.mk 63 (sQ m::Z9V on::C5 i::(6,P.d (D.bool (D.aj (D.au (yo on k) 2)==D.aj (D.au (yo m i) 0)&&(D.aj (D.au (yo on k) 3)==D.aj (D.au (yo m i) 1)&&true))))::ZJ k) (Z9X m on))))))))) else ae (PX.exit 2,S.mk 63 [sQ m,Z9V on,C5 i,(6,fk un)] (Z9X m on)))=(aD [] [] 17 8 (qhl m on i un k)) ae:=by kernel_rfl
abbrev qcB(m on:List Hd)(i:Int):S:=⟨63,[(3,.sl 0 0 m.length),(4,.sl 1 0 on.length),(5,iD i)],[(0,⟨0,none,yn false m⟩),(1,⟨0,none,yn false on⟩)]⟩
abbrev qcC(on:List Hd)(out:List aF)(i:Int):S:=⟨63,[(4,.sl 0 0 on.length),(8,.sl 1 0 out.length),(9,iD i)],[(0,⟨0,none,yn false on⟩),(1,⟨0,none,nj false out⟩)]⟩
theorem qhm on out i ae:(bif Z1 i then ob (K3 i on) (ob (K2 i on) (ob (Eo on i) (ob (Nat.ble (eH out) (qe out)&&aG (eH out+List.length [Z6C on i]) 16) (ob (Z9 i) (ae (PX.normal,S.mk 63 ((4,r5 on)::(8,P.sl 1 0 (eH out+List.length [Z6C on i]))::Z9b i) [B8 on,(1,En.mk 0 none (Obj.arr (27:TypeId) false (List.take (eH out) (gb out)++[Z6C on i])))])))))) else ae (PX.exit 4,S.mk 63 [(8,sS out)] [Bo out]))=(aD [] [] 17 15 (qcC on out i)) ae:=by kernel_rfl
theorem Xq m on i ae:(bif Z6o i m then∃cg eW bg b,S.mk 63 (sQ m::Z9V on::C5 i::(6,P.d Z2)::ZW) (Z9X m on)=S.mk 63 (sQ cg::Z9V eW::C5 bg::(6,fk b)::ZW) (Z9X cg eW)/\(b=false/\(0:Int)<=bg/\bg<(↑(iR cg):Int)/\wK cg/\wK eW)/\ ∀h,(h=List.any eW λy=>Prod.snd y==Prod.fst (List.getD cg (Ze bg) Oa))->bif !h then ob (K3 bg cg) (ob (K2 bg cg) (ob (Eo cg bg) (ob (Nat.ble (iR eW) (y8 eW)&&aG (Xn eW cg bg) 32) (ob (Zh bg) (ae (PX.normal,S.mk 63 (sQ cg::(4,P.sl 1 0 (Xn eW cg bg))::Zn bg) [B8 cg,(1,Z9R eW cg bg)])))))) else ob (Zh bg) (ae (PX.normal,S.mk 63 (sQ cg::Z9V eW::Zn bg) (Z9X cg eW))) else ae (PX.exit 0,S.mk 63 [(4,r5 on)] (yp on)))=(aD [] [(8,ah (aR 17 8) qew)] 17 4 (qcB m on i)) ae:=by kernel_rfl
def qex:S->K (PX×S):=λst ae=> ∃m,st=qcB m [] 0/\m.length<=1000000/\ ∀o,o=yZ m []->ae (.exit 0,⟨63,[(4,.sl 0 0 o.length)],[(0,⟨0,none,yn false o⟩)]⟩)
def qey:S->K (PX×S):=λst ae=> ∃on i,st=qcC on [] i/\(i=(on.length:Int)-1/\on.length<=1000000)/\ ∀o,o=(on.map (·.1)).reverse->ae (.exit 4,⟨63,[(8,.sl 0 0 o.length)],[(0,⟨0,none,nj false o⟩)]⟩)
def Za1(ae:P×List (Nat×En)->Prop) o:=ae (sS o,[Bo o])
def Za0 o:=(↑(iR o):Int)-(1:Int)
def Z9Z m:=S.mk 63 (sQ m::(4,Bu)::ZK) [B8 m,(1,Z9S)]
theorem qkI l ae:(∃av,[P.d (D.sl 4 (List.map cr l))]=[P.d (D.sl 4 (List.map cr av))]/\Zx/\wK av/\ ∀o,o=bT RU (r3 av)-> ∃m,Z9Z o=Z9Z m/\wK m/\ ∀o,o=yZ m []->ob (decide (Z7<=Za0 o/\Za0 o<=Z8)) (∃on i,S.mk 63 [(4,r5 o),(8,Bu),(9,P.d (D.int .i64 (Za0 o)))] [B8 o,(1,Ca)]=S.mk 63 ((4,r5 on)::(8,Bu)::Z9f i) [B8 on,(1,Ca)]/\(i=Za0 on/\wK on)/\ ∀o,o=List.reverse (List.map (λ(x:Hd)=>Prod.fst x) on)->Za1 ae o))=(aI [(27,qkF)] [(4,ah (aR 17 4) qex),(15,ah (aR 17 15) qey)] 17 [Bn l] []) ae:=by kernel_rfl
def qhn:a8:=λps R ae=> ∃l,ps=[Bn l]/\R=[]/\l.length<=1000000/\ ∀o,o=Ei l->ae (.sl 0 0 o.length,[(0,⟨0,none,nj false o⟩)])
theorem Kb{α:Type} t (l:List α){i}(h:i<l.length):(l.take (i+1)).any t=((l.take i).any t ||t l[i]):=by rw[zaf h,zck];simp
section
variable{X:XF}
theorem Xr:LD X 27 7 (ah (aR 27 7) qet):=LD.idx (by kernel_rfl) (by kernel_rfl) .nil .nil
 (A:=List Hd×List Hd×Int) (B:=Bool) (λa b k=>qgL a.1 a.2.1 b a.2.2 k) (λa=>a.2.1.length) (λa k b=>(0<=a.2.2/\a.2.2<(a.1.length:Int)/\a.1.length<=1000000/\a.2.1.length<=1000000)/\b=(a.2.1.take k).any (λy=>y.1==(a.1.getD a.2.2.toNat Oa).1))
 (λa x=>x=(.exit 2,⟨80,[(0,Bn a.1),(3,.sl 0 0 a.2.1.length),(4,iD a.2.2),(5,.d (.bool (a.2.1.any (λy=>y.1==(a.1.getD a.2.2.toNat Oa).1))))],[(0,⟨0,none,yn false a.2.1⟩)]⟩))
 (by
  rintro⟨l,out,i⟩ b k ae h0 wc eD ⟨⟨ql,bJ,qJ,jT⟩,hb⟩ hn ho;dsimp only at*
  (rw[<-Wx];delta fk Ze yo y8 Eo K2 iR K3 JU B8 yp Zl Zm ZA ZL Zt oR r5 sQ Gx Z8 Z7 Zh Z6o)
  have e1:D.nth (out.map cr) k.toNat=cr out[k.toNat]:=az _ _ _ eD;have bs:i.toNat<l.length:=by omega
  have e2:D.nth (l.map cr) i.toNat=cr l[i.toNat]:=az _ _ _ bs;have H4:=Kb (λy:Hd=>y.1==(l.getD i.toNat Oa).1) out eD;rw[e1,e2];simp only[zaa];refine bF wc (ay (λh=>ak (by omega) (hn _ ⟨⟨ql,bJ,qJ,jT⟩,?_⟩)) λh=>ak ⟨h0,wc⟩ (ak eD (aq (wM _) (ak ⟨ql,bJ⟩ (aq (wM _) (ak (by omega) (hn _ ⟨⟨ql,bJ,qJ,jT⟩,?_⟩)))))))
  ·rw[H4,<-hb,h];rfl
  rw[H4,<-hb,h,zby,eS bs];exact VN out[k.toNat].1 l[i.toNat].1)
 (by
  rintro⟨l,out,i⟩ b k ae hk ⟨h1,hb⟩ ho;dsimp only at*
  (rw[<-Wx];delta fk Ze yo y8 Eo K2 iR K3 JU B8 yp Zl Zm ZA ZL Zt oR r5 sQ Gx Z8 Z7 Zh Z6o)
  refine mD (by omega) (ho _ (λh=>by cases h) ?_);rw[hb,zai])
 (by rintro s ae ⟨l,out,i,b,rfl,⟨hb,h1⟩,hp⟩;refine⟨(l,out,i),b,rfl,⟨h1,by rw[hb];simp⟩,?_⟩;rintro x rfl;exact hp _ rfl)
theorem Xs:LD X 27 13 (ah (aR 27 13) qeu):=LD.ins (by kernel_rfl) (by kernel_rfl) (.cons Bd .nil) .nil
 (A:=List Hd×Int×Nat) (α:=Hd) (λa o k=>Xm a.1 o a.2.2 a.2.1 k) RU (λa=>a.2.2) (λ_=>True) (λa o=>(.exit 4,⟨80,[(0,Bn a.1),(3,.sl 0 0 a.2.2),(4,iD a.2.1)],[(0,⟨0,none,yn false o⟩)]⟩)) (λ_ _ h=>by cases h)
 (by
  rintro⟨l,i,n⟩ o k ae _ h0 Hx jT hk hz bI dV;dsimp only at*
  subst Hx
  (rw[<-qgM];delta JU B8 yp Zt oR CX Ze yo Z6A Zs iR r5 sQ Gx Za Z6z Z6B Zx nf ni oQ Z6C Eo y8 K2 K3 Z6y Z8 Z7 Z9 Zr)
  refine dY (λhp=> ?_) λhp=>hz (by omega);have fU:k.toNat-1<o.length:=by omega
  have e1:D.nth (o.map cr) k.toNat=cr o[k.toNat]:=az _ _ _ hk;have e2:D.nth (o.map cr) (k-1).toNat=cr o[k.toNat-1]:=by rw[show(k-1).toNat=k.toNat-1 by omega];exact az _ _ _ fU
  have bI:=bI hp;have dV:=dV hp;rw[e1,e2];have Bx:=lq cr o k.toNat o[k.toNat] o[k.toNat-1];have Dz:=RB o k.toNat o[k.toNat] o[k.toNat-1];have e3: ∀z,D.nth ((o.map cr).set k.toNat z) (k-1).toNat=cr o[k.toNat-1]:=λz=>by rw[show(k-1).toNat=k.toNat-1 by omega];unfold D.nth;rw[zab,zbc (by omega)];simp[fU]
  generalize o[k.toNat]=x at*
  generalize o[k.toNat-1]=y at*
  have w1:D.aT (D.agg [D.int .i64 (D.aj (D.au (cr x) 0)),D.int .i64 (D.aj (D.au (cr x) 1)),D.int .i64 (D.aj (D.au (cr x) 2)),D.int .i64 (D.aj (D.au (cr x) 3))]) [D.int .i64 (D.aj (D.au (cr y) 0)),D.int .i64 (D.aj (D.au (cr y) 1)),D.int .i64 (D.aj (D.au (cr y) 2)),D.int .i64 (D.aj (D.au (cr y) 3))]=cr y:=rfl;have w2:D.aT (D.agg [D.int .i64 (D.aj (D.au (cr y) 0)),D.int .i64 (D.aj (D.au (cr y) 1)),D.int .i64 (D.aj (D.au (cr y) 2)),D.int .i64 (D.aj (D.au (cr y) 3))]) [D.int .i64 (D.aj (D.au (cr x) 0)),D.int .i64 (D.aj (D.au (cr x) 1)),D.int .i64 (D.aj (D.au (cr x) 2)),D.int .i64 (D.aj (D.au (cr x) 3))]=cr x:=rfl;rw[w1,e3,w2,show(k-1).toNat=k.toNat-1 by omega,Bx];simp only[Xm,zaa,zbp] at dV⊢;have By:0<=k/\k<(o.length:Int):=⟨h0,by omega⟩
  have Bz:0<=k-1/\k-1<(o.length:Int):=⟨by omega,by omega⟩
  have hf:(-9223372036854775808:Int)<=k-1/\k-1<=9223372036854775807:=by omega
  refine ak hf (ak Bz (ak fU (aq (wM _) (ak By (ak hk (aq (wM _) ⟨y.1,x.1,rfl,rfl,λr hr=>ay (λh=> ?_) λh=>bI (by rw[<-h,hr];rfl)⟩))))));refine ak hf (ak hf (ak Bz (ak fU (aq (wM _) (ak By (ak hk (aq (wM _) (ak By (ak hk (aq (wM _) (ak Bz (ak fU (aq (wM _) (ak hf ?_))))))))))))));exact dV (by rw[<-h,hr];rfl))
 (by rintro s ae ⟨l,o,x,n,i,k,rfl,⟨hk,hn,ho⟩,hp⟩;refine⟨(l,i,n),o,x,k,rfl,hk,trivial,⟨hn.symm,ho⟩,?_⟩;have:=hp _ rfl;rw[Wy,mj,<-hn] at this;exact this)
theorem Xt:LD X 27 3 (ah (aR 27 3) qev):=LD.idx (by kernel_rfl) (by kernel_rfl) .nil (.cons Xr (.cons Xs .nil))
 (A:=List Hd) (B:=List Hd) (λl o i=>Wy l o i) (λl=>l.length) (λl i o=>l.length<=1000000/\o=bT RU (r3 (l.take i)))
 (λl x=>x=(.exit 0,⟨80,[(3,.sl 0 0 (bT RU (r3 l)).length)],[(0,⟨0,none,yn false (bT RU (r3 l))⟩)]⟩))
 (by
  rintro l o i ae h0 bJ bs ⟨qJ,ho⟩ hn bw
  (rw[<-Xo];delta Zt qo ZB Ze yo Z6A iR MR Z9R Z8 Z7 Xn Eo Zl Zm wH Zh wK fk JU B8 yp Z5 K7 Z2 oR r5 sQ Gx y8)
  have jT:o.length<=i.toNat:=by rw[ho,oF];have:=rI (l.take i.toNat);rw[zau] at this;omega
  have e2:D.nth (l.map cr) i.toNat=cr l[i.toNat]:=az _ _ _ bs;have hg:=eS bs Oa;have yl:=JV bs;have M5:(o.any λy=>y.1==l[i.toNat].1)=((r3 (l.take i.toNat)).any λy=>y.1==l[i.toNat].1):=by rw[ho];exact(bR _).any_eq
  generalize l[i.toNat]=g at hg yl M5 e2;have t2:D.agg [D.int .i64 (D.aj (D.au (cr g) 0)),D.int .i64 (D.aj (D.au (cr g) 1)),D.int .i64 (D.aj (D.au (cr g) 2)),D.int .i64 (D.aj (D.au (cr g) 3))]=cr g:=rfl;rw[zaa];refine bF bJ ⟨l,o,i,false,rfl,⟨rfl,h0,bJ,qJ,by omega⟩,λh hh=> ?_⟩;rw[hg] at hh;rw[e2,t2];simp only[zaa,zao,zav,zaD];refine ay (λh1=>ak (by omega) (hn _ ⟨qJ,?_⟩)) λh1=>ak ⟨h0,bJ⟩ (aq (wM _) (aq ?_ (ak (by omega) ⟨l,o,g,o.length+1,i,((o.length+1:Nat):Int)-1,?_,⟨by omega,rfl,by omega⟩,λo' gK=>ak (by omega) (hn _ ⟨qJ,?_⟩)⟩)))
  ·rw[yl,OY (by rw[<-M5,<-hh,h1]),ho]
  ·rw[zac];exact⟨by simp,cH (by omega) (by omega)⟩
  ·rw[b7]
  rw[yl,OZ (by rw[<-M5,<-hh,h1]),Bm,<-ho,gK])
 (by
  rintro l o i ae hi ⟨qJ,ho⟩ bw
  (rw[<-Xo];delta Zt qo ZB Ze yo Z6A iR MR Z9R Z8 Z7 Xn Eo Zl Zm wH Zh wK fk JU B8 yp Z5 K7 Z2 oR r5 sQ Gx y8)
  simp only[zaa];refine mD (by omega) (bw _ (λh=>by cases h) ?_);rw[ho,zai])
 (by rintro s ae ⟨l,rfl,hs,hp⟩;refine⟨l,[],rfl,⟨hs,rfl⟩,?_⟩;rintro x rfl;exact hp _ rfl)
theorem qkJ:FD X 27 qkF:=FD.mk (by kernel_rfl) .nil (.cons Xt .nil) (by
 intro ps R ae hh;obtain⟨l,rfl,rfl,hs,hp⟩:=hh
 (rw[<-qkE];delta JU B8 yp iR r5 wK Z9S Z5 Ry ZN Wq Gx Z9T)
 exact⟨l,rfl,hs,λo ho=>hp o ho⟩)
theorem qcD:LD X 18 3 (ah (aR 18 3) qkG):=LD.idx (by kernel_rfl) (by kernel_rfl) .nil .nil
 (A:=List ar) (B:=List Hd) (λl o i=>qbY l o i) (λl=>l.length) (λl i o=>l.length<=1000000/\o=(l.take i).map j9)
 (λl x=>x=(.exit 0,⟨26,[(3,.sl 0 0 (l.map j9).length)],[(0,⟨0,none,yn false (l.map j9)⟩)]⟩))
 (by
  rintro l o i ae h0 bJ bs ⟨qJ,ho⟩ hn bw
  (rw[<-Wz];delta JU B8 yp iR r5 sQ Ze ln Z6D Bj Bk MR Zl Zm wH gF gl Z8 Z7 Zh Z6E y8 iY iu qn Bl)
  have jT:o.length<=i.toNat:=by rw[ho];simp;omega
  have e2:D.nth (l.map bZ) i.toNat=bZ l[i.toNat]:=az _ _ _ bs;have nq:(l.take (i.toNat+1)).map j9=o++[j9 l[i.toNat]]:=by rw[zaf bs,zaC,ho];rfl
  generalize l[i.toNat]=g at e2 nq;have t2:D.agg [D.int .i64 (D.aj (D.au (bZ g) 0)),D.int .i64 (D.aj (D.au (bZ g) 1)),D.int .i64 (D.aj (D.au (bZ g) 4)),D.int .i64 (D.aj (D.au (bZ g) 5))]=cr (j9 g):=rfl;rw[e2,t2,b7];simp only[zaa,zao,zav,zaD];refine bF bJ (ak ⟨h0,bJ⟩ (aq (mL _) (ak ⟨h0,bJ⟩ (aq (mL _) (aq ?_ (ak (by omega) ?_))))))
  ·rw[zac];exact⟨by simp,cH (by omega) (by omega)⟩
  have:=hn (o++[j9 g]) ⟨qJ,nq.symm⟩;simp only[qbY,zaj,zao,zav,zaD] at this;exact this)
 (by
  rintro l o i ae hi ⟨qJ,ho⟩ bw
  (rw[<-Wz];delta JU B8 yp iR r5 sQ Ze ln Z6D Bj Bk MR Zl Zm wH gF gl Z8 Z7 Zh Z6E y8 iY iu qn Bl)
  simp only[zaa];refine mD (by omega) (bw _ (λh=>by cases h) ?_);rw[ho,zai])
 (by rintro s ae ⟨l,rfl,hs,hp⟩;refine⟨l,[],rfl,⟨hs,rfl⟩,?_⟩;rintro x rfl;exact hp _ rfl)
theorem qez:FD X 18 qhk:=FD.mk (by kernel_rfl) .nil (.cons qcD .nil) (by
 intro ps R ae hh;obtain⟨l,rfl,rfl,hs,hp⟩:=hh
 (rw[<-qkH];delta JU B8 yp iR r5 fS mM Z9S Z5 Ry ZN Wq gF gl Z9U)
 exact⟨l,rfl,hs,λo ho=>hp o ho⟩)
theorem Xu:LD X 17 8 (ah (aR 17 8) qew):=LD.idx (by kernel_rfl) (by kernel_rfl) .nil .nil
 (A:=List Hd×List Hd×Int) (B:=Bool) (λa b k=>qhl a.1 a.2.1 a.2.2 b k) (λa=>a.2.1.length) (λa k b=>(0<=a.2.2/\a.2.2<(a.1.length:Int)/\a.1.length<=1000000/\a.2.1.length<=1000000)/\b=(a.2.1.take k).any (λy=>y.2==(a.1.getD a.2.2.toNat Oa).1))
 (λa x=>x=(.exit 2,⟨63,[(3,.sl 0 0 a.1.length),(4,.sl 1 0 a.2.1.length),(5,iD a.2.2),(6,.d (.bool (a.2.1.any (λy=>y.2==(a.1.getD a.2.2.toNat Oa).1))))],[(0,⟨0,none,yn false a.1⟩),(1,⟨0,none,yn false a.2.1⟩)]⟩))
 (by
  rintro⟨l,out,i⟩ b k ae h0 wc eD ⟨⟨ql,bJ,qJ,jT⟩,hb⟩ hn ho;dsimp only at*
  (rw[<-Xp];delta fk Ze yo Eo y8 K2 iR K3 JU B8 Z9X Zl Zm ZJ ZL Zt C5 Z9V r5 sQ Z8 Z7 Zh Z6o)
  have e1:D.nth (out.map cr) k.toNat=cr out[k.toNat]:=az _ _ _ eD;have bs:i.toNat<l.length:=by omega
  have e2:D.nth (l.map cr) i.toNat=cr l[i.toNat]:=az _ _ _ bs;have H4:=Kb (λy:Hd=>y.2==(l.getD i.toNat Oa).1) out eD;rw[e1,e2];simp only[zaa];refine bF wc (ay (λh=>ak (by omega) (hn _ ⟨⟨ql,bJ,qJ,jT⟩,?_⟩)) λh=>ak ⟨h0,wc⟩ (ak eD (aq (wM _) (ak ⟨ql,bJ⟩ (ak bs (aq (wM _) (ak (by omega) (hn _ ⟨⟨ql,bJ,qJ,jT⟩,?_⟩))))))))
  ·rw[H4,<-hb,h];rfl
  rw[H4,<-hb,h,zby,eS bs];exact VN out[k.toNat].2 l[i.toNat].1)
 (by
  rintro⟨l,out,i⟩ b k ae hk ⟨h1,hb⟩ ho;dsimp only at*
  (rw[<-Xp];delta fk Ze yo Eo y8 K2 iR K3 JU B8 Z9X Zl Zm ZJ ZL Zt C5 Z9V r5 sQ Z8 Z7 Zh Z6o)
  refine mD (by omega) (ho _ (λh=>by cases h) ?_);rw[hb,zai])
 (by rintro s ae ⟨l,out,i,b,rfl,⟨hb,h1⟩,hp⟩;refine⟨(l,out,i),b,rfl,⟨h1,by rw[hb];simp⟩,?_⟩;rintro x rfl;exact hp _ rfl)
theorem Xv{l:List Hd}{i}(h:i<l.length):yZ (l.take (i+1)) []=yY (yZ (l.take i) []) l[i]:=by rw[zaf h];unfold yZ;rw[zaY];rfl
theorem Xw:LD X 17 4 (ah (aR 17 4) qex):=LD.idx (by kernel_rfl) (by kernel_rfl) .nil (.cons Xu .nil)
 (A:=List Hd) (B:=List Hd) (λm on i=>qcB m on i) (λm=>m.length) (λm i on=>m.length<=1000000/\on=yZ (m.take i) [])
 (λm x=>x=(.exit 0,⟨63,[(4,.sl 0 0 (yZ m []).length)],[(0,⟨0,none,yn false (yZ m [])⟩)]⟩))
 (by
  rintro m on i ae h0 bJ bs ⟨qJ,ho⟩ hn bw
  (rw[<-Xq];delta JU B8 yp iR r5 Ze yo Z6A MR Z9R Zl Zm Zn Z8 Z7 Zh Xn y8 Eo K2 K3 wK fk Z9X Z5 ZW Z2 Zt C5 Z9V sQ Z6o)
  have jT:on.length<=i.toNat:=by rw[ho];have:=u9 (m.take i.toNat) [];rw[zau] at this;simp at this;omega
  have e2:D.nth (m.map cr) i.toNat=cr m[i.toNat]:=az _ _ _ bs;have hg:=eS bs Oa;have yl:=Xv bs;generalize m[i.toNat]=g at hg yl e2;have t2:D.agg [D.int .i64 (D.aj (D.au (cr g) 0)),D.int .i64 (D.aj (D.au (cr g) 1)),D.int .i64 (D.aj (D.au (cr g) 2)),D.int .i64 (D.aj (D.au (cr g) 3))]=cr g:=rfl;refine bF bJ ⟨m,on,i,false,rfl,⟨rfl,h0,bJ,qJ,by omega⟩,λh hh=> ?_⟩;rw[hg] at hh;rw[e2,t2,b7];simp only[zaa,zao,zav,zaD];refine ay (λh1=>ak ⟨h0,bJ⟩ (ak bs (aq (wM _) (aq ?_ (ak (by omega) ?_))))) λh1=>ak (by omega) (hn _ ⟨qJ,?_⟩)
  ·rw[zac];exact⟨by simp,cH (by omega) (by omega)⟩
  ·have hf:(on.any λy=>y.2==g.1)=false:=by rw[<-hh];simpa using h1
   have:=hn (on++[g]) ⟨qJ,by rw[yl,<-ho,yY,zan (by rw[hf];simp)]⟩;simp only[qcB,zaj,zao,zav,zaD] at this;exact this
  have hf:(on.any λy=>y.2==g.1)=true:=by rw[<-hh];simpa using h1
  rw[yl,<-ho,yY,zap hf])
 (by
  rintro m on i ae hi ⟨qJ,ho⟩ bw
  (rw[<-Xq];delta JU B8 yp iR r5 Ze yo Z6A MR Z9R Zl Zm Zn Z8 Z7 Zh Xn y8 Eo K2 K3 wK fk Z9X Z5 ZW Z2 Zt C5 Z9V sQ Z6o)
  refine mD (by omega) (bw _ (λh=>by cases h) ?_);rw[ho,zai])
 (by rintro s ae ⟨m,rfl,hs,hp⟩;refine⟨m,[],rfl,⟨hs,rfl⟩,?_⟩;rintro x rfl;exact hp _ rfl)
theorem Xx:LD X 17 15 (ah (aR 17 15) qey):=LD.par (by kernel_rfl) (by kernel_rfl) .nil .nil
 (A:=List Hd) (B:=Nat×List aF×Int) (λon b=>qcC on b.2.1 b.2.2) (λon b=>on.length<=1000000/\b.1<=on.length/\b.2.2=(b.1:Int)-1/\b.2.1=((on.drop b.1).map (·.1)).reverse) (λ_ b=>b.1)
 (λon x=>x=(.exit 4,⟨63,[(8,.sl 0 0 ((on.map (·.1)).reverse).length)],[(0,⟨0,none,nj false ((on.map (·.1)).reverse)⟩)]⟩))
 (by
  rintro on ⟨k,out,i⟩ ⟨hm,hk,hi,ho⟩;dsimp only at*
  (rw[<-qhm];delta gb re Bo eH sS JU B8 Zs Z9b iR r5 Z8 Z7 Z9 Ze yo Z6C qe Eo y8 K2 K3 Z1)
  cases k with
  |zero=>refine mD (by omega) ?_;rw[ho,zcD];rfl
  |succ k=>
   have bK:k<on.length:=by omega
   have jT:out.length<=on.length:=by rw[ho];simp
   have hik:i.toNat=k:=by omega
   have e1:D.nth (on.map cr) i.toNat=cr on[k]:=by rw[hik];exact az _ _ _ bK
   have hd:on.drop k=on[k]::on.drop (k+1):=za5 bK;generalize on[k]=h at e1 hd;have t2:D.agg [D.int .i64 (D.aj (D.au (cr h) 0)),D.int .i64 (D.aj (D.au (cr h) 1))]=bC h.1:=rfl;rw[e1,t2,b7];simp only[zaa,zao,zav,zaD];refine bF (by omega) (ak ⟨by omega,by omega⟩ (ak (by omega) (aq (wM _) (aq ?_ (ak (by omega) ?_)))))
   ·rw[zac];exact⟨by simp,cH (by omega) (by omega)⟩
   refine⟨k,zcR k,(k,out++[h.1],i-1),?_,⟨hm,by show k<=_;omega,by show i-1=(k:Int)-1;omega,?_⟩,rfl⟩
   ·simp only[qcC,zaj,zao,zav,zaD]
   show out++[h.1]=_;rw[hd,ho];simp)
 (by rintro s ae ⟨on,i,rfl,⟨hi,hm⟩,hp⟩;refine⟨on,(on.length,[],i),rfl,⟨hm,zal _,hi,by simp⟩,?_⟩;rintro x rfl;exact hp _ rfl)
theorem RV l:bT RU (r3 l)=(oE l).reverse:=by
 have hp:(bT RU (r3 l)).reverse.Perm (r3 l):=(zdk _).trans (bR _);have hw:(bT RU (r3 l)).Pairwise (λx y=>kA x.1 y.1=false):=by
  have lin:Jw (λa b:aF=>kA b a):=⟨λx=>mg.IV x,λx y z h1 h2=>mg.tr z y x h2 h1,λx y h1 h2=>(mg.rU y x h1 h2).symm⟩
  exact rG lin (λh:Hd=>h.1) (r3 l)
 have e:=OR hp (by rw[zcq];exact hw);rw[<-e,List.reverse_reverse]
theorem qeA:FD X 17 qhn:=FD.mk (by kernel_rfl) (.cons qkJ .nil) (.cons Xw (.cons Xx .nil)) (by
 intro ps R ae hh;obtain⟨l,rfl,rfl,hs,hp⟩:=hh
 (rw[<-qkI];delta gb re Bo eH sS Za1 Zt Z9f Ca JU B8 Bu iR r5 Z8 Za0 Z7 Z9S Z5 ZK sQ Z9Z wK Zx)
 refine⟨l,rfl,rfl,hs,λo ho=>⟨o,rfl,?_,λo2 SA=> ?_⟩⟩
 ·rw[ho,oF];have:=rI l;omega
 have hl:o2.length<=1000000:=by
  have h1:=u9 o [];have h2:o.length<=l.length:=by rw[ho,oF];exact rI l
  rw[SA];simp at h1;omega
 refine ak (by omega) ⟨o2,_,rfl,⟨rfl,hl⟩,λo3 ho3=>hp o3 ?_⟩;rw[ho3,SA,ho,RV];rfl)
end
theorem RW{α:Type}(t:α->Bool) l:(yf t l<0->l.find? t=none)/\(0<=yf t l-> ∃h,l.find? t=some l[(yf t l).toNat]):=by
 unfold yf;cases h:List.findIdx? t l with
 |none=>refine⟨λ_=> ?_,λh=>by simp at h⟩;rw[zcB];intro x hx;have:=(zbO.1 h) x hx;simp[this]
 |some i=>obtain⟨hi,ht,hb⟩:=zbz.1 h;refine⟨λh=>by simp at h;omega,λ_=>⟨by simpa using hi,?_⟩⟩;rw[zdp];refine⟨by simpa using ht,i,hi,by simp,λj hj=>by simpa using hb j hj⟩
section
variable{X:XF}
end
theorem qcE{a b}(h:bC a=bC b):a=b:=by
 obtain⟨a1,a2⟩:=a;obtain⟨b1,b2⟩:=b;unfold bC at h;injection h with h
 injection h with h1 h2
 injection h2 with h2 h3
 injection h1 with _ h1
 injection h2 with _ h2
 simp at h1 h2;rw[h1,h2]
theorem qho a b:D.gH (bC a) (bC b)=(a==b):=by rw[zaG,D.bS,za1];exact⟨qcE,λh=>by rw[h]⟩
section
variable{X:XF}
end
def M9(m:List ar):=m.length<=1000000/\ ∀g∈m,1<=g.s.2/\g.s.2<=16/\1<=g.s.1/\g.s.1<=1099511627776/\1<=g.n/\g.n<=1099511627776
def Xy:a8:=λps R ae=> ∃v r n,ps=[vD v,iD r,iD n]/\R=[]/\(v.length<=1000000/\1<=r/\r<=16)/\ ∀w,w=bx (il v r n)->ae (.dz [vD w,iD 0],[])
theorem M9.sub{m k}(h:M9 m)(hs: ∀g∈k,g∈m)(hl:k.length<=1000000):M9 k:=⟨hl,λg hg=>h.2 g (hs g hg)⟩
section
variable{X:XF}
theorem qcF:FD X 42 Xy:=qa8.weaken λps R ae h=>by obtain⟨v,r,n,rfl,rfl,⟨hs,h1,h2⟩,hp⟩:=h;exact⟨v,r,n,rfl,rfl,hs,λh=>absurd ⟨h1,h2⟩ h,λ_=>hp _ rfl⟩
theorem Xz{m:List ar}{i}(h:i<m.length):gE (m.take (i+1))=max (gE (m.take i)) m[i].s.1:=by rw[zaf h,Wm]
end
def qn8 r (x:ar):=x.s.2==r
structure qoZ(m:List ar)(r i k:Int):Prop where
 len:m.length<=1000000
 i0:0<=i
 ik:k=i+1
 kl:k<=m.length
 eq:(m.take k.toNat).filter (qn8 r)=m.take i.toNat
theorem BA{α:Type}{f:α->D}(hf: ∀{a b},f a=f b->a=b){l m:List α}(h:l.map f=m.map f):l=m:=(List.map_inj_right (f:=f) (λ_ _=>hf)).1 h
theorem qkK{a b}(h:bC a=bC b):a=b:=by obtain⟨a1,a2⟩:=a;obtain⟨b1,b2⟩:=b;unfold bC iE at h;simp only[D.agg.injEq,zbr,D.int.injEq,zcL,zcA] at h;rw[h.1,h.2]
theorem qeB{a b}(h:aL a=aL b):a=b:=by obtain⟨a1,a2,a3⟩:=a;obtain⟨b1,b2,b3⟩:=b;unfold aL at h;simp only[D.agg.injEq,zbr,D.int.injEq,zcL,zcA] at h;rw[h.1,h.2.1,h.2.2]
theorem qhp{l m}(h:bt l=bt m):l=m:=BA (f:=D.int .i64) (λh=>by cases h;rfl) h
theorem qkL{a b}(h:eT a=eT b):a=b:=by obtain⟨k,⟨n1,n2,n3⟩,⟨p1,p2,p3⟩,nm,dr,ds,⟨a1,a2,a3⟩,⟨e1,e2,e3⟩,tx,es⟩:=a;obtain⟨k',⟨n1',n2',n3'⟩,⟨p1',p2',p3'⟩,nm',dr',ds',⟨a1',a2',a3'⟩,⟨e1',e2',e3'⟩,tx',dh⟩:=b;unfold eT iE at h;simp only[D.agg.injEq,zbr,D.int.injEq,D.str.injEq,D.bool.injEq,D.sl.injEq,zcL,zcA] at h;obtain⟨rfl,rfl,rfl,rfl,rfl,rfl,rfl,rfl,rfl,h1,rfl,rfl,rfl,rfl,rfl,rfl,rfl,h2⟩:=h;rw[BA qkK h1,BA qeB h2]
theorem qkM{a b}(h:bZ a=bZ b):a=b:=by obtain⟨⟨s1,s2⟩,n,d,⟨u1,u2⟩,o⟩:=a;obtain⟨⟨s1',s2'⟩,n',d',⟨u1',u2'⟩,o'⟩:=b;unfold bZ iE at h;simp only[D.agg.injEq,zbr,D.int.injEq,D.sl.injEq,zcL,zcA] at h;obtain⟨rfl,rfl,rfl,h1,rfl,rfl,h2⟩:=h;rw[qhp h1,BA qkL h2]
section
variable{X:XF}
end
def pN(ns:List Nat):List (Nat×En)->List (Nat×En)
 | []=>[]
 | (k,e)::r=>(k,if iw k ns then⟨e.aV,none,e.obj⟩ else e)::pN ns r
def S.mq(ns:List Nat)(s:S):S:=⟨s.n,s.tm,pN ns s.rg⟩
theorem BB ns n: ∀R,lk (pN ns R) n=(lk R n).map λe=>if iw n ns then⟨e.aV,none,e.obj⟩ else e
 | []=>rfl
 | (k,e)::r=>by
  simp only[pN,lk];split
  next hk=>rw[zag hk];rfl
  exact BB ns n r
theorem lv{ns R n e'}(h:lk (pN ns R) n=some e'): ∃e,lk R n=some e/\e'.aV=e.aV/\e'.obj=e.obj/\(e'.tag=none\/e'=e):=by
 rw[BB,zay] at h;obtain⟨e,he,rfl⟩:=h;refine⟨e,he,?_⟩;split
 ·exact⟨rfl,rfl,.inl rfl⟩
 exact⟨rfl,rfl,.inr rfl⟩
theorem Kc{ns R n e}(h:lk R n=some e): ∃e',lk (pN ns R) n=some e'/\e'.aV=e.aV/\e'.obj=e.obj:=by rw[BB,h];refine⟨_,rfl,?_⟩;split<;>exact⟨rfl,rfl⟩
section
variable{Q:Program}{T:Tg}{F:Nat->Prop}{G:Nat->Value}{w:World}{a:Act}{s:S}{ns:List Nat}
theorem EE:Own G (pN ns s.rg)=Own G s.rg:=by
 funext b;refine propext ⟨?_,?_⟩
 ·rintro⟨n,e',he,hb⟩;obtain⟨e,h1,_,h3,_⟩:=lv he;exact⟨n,e,h1,by rw[<-h3];exact hb⟩
 rintro⟨n,e,he,hb⟩;obtain⟨e',h1,_,h3⟩:=Kc (ns:=ns) he;exact⟨n,e',h1,by rw[h3];exact hb⟩
theorem aC.mq(h:aC Q T F G w a s):aC Q T F G w a (s.mq ns):=by
 have hN:Names G G s.rg (pN ns s.rg):=⟨λn e he=>by obtain⟨e',h1,h2,h3⟩:=Kc (ns:=ns) he;exact⟨e',h1,by omega,λ_ hl=>by rw[h3] at hl;exact hl⟩,λ_ _ _ _ _ _ _=>rfl⟩
 have hx:Ext (Own G s.rg) (Own G (pN ns s.rg)) F F w w:=by rw[EE];exact Ext.refl _ _ _
 refine⟨h.s7.go hx,h.size,λt p hp=>cE.mono (λ_ h=>h) (λ_ _=>rfl) hN (h.tm t p hp),λn e' he=> ?_,λn m e e' b he cR hb dq=> ?_,λn e b he hb=> ?_,h.jE,λn e i he hi hl=> ?_,h.z,h.dr,h.sz⟩
 ·obtain⟨e,h1,_,h3,_⟩:=lv he;rw[h3];exact(h.rg n e h1).mono (λ_ h=>h) (λ_ _=>rfl) hN rfl (λ_ _=>rfl)
 ·obtain⟨x,h1,_,h3,_⟩:=lv he;obtain⟨x',LC,_,h3',_⟩:=lv cR;rw[h3] at hb;rw[h3'] at dq;exact h.own n m x x' b h1 LC hb dq
 ·obtain⟨x,h1,_,h3,_⟩:=lv he;rw[h3] at hb;exact h.nA n x b h1 hb
 obtain⟨x,h1,_,h3,h4⟩:=lv he;rcases h4 with h4 |h4
 ·rw[h4] at hi;cases hi
 subst h4;exact h.tag n _ i h1 hi hl
end
theorem TW.mq{Q T c s}{ns ae}(h:TW Q T c (s.mq ns) ae):TW Q T c s ae:=λr sv F G w a Q' hs hK=>h sv F G w a Q' hs.mq λe s' a' w' hp hP=>hK e s' a' w' hp (by obtain⟨F',G',h1,h2⟩:=hP;refine⟨F',G',h1,?_⟩;have e:Own G (s.mq ns).rg=Own G s.rg:=EE;rw[<-e];exact h2)
theorem LN.qn9{X w0}(hX:cz PR w0 X.cf) ns {H HN hk}{f id:Nat}{g}(hdr:PR.follows .mixedOrders=true)(hu:uniq PR f=true)(hc:cj (rE f) (bA PR f id)=true)(hnr:(bW (bA PR f id)).isEmpty=true)(hH:HD X H)(nO:OS w0 HN)(hl:LNs w0 f hk)
  {A B:Type} (hd:A->B->S) (Inv:A->B->Prop) (mu:A->B->Nat) (Out:A->PX×S->Prop)
  (hr: ∀a b,Inv a b->cC H HN hk f id (hd a b) (roundPost (mu a b) (λm s=> ∃b',s.mq ns=hd a b'/\Inv a b'/\m=mu a b') (Out a)))
  (hg: ∀s ae,g s ae-> ∃a b,s.mq ns=hd a b/\Inv a b/\ ∀x,Out a x->ae x):LN w0 f id (ah (aR f id) g):=by
 intro val lo mk s ae hp;unfold ah at hp;cases hh:cG (aR f id) s with
 |none=>simp only[hh] at hp
 |some s0=>
  simp only[hh] at hp;obtain⟨a,b,h0,h1,h2⟩:=hg s0 ae hp;refine TW.mono (TW.loop (keep:=aR f id) (I:=λm s=> ∃b',s.mq ns=hd a b'/\Inv a b'/\m=mu a b') (O:=Out a) (λn s hs=> ?_) hh ⟨b,h0,h1,rfl⟩) h2;obtain⟨b',h4,h3,rfl⟩:=hs;have:=hr a b' h3;unfold cC at this;refine TW.mq (ns:=ns) ?_;rw[h4];refine TW.mono (rC (kp:=Oh X) (T:=⟨val,w0,lo,mk⟩) nO.get (Bi hH) hX hdr (kp1:=aR f) (bA PR f id) hc (λd hd h hh s ae hp=>by have:=hl.get _ _ hh val lo mk s ae hp;rwa [wi hu hd] at this) (λx hx=>by rw[zbZ.1 hnr] at hx;cases hx) _ _ this) ?_;rintro⟨e,s1⟩ hx;cases e with
  |normal=>obtain⟨s2,h4,m,h5,h6⟩:=KW.dU (p:=λs2=>cG (aR f id) s1=some s2) (λ_ h=>h) _ hx;exact⟨s2,h4,m,h5,h6⟩
  |exit i=>obtain⟨s2,h4,h5⟩:=KW.dU (p:=λs2=>dL (aR f id) s1=some s2) (λ_ h=>h) _ hx;exact⟨s2,h4,h5⟩
  |ret=>obtain⟨s2,h4,h5⟩:=KW.dU (p:=λs2=>dL (aR f id) s1=some s2) (λ_ h=>h) _ hx;exact⟨s2,h4,h5⟩
theorem LN.qkN{X w0}(hX:cz PR w0 X.cf) ns {H HN hk}{f id:Nat}{g}(hdr:PR.follows .mixedOrders=true)(hu:uniq PR f=true)(hc:cj (rE f) (bA PR f id)=true)(hnr:(bW (bA PR f id)).isEmpty=true)(hH:HD X H)(nO:OS w0 HN)(hl:LNs w0 f hk)
  {A B:Type} (hd:A->B->Int->S) (len:A->Nat) (Inv:A->Nat->B->Prop) (Out:A->PX×S->Prop)
  (hr: ∀a b (k:Int) ae,0<=k->k<len a->k.toNat<len a->Inv a k.toNat b->(∀b' s,S.mq ns s=hd a b' (k+1)->Inv a (k.toNat+1) b'->ae (.normal,s))->(∀x,x.1≠ .normal->Out a x->ae x)->cC H HN hk f id (hd a b k) ae)
  (hx: ∀a b (k:Int) ae,k=len a->Inv a (len a) b->(∀x,x.1≠ .normal->Out a x->ae x)->cC H HN hk f id (hd a b k) ae)
  (hg: ∀s ae,g s ae-> ∃a b,S.mq ns s=hd a b 0/\Inv a 0 b/\ ∀x,Out a x->ae x):LN w0 f id (ah (aR f id) g):=
 LN.qn9 hX ns hdr hu hc hnr hH nO hl (A:=A) (B:=B×Int) (λa b=>hd a b.1 b.2) (λa b=>0<=b.2/\b.2.toNat<=len a/\Inv a b.2.toNat b.1) (λa b=>(len a-b.2).toNat) Out
  (by
   rintro a ⟨b,k⟩ ⟨h1,h2,h3⟩;dsimp only at*
   have bw: ∀x:PX×S,x.1≠ .normal->Out a x->roundPost ((len a-k).toNat) (λm s=> ∃b':B×Int,s.mq ns=hd a b'.1 b'.2/\(0<=b'.2/\b'.2.toNat<=len a/\Inv a b'.2.toNat b'.1)/\m=(len a-b'.2).toNat) (Out a) x:=by
    rintro⟨e,s⟩ cO hx;cases e with
    |normal=>exact absurd rfl cO
    |exit i=>exact hx
    |ret=>exact hx
   by_cases hk:k<len a
   ·refine hr a b k _ h1 hk (by omega) h3 (λb' s hs hb=> ?_) bw;exact⟨((len a:Int)-(k+1)).toNat,by omega,(b',k+1),hs,⟨by show 0<=k+1;omega,by show(k+1).toNat<=len a;omega,by show Inv a (k+1).toNat b';rw[show(k+1).toNat=k.toNat+1 by omega];exact hb⟩,rfl⟩
   have e:k=len a:=by omega
   refine hx a b k _ e ?_ bw;have:k.toNat=len a:=by omega
   rwa [this] at h3)
  (by intro s ae hp;obtain⟨a,b,h1,h2,h3⟩:=hg s ae hp;exact⟨a,(b,0),h1,⟨zbF _,by simp,h2⟩,h3⟩)
abbrev onM(f:D->Option D)(c:Int):Obj:= .map 27 f c false
abbrev qcG(f:D->Option D)(c:Int):Obj:= .map 49 f c false
abbrev vwB(ng no na np nh nl:Nat):Obj:= .box 74 [.sl 1 0 ng,.sl 2 0 no,.mp 3 0,.sl 4 0 na,.sl 5 0 np,.mp 6 0,.sl 7 0 nh,.sl 8 0 nl]
abbrev vwR(g:List ar)(o:List aF)(f:D->Option D)(c:Int)(d:D->Option D)(n:Int)(na np nh nl:Nat)(A P H L:List D):List (Nat×En):=[(0,⟨0,some 0,vwB g.length o.length na np nh nl⟩),(1,⟨0,some 1,pW false g⟩),(2,⟨0,some 2,nj false o⟩),(3,⟨0,some 3,onM f c⟩),(4,⟨0,none,.arr 49 false A⟩),(5,⟨0,none,.arr 108 false P⟩),(6,⟨0,some 6,qcG d n⟩),(7,⟨0,none,.arr 121 false H⟩),(8,⟨0,none,.arr 121 false L⟩)]
abbrev qkO(x:ar):Obj:= .box 31 [iD x.s.1,iD x.s.2,iD x.n,.d (.sl 1 (bt x.deps)),iD x.dZ.1,iD x.dZ.2,.d (.sl 18 (x.ops.map eT))]
abbrev qkP(o:bj):Obj:= .box 79 [iD o.kind,iD o.node.1,iD o.node.2.1,iD o.node.2.2,iD o.parent.1,iD o.parent.2.1,iD o.parent.2.2,sD o.name,.d (.bool o.dir),kB o.cu,iD o.after.1,iD o.after.2.1,iD o.after.2.2,iD o.elem.1,iD o.elem.2.1,iD o.elem.2.2,sD o.text,ct o.elems]
abbrev gaH(x:ar)(g:List ar)(o:List aF)(f:D->Option D)(c:Int)(d:D->Option D)(n:Int)(na np nh nl:Nat)(A P H L:List D)(on:Bool)(i:Int):S:=⟨117,[(0,.ref 0 0 0),(3,.ref 9 0 0),(4,.d (.bool on)),(14,.d (.sl 18 (x.ops.map eT))),(15,iD ((x.ops.map eT).length:Int)),(16,iD i)],vwR g o f c d n na np nh nl A P H L++[(9,⟨0,none,qkO x⟩)]⟩
abbrev qhq(x:ar)(y:bj)(g:List ar)(o:List aF)(f:D->Option D)(c:Int)(d:D->Option D)(n:Int)(na np nh nl:Nat)(A P H L:List D)(on:Bool)(i j:Int):S:=⟨117,[(0,.ref 0 0 0),(3,.ref 9 0 0),(4,.d (.bool on)),(6,.ref 10 0 0),(14,.d (.sl 18 (x.ops.map eT))),(15,iD ((x.ops.map eT).length:Int)),(16,iD i),(95,kB y.cu),(96,iD ((y.cu.map bC).length:Int)),(97,iD j)],vwR g o f c d n na np nh nl A P H L++[(9,⟨0,none,qkO x⟩),(10,⟨0,none,qkP y⟩)]⟩
def Za9 i:=(16,P.d (Zt i))
def S4 x:=(15,P.d (D.int .i64 (yW x)))
def S5 x:=(14,rb x)
def XA on:=(4,fk on)
def S6:=(3,P.ref 9 0 0)
def S7 nh nl:=[P.mp 6 0,P.sl 7 0 nh,P.sl 8 0 nl]
def wR o:=P.sl 2 0 (eH o)
def rP g:=P.sl 1 0 (fS g)
def zj g o na np nh nl:=(0,En.mk 0 (some 0) (Obj.box (74:TypeId) (rP g::wR o::mZ::P.sl 4 0 na::Ey np::S7 nh nl)))
def Zal y:=En.mk 0 none (Obj.box (79:TypeId) (P.d (yj y)::P.d (wG y)::P.d (wF y)::P.d (wE y)::P.d (B4 y)::P.d (B3 y)::P.d (B1 y)::P.d (D.str (bj.name y))::P.d (D.bool (bj.dir y))::P.d (yV y)::P.d (CU y)::P.d (CT y)::P.d (CS y)::P.d (D.int .i64 (yi y))::P.d (D.int .i64 (yh y))::P.d (D.int .i64 (yg y))::P.d (D.str (bj.text y))::VY y))
def Zam x y:=[(9,CV x),(10,Zal y)]
def jH H:=En.mk 0 none (Obj.arr (121:TypeId) false H)
def vu d n:=(6,En.mk 0 (some 6) (nP d n))
def EF P:=En.mk 0 none (Obj.arr (108:TypeId) false P)
def vv P:=(5,EF P)
def vw A:=(4,za A)
def nU f c:=(3,En.mk 0 (some 3) (Obj.map 27 f c false))
def nV o:=(2,En.mk 0 (some 2) (Obj.arr (27:TypeId) false (gb o)))
def nW g:=(1,En.mk 0 (some 1) (tT g))
def Za6:=(6,P.ref 10 0 0)
def Zaa on x i y j:=[gD,S6,XA on,Za6,S5 x,S4 x,Za9 i,(95,P.d (yV y)),(96,P.d (D.int .i64 (JG y))),(97,Zm j)]
def Za2 y j:=D.nth (List.map bC (bj.cu y)) (Ze j)
def Za3 y j:=[D.agg [wG y,wF y,wE y,D.int .i64 (D.aj (D.au (Za2 y j) 0)),D.int .i64 (D.aj (D.au (Za2 y j) 1))]]
theorem XB x y g o f c d n na np nh nl A P H L on i j ae:(bif decide (j<JG y) then ob (decide ((0:Int)<=j/\j<JG y)) (ob (bO PR (27:TypeId) (Za2 y j)) (bif on then ob (yq nl L&&aG (nl+List.length (Za3 y j)) 40) (ob (Zh j) (ae (PX.normal,S.mk 117 (Zaa on x i y j) ((0,En.mk 0 (some 0) (Obj.box (74:TypeId) [rP g,wR o,mZ,Pi.P.sl 4 0 na,Ey np,Pi.P.mp 6 0,Pi.P.sl 7 0 nh,Pi.P.sl 8 0 (nl+List.length (Za3 y j))]))::nW g::nV o::nU f c::vw A::vv P::vu d n::(7,jH H)::(8,En.mk 0 none (Obj.arr (121:TypeId) false (List.take nl L++Za3 y j)))::Zam x y)))) else ob (Zh j) (ae (PX.normal,S.mk 117 (Zaa on x i y j) (zj g o na np nh nl::nW g::nV o::nU f c::vw A::vv P::vu d n::(7,jH H)::(8,jH L)::Zam x y))))) else ae (PX.exit 2,S.mk 117 [gD,S6,XA on,S5 x,S4 x,Za9 i] [zj g o na np nh nl,nW g,nV o,nU f c,vw A,vv P,vu d n,(7,jH H),(8,jH L),(9,CV x)]))=(cC [] [] [] 45 13 (qhq x y g o f c d n na np nh nl A P H L on i j)) ae:=by kernel_rfl
def Kd(y:bj):List aM:=y.cu.map λs=>(y.node,s)
def vz on y (_:Nat) L cQ L':=cQ=L'.length/\L'=L++(if on=true then(Kd y).map cV else [])
def qeC:S->K (PX×S):=λs ae=> ∃x y g o f c d n na np nh nl A P H L on i,s.mq [4,5,7,8]=qhq x y g o f c d n na np nh nl A P H L on i 0/\(y.cu.length<=200/\nl=L.length/\nl<=100000000000)/\ ∀cQ L',vz on y nl L cQ L'->ae (.exit 2,gaH x g o f c d n na np nh cQ A P H L' on i)
def ZaG H L:=[(7,jH H),(8,jH L)]
def Zas x i:=[D.agg [V3 x i,V2 x i,V1 x i,kL x,kc x]]
def Zax nh x i nl:=[P.mp 6 0,P.sl 7 0 (nh+List.length (Zas x i)),P.sl 8 0 nl]
def ZaF g o na np nh x i nl:=(0,En.mk 0 (some 0) (Obj.box (74:TypeId) (rP g::wR o::mZ::P.sl 4 0 na::Ey np::Zax nh x i nl)))
def GJ L x i:=[(8,jH L),(9,CV x),(10,En.mk 0 none (Obj.box (79:TypeId) [P.d (D.int .i64 (D.aj (D.au (jS x i) 0))),P.d (V3 x i),P.d (V2 x i),P.d (V1 x i),P.d (Z53 x i),P.d (Z54 x i),P.d (Z55 x i),P.d (D.str (D.cJ (D.au (jS x i) 7))),P.d (D.bool (D.dp (D.au (jS x i) 8))),P.d (D.sl 2 (D.gW (D.au (jS x i) 9))),P.d (D.int .i64 (D.aj (D.au (jS x i) 10))),P.d (D.int .i64 (D.aj (D.au (jS x i) 11))),P.d (D.int .i64 (D.aj (D.au (jS x i) 12))),P.d (D.int .i64 (D.aj (D.au (jS x i) 13))),P.d (D.int .i64 (D.aj (D.au (jS x i) 14))),P.d (D.int .i64 (D.aj (D.au (jS x i) 15))),P.d (D.str (D.cJ (D.au (jS x i) 16))),P.d (D.sl 3 (D.gW (D.au (jS x i) 17)))]))]
def Zaq x i:=[D.agg [V3 x i,V2 x i,V1 x i,Z53 x i,Z54 x i,Z55 x i,D.str (D.cJ (D.au (jS x i) 7)),D.bool (D.dp (D.au (jS x i) 8))]]
def Zap na x i:=na+List.length [D.agg (kL x::kc x::ZE i)]
def ZaE g o na x i np nh nl:=(0,En.mk 0 (some 0) (Obj.box (74:TypeId) (rP g::wR o::mZ::P.sl 4 0 (Zap na x i)::P.sl 5 0 (np+List.length (Zaq x i))::S7 nh nl)))
def ZaD nh H x i L:=(7,En.mk 0 none (Obj.arr (121:TypeId) false (List.take nh H++Zas x i)))::GJ L x i
def Py x i (d:D->Option D) n:=(6,En.mk 0 (some 6) (Obj.map 49 (λk'=>bif D.gH (D.agg [D.int .i64 (D.aj (D.au (jS x i) mC)),D.int .i64 (D.aj (D.au (jS x i) (mC+1))),D.int .i64 (D.aj (D.au (jS x i) A2))]) k' then some (D.bool (D.dp (D.au (jS x i) (MB+1)))) else d k') (bif Option.isSome (d (D.agg [V3 x i,V2 x i,V1 x i])) then n else n+(1:Int)) false))
def Pz np P x i:=(5,En.mk 0 none (Obj.arr (108:TypeId) false (List.take np P++Zaq x i)))
def PA na A x i:=(4,En.mk 0 none (Obj.arr (49:TypeId) false (List.take na A++[D.agg (kL x::kc x::ZE i)])))
def Zay g o na x i np nh nl:=(0,En.mk 0 (some 0) (Obj.box (74:TypeId) (rP g::wR o::mZ::P.sl 4 0 (Zap na x i)::P.sl 5 0 (np+List.length (Zaq x i))::Zax nh x i nl)))
def xS on x i:=[gD,S6,XA on,Za6,S5 x,S4 x,Za9 i,(95,P.d (D.sl 2 (D.gW (D.au (jS x i) 9)))),(96,P.d (D.int .i64 (↑(List.length (D.gW (D.au (jS x i) 9))):Int))),(97,P.d Z5)]
def K9 y:=List.length (bj.cu y)<=200
def xT(ae:PX×S->Prop):=λs0=> ∃bm y bp bq GK mF d_1 iC kY kZ mO iA Cd Ce Cf xU eW bg,s0=S.mk 117 [gD,S6,XA eW,Za6,S5 bm,S4 bm,Za9 bg,(95,P.d (yV y)),(96,P.d (D.int .i64 (JG y))),(97,P.d Z5)] (zj bp bq kY kZ mO iA::nW bp::nV bq::nU GK mF::vw Cd::vv Ce::vu d_1 iC::(7,jH Cf)::(8,jH xU)::Zam bm y)/\(K9 y/\iA=List.length xU/\iA<=100000000000)/\ ∀cQ L',vz eW y iA xU cQ L'->ob (Zh bg) (ae (PX.normal,S.mk 117 [gD,S6,XA eW,S5 bm,S4 bm,(16,Zm bg)] [zj bp bq kY kZ mO cQ,nW bp,nV bq,nU GK mF,vw Cd,vv Ce,vu d_1 iC,(7,jH Cf),(8,jH L'),(9,CV bm)]))
def Zat nh H x i:=yq nh H&&aG (nh+List.length (Zas x i)) 40
def Zar x i:=D.aj (D.au (jS x i) 0) !=(2:Int)
theorem qeD x g o f c d n na np nh nl A P H L on i ae:(bif decide (i<yW x) then ob (Z4W i x) (ob (bO PR (79:TypeId) (jS x i)) (bif D.aj (D.au (jS x i) 0)==(0:Int) then bif D.aj (D.au (jS x i) 0)==(0:Int) then ob (yq na A&&aG (Zap na x i) 24) (ob (yq np P&&aG (np+List.length (Zaq x i)) 72) (bif on then bif Zar x i then ob (Zat nh H x i) (xT ae (S.mk 117 (xS on x i) (Zay g o na x i np nh nl::nW g::nV o::nU f c::PA na A x i::Pz np P x i::Py x i d n::ZaD nh H x i L))) else xT ae (S.mk 117 (xS on x i) (ZaE g o na x i np nh nl::nW g::nV o::nU f c::PA na A x i::Pz np P x i::Py x i d n::(7,jH H)::GJ L x i)) else xT ae (S.mk 117 (xS on x i) (ZaE g o na x i np nh nl::nW g::nV o::nU f c::PA na A x i::Pz np P x i::Py x i d n::(7,jH H)::GJ L x i)))) else bif D.aj (D.au (jS x i) 0)==(1:Int) then bif on then ob (yq na A&&aG (Zap na x i) 24) (ob (yq np P&&aG (np+List.length (Zaq x i)) 72) (bif on then bif Zar x i then ob (Zat nh H x i) (xT ae (S.mk 117 (xS on x i) (Zay g o na x i np nh nl::nW g::nV o::nU f c::PA na A x i::Pz np P x i::Py x i d n::ZaD nh H x i L))) else xT ae (S.mk 117 (xS on x i) (ZaE g o na x i np nh nl::nW g::nV o::nU f c::PA na A x i::Pz np P x i::Py x i d n::(7,jH H)::GJ L x i)) else xT ae (S.mk 117 (xS on x i) (ZaE g o na x i np nh nl::nW g::nV o::nU f c::PA na A x i::Pz np P x i::Py x i d n::(7,jH H)::GJ L x i)))) else bif on then bif Zar x i then ob (Zat nh H x i) (xT ae (S.mk 117 (xS on x i) (ZaF g o na np nh x i nl::nW g::nV o::nU f c::vw A::vv P::Py x i d n::ZaD nh H x i L))) else xT ae (S.mk 117 (xS on x i) (zj g o na np nh nl::nW g::nV o::nU f c::vw A::vv P::Py x i d n::(7,jH H)::GJ L x i)) else xT ae (S.mk 117 (xS on x i) (zj g o na np nh nl::nW g::nV o::nU f c::vw A::vv P::Py x i d n::(7,jH H)::GJ L x i)) else bif on then bif Zar x i then ob (Zat nh H x i) (xT ae (S.mk 117 (xS on x i) (ZaF g o na np nh x i nl::nW g::nV o::nU f c::vw A::vv P::Py x i d n::ZaD nh H x i L))) else xT ae (S.mk 117 (xS on x i) (zj g o na np nh nl::nW g::nV o::nU f c::vw A::vv P::Py x i d n::(7,jH H)::GJ L x i)) else xT ae (S.mk 117 (xS on x i) (zj g o na np nh nl::nW g::nV o::nU f c::vw A::vv P::Py x i d n::(7,jH H)::GJ L x i)) else bif D.aj (D.au (jS x i) 0)==(0:Int) then ob (yq na A&&aG (Zap na x i) 24) (ob (yq np P&&aG (np+List.length (Zaq x i)) 72) (bif on then bif Zar x i then ob (Zat nh H x i) (xT ae (S.mk 117 (xS on x i) (Zay g o na x i np nh nl::nW g::nV o::nU f c::PA na A x i::Pz np P x i::vu d n::ZaD nh H x i L))) else xT ae (S.mk 117 (xS on x i) (ZaE g o na x i np nh nl::nW g::nV o::nU f c::PA na A x i::Pz np P x i::vu d n::(7,jH H)::GJ L x i)) else xT ae (S.mk 117 (xS on x i) (ZaE g o na x i np nh nl::nW g::nV o::nU f c::PA na A x i::Pz np P x i::vu d n::(7,jH H)::GJ L x i)))) else bif D.aj (D.au (jS x i) 0)==(1:Int) then bif on then ob (yq na A&&aG (Zap na x i) 24) (ob (yq np P&&aG (np+List.length (Zaq x i)) 72) (bif on then bif Zar x i then ob (Zat nh H x i) (xT ae (S.mk 117 (xS on x i) (Zay g o na x i np nh nl::nW g::nV o::nU f c::PA na A x i::Pz np P x i::vu d n::ZaD nh H x i L))) else xT ae (S.mk 117 (xS on x i) (ZaE g o na x i np nh nl::nW g::nV o::nU f c::PA na A x i::Pz np P x i::vu d n::(7,jH H)::GJ L x i)) else xT ae (S.mk 117 (xS on x i) (ZaE g o na x i np nh nl::nW g::nV o::nU f c::PA na A x i::Pz np P x i::vu d n::(7,jH H)::GJ L x i)))) else bif on then bif Zar x i then ob (Zat nh H x i) (xT ae (S.mk 117 (xS on x i) (ZaF g o na np nh x i nl::nW g::nV o::nU f c::vw A::vv P::vu d n::ZaD nh H x i L))) else xT ae (S.mk 117 (xS on x i) (zj g o na np nh nl::nW g::nV o::nU f c::vw A::vv P::vu d n::(7,jH H)::GJ L x i)) else xT ae (S.mk 117 (xS on x i) (zj g o na np nh nl::nW g::nV o::nU f c::vw A::vv P::vu d n::(7,jH H)::GJ L x i)) else bif on then bif Zar x i then ob (Zat nh H x i) (xT ae (S.mk 117 (xS on x i) (ZaF g o na np nh x i nl::nW g::nV o::nU f c::vw A::vv P::vu d n::ZaD nh H x i L))) else xT ae (S.mk 117 (xS on x i) (zj g o na np nh nl::nW g::nV o::nU f c::vw A::vv P::vu d n::(7,jH H)::GJ L x i)) else xT ae (S.mk 117 (xS on x i) (zj g o na np nh nl::nW g::nV o::nU f c::vw A::vv P::vu d n::(7,jH H)::GJ L x i)))) else ae (PX.exit 0,S.mk 117 Z3o (zj g o na np nh nl::nW g::nV o::nU f c::vw A::vv P::vu d n::ZaG H L)))=(cC [] [] [(13,ah (aR 45 13) qeC)] 45 3 (gaH x g o f c d n na np nh nl A P H L on i)) ae:=by kernel_rfl
def r9(e:ao->Option Bool)(y:bj):=λz=>if y.kind=0/\y.node=z then some y.dir else e z
def kD(d:D->Option D)(e:ao->Option Bool):= ∀z,d (aL z)=(e z).map D.bool
structure sa(t:Tl)(na np nh nl:Nat)(A P H L:List D):Prop where
 na:na=t.a.length
 np:np=t.p.length
 nh:nh=t.h.length
 nl:nl=t.g.length
 a:A=t.a.map aL
 p:P=t.p.map bn
 h:H=t.h.map cV
 l:L=t.g.map cV
abbrev gaE(g:List ar)(o:List aF)(f:D->Option D)(c:Int)(d:D->Option D)(n:Int)(na np nh nl:Nat)(A P H L:List D):S:=⟨117,[(0,.ref 0 0 0)],vwR g o f c d n na np nh nl A P H L⟩
def qkQ:S->K (PX×S):=λs ae=> ∃x g o f c d n na np nh nl A P H L on t N e,s.mq [4,5,7,8]=gaH x g o f c d n na np nh nl A P H L on 0/\(sa t na np nh nl A P H L/\kD d e/\wN N t/\N<=300000000/\x.ops.length<=200/\ ∀y∈x.ops,y.cu.length<=200)/\
 ∀d' n' qf qg qh cQ A' P' H' L',sa (JW on x.s x.ops t) qf qg qh cQ A' P' H' L'->kD d' (x.ops.foldl r9 e)->ae (.exit 0,gaE g o f c d' n' qf qg qh cQ A' P' H' L')
abbrev qkR(g:List ar)(o:List aF)(f:D->Option D)(c:Int)(d:D->Option D)(n:Int)(na np nh nl:Nat)(A P H L:List D):List (Nat×En):=[(0,⟨0,some 0,vwB g.length o.length na np nh nl⟩),(1,⟨0,some 1,pW false g⟩),(2,⟨0,some 2,nj false o⟩),(3,⟨0,some 3,onM f c⟩),(4,⟨0,some 4,.arr 49 false A⟩),(5,⟨0,some 5,.arr 108 false P⟩),(6,⟨0,some 6,qcG d n⟩),(7,⟨0,some 7,.arr 121 false H⟩),(8,⟨0,some 8,.arr 121 false L⟩)]
theorem qoa x g o f c d n na np nh nl A P H L ae:(ob (bO PR (103:TypeId) (aQ (f (D.agg [kL x,kc x])) jd)) (∃bm bp bq GK mF d_1 iC kY kZ mO iA Cd Ce Cf xU on t N e,S.mk 117 (gD::S6::(4,Pi.P.d (D.bool (Option.isSome (f (D.agg [kL x,kc x])))))::S5 x::S4 x::Z3q) [zj g o na np nh nl,nW g,nV o,nU f c,vw A,vv P,vu d n,(7,jH H),(8,jH L),(9,CV x)]=S.mk 117 (gD::S6::XA on::S5 bm::S4 bm::Z3q) [zj bp bq kY kZ mO iA,nW bp,nV bq,nU GK mF,vw Cd,vv Ce,vu d_1 iC,(7,jH Cf),(8,jH xU),(9,CV bm)]/\(sa t kY kZ mO iA Cd Ce Cf xU/\kD d_1 e/\wN N t/\N<=300000000/\List.length (ar.ops bm)<=200/\ ∀y,y∈ar.ops bm->K9 y)/\ ∀d' n' qf qg qh cQ A' P' H' L',sa (JW on (ar.s bm) (ar.ops bm) t) qf qg qh cQ A' P' H' L'->kD d' (List.foldl r9 e (ar.ops bm))->ae (Pi.P.dz [],(0,En.mk 0 (some 0) (Obj.box (74:TypeId) [rP bp,wR bq,mZ,Ey qf,Pi.P.sl 6 0 qg,Pi.P.mp 4 0,Pi.P.sl 7 0 qh,Pi.P.sl 8 0 cQ]))::nW bp::nV bq::nU GK mF::(4,En.mk 0 (some 6) (nP d' n'))::(5,za A')::(6,EF P')::ZaG H' L')))=(gB [] [] [(3,ah (aR 45 3) qkQ)] 45 [.ref 0 0 0,.d (bZ x)] (qkR g o f c d n na np nh nl A P H L)) ae:=by kernel_rfl
theorem eF{n m b}{l:List D}{z:D}(h:n=m)(hl:l.length=m)(hb:m<=1000000000000)(hz:b<=100):(Nat.ble n l.length&&aG (n+List.length [z]) b)=true:=by rw[zac];refine⟨by rw[zcf];omega,cL (zaL (Nat.mul_le_mul (by simp only[zao,zav];omega:n+List.length [z]<=1000000000001) hz) (by omega)) (by simp only[zao,zav];omega)⟩
theorem sa.go{t na np nh nl A P H L}(h:sa t na np nh nl A P H L){on s y}{k:Nat}{i}(hi:(k:Int)=i){cQ L'}(hg:vz on y nl L cQ L'):
  (gm on y=true->gL on y=true->sa (WE on s t y k) (na+1) (np+1) (nh+1) cQ (List.take na A++[aL (s.1,s.2,i)]) (List.take np P++[bn (tU y)]) (List.take nh H++[cV (y.node,s)]) L')/\
  (gm on y=true->gL on y=false->sa (WE on s t y k) (na+1) (np+1) nh cQ (List.take na A++[aL (s.1,s.2,i)]) (List.take np P++[bn (tU y)]) H L')/\
  (gm on y=false->gL on y=true->sa (WE on s t y k) na np (nh+1) cQ A P (List.take nh H++[cV (y.node,s)]) L')/\
  (gm on y=false->gL on y=false->sa (WE on s t y k) na np nh cQ A P H L'):=by
 obtain⟨rfl,rfl,rfl,rfl,rfl,rfl,rfl,rfl⟩:=h;obtain⟨rfl,rfl⟩:=hg;subst hi;have hl:t.g.map cV++(if on=true then(Kd y).map cV else [])=(if on=true then t.g++y.cu.map (λd=>(y.node,d)) else t.g).map cV:=by
  cases on
  ·simp
  simp[Kd]
 have t1:List.take t.a.length (t.a.map aL)=t.a.map aL:=zak (by simp);have t2:List.take t.p.length (t.p.map bn)=t.p.map bn:=zak (by simp);have t3:List.take t.h.length (t.h.map cV)=t.h.map cV:=zak (by simp);rw[t1,t2,t3,hl];refine⟨λh1 h2=> ?_,λh1 h2=> ?_,λh1 h2=> ?_,λh1 h2=> ?_⟩<;>(unfold WE;rw[h1,h2];constructor<;>simp)
theorem qhr a b:D.gH (aL a) (aL b)=(a==b):=by rw[zaG,D.bS,za1];exact⟨qeB,λh=>by rw[h]⟩
theorem kD.mk{d e}(h:kD d e){y}(hk:y.kind=0):kD (λk'=>bif D.gH (aL y.node) k' then some (.bool y.dir) else d k') (r9 e y):=λz=>by
 unfold r9;show(bif D.gH (aL y.node) (aL z) then some (D.bool y.dir) else d (aL z))=_;rw[qhr,h z];by_cases hz:y.node=z
 ·rw[zap ⟨hk,hz⟩,show(y.node==z)=true by simpa using hz];rfl
 rw[zan (λhh=>hz hh.2),show(y.node==z)=false by simpa using hz];rfl
theorem kD.no{d e}(h:kD d e){y}(hk: ¬y.kind=0):kD d (r9 e y):=λz=>by unfold r9;rw[h z,zan (λhh=>hk hh.1)]
structure GaP where
 x:ar
 y:bj
 g:List ar
 o:List aF
 f:D->Option D
 c:Int
 d:D->Option D
 n:Int
 na:Nat
 np:Nat
 nh:Nat
 A:List D
 P:List D
 H:List D
 on:Bool
 i:Int
 L:List D
abbrev GaB:=(D->Option D)×Int×Nat×Nat×Nat×Nat×List D×List D×List D×List D
structure GaQ where
 x:ar
 g:List ar
 o:List aF
 f:D->Option D
 c:Int
 on:Bool
 t:Tl
 N:Nat
 e:ao->Option Bool
section
variable{X:XF}{w0:World}(hX:cz PR w0 X.cf)
include hX
theorem qhs:LN w0 45 13 (ah (aR 45 13) qeC):=LN.qkN hX [4,5,7,8] Wr (by kernel_rfl) (by kernel_rfl) (by kernel_rfl) .nil .nil .nil
 (A:=GaP) (B:=Nat×List D) (λa b j=>qhq a.x a.y a.g a.o a.f a.c a.d a.n a.na a.np a.nh b.1 a.A a.P a.H b.2 a.on a.i j) (λa=>a.y.cu.length)
 (λa k b=>(a.y.cu.length<=200/\a.L.length<=100000000000)/\b.1=b.2.length/\b.2=a.L++(if a.on=true then(a.y.cu.take k).map (λs=>cV (a.y.node,s)) else []))
 (λa x=> ∃cQ L',vz a.on a.y a.L.length a.L cQ L'/\x=(.exit 2,gaH a.x a.g a.o a.f a.c a.d a.n a.na a.np a.nh cQ a.A a.P a.H L' a.on a.i))
 (by
  rintro a ⟨nl,L⟩ j ae h0 E9 Es ⟨⟨hd,hL⟩,vL,Na⟩ hn ho;dsimp only at*
  (rw[<-XB];delta rb nL nM qd sP kc kL CV Zt Za9 yW S4 S5 fk XA S6 b9 gD S7 Ey mZ eH wR fS rP zj VY yg yh yi BY CS BZ CT CU yV B0 B1 B2 B3 B4 wE wF wG yj Zal Zam jH nP vu EF vv za vw nU gb nV tT nW Zl Zm JG Za6 Zaa Z8 Z7 Zh Ze Za2 Za3 yq)
  have e1:D.nth (a.y.cu.map bC) j.toNat=bC a.y.cu[j.toNat]:=az _ _ _ Es;have nq:(a.y.cu.take (j.toNat+1))=a.y.cu.take j.toNat++[a.y.cu[j.toNat]]:=zaf Es;rw[e1];generalize a.y.cu[j.toNat]=z at*
  have hLl:L.length<=a.L.length+200:=by
   rw[Na,zaj];split
   ·rw[zaa,zau];omega
   simp
  have N5:j<((a.y.cu.map bC).length:Int):=by rw[zaa];exact E9
  refine bF N5 (ak ⟨h0,N5⟩ (aq (iO _) (ay (λHx=>aq (eF vL rfl (by omega) (by decide)) (ak (by omega) (hn (nl+1,List.take nl L++[cV (a.y.node,z)]) _ rfl ⟨⟨hd,hL⟩,?_,?_⟩))) λqht=>ak (by omega) (hn (nl,L) _ rfl ⟨⟨hd,hL⟩,vL,?_⟩))))
  ·simp[vL]
  ·rw[Hx,zap rfl] at Na⊢;rw[nq,vL,zai,Na,zaC,zaK];rfl
  rw[qht] at Na⊢;simpa using Na)
 (by
  rintro a ⟨nl,L⟩ j ae hj ⟨⟨hd,hL⟩,vL,Na⟩ ho;dsimp only at*
  (rw[<-XB];delta rb nL nM qd sP kc kL CV Zt Za9 yW S4 S5 fk XA S6 b9 gD S7 Ey mZ eH wR fS rP zj VY yg yh yi BY CS BZ CT CU yV B0 B1 B2 B3 B4 wE wF wG yj Zal Zam jH nP vu EF vv za vw nU gb nV tT nW Zl Zm JG Za6 Zaa Z8 Z7 Zh Ze Za2 Za3 yq)
  refine mD (by simp only[zaa];omega) (ho _ (λh=>by cases h) ⟨nl,L,⟨vL,?_⟩,rfl⟩);rw[Na,zai];cases a.on
  ·rfl
  simp[Kd,zb5])
 (by rintro s ae ⟨x,y,g,o,f,c,d,n,na,np,nh,nl,A,P,H,L,on,i,hs,⟨h1,h2,h3⟩,hp⟩;refine⟨⟨x,y,g,o,f,c,d,n,na,np,nh,A,P,H,on,i,L⟩,(nl,L),hs,⟨⟨h1,by rw[<-h2];exact h3⟩,h2,by simp⟩,?_⟩;rintro z ⟨cQ,L',hg,rfl⟩;exact hp cQ L' ⟨hg.1,hg.2⟩)
theorem qkS:LN w0 45 3 (ah (aR 45 3) qkQ):=LN.qkN hX [4,5,7,8] Wr (by kernel_rfl) (by kernel_rfl) (by kernel_rfl) .nil .nil (.cons (qhs hX) .nil)
 (A:=GaQ) (B:=GaB) (λa b i=>gaH a.x a.g a.o a.f a.c b.1 b.2.1 b.2.2.1 b.2.2.2.1 b.2.2.2.2.1 b.2.2.2.2.2.1 b.2.2.2.2.2.2.1 b.2.2.2.2.2.2.2.1 b.2.2.2.2.2.2.2.2.1 b.2.2.2.2.2.2.2.2.2 a.on i) (λa=>a.x.ops.length)
 (λa k b=>(wN a.N a.t/\a.N<=300000000/\a.x.ops.length<=200/\ ∀y∈a.x.ops,y.cu.length<=200)/\sa (JW a.on a.x.s (a.x.ops.take k) a.t) b.2.2.1 b.2.2.2.1 b.2.2.2.2.1 b.2.2.2.2.2.1 b.2.2.2.2.2.2.1 b.2.2.2.2.2.2.2.1 b.2.2.2.2.2.2.2.2.1 b.2.2.2.2.2.2.2.2.2/\kD b.1 ((a.x.ops.take k).foldl r9 a.e))
 (λa x=> ∃d' n' qf qg qh cQ A' P' H' L',sa (JW a.on a.x.s a.x.ops a.t) qf qg qh cQ A' P' H' L'/\kD d' (a.x.ops.foldl r9 a.e)/\x=(.exit 0,gaE a.g a.o a.f a.c d' n' qf qg qh cQ A' P' H' L'))
 (by
  rintro⟨x,g,o,f,c,on,t,N,e⟩ ⟨d,n,na,np,nh,nl,A,P,H,L⟩ i ae h0 bJ bs ⟨hc,hR,hD⟩ hn ho;dsimp only at*
  (rw[<-qeD];delta jH ZaG b9 gD Z3o nP vu S7 Ey mZ eH wR fS rP zj EF vv za vw kc kL Ze jS V1 V2 V3 Zas Zax ZaF Z55 Z54 Z53 rb nL nM qd sP CV GJ Zaq Zt ZE Zap ZaE ZaD mC A2 KY MB Py Pz PA nU gb nV tT nW Zay Z5 Za9 yW S4 S5 Za6 fk XA S6 xS Zl Zm Z8 Z7 Zh K9 VY yg yh yi BY CS BZ CT CU yV B0 B1 B2 B3 B4 wE wF wG yj Zal Zam JG xT yq Zat Zar Z4W)
  have k7:=(hc.1.ops (on:=on) (s:=x.s) hc.2.2.2 i.toNat (by omega)).mono (m:=300000200) (by omega);have e1:D.nth (x.ops.map eT) i.toNat=eT x.ops[i.toNat]:=az _ _ _ bs;have lu:=Bp (on:=on) (s:=x.s) (t:=t) bs;have RX:(x.ops.take (i.toNat+1)).foldl r9 e=r9 ((x.ops.take i.toNat).foldl r9 e) x.ops[i.toNat]:=by rw[zaf bs,zaY];rfl
  have iT:=hc.2.2.2 _ (zas bs);have hi2:((i.toNat:Nat):Int)=i:=by omega
  rw[e1];generalize x.ops[i.toNat]=y at lu RX iT⊢;generalize JW on x.s (x.ops.take i.toNat) t=t1 at lu hR k7;generalize (x.ops.take i.toNat).foldl r9 e=e2 at RX hD;have u0:D.aj (D.au (eT y) 0)=y.kind:=rfl;have ux:=MI y;simp only[u0];have gQ:i<((x.ops.map eT).length:Int):=by rw[zaa];exact bJ
  refine bF gQ (ak ⟨h0,gQ⟩ (aq ux ?_));clear e1 ux;by_cases fO:y.kind=0
  ·rw[show(y.kind==0)=true by simp[fO],show(y.kind==1)=false by simp[fO],show(y.kind !=2)=true by simp[fO]];cases on with
   |true=>simp only[zbY,zbl];exact aq (eF hR.na (by rw[hR.a,zaa]) (by have:=k7.2.1;omega) (by decide)) (aq (eF hR.np (by rw[hR.p,zaa]) (by have:=k7.1;have:=k7.2.1;omega) (by decide)) (aq (eF hR.nh (by rw[hR.h,zaa]) (by have:=k7.2.2.1;omega) (by decide)) (⟨x,y,g,o,f,c,(λk'=>bif D.gH (aL y.node) k' then some (.bool y.dir) else d k'),(bif (d (aL y.node)).isSome then n else n+1),na+1,np+1,nh+1,nl,List.take na A++[aL (x.s.1,x.s.2,i)],List.take np P++[bn (tU y)],List.take nh H++[cV (y.node,x.s)],L,true,i,rfl,⟨iT,hR.nl.trans (by rw[hR.l,zaa]),by have:=hR.nl;have:=k7.2.2.2;omega⟩,λcQ L' lI=>ak (by omega) (hn ((λk'=>bif D.gH (aL y.node) k' then some (.bool y.dir) else d k'),(bif (d (aL y.node)).isSome then n else n+1),na+1,np+1,nh+1,cQ,List.take na A++[aL (x.s.1,x.s.2,i)],List.take np P++[bn (tU y)],List.take nh H++[cV (y.node,x.s)],L') _ rfl ⟨hc,by rw[lu];exact(hR.go hi2 lI).1 (by simp[gm,fO]) (by simp[gL,fO]),by rw[RX];exact hD.mk fO⟩)⟩)))
   |false=>simp only[zbY,zbl];exact aq (eF hR.na (by rw[hR.a,zaa]) (by have:=k7.2.1;omega) (by decide)) (aq (eF hR.np (by rw[hR.p,zaa]) (by have:=k7.1;have:=k7.2.1;omega) (by decide)) (⟨x,y,g,o,f,c,(λk'=>bif D.gH (aL y.node) k' then some (.bool y.dir) else d k'),(bif (d (aL y.node)).isSome then n else n+1),na+1,np+1,nh,nl,List.take na A++[aL (x.s.1,x.s.2,i)],List.take np P++[bn (tU y)],H,L,false,i,rfl,⟨iT,hR.nl.trans (by rw[hR.l,zaa]),by have:=hR.nl;have:=k7.2.2.2;omega⟩,λcQ L' lI=>ak (by omega) (hn ((λk'=>bif D.gH (aL y.node) k' then some (.bool y.dir) else d k'),(bif (d (aL y.node)).isSome then n else n+1),na+1,np+1,nh,cQ,List.take na A++[aL (x.s.1,x.s.2,i)],List.take np P++[bn (tU y)],H,L') _ rfl ⟨hc,by rw[lu];exact(hR.go hi2 lI).2.1 (by simp[gm,fO]) (by simp[gL,fO]),by rw[RX];exact hD.mk fO⟩)⟩))
  by_cases fU:y.kind=1
  ·rw[show(y.kind==0)=false by simp[fO],show(y.kind==1)=true by simp[fU],show(y.kind !=2)=true by simp[fU]];cases on with
   |true=>simp only[zbY,zbl];exact aq (eF hR.na (by rw[hR.a,zaa]) (by have:=k7.2.1;omega) (by decide)) (aq (eF hR.np (by rw[hR.p,zaa]) (by have:=k7.1;have:=k7.2.1;omega) (by decide)) (aq (eF hR.nh (by rw[hR.h,zaa]) (by have:=k7.2.2.1;omega) (by decide)) (⟨x,y,g,o,f,c,d,n,na+1,np+1,nh+1,nl,List.take na A++[aL (x.s.1,x.s.2,i)],List.take np P++[bn (tU y)],List.take nh H++[cV (y.node,x.s)],L,true,i,rfl,⟨iT,hR.nl.trans (by rw[hR.l,zaa]),by have:=hR.nl;have:=k7.2.2.2;omega⟩,λcQ L' lI=>ak (by omega) (hn (d,n,na+1,np+1,nh+1,cQ,List.take na A++[aL (x.s.1,x.s.2,i)],List.take np P++[bn (tU y)],List.take nh H++[cV (y.node,x.s)],L') _ rfl ⟨hc,by rw[lu];exact(hR.go hi2 lI).1 (by simp[gm,fU]) (by simp[gL,fU]),by rw[RX];exact hD.no fO⟩)⟩)))
   |false=>simp only[zbY,zbl];exact⟨x,y,g,o,f,c,d,n,na,np,nh,nl,A,P,H,L,false,i,rfl,⟨iT,hR.nl.trans (by rw[hR.l,zaa]),by have:=hR.nl;have:=k7.2.2.2;omega⟩,λcQ L' lI=>ak (by omega) (hn (d,n,na,np,nh,cQ,A,P,H,L') _ rfl ⟨hc,by rw[lu];exact(hR.go hi2 lI).2.2.2 (by simp[gm,fU]) (by simp[gL,fU]),by rw[RX];exact hD.no fO⟩)⟩
  by_cases qj:y.kind=2
  ·rw[show(y.kind==0)=false by simp[fO],show(y.kind==1)=false by simp[fU],show(y.kind !=2)=false by simp[qj]];cases on with
   |true=>simp only[zbl];exact⟨x,y,g,o,f,c,d,n,na,np,nh,nl,A,P,H,L,true,i,rfl,⟨iT,hR.nl.trans (by rw[hR.l,zaa]),by have:=hR.nl;have:=k7.2.2.2;omega⟩,λcQ L' lI=>ak (by omega) (hn (d,n,na,np,nh,cQ,A,P,H,L') _ rfl ⟨hc,by rw[lu];exact(hR.go hi2 lI).2.2.2 (by simp[gm,qj]) (by simp[gL,qj]),by rw[RX];exact hD.no fO⟩)⟩
   |false=>simp only[zbl];exact⟨x,y,g,o,f,c,d,n,na,np,nh,nl,A,P,H,L,false,i,rfl,⟨iT,hR.nl.trans (by rw[hR.l,zaa]),by have:=hR.nl;have:=k7.2.2.2;omega⟩,λcQ L' lI=>ak (by omega) (hn (d,n,na,np,nh,cQ,A,P,H,L') _ rfl ⟨hc,by rw[lu];exact(hR.go hi2 lI).2.2.2 (by simp[gm,qj]) (by simp[gL,qj]),by rw[RX];exact hD.no fO⟩)⟩
  rw[show(y.kind==0)=false by simp[fO],show(y.kind==1)=false by simp[fU],show(y.kind !=2)=true by simp[qj]];cases on with
  |true=>simp only[zbl];exact aq (eF hR.nh (by rw[hR.h,zaa]) (by have:=k7.2.2.1;omega) (by decide)) (⟨x,y,g,o,f,c,d,n,na,np,nh+1,nl,A,P,List.take nh H++[cV (y.node,x.s)],L,true,i,rfl,⟨iT,hR.nl.trans (by rw[hR.l,zaa]),by have:=hR.nl;have:=k7.2.2.2;omega⟩,λcQ L' lI=>ak (by omega) (hn (d,n,na,np,nh+1,cQ,A,P,List.take nh H++[cV (y.node,x.s)],L') _ rfl ⟨hc,by rw[lu];exact(hR.go hi2 lI).2.2.1 (by simp[gm,fO,fU]) (by simp[gL,qj]),by rw[RX];exact hD.no fO⟩)⟩)
  |false=>simp only[zbl];exact⟨x,y,g,o,f,c,d,n,na,np,nh,nl,A,P,H,L,false,i,rfl,⟨iT,hR.nl.trans (by rw[hR.l,zaa]),by have:=hR.nl;have:=k7.2.2.2;omega⟩,λcQ L' lI=>ak (by omega) (hn (d,n,na,np,nh,cQ,A,P,H,L') _ rfl ⟨hc,by rw[lu];exact(hR.go hi2 lI).2.2.2 (by simp[gm,fO]) (by simp[gL]),by rw[RX];exact hD.no fO⟩)⟩)
 (by
  rintro⟨x,g,o,f,c,on,t,N,e⟩ ⟨d,n,na,np,nh,nl,A,P,H,L⟩ i ae hi ⟨hc,hR,hD⟩ ho;dsimp only at*
  (rw[<-qeD];delta jH ZaG b9 gD Z3o nP vu S7 Ey mZ eH wR fS rP zj EF vv za vw kc kL Ze jS V1 V2 V3 Zas Zax ZaF Z55 Z54 Z53 rb nL nM qd sP CV GJ Zaq Zt ZE Zap ZaE ZaD mC A2 KY MB Py Pz PA nU gb nV tT nW Zay Z5 Za9 yW S4 S5 Za6 fk XA S6 xS Zl Zm Z8 Z7 Zh K9 VY yg yh yi BY CS BZ CT CU yV B0 B1 B2 B3 B4 wE wF wG yj Zal Zam JG xT yq Zat Zar Z4W)
  rw[zai] at hR hD;exact mD (by simp only[zaa];omega) (ho _ (λh=>by cases h) ⟨d,n,na,np,nh,nl,A,P,H,L,hR,hD,rfl⟩))
 (by rintro s ae ⟨x,g,o,f,c,d,n,na,np,nh,nl,A,P,H,L,on,t,N,e,hs,⟨h1,h2,h3⟩,hp⟩;refine⟨⟨x,g,o,f,c,on,t,N,e⟩,(d,n,na,np,nh,nl,A,P,H,L),hs,⟨h3,h1,h2⟩,?_⟩;rintro z ⟨d',n',qf,qg,qh,cQ,A',P',H',L',g1,g2,rfl⟩;exact hp d' n' qf qg qh cQ A' P' H' L' g1 g2)
end
end Pi
