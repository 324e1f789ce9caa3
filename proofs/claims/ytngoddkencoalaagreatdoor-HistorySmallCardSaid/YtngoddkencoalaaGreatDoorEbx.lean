/- The texts Gn3H Ls LsF LsH Lt GnF LtH. -/
import Derived.Test.YtngoddkencoalaaGreatDoorEbw
namespace Pi
open Go Go.Proofs
set_option maxRecDepth 100000
set_option maxHeartbeats 0
theorem uz{a b:Int}(h:0<=a)(hb:0<b):0<=a.tmod b/\a.tmod b<b:=⟨Int.tmod_nonneg b h,Int.tmod_lt_of_pos a hb⟩
theorem b8.smS{i:Int}{l:List ak}(h:b8 i l)(hi:i<=1000):Pu l:=by
 have h1:=h.len;have h2:=h.dq;refine⟨⟨by omega,λg hg=>⟨λo ho=> ?_,?_,?_⟩⟩,?_⟩
 ·have h3:=(h.sm g hg).2.2.2 o ho;have h4:=uh (h.Ko g hg) o ho;exact⟨by omega,by omega,by omega⟩
 ·have h3:=(h.sm g hg).2.2.1;omega
 ·have:=oN (Et (h.Ko g hg)).2.2.1;omega
 show Pi.dq l<=1000;omega
theorem qit{q:Int}(h:q=0\/q=1\/q=2):((0<=IntKind.wrap IntKind.u8 (q+1)/\IntKind.wrap IntKind.u8 (q+1)<=((3:Nat):Int))/\(0<=q/\q<=((IntKind.wrap IntKind.u8 (q+1)).toNat:Int)))/\dQ (List.drop q.toNat (List.take (IntKind.wrap IntKind.u8 (q+1)).toNat [97,98,99]))=true:=by rcases h with rfl |rfl |rfl<;>exact⟨by decide,by kernel_rfl⟩
theorem qiu{k d:Int}(hk:0<=k/\k<5)(hd:0<=d/\d<2):nB (List.drop k.toNat (List.take (k+1+d).toNat [117,118,119,120,121,122]))=true/\(List.drop k.toNat (List.take (k+1+d).toNat ([117,118,119,120,121,122]:List UInt8))).length<=2:=by
 obtain hk:k=0\/k=1\/k=2\/k=3\/k=4:=by omega
 obtain hd:d=0\/d=1:=by omega
 rcases hk with rfl |rfl |rfl |rfl |rfl<;>rcases hd with rfl |rfl<;>exact⟨by kernel_rfl,by decide⟩
theorem qbb{i:Int}{l:List ak}(h:b8 i l)(hi:i<=1000)(x:av):mT (fG l x):=by
 have h1:=h.len;have h2:=h.dq;have h3:=qX x l;have hr: ∀r∈fG l x,r.2.2.length<=2/\r.2.1.2.2=0:=λr hr=>by obtain⟨g,hg,o,ho,hk,rfl⟩:=Hy hr;obtain⟨m,hm⟩:=op1 h hg ho;have:=Mk hm hk;exact⟨((h.sm g hg).2.2.2 o ho).1,by rw[this]⟩
 have key: ∀L:List bS,(∀r∈L,r.2.2.length<=2)->Ie L<=2*L.length:=λL=>by
  induction L with
  |nil=>intro _;simp[Ie]
  |cons r L ih=>
   intro hL;have h4:=ih λr hr=>hL r (.tail _ hr);have h5:=hL r (.head _);have h6:=zU r.2.2;have h7:Ie (r::L)=(qx r.2.2).length+Ie L:=by simp[Ie]
   rw[h7,zap];omega
 refine⟨by omega,?_,λr h=> ?_⟩
 ·have:=key _ λr h=>(hr r h).1;omega
 have:=hr r h;rw[this.2];exact⟨by omega,by omega,by omega⟩
theorem ko{α:Type}(f:α->D)(o:List α):List.take o.length (o.map f)=o.map f:=zah (by simp)
theorem qfJ{l:List ak}{e:List av}(he: ∀y∈e,iy l y)(hs:e.Pairwise λa b=>mO a b=true){q d:Int}(hq:0<=q/\q<(e.length:Int))(hd:0<=d/\d<3):
  (∀y∈(e.drop q.toNat).take ((min (e.length:Int) (q+1+d)).toNat-q.toNat),iy l y)/\((e.drop q.toNat).take ((min (e.length:Int) (q+1+d)).toNat-q.toNat)).Pairwise (λa b=>mO a b=true)/\
   1<=((e.drop q.toNat).take ((min (e.length:Int) (q+1+d)).toNat-q.toNat)).length/\((e.drop q.toNat).take ((min (e.length:Int) (q+1+d)).toNat-q.toNat)).length<=3:=by
 refine⟨λy hy=>he y (zbV (zbq hy)),hs.sublist ((zcX _ _).trans (List.drop_sublist _ _)),?_,?_⟩
 ·rw[zay,zbf];omega
 rw[zay];omega
section
variable{X:XF}
theorem qfK:FD X 77 Vx:=FD.mk (H:=[]) (hk:=[]) (by kernel_rfl) .nil .nil (by
 intro ps R ae hh;obtain⟨l,n,rfl,rfl,⟨hl,hn⟩,hp⟩:=hh
 (rw[<-qfw];delta gD Zdf Z7 Za Z9 Zj qf wz Zde)
 refine ao (by omega) λc hc=> ?_;have hm:(l.map bH).length=l.length:=zaa ..;rw[hm] at hc⊢;have hq:=uz hn.1 (show 0<c+1 by omega);refine ao (by omega) (aq (by rw[zaN (by omega)];rfl) (Ai (λ_=>hp aB (.inl rfl)) λh=>ao (by omega) ?_));generalize n.tmod (c+1)=q at*
 have bG:q.toNat<l.length:=by omega
 rw[ay _ _ _ bG];exact aq (l6 _) (hp _ (.inr (zas bG))))
theorem qiv:FD X 50 qfx:=FD.mk (H:=[(76,qfs),(77,Vx),(78,hJn),(32,zM),(79,qfk),(80,qfq)]) (hk:=[]) (by kernel_rfl)
  (.cons qif (.cons qfK (.cons qj5 (.cons Kn (.cons qii (.cons qik .nil)))))) .nil (by
 intro ps R ae hh;obtain⟨i,l,v,r,x,rfl,rfl,⟨hl,hi,hx⟩,hp⟩:=hh
 (rw[<-qj7];delta ZO Pa gD Pb Z3 z7 Z7 gU gT im gJ gK iq xa Zdc Za Z9 Zd7 V3 Z2N V6 Z2P Zdb Z2y dA iR Zx ve jf cr cS Zdd Zd6 gV gW Zd8 Zd9 Zd3 qp Zd2 ma Zd0 UM Zda dX dR UL V4 Ci Bb rn ZR ZcZ Zd5 Vy Zd1 Zcv fI)
 have hL:=hl.known v;have hlen:=hL.len;have Bd:=hL.dq;have hq:=uz hx.b.1 (show(0:Int)<3 by decide);have FT:=qit (q:=x.b.tmod 3) (by omega);have hk:=uz hx.c.1 (show(0:Int)<5 by decide);have hd:=uz hx.c.1 (show(0:Int)<2 by decide);have hd3:=uz hx.c.1 (show(0:Int)<3 by decide);have huv:=qiu hk hd;have hc:=hx.c;have hb:=hx.b;have h0:(aU l v).length<=1000000/\dq (aU l v)<=1000:=by omega
 refine⟨_,true,rfl,rfl,h0,λds hds=>⟨_,false,rfl,rfl,h0,λfs hfs=>ao FT.1.1 (ao FT.1.2 ?_)⟩⟩;have hrd: ∀y,(y=aB\/y∈ds)->(y=aB\/iy (aU l v) y):=λy h=>h.imp_right λh=>Mn hL (hds▸h);have hrf: ∀y,(y=aB\/y∈fs)->(y=aB\/iy (aU l v) y):=λy h=>h.imp_right λh=>Mn hL (hfs▸h);have hra: ∀y,(y=aB\/y∈fs++ds)->(y=aB\/iy (aU l v) y):=λy h=>h.elim .inl λh=>(zaI.1 h).elim (λh=>hrf y (.inr h)) λh=>hrd y (.inr h);have hdl:ds.length<=1000000:=by rw[hds];have:=nJ true (aU l v);omega
 have wI:fs.length<=1000000:=by rw[hfs];have:=nJ false (aU l v);omega
 have K5:(fs++ds).length<=1000000:=by have:=nJ true (aU l v);have:=nJ false (aU l v);rw[zan,hfs,hds];omega
 have hdp: ∀(Q:av->Prop),(∀y,(y=aB\/iy (aU l v) y)->Q y)-> ∃(m:List av) (n:Int),[P.d (D.sl 3 (List.take ds.length (ds.map bH))),P.d (D.int .u8 x.a)]=[P.d (D.sl 3 (m.map bH)),P.d (D.int .u8 n)]/\EqR [] []/\(m.length<=1000000/\0<=n/\n<=255)/\ ∀y,(y=aB\/y∈m)->Q y:=
  λQ h=>⟨ds,x.a,by rw[ko],rfl,⟨hdl,hx.a⟩,λy hy=>h y (hrd y hy)⟩
 have qbc: ∀y:av,(y.1==(0:Int)&&(y.2.1==(0:Int)&&true)&&(y.2.2==(0:Int)&&true))=(y==aB):=λy=>uk y aB;have dP: ∀y:av,(y=aB\/iy (aU l v) y)->(!(y==aB))=true->iy (aU l v) y:=λy h h1=>h.resolve_left λe=>by rw[e] at h1;simp at h1
 refine⟨fs,x.a,by rw[ko],rfl,⟨wI,hx.a⟩,λf hf=> ?_⟩;have hf:=hrf f hf;refine Ai (λ_=>hdp _ λy hy=>hp (Hu (fW l v r) y _ true) true λ_=>⟨⟨_,Ml hl hy FT.2 true⟩,by simp[Hu],by simp[Hu]⟩) λ_=>
  Ai (λ_=>hdp _ λy hy=>hp (Hu (fW l v r) y _ false) true λ_=>⟨⟨_,Ml hl hy FT.2 false⟩,by simp[Hu],by simp[Hu]⟩) λ_=>
  Ai (λ_=>⟨fs,ds,by rw[ko,ko],rfl,⟨wI,hdl⟩,λa ha=>⟨a,x.c,by rw[ko],rfl,⟨by rw[ha];exact K5,hx.c⟩,λy hy=>hdp _ λz hz=> ?_⟩⟩) λ_=>
  Ai (λ_=>⟨fs,ds,by rw[ko,ko],rfl,⟨wI,hdl⟩,λa ha=>⟨a,x.c,by rw[ko],rfl,⟨by rw[ha];exact K5,hx.c⟩,λy hy=>⟨aU l v,rfl,rfl,hL.smS (by omega),λon t p it EO ht _ _=>⟨t.h,t.g,y,rfl,rfl,?_,λd fa=> ?_⟩⟩⟩⟩) λ_=> ?_
 ·have hy:=hra y (by rw[<-ha];exact hy);rw[qbc];exact hp (U5 y z _) (!(y==aB)) λh=>⟨⟨_,qaR hl (dP y hy h) hz FT.2⟩,by simp[U5],by simp[U5]⟩
 ·have hR:=hL.right;have hB:=Cg (on:=on) (l:=aU l v) hL.Ko _ (zak _);rw[zaj] at hB;rw[ht,hR];have h1:=hB.2.2.1;have h2:=hB.2.2.2;exact⟨by omega,by omega⟩
 ·have hy:=hra y (by rw[<-ha];exact hy);have hd4:=qaY hL (by omega) (on:=on) (g:=t.g) (x:=y);rw[qbc,ko];rw[hL.right] at ht;rw[<-ht,<-fa] at hd4;exact hp (U6 y d) (!(y==aB)) λh=>⟨⟨_,qaS hl (dP y hy h) hd4.1 hd4.2.1 hd4.2.2⟩,by simp[U6],by simp[U6]⟩
 have hes:(aU l v).length<=1000000/\dq (aU l v)<=1000/\mT (fG (aU l v) f):=⟨h0.1,h0.2,qbb hL (by omega) f⟩
 have O0:(Kr (aU l v) f).length<=1000000:=by have:=xI (l:=fG (aU l v) f) _ (zak _);rw[zaj] at this;have:=hes.2.2.2.1;unfold Kr;rw[kX,zaa];omega
 refine Ai (λh4=>Ai (λ_=> ?_) λh=>absurd h4 h) λ_=>Ai (λ_=> ?_) λ_=> ?_
 rotate_left 2
 ·refine⟨_,f,rfl,rfl,hes,λe he=> ?_⟩;rw[qbc];have bX:ae (P.cT [P.d (eN ⟨0,aB,aB,[],false,[],aB,aB,[],[]⟩),P.d (D.bool false)],[]):=hp _ false λh=>by cases h
  refine az (λ_=>bX) λhf2=>Ai (λ_=>bX) λKT=> ?_;have hfr:iy (aU l v) f:=dP f hf (by rw[hf2];rfl);have hq2:=uz hx.b.1 (show(0:Int)<(e.length:Int) by omega);have qkt:e.length<=1000000:=by rw[he];exact O0
  have hct:=qfJ (e:=e) (λy hy=>Hz hL (he▸hy)) (by rw[he];exact OR _ _) hq2 hd3;generalize x.b.tmod (e.length:Int)=q at*
  generalize x.c.tmod 3=d at*
  refine ao (by omega) (aq (by rw[zaN (by omega)];rfl) (ao (by omega) (ao (by omega) (ao (by omega) (ao (by omega) (ao (by omega) ?_))))));rw[<-List.map_drop,<-List.map_take];exact hp (qaQ f _) true λ_=>⟨⟨_,qaU hl hfr hct.1 hct.2.1 hct.2.2.1 hct.2.2.2⟩,by simp[qaQ],hct.2.2.2⟩
 all_goals
  refine ao (by omega) ⟨_,f,rfl,rfl,hes,λe he=>⟨e,x.b,by rw[ko],rfl,⟨by rw[he];exact O0,hx.b⟩,λa ha=> ?_⟩⟩;rw[qbc];have ha:a=aB\/iy (aU l v) a:=ha.imp_right λh=>Hz hL (he▸h);generalize x.c.tmod 5=k at*
  generalize x.c.tmod 2=d at*
  refine ao (by omega) (ao (by omega) (ao (by omega) (ao (by omega) (ao (by omega) ?_))));exact hp (qaP (fW l v r) f a _) (!(f==aB)) λh=>⟨⟨_,qaT hl (dP f hf h) ha huv.1⟩,huv.2,by simp[qaP]⟩)
theorem jN.all{i:Int}{l:List ak}{K:List (List Int)}(h:oZ i l K){r:Int}(h1:1<=r)(h2:r<=3): ∀(M:List (List Int)) (v:List Int),jN i K r v->(∀w∈M,w∈K)->jN i K r (mgA v M)
 | [],_,hv,_=>hv
 |w::M,v,hv,hM=>jN.all h h1 h2 M (mN v w) (jN.merge h h1 h2 hv (hM w (.head _))) λx hx=>hM x (.tail _ hx)
theorem VG: ∀(M:List (List Int)) (v:List Int),dp v=true->(∀w∈M,dp w=true)->dp (mgA v M)=true
 | [],_,hv,_=>hv
 |w::M,v,hv,hM=>VG M (mN v w) (Cq hv (hM w (.head _))) λx hx=>hM x (.tail _ hx)
theorem qbd(v:List Int):cx PR 31 (D.sl 1 (a8 v))=true:=by kernel_rfl
theorem qbe:LD X 29 5 (ah (aL 29 5) qfz):=LD.idx (H:=[(47,Jl)]) (hk:=[]) (by kernel_rfl) (by kernel_rfl) (.cons Ry .nil) .nil
 (A:=List ak×List (List Int)×cH×Int×List Int) (B:=List Int) (λa v i=>dn5 a.1 a.2.1 a.2.2.1 a.2.2.2.1 v i) (λa=>a.2.1.length)
 (λa i v=>Kw a.2.2.2.2 a.2.1/\v=mgA a.2.2.2.2 (a.2.1.take i))
 (λa z=>z=(.exit 0,⟨120,[(2,.ref 0 0 0),(3,.ref 1 0 0),(4,.ref 2 0 0),(5,iD a.2.2.2.1),(6,vD (mgA a.2.2.2.2 a.2.1))],[(0,⟨0,none,bxW a.1 a.2.1⟩),(1,⟨0,none,qfy a.2.2.1⟩),(2,⟨0,none,.box 62 [.sl 3 0 0,.sl 4 0 0]⟩),(3,⟨0,none,kV false []⟩),(4,⟨0,none,arV false []⟩)]⟩))
 (by
  rintro⟨l,K,x,r,v0⟩ v i ae h0 bR aY ⟨hc,hv⟩ hn bt
  try dsimp only at*
  (rw[<-qcf];delta LI EX cr cS Px Zdi Zn ZL Zt EP s6 iQ sY bT JQ Za Z9 Zj Zx Zk ZW Zg)
  have e1:D.nth (K.map λv=>D.sl 1 (a8 v)) i.toNat=D.sl 1 (a8 K[i.toNat]):=ay _ _ _ aY;have gq:0<=i/\i<((K.map λv=>D.sl 1 (a8 v)).length:Int):=by rw[zaa];exact⟨h0,bR⟩
  have hvo:dp v=true:=by rw[hv];exact VG _ _ hc.2.1 λw hw=>hc.2.2 w (zbq hw)
  have hwo:=hc.2.2 _ (zas aY);have mb:mgA v0 (K.take (i.toNat+1))=mN v K[i.toNat]:=by rw[hv];unfold mgA;rw[zag aY,za3];rfl
  have hl1:=oN hvo;have HP:=oN hwo;have hK:=hc.1;rw[e1];generalize K[i.toNat]=w at*
  refine bz gq.2 (ao gq (aq (qbd _) ⟨v,w,rfl,rfl,⟨?_,?_⟩,ao (by omega) (hn _ ⟨hc,mb.symm⟩)⟩))
  ·unfold iN;omega
  unfold iN;omega)
 (by
  rintro⟨l,K,x,r,v0⟩ v i ae hi ⟨hc,hv⟩ bt
  try dsimp only at*
  (rw[<-qcf];delta LI EX cr cS Px Zdi Zn ZL Zt EP s6 iQ sY bT JQ Za Z9 Zj Zx Zk ZW Zg)
  refine kA (by rw[zaa];omega) (bt _ (λh=>by cases h) ?_);rw[hv,zaj];rfl)
 (by rintro s ae ⟨l,K,x,r,v,rfl,hc,hp⟩;refine⟨(l,K,x,r,v),v,rfl,⟨hc,rfl⟩,?_⟩;rintro z rfl;exact hp _ rfl)
theorem qfL:FD X 29 Mp:=FD.mk (H:=[(48,hKn),(13,V1),(46,vF),(49,Vp),(50,qfx)]) (hk:=[(5,ah (aL 29 5) qfz)]) (by kernel_rfl)
  (.cons qj4 (.cons Gp (.cons Mb (.cons qfu (.cons qiv .nil))))) (.cons qbe .nil) (by
 intro ps R ae hh;obtain⟨i,l,K,x,rfl,rfl,⟨⟨hl,hK,h0,hi⟩,hx⟩,hp⟩:=hh
 (rw[<-qj8];delta Vz Zdl EX OW Zdu ZdH ZdG Zt Zv RT wS wT wU Ab AZ Ac A0 A1 lM Ad Ae Af Ag Ah vf vg vi wV A2 Z7 ZdF ju WA ZdE ZE cr dA ZbO Zc ZdC eD ZdB gX Zds ZdA Zn Zdz Zdy Zdw Za Z9 Zb Zdv wW Uf Zk Ug HE Zdr Zdq Py Vy Zj cS ZbP Zdo Zy Zz Zw iR Zx ZW EP LI Px Zdi sw Pz PA s6 iQ sY bT JQ Zdk)
 have hr:=uz hx.r.1 (show(0:Int)<3 by decide);have hxr:=hx.r;have hxa:=hx.a;have h3:=hK.len;have q5:=hl.len;generalize x.r.tmod 3=q at*
 have vM:(1+q-1).toNat=q.toNat:=by omega
 have hqn:q.toNat<K.length:=by omega
 have e1:D.nth (K.map λv=>D.sl 1 (a8 v)) q.toNat=D.sl 1 (a8 K[q.toNat]):=ay _ _ _ hqn;have hS:=jN.start hK (r:=1+q) (by omega) (by omega);have hv0:K.getD (1+q-1).toNat []=K[q.toNat]:=by rw[vM,zac,zae hqn];rfl
 rw[hv0] at hS;simp only[zbi,zaF,zaa,zap,zat,vM,e1];have u0:D.dy (D.sl 1 (a8 K[q.toNat]))=a8 K[q.toNat]:=rfl;rw[u0];have hNo:Cu i l x l K:=⟨hl.mono,hK.mono,λ_ h=>h⟩
 have bX:=hp l K hNo;have hMo: ∀v g,jN i K (1+q) v->zP l v (1+q) g->(x.what.tmod 8≠7->g.bN=(0,0))->Cu i l x (l++[g]) (K.set q.toNat (bb (e8 v (1+q) (eB v (1+q)+1)))):=λv g hv hg hz=>by
  have:=hg.qdd hl hK ⟨h0,by omega⟩ (by omega) (by omega) hv;rw[vM] at this;refine⟨this.1,this.2,λh7 hy y hy2=> ?_⟩;rcases zaI.1 hy2 with h |h
  ·exact hy y h
  rw[zbh.1 h];exact hz h7
 have hEq: ∀(g:ak) (u:List Int) (z:List D),D.agg [D.sl 7 ((l++[g]).map aQ),D.sl 1 ((K.set q.toNat u).map λv=>D.sl 1 (a8 v))]=D.agg [D.sl 7 (List.take (l.length+1) (List.take l.length (l.map aQ)++[aQ g])),D.sl 1 (List.take K.length ((K.map λv=>D.sl 1 (a8 v)).set q.toNat (D.aV (D.sl 1 z) [D.sl 1 (a8 u)])))]:=λg u z=>by simp[D.aV,zb1,zah]
 refine ao (by omega) (ao (by omega) (ao (by omega) (ao (by omega) (aq (qbd _) (az (λ_=>⟨l,K,x,1+q,K[q.toNat],rfl,⟨by omega,hS.vec.1,λw hw=>(hK.vec w hw).1⟩,λv hv=> ?a⟩) λ_=> ?b)))))
 case' a=>
  replace hS:jN i K (1+q) v:=by rw[hv];exact jN.all hK (by omega) (by omega) K _ hS λ_ h=>h
  clear hv
 case' b=>generalize K[q.toNat]=v at*
 all_goals
  have Qg:=oN hS.vec.1;have ha:=zN hS.vec.1 (1+q);have hb:=hS.vec.2 (1+q);have hm:=hl.mY h0 v;have uB:=(hl.known v).len;have hrk:aO K.length 24=true:=da (by omega) (by omega);have hrl:aO l.length 88=true:=da (by omega) (by omega);have qiw:aO (l.length+1) 88=true:=da (by omega) (by omega);have hwo:=λg=>hMo v g hS;refine⟨l,v,rfl,rfl,⟨by omega,by omega⟩,λo ho=>⟨v,1+q,rfl,rfl,by omega,ao (by omega) ⟨o,by rw[ko],rfl,by rw[ho];omega,λt ht=>ao (by rw[ho] at ht;omega) (Ai (λh7=> ?_) λh7=> ?_)⟩⟩⟩
  ·refine Ai (λ_=>bX) λdP=> ?_;have hq2:=uz hxa.1 (show(0:Int)<(o.length:Int) by omega);generalize x.a.tmod (o.length:Int)=p at*
   have hpn:p.toNat<o.length:=by omega
   have e2:D.nth (o.map aQ) p.toNat=aQ o[p.toNat]:=ay _ _ _ hpn;rw[e2];have hym:o[p.toNat]∈aU l v:=ho▸zas hpn;generalize o[p.toNat]=y at*
   refine ao (by omega) (aq (by rw[zaN (by omega)];rfl) (ao (by omega) (ao hpn (aq (cY _) ⟨v,1+q,_,rfl,rfl,⟨by omega,by omega,by omega⟩,λw hw=>aq (by rw[hrk];rfl) (ao (by omega) (ao (by omega) ?_))⟩))))
   try rw[vM,e1]
   refine ao hqn (aq (qbd _) (aq (by rw[hrl];rfl) (aq (by rw[qiw];simp) ?_)));rw[hw];have hg:=hp _ _ (hwo ⟨fW l v (1+q),eB v (1+q)+1,v,y.s,[]⟩ ⟨rfl,rfl,rfl,.inl ⟨y,hym,rfl,rfl⟩⟩ λh=>absurd h7 h);refine Eq.mp (congrArg (λz=>ae (P.d z,[])) ?_) hg;rw[ht,ho];exact hEq _ _ _
  refine⟨i,l,v,1+q,x,by rw[ko,ho,ht,ho];rfl,rfl,⟨hl,⟨h0,hi⟩,hx⟩,λu b hu=>az (λ_=>bX) λcm=>⟨v,1+q,_,rfl,rfl,⟨by omega,by omega,by omega⟩,λw hw=>aq (by rw[hrk];rfl) (ao (by omega) (ao (by omega) ?_))⟩⟩;obtain⟨⟨m,Fl⟩,hu2,hu3⟩:=hu (by simpa using cm)
  try rw[vM,e1]
  refine ao hqn (aq (qbd _) (aq (by rw[hrl];rfl) (aq (by rw[qiw];simp) ?_)));rw[hw];have hg:=hp _ _ (hwo ⟨fW l v (1+q),eB v (1+q)+1,v,(0,0),[u]⟩ ⟨rfl,rfl,rfl,.inr ⟨rfl,u,m,rfl,Fl,hu2,hu3⟩⟩ λ_=>rfl);refine Eq.mp (congrArg (λz=>ae (P.d z,[])) ?_) hg;rw[ht,ho];exact hEq _ _ _)
theorem b8.le{i j:Int}{l:List ak}(h:b8 i l)(q6:i<=j):b8 j l:=⟨h.Ko,h.nd,λg hg=>by have:=h.sm g hg;exact⟨this.1,by omega,this.2.2⟩,by have:=h.len;omega⟩
theorem qix(x:cH):cx PR 41 (xc x)=true:=by kernel_rfl
def VH(m:List cH)(b:List ak×List (List Int))(i:Int):S:=if i=0 then oU m else hi3 m b.1 b.2 i
theorem qbf:LD X 11 3 (ah (aL 11 3) qfA):=LD.idx (H:=[(29,Mp)]) (hk:=[]) (by kernel_rfl) (by kernel_rfl) (.cons qfL .nil) .nil
 (A:=List cH) (B:=List ak×List (List Int)) VH (λm=>min m.length 16)
 (λm i b=>zW m/\(i=0->b=([],[[],[],[]]))/\WOk i b.1 b.2/\((∀x∈m,x.what.tmod 8≠7)-> ∀y∈b.1,y.bN=(0,0)))
 (λm z=>(z=(.exit 0,⟨25,[(3,.ref 0 0 0)],[(0,⟨0,none,.box 62 [.d .fX,.sl 1 0 3]⟩),(1,⟨0,none,arV false [[],[],[]]⟩)]⟩))\/ ∃l K,Cv m l/\z=(.exit 0,⟨25,[(3,.ref 0 0 0)],[(0,⟨0,none,bxW l K⟩)]⟩))
 (by
  rintro m ⟨l,K⟩ i ae h0 bR aY ⟨hc,hb,hw,hz⟩ hn bt
  try dsimp only at*
  have IE:i<m.length:=by omega
  have hmn:i.toNat<m.length:=by omega
  have e1:D.nth (m.map xc) i.toNat=xc m[i.toNat]:=ay _ _ _ hmn;have hx:=hc.2 _ (zas hmn);have gq:0<=i/\i<((m.map xc).length:Int):=by rw[zaa];exact⟨h0,IE⟩
  have Nk: ∀l' K',Cu i l m[i.toNat] l' K'->ae (.normal,hi3 m l' K' (i+1)):=λl' K' h=>by
   have O3:((i.toNat+1:Nat):Int)=i+1:=by omega
   have:=hn (l',K') ⟨hc,λh=>by omega,by rw[O3];exact⟨h.1,h.2.1,by omega,by omega⟩,λhh=>h.2.2 (hh _ (zas hmn)) (hz hh)⟩;unfold VH at this;rw[zal (by omega)] at this;exact this
  have hwi:WOk i l K:=by rw[show((i.toNat:Nat):Int)=i by omega] at hw;exact hw
  unfold VH;by_cases oU:i=0
  ·rw[zao oU];subst oU;have hb:=hb rfl;cases hb
   (rw[<-qch];delta zG ZdM bT cN HY EX cr cS Px ZR ZdK Zx WA Py ZdL ZdI)
   have e2:D.nth (m.map xc) 0=xc m[Int.toNat 0]:=e1;rw[e2];refine bz gq.2 (ao gq (aq (qix _) ⟨0,[],[[],[],[]],m[Int.toNat 0],rfl,rfl,⟨hwi,hx⟩,λl' K' h=>Nk l' K' h⟩))
  rw[zal oU]
  (rw[<-qcg];delta bT cN HY EX cr cS Px Zn ua ZdK Za Z9 Zj Zx WA Py Zg ZdJ ZdI;rw[e1])
  exact bz gq.2 (bz (by omega) (ao gq (aq (qix _) ⟨i,l,K,m[i.toNat],rfl,rfl,⟨hwi,hx⟩,λl' K' h=>ao (by omega) (Nk l' K' h)⟩))))
 (by
  rintro m ⟨l,K⟩ i ae hi ⟨hc,hb,hw,hz⟩ bt
  try dsimp only at*
  unfold VH;by_cases oU:i=0
  ·rw[zao oU]
   (rw[<-qch];delta zG ZdM bT cN HY EX cr cS Px ZR ZdK Zx WA Py ZdL ZdI)
   exact kA (by rw[zaa];omega) (bt _ (λh=>by cases h) (.inl rfl))
  rw[zal oU]
  (rw[<-qcg];delta bT cN HY EX cr cS Px Zn ua ZdK Za Z9 Zj Zx WA Py Zg ZdJ ZdI)
  have hH:Cv m l:=⟨hw.1.le (by omega),hz⟩
  have X9:=bt _ (λh=>by cases h) (.inr ⟨l,K,hH,rfl⟩);exact b7 (λh1=>b7 (λh2=>by rw[zaa] at h1;omega) λ_=>X9) λ_=>X9)
 (by
  rintro s ae ⟨m,rfl,hc,h1,h2⟩;refine⟨m,([],[[],[],[]]),by unfold VH;rw[zao rfl],⟨hc,λ_=>rfl,⟨U1.1,U1.2,by decide,by decide⟩,λ_ y hy=>by cases hy⟩,?_⟩;rintro z (rfl | ⟨l,K,h,rfl⟩)
  ·exact h1
  exact h2 l K h)
theorem qiy:FD X 11 qfB:=FD.mk (H:=[]) (hk:=[(3,ah (aL 11 3) qfA)]) (by kernel_rfl) .nil (.cons qbf .nil) (by
 intro ps R ae hh;obtain⟨m,rfl,rfl,hs,h1,h2⟩:=hh
 (rw[<-qil];delta cr cS LI Z5l ZQ zG ZdM Z7 JU bT cN ZdK)
 exact⟨m,rfl,hs,h1,λl _ h=>h2 l h⟩)
end
abbrev sgH(a b:ak)(i:Int):S:=⟨61,[(2,.ref 0 0 0),(3,.ref 1 0 0),(5,iD i)],[(0,⟨0,none,qax a⟩),(1,⟨0,none,qax b⟩)]⟩
def hNo:bm:=λ_ _ _=>False
theorem qiz(a b:ak)(i:Int)(ae:PX×S->Prop):(bif Sc i a then bif Pg i a then bif Pf a i then bif Pg i b then bif Pf b i then False else False else False else False else False else ae (PX.exit 0,S.mk 61 [] []))=(aD [(39,hNo)] [] 22 4 (sgH a b i)) ae:=by kernel_rfl
def gSg:S->K (PX×S):=λs ae=> ∃a b,s=sgH a b 0/\a.ops=[]/\ae (.exit 0,⟨61,[],[]⟩)
def Ze8(a:ak)(b:ak):S:=S.mk 61 (JQ::sY::ZN) [(0,lO a),(1,lO b)]
theorem qki(a b:ak)(ae:P×List (Nat×En)->Prop):(bif !(kh a==kh b&&(kg a==kg b&&true)) then Z4 ae else bif ak.n a !=ak.n b then Z4 ae else∃(v:List Int) (w:List Int),[oD a,oD b]=Zk v::ZW w/\Zx/\iN v/\bif !decide (v=w) then Z4 ae else bif !(Prod.fst (ak.bN a)==Prod.fst (ak.bN b)&&(Prod.snd (ak.bN a)==Prod.snd (ak.bN b)&&true)) then Z4 ae else bif wX a !=wX b then Z4 ae else∃(k7:ak) (Tr:ak),Ze8 a b=Ze8 k7 Tr/\ak.ops k7=[]/\ZP ae)=(aJ [(26,y8)] [(4,ah (aL 22 4) gSg)] 22 [.d (aQ a),.d (aQ b)] []) ae:=by kernel_rfl
def hSg:bm:=λps R ae=> ∃a b:ak,ps=[.d (aQ a),.d (aQ b)]/\R=[]/\(a.ops=[]/\b.ops=[]/\iN a.deps)/\ ∀c:Bool,(c=true↔a=b)->ae (.d (.bool c),[])
def vJ:ak:=⟨(1,1),1,[],(0,0),[⟨0,(1,1,0),aB,[97],true,[],aB,aB,[],[]⟩]⟩
def Ze9:D:=D.agg [ZR,ZR,ZR,zG,Z7,Z7,D.sl 18 [D.agg (Z7::ZR::ZR::Z7::Z7::Z7::Z7::D.str [(97:UInt8)]::D.bool true::Pb::V6)]]
theorem qfM(ae:P×List (Nat×En)->Prop):(ae (P.d Ze9,[]))=(aJ [] [] 21 [] []) ae:=by kernel_rfl
def VI:bm:=λps R ae=>ps=[]/\R=[]/\ae (.d (aQ vJ),[])
def Zee(WB:ak)(b:ak):Prop:=ak.ops WB=[]/\ak.ops b=[]/\iN (ak.deps WB)
def Zed(e:Int)(l:List ak)(r:Int):Prop:=e=rR (aC l) r
def Zec(g:ak)(l:List ak)(r:Int):Prop:=g=nD (aC l) r
def Zeb(l:List ak)(r:Int):Prop:=P.d (D.sl 7 [Ze9])::ZX=tc l r
def Zea:Prop:=EqP [] []
theorem qfN(ae:P×List (Nat×En)->Prop):(Zea/\Zx/\ ∃(l:List ak) (r:Int),Zeb l r/\Zx/\jP l/\ ∀(g:ak) (e:Int),Zec g l r->Zed e l r-> ∃(l:List ak) (r:Int),Zeb l r/\Zx/\jP l/\ ∀(a:aw×Int),a=rS l r-> ∃(l:List ak) (r:Int),Zeb l r/\Zx/\jP l/\ ∀(a_2:aw×Int),a_2=qk l r->bif e==(0:Int) then∃(WB:ak) (b:ak),[oE g,P.d (D.agg (V4::ZR::V4::D.sl 1 [ZR]::Z96))]=oE WB::EI b/\Zx/\Zee WB b/\ ∀(c:Bool),(c=true↔WB=b)->bif c then bif Prod.snd a==(0:Int) then bif Prod.fst (Prod.fst a)==D.aj (D.ar (D.nth [Ze9] 0) 0)&&(Prod.snd (Prod.fst a)==D.aj (D.ar (D.nth [Ze9] 0) 1)&&true) then ae (P.d (D.bool (Prod.snd a_2==(200:Int))),[]) else Z4 ae else Z4 ae else Z4 ae else Z4 ae)=(aJ [(21,VI),(12,hHn),(19,wG),(17,wH),(22,hSg)] [] 9 [] []) ae:=by kernel_rfl
def zX:bm:=λps R ae=>ps=[]/\R=[]/\ae (.d (.bool true),[])
def Zef(a:aw×Int)(a_2:aw×Int):Bool:=Prod.fst (Prod.fst a)==Prod.fst (Prod.fst a_2)&&(Prod.snd (Prod.fst a)==Prod.snd (Prod.fst a_2)&&true)
theorem VJ(l:List ak)(r:Int)(ae:P×List (Nat×En)->Prop):(∃(au:List ak) (bY:Int),tc l r=tc au bY/\Zx/\jP au/\ ∀(g:ak) (e:Int),Zec g au bY->Zed e au bY-> ∃(eX:List ak) (z8:Int),tc l r=tc eX z8/\Zx/\jP eX/\ ∀(aT:ak) (e_1:Int),Zec aT eX z8->Zed e_1 eX z8-> ∃(kM:List ak) (r_3:Int),tc l r=tc kM r_3/\Zx/\jP kM/\ ∀(a:aw×Int),a=rS kM r_3-> ∃(zV:List ak) (r_4:Int),tc l r=tc zV r_4/\Zx/\Pu zV/\ ∀(a_2:aw×Int),a_2=rS zV r_4-> ∃(Wz:List ak) (r_5:Int),tc l r=tc Wz r_5/\Zx/\jP Wz/\ ∀(WB:aw×Int),WB=qk Wz r_5-> ∃(l_6:List ak) (r_6:Int),tc l r=tc l_6 r_6/\Zx/\Pu l_6/\ ∀(a_6:aw×Int),a_6=qk l_6 r_6-> ∃(a_8:ak) (b:ak),oE g::EI aT=oE a_8::EI b/\Zx/\Zee a_8 b/\ ∀(c:Bool),(c=true↔a_8=b)->bif c then bif e==e_1 then bif Zef a a_2 then bif Prod.snd a==Prod.snd a_2 then bif Zef WB a_6 then bif Prod.snd WB==Prod.snd a_6 then∃(l_7:List ak),rn l l_7/\Zx/\jP l_7/\ ∀(v:List Int),v=iv (aC l_7)-> ∃(l_8:List ak),rn l l_8/\Zx/\jP l_8/\(∀(cI:List Int),cI=iv (aC l_8)-> ∃(y9:List Int) (w:List Int),Zk v::ZW cI=Zk y9::ZW w/\Z14 y9 ae w)/\(iv (aC l_8)=[]-> ∃(cI:List Int) (w:List Int),[Zk v,P.d zG]=Zk cI::ZW w/\Z14 cI ae w) else Z4 ae else Z4 ae else Z4 ae else Z4 ae else Z4 ae else Z4 ae)=(aJ [(12,hHn),(23,hHn),(19,wG),(24,Kl),(17,wH),(25,Km),(22,hSg),(27,hHv),(28,Uj),(26,y8)] [] 10 [bC l,iD r] []) ae:=by kernel_rfl
def EA:bm:=λps R ae=> ∃l r,ps=[bC l,iD r]/\R=[]/\Pu l/\ae (.d (.bool true),[])
theorem Cw{α:Type}(f:α->D)(P:D->Prop)(Q:α->Prop)(h1: ∀y,P y-> ∃x,y=f x/\Q x): ∀es:List D,(∀y∈es,P y)-> ∃l:List α,es=l.map f/\ ∀x∈l,Q x
 | [],_=>⟨[],rfl,by simp⟩
 |y::es,hy=>by obtain⟨l,rfl,hl⟩:=Cw f P Q h1 es λy h=>hy y (.tail _ h);obtain⟨x,rfl,hx⟩:=h1 y (hy y (.head _));exact⟨x::l,rfl,λz hz=>by rcases zaw.1 hz with rfl |hz;exact hx;exact hl z hz⟩
theorem Cx(l:List ak)(r:Int):(nD l r).ops=[]:=by
 unfold nD;split
 ·rfl
 rfl
section
variable{X:XF}
theorem qiA:FD X 39 hNo:=FD.mk (H:=[]) (hk:=[]) (by kernel_rfl) .nil .nil (by intro ps R ae hh;exact False.elim hh)
theorem qbg:LD X 22 4 (ah (aL 22 4) gSg):=LD.idx (H:=[(39,hNo)]) (hk:=[]) (by kernel_rfl) (by kernel_rfl) (.cons qiA .nil) .nil
 (A:=ak×ak) (B:=Unit) (λa _ i=>sgH a.1 a.2 i) (λ_=>0) (λa _ _=>a.1.ops=[]) (λ_ x=>x=(.exit 0,⟨61,[],[]⟩))
 (by rintro a _ i ae h0 bR aY hI hn ho;exact absurd aY (by simp))
 (by
  rintro⟨a,b⟩ _ i ae hi hI ho
  try dsimp only at*
  (rw[<-qiz];delta Zg jO Pf wX Pg Sc)
  have gq: ¬i<((a.ops.map eN).length:Int):=by rw[hI,hi];decide
  exact lD (zaN gq) (ho _ (λh=>by cases h) rfl))
 (by rintro s ae ⟨a,b,rfl,h1,h2⟩;refine⟨(a,b),(),rfl,h1,?_⟩;rintro x rfl;exact h2)
theorem qci:FD X 22 hSg:=FD.mk (H:=[(26,y8)]) (hk:=[(4,ah (aL 22 4) gSg)]) (by kernel_rfl) (.cons Jm .nil) (.cons qbg .nil) (by
 intro ps R ae hh;obtain⟨a,b,rfl,rfl,⟨ha,hb,hv⟩,hp⟩:=hh
 (rw[<-qki];delta ZO ZP po kc ke oD q9 kg il kh iz lO Z7 ZN iQ sY bT JQ Ze8 wX Zx Zk ZW Z3 Z4)
 obtain⟨s,n,d,u,o⟩:=a;obtain⟨s',n',d',u',o'⟩:=b;dsimp only at*
 subst ha hb;have v1:(s.1==s'.1&&(s.2==s'.2&&true))=(s==s'):=DM s s';have v2:(u.1==u'.1&&(u.2==u'.2&&true))=(u==u'):=DM u u';rw[v1,v2];refine az (λh=>hp false ⟨(λh=>by cases h),λe=> ?_⟩) λh1=>az (λh=>hp false ⟨(λh=>by cases h),λe=> ?_⟩) λh2=>⟨d,d',rfl,rfl,hv,az (λh=>hp false ⟨(λh=>by cases h),λe=> ?_⟩) λh3=>az (λh=>hp false ⟨(λh=>by cases h),λe=> ?_⟩) λh4=>lD rfl ⟨⟨s,n,d,u,[]⟩,⟨s',n',d',u',[]⟩,rfl,rfl,hp true ⟨λ_=> ?_,λ_=>rfl⟩⟩⟩
 ·cases e;simp at h
 ·cases e;simp at h
 ·cases e;simp at h
 ·cases e;simp at h
 simp only[zcS,zaT,zai,bne_eq_false_iff_eq] at h1 h2 h3 h4;rw[h1,h2,h3,h4])
theorem qfO:FD X 21 VI:=FD.mk (H:=[]) (hk:=[]) (by kernel_rfl) .nil .nil (by
 intro ps R ae hh;obtain⟨rfl,rfl,hp⟩:=hh
 (rw[<-qfM];delta Z2N z7 Z7 V6 Pb zG ZR Ze9)
 exact hp)
theorem VK:jP [vJ]:=⟨by decide,λg hg=>by
 rw[zbh] at hg;subst hg;exact⟨λo ho=>by
  have:o=⟨0,(1,1,0),aB,[97],true,[],aB,aB,[],[]⟩:=by simpa [vJ] using ho
  subst this;exact⟨by decide,by decide,by decide⟩,by decide,by decide⟩⟩
def qfP:ak:=⟨(2,1),2,[1],(0,0),[]⟩
variable(hX:XT X)
include hX
theorem OY:FD X 9 zX:=FD.mk (H:=[(21,VI),(12,hHn),(19,wG),(17,wH),(22,hSg)]) (hk:=[]) (by kernel_rfl) (.cons qfO (.cons qhy (.cons (Mr hX) (.cons (Ms hX) (.cons qci .nil))))) .nil (by
 intro ps R ae hh;obtain⟨rfl,rfl,hp⟩:=hh
 (rw[<-qfN];delta Z3 Z4 Z2N z7 Z7 V6 Pb zG ZR Ze9 Zee kc ke kg il kh iz oE EI Z96 V4 Zed Zec Zt Zv cr cS tc ZX Zeb Zx Zea)
 refine⟨rfl,rfl,[vJ],1,rfl,rfl,VK,λg e hg he=>⟨[vJ],1,rfl,rfl,VK,λa ha=>⟨[vJ],1,rfl,rfl,VK,λb hb=> ?_⟩⟩⟩;have e1:g=qfP:=hg.trans (by kernel_rfl);have e2:e=0:=he.trans (by kernel_rfl);have e3:a=((1,1),0):=ha.trans (by kernel_rfl);have e4:b=((0,0),200):=hb.trans (by kernel_rfl);rw[e1,e2,e3,e4];refine fT rfl ⟨qfP,qfP,rfl,rfl,⟨rfl,rfl,by decide⟩,λc hc=> ?_⟩;have:c=true:=hc.2 rfl;subst this;exact fT rfl (fT rfl (fT rfl hp)))
theorem VL:FD X 10 EA:=FD.mk (H:=[(12,hHn),(23,hHn),(19,wG),(24,Kl),(17,wH),(25,Km),(22,hSg),(27,hHv),(28,Uj),(26,y8)]) (hk:=[]) (by kernel_rfl)
  (.cons qhy (.cons qhz (.cons (Mr hX) (.cons qh9 (.cons (Ms hX) (.cons qia (.cons qci (.cons qhw (.cons qbR (.cons Jm .nil)))))))))) .nil (by
 intro ps R ae hh;obtain⟨l,r,rfl,rfl,hs,hp⟩:=hh
 (rw[<-VJ];delta Z3 Z4 zG Zx Z14 Zk ZW cr cS rn Zef Zee kc ke kg il kh iz oE EI Zed Zec Zt Zv tc)
 refine⟨l,r,rfl,rfl,hs.1,λg e hg he=>⟨l,r,rfl,rfl,hs.1,λg1 e1 hg1 Bx=>⟨l,r,rfl,rfl,hs.1,λa ha=>⟨l,r,rfl,rfl,hs,λa2 ha2=>⟨l,r,rfl,rfl,hs.1,λb hb=>⟨l,r,rfl,rfl,hs,λb2 cm=> ?_⟩⟩⟩⟩⟩⟩;rw[hg1.trans hg.symm,Bx.trans he.symm,ha2.trans ha.symm,cm.trans hb.symm];have hv:iN (iv (aC l)):=zaG (qi _) (by decide);refine⟨g,g,rfl,rfl,⟨?_,?_,?_⟩,λc hc=> ?_⟩
 ·rw[hg];exact Cx _ _
 ·rw[hg];exact Cx _ _
 ·rw[hg];unfold nD;split
  ·exact hv
  decide
 have:c=true:=hc.2 rfl;subst this;refine fT rfl (fT (by simp) (fT (by simp) (fT (by simp) (fT (by simp) (fT (by simp) ⟨l,rfl,rfl,hs.1,λv hv2=>⟨l,rfl,rfl,hs.1,λw hw=>⟨v,w,rfl,rfl,by rw[hv2];exact hv,?_⟩,λh0=>⟨v,[],rfl,rfl,by rw[hv2];exact hv,?_⟩⟩⟩)))))
 ·rw[zaP (hv2.trans hw.symm)];exact hp
 rw[zaP (hv2.trans h0)];exact hp)
end
def Zei(r:Int):List P:=[P.d (D.int .i64 ((1:Int)+Int.tmod r (4:Int)))]
def Zeh(r:Int):Bool:=decide (Z9<=(1:Int)+Int.tmod r (4:Int)/\(1:Int)+Int.tmod r (4:Int)<=Za)
def Zeg(m:List cH)(bO:List cH):Prop:=[P.d (D.sl 6 (List.map xc m))]=[P.d (D.sl 6 (List.map xc bO))]
theorem qkj(m:List cH)(r:Int)(ae:P×List (Nat×En)->Prop):(Zea/\Zx/\ ∃(bO:List cH),Zeg m bO/\Zx/\zW bO/\(bif Zde r then bif Zeh r then∃(l:List ak) (bY:Int),P.d (D.sl 7 [])::Zei r=tc l bY/\Zx/\Pu l/\ZP ae else False else False)/\ ∀(g:List ak),Cv bO g->bif Zde r then bif Zeh r then∃(l:List ak) (bY:Int),cS g::Zei r=tc l bY/\Zx/\Pu l/\ZP ae else False else False)=(aJ [(9,zX),(11,qfB),(10,EA)] [] 4 [.d (.sl 6 (m.map xc)),.d (uE r)] []) ae:=by kernel_rfl
theorem Cy{n:Int}(hw:(Lit.int .u8 n).wf=true):0<=n/\n<=255:=by
 have h1:IntKind.min .u8=0:=by decide
 have h2:IntKind.max .u8=255:=by decide
 replace hw:(decide (IntKind.min .u8<=n)&&decide (n<=IntKind.max .u8))=true:=hw
 rw[h1,h2,zab,zai,zai] at hw;exact hw
theorem qiB{m:Nat}{x:D}(h:AQ PR (m+1) 5 x): ∃n,x=uE n/\0<=n/\n<=255:=by obtain⟨n,rfl,hw⟩:=Ra Tryz.underlying5 h;exact⟨n,rfl,Cy hw⟩
theorem qiC{m:Nat}{x:D}(h:AQ PR (m+3) 41 x): ∃d:cH,x=xc d/\Ez d:=by
 obtain⟨cs,rfl,hl,hf⟩:=FY (k:=6) Tryz.underlying41 (by kernel_rfl) h;obtain⟨a,b,c,d,e,f,rfl⟩: ∃a b c d e f,cs=[a,b,c,d,e,f]:=by
  match cs,hl with
  | [a,b,c,d,e,f],_=>exact⟨a,b,c,d,e,f,rfl⟩
 have z0:PR.cellsOf 5=1:=by kernel_rfl
 have z3:PR.cellsOf 4=1:=by kernel_rfl
 have g0:=hf _ (zbQ ..);have g1:=hf _ (zaJ _ (zbQ ..));have g2:=hf _ (zaJ _ (zaJ _ (zbQ ..)));have g3:=hf _ (zaJ _ (zaJ _ (zaJ _ (zbQ ..))));have g4:=hf _ (zaJ _ (zaJ _ (zaJ _ (zaJ _ (zbQ ..)))));have g5:=hf _ (zaJ _ (zaJ _ (zaJ _ (zaJ _ (zaJ _ (zbQ ..))))));simp only[z0,z3,zb9,List.drop_succ_cons,List.take_succ_cons,List.take_zero] at g0 g1 g2 g3 g4 g5;obtain⟨x0,rfl,h0⟩:=tT Tryz.underlying5 g0;obtain⟨x1,rfl,h1⟩:=tT Tryz.underlying5 g1;obtain⟨x2,rfl,h2⟩:=tT Tryz.underlying5 g2;obtain⟨x3,rfl,h3⟩:=tT Tryz.underlying5 g3;obtain⟨x4,rfl,h4⟩:=tT Tryz.underlying5 g4;obtain⟨x5,rfl⟩:=Rb Tryz.underlying4 g5;exact⟨⟨x0,x1,x2,x3,x4,x5⟩,rfl,Cy h0,Cy h1,Cy h2,Cy h3,Cy h4⟩
theorem qfQ{m:Nat}{x:D}(h:AQ PR (m+4) 26 x): ∃l:List cH,x= .sl 6 (l.map xc)/\zW l:=by
 obtain⟨es,rfl,hl,hy⟩:=Ja (k:=6) Tryz.underlying26 (by kernel_rfl) h;obtain⟨l,rfl,hq⟩:=Cw xc _ Ez (λy hy=>qiC hy) es hy;refine⟨l,rfl,?_,hq⟩;rw[zaa] at hl;have:maxLen<=9223372036854775807:=by decide
 exact zaG hl this
theorem VM:b8 16 []:=U1.1.le (by decide)
section
variable{X:XF}
def hLw:bm:=λps R ae=> ∃m r,ps=[.d (.sl 6 (m.map xc)),.d (uE r)]/\R=[]/\(zW m/\0<=r/\r<=255)/\ae (.d (.bool true),[])
variable(hX:XT X)
include hX
theorem qfR:FD X 4 hLw:=FD.mk (H:=[(9,zX),(11,qfB),(10,EA)]) (hk:=[]) (by kernel_rfl) (.cons (OY hX) (.cons qiy (.cons (VL hX) .nil))) .nil (by
 intro ps R ae hh;obtain⟨m,r,rfl,rfl,⟨hm,hr⟩,hp⟩:=hh
 (rw[<-qkj];delta cr cS ZO ZP Zt Zv tc Zei Za Z9 Zeh Zde Zeg Zx Zea)
 have hq:=uz hr.1 (show(0:Int)<4 by decide);generalize r.tmod 4=q at*
 refine⟨rfl,rfl,m,rfl,rfl,hm,ao (by omega) (ao (by omega) ⟨[],1+q,rfl,rfl,VM.smS (by decide),hp⟩),λg hg=>ao (by omega) (ao (by omega) ⟨g,1+q,rfl,rfl,hg.1.smS (by decide),hp⟩)⟩)
end
theorem qfS{X:XF}{f:Nat}(hd:FD X f hLw)(xs:List D)(h:pZ PR 8 [26,5] xs): ∃lf k R,fo PR (Ji X) lf k f (xs.map P.d) []=some (.d (.bool true),R):=by obtain⟨x,r,rfl,hx,h⟩:=fitAll_cons h;obtain⟨y,r,rfl,hy,h⟩:=fitAll_cons h;have e:=fitAll_nil h;subst e;obtain⟨l,rfl,hl⟩:=qfQ hx;obtain⟨n,rfl,hn⟩:=qiB hy;obtain⟨lf,k,hr⟩:=hd.run (y:=(.d (.bool true),[])) ⟨l,n,rfl,rfl,⟨hl,hn⟩,rfl⟩;exact⟨lf,k,[],hr⟩
theorem VN(xs:List D)(h:pZ PR 8 [26,5] xs): ∃lf k R,fo PR (Ji Mt) lf k 4 (xs.map P.d) []=some (.d (.bool true),R):=qfS (qfR qba) xs h
end Pi
