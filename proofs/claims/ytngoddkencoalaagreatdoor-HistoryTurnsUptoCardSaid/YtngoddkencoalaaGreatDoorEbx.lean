/- The texts TnP A6H TnH W20U. -/
import Derived.Test.YtngoddkencoalaaGreatDoorEbw
namespace Pi
open Go Go.Proofs
set_option maxRecDepth 100000
set_option maxHeartbeats 0
theorem s7{α β:Type}{f g:α->List β}: ∀{l:List α},(∀x∈l,f x=g x)->l.flatMap f=l.flatMap g
 | [],_=>rfl
 |x::l,h=>by rw[zbA,zbA,h x (.head _),s7 λy hy=>h y (.tail _ hy)]
theorem DG(l U:List ak)(hU: ∀g∈U,g.ops=[])(x:av):cP (l++U) x=cP l x:=by
 unfold cP;rw[za9];have:U.flatMap (λg=>sX x g.ops)=[]:=zcH.2 λg hg=>by rw[hU g hg];rfl
 rw[this,zaV]
theorem QI(l U:List ak)(hU: ∀g∈U,g.ops=[])(on Oj:List ay)(hs: ∀g∈l,g.s∈on↔g.s∈Oj)(x:av):iT (l++U) on x=iT l Oj x:=by
 unfold iT;rw[za9];have:U.flatMap (λg=>JP (decide (g.s∈on)) x g.ops)=[]:=zcH.2 λg hg=>by rw[hU g hg];rfl
 rw[this,zaV];refine s7 λg hg=> ?_;rw[show decide (g.s∈on)=decide (g.s∈Oj) from by rw[zaH,zai,zai];exact hs g hg]
theorem qc4(l U:List ak)(hU: ∀g∈U,g.ops=[])(x:Pl):Af (l++U) x=Af l x:=by
 unfold Af;rw[za9];have:U.flatMap (mdG x)=[]:=zcH.2 λg hg=>by unfold mdG;rw[hU g hg];rfl
 rw[this,zaV]
theorem qc5(l U:List ak)(hU: ∀g∈U,g.ops=[])(on Oj:List ay)(hs: ∀g∈l,g.s∈on↔g.s∈Oj):jQ on (l++U)=jQ Oj l:=by
 unfold jQ;rw[za7];have h1: ∀(m:List ak) (t:Tl),(∀g∈m,g∈l)->m.foldl (Jx on) t=m.foldl (Jx Oj) t:=λm=>by
  induction m with
  |nil=>exact λ_ _=>rfl
  |cons g m ih=>
   intro t hm;rw[zaU,zaU];have:Jx on t g=Jx Oj t g:=by unfold Jx;rw[show decide (g.s∈on)=decide (g.s∈Oj) from by rw[zaH,zai,zai];exact hs g (hm g (.head _))]
   rw[this];exact ih _ λy hy=>hm y (.tail _ hy)
 have h2: ∀(m:List ak) (t:Tl),(∀g∈m,g.ops=[])->m.foldl (Jx on) t=t:=λm=>by
  induction m with
  |nil=>exact λ_ _=>rfl
  |cons g m ih=>
   intro t hm;rw[zaU];have:Jx on t g=t:=by unfold Jx;rw[hm g (.head _)];rfl
   rw[this];exact ih t λy hy=>hm y (.tail _ hy)
 rw[h1 l _ λ_ h=>h,h2 U _ hU]
theorem X0{i:Int}{l:List ak}(hl:bH i l){x:av}{e:bB}(h:e∈wa (uM (cP l x))): ∃g∈l,BT e.1=g.s:=by have he:=AT (all:=uM (cP l x)) _ _ (λy hy=>(l6.1 hy).1) e h;have hy:e.1∈Jd l x:=(bU _).mem_iff.2 (zaB.2 ⟨e,he,rfl⟩);obtain⟨g,hg,hs,_⟩:=AO hl hy;exact⟨g,hg,hs⟩
theorem X1{i:Int}{l:List ak}(hl:bH i l)(U:List ak)(hU: ∀g∈U,g.ops=[])(on Oj:List ay)(hs: ∀g∈l,g.s∈on↔g.s∈Oj)(x:av):AR (l++U) on x=AR l Oj x:=by unfold AR N9;rw[DG l U hU,QI l U hU on Oj hs];refine List.filter_congr λe he=> ?_;obtain⟨g,hg,hgs⟩:=X0 hl he;unfold JQ;rw[hgs,show decide (g.s∈on)=decide (g.s∈Oj) from by rw[zaH,zai,zai];exact hs g hg]
theorem qc6(l U:List ak)(hU: ∀g∈U,g.ops=[])(t:Tl):AI (l++U) t=AI l t:=by unfold AI sW Io;have: ∀p:List Pl,p.flatMap (Af (l++U))=p.flatMap (Af l):=λp=>s7 λx _=>qc4 l U hU x;rw[this]
section
variable{l0:List ak}{k:Int}{j m:Nat}{L:List ak}
theorem eM.right(h:eM l0 k j m L):aw L=L:=h.u.rt.right
theorem eM.X2(h:eM l0 k j m L):L.length=l0.length+(j+m)/\(bt l0 k).length<=16:=by
 obtain⟨U,hL,_,hlen,_⟩:=h.own;have hl:=h.g.len;have xV:(bt l0 k).length<=l0.length:=by rw[(dB _ _).length_eq];exact zaG _ _
 exact⟨by rw[hL,zah,hlen],by omega⟩
theorem eM.smS(h:eM l0 k j m L):SmS L:=by
 obtain⟨U,hL,_,lW⟩:=h.u.pre;have hs:=h.g.smS (by decide);have hl:=h.X2;have hg:=h.g.len;have hj:=h.hj;have hm:=h.hm;refine⟨⟨by omega,λg Dd=> ?_⟩,?_⟩
 ·rw[hL] at Dd;have hv:=mJ (sO (h.u.rt.AZ g (hL▸Dd))).2.2.1;rcases zay.1 Dd with Dd |Dd
  ·exact hs.1.2 g Dd
  refine⟨λo ho=> ?_,?_,by omega⟩
  ·rw[lW g Dd] at ho;cases ho
  rw[lW g Dd];exact za1 _
 show Pi.cG L<=1000;rw[hL,ur];have: ∀V:List ak,(∀g∈V,g.ops=[])->cG V=0:=λV=>by
  induction V with
  |nil=>exact λ_=>rfl
  |cons g V ih=>intro hV;rw[fQ,hV g (.head _),ih λy hy=>hV y (.tail _ hy)];rfl
 rw[this U lW];exact hs.2
theorem Ol(h:eM l0 k j m L)(h1:1<=k)(h2:k<=16)(z:Bool){x:ay}(hx:(if z=true then kx L k else nR L k)=(x,0)):oc L k z=some (sP L k x):=by
 obtain⟨e1,e2⟩:=h.next h1 h2;unfold oc;have e3:nQ (aw L) k=Na (aw L) k:=by unfold nQ;rw[zap e1]
 rw[zap ⟨e1,by rw[hx]⟩,e3,e2,hx];rfl
theorem eM.qkD(h:eM l0 k j 0 L)(h1:1<=k)(h2:k<=16)(hj:j<(bt l0 k).length):oc L k false=some (sP L k (bt l0 k)[j].s):=by refine Ol h h1 h2 false ?_;have:=h.bs;rw[zds hj] at this;exact this
theorem eM.qkE(h:eM l0 k j 0 L)(hj: ¬j<(bt l0 k).length):oc L k false=none:=by have:=h.bs;rw[dif_neg hj] at this;unfold oc;rw[zan];rintro⟨_,h2⟩;rw[zan (by decide),this] at h2;cases h2
theorem eM.qec(h:eM l0 k j m L)(h1:1<=k)(h2:k<=16)(hm:m<j):oc L k true=some (sP L k (yd l0 k (j-1-m))):=by refine Ol h h1 h2 true ?_;have:=h.qbo;rw[zap hm] at this;exact this
def qhY(L:List ak)(k:Int):Nat:=(L.filter λg=>g.s.2==k&&(g.bs==(0,0))).length
theorem eM.cnt(h:eM l0 k j m L):qhY L k=(bt l0 k).length:=by
 obtain⟨U,hL,_,hlen,hq⟩:=h.own;unfold qhY;rw[hL,zbw];have e1:U.filter (λg=>g.s.2==k&&(g.bs==(0,0)))=[]:=List.filter_eq_nil_iff.2 λg hg=>by obtain⟨q,hq2,rfl⟩:=zaT hg;have:=(hq q hq2).2;simp[this]
 have e2:l0.filter (λg=>g.s.2==k&&(g.bs==(0,0)))=l0.filter λg=>g.s.2==k:=List.filter_congr λg hg=>by rw[h.z g hg];simp
 rw[e1,e2,zaV,(dB l0 k).length_eq]
theorem eM.qed(h:eM l0 k j j L){y:ak}(hy:y∈l0):y.s∈fP L:=by have:=(h.onA hy).2 (by rintro⟨i,_,h2,_⟩;omega);unfold fP;rw[h.right];exact this
theorem eM.seen(h:eM l0 k j j L):FJ L=FJ l0:=by
 obtain⟨U,hL,_,lW⟩:=h.u.pre;have h0:=eM.start h.g h.z k;have hs: ∀g∈l0,g.s∈fP L↔g.s∈fP l0:=λg hg=>⟨λ_=>h0.qed hg,λ_=>h.qed hg⟩
 have hr:=h.right;have tc:=h.g.right;unfold FJ;rw[hr,tc];have e1:jQ (fP L) L=jQ (fP l0) l0:=by have:=qc5 l0 U lW (fP L) (fP l0) hs;rwa [<-hL] at this
 have e2: ∀t,AI L t=AI l0 t:=λt=>by have:=qc6 l0 U lW t;rwa [<-hL] at this
 have e3:s5 L (fP L)=s5 l0 (fP l0):=by funext x;unfold s5;have:=X1 h.g U lW (fP L) (fP l0) hs x.1;rw[<-hL] at this;rw[this]
 rw[e1,e2,e3]
theorem eM.smT(h:eM l0 k j m L):XO L:=by
 obtain⟨U,hL,_,lW⟩:=h.u.pre;have hs:=h.smS;have xt:(fP L).length<=L.length:=uL L;have hlen:=h.X2;have hg:=h.g.len;have hj:=h.hj;have hm:=h.hm;have FM: ∀g∈L,∀o∈g.ops,o.elems.length<=3:=λg Dd o ho=>by
  rw[hL] at Dd;rcases zay.1 Dd with Dd |Dd
  ·exact((h.g.sm g Dd).2.2.2 o ho).2
  rw[lW g Dd] at ho;cases ho
 refine⟨hs.1,λx=> ?_⟩;rw[h.right];refine⟨?_,⟨⟨by omega,hs.2,by omega⟩,λg Dd o ho=>zaE (FM g Dd o ho) (by decide)⟩,?_⟩
 ·have:=Og h.g (by decide) x;rw[<-DG l0 U lW x,<-hL] at this;exact this
 have h1:=wc (on:=fP L) (x:=x) (n:=3) L FM;have h2:cG L<=1000:=hs.2;omega
end
theorem qkF(e f:fH):(D.cK (D.ar (u4 e) 0)==D.cK (D.ar (u4 f) 0)&&(D.eG (D.ar (u4 e) 1)==D.eG (D.ar (u4 f) 1)&&(D.cK (D.ar (u4 e) 2)==D.cK (D.ar (u4 f) 2)&&true)))=decide (e=f):=by obtain⟨a,b,c⟩:=e;obtain⟨a',b',c'⟩:=f;show(a==a'&&(b==b'&&(c==c'&&true)))=_;rw[zaH];simp
section
variable{X:XF}
theorem qhZ:LD X 18 4 (ah (aK 18 4) gSa):=LD.par (H:=[]) (hk:=[]) (by kernel_rfl) (by kernel_rfl) .nil .nil
 (A:=List fH×List fH) (B:=Int) (λa k=>saH a.1 a.2 k)
 (λa k=>(a.1.length=a.2.length/\a.1.length<=3000000)/\(0<=k/\k.toNat<=a.1.length)/\a.1.take k.toNat=a.2.take k.toNat)
 (λa k=>(a.1.length-k).toNat)
 (λa x=>(a.1≠a.2/\x=(.ret,⟨26,[(4,kM false)],[]⟩))\/(a.1=a.2/\x=(.exit 0,⟨26,[],[]⟩)))
 (by
  rintro⟨v,w⟩ k ⟨⟨hl,hm⟩,⟨h0,h1⟩,ht⟩;dsimp only at*
  (rw[<-qj8];delta ZC ZA ZB ZdB Za Z9 Zw Z3 Zv Zt ZdA)
  simp only[zaa];refine bf (λh=> ?_) λh=> ?_
  ·have hk:k.toNat<v.length:=by omega
   have qY:k.toNat<w.length:=by omega
   rw[Uz hk,Uz qY,qkF];refine bm ⟨h0,by omega⟩ (aq (qi6 _) (bm ⟨h0,by omega⟩ (aq (qi6 _) (aA (λh2=> ?_) λh2=>aq (pM (by omega) (by omega)) ?_))))
   ·refine .inl ⟨λe=> ?_,rfl⟩;subst e;simp at h2
   refine⟨_,?_,k+1,rfl,⟨⟨hl,hm⟩,⟨by omega,by omega⟩,?_⟩,rfl⟩
   ·omega
   have h3:v.getD k.toNat ([],false,[])=w.getD k.toNat ([],false,[]):=by simpa using h2
   rw[show(k+1).toNat=k.toNat+1 by omega,zbS,zbS,ht];simp only[zad,zac hk,zac qY,zb9] at h3;rw[zac hk,zac qY,h3]
  refine .inr ⟨?_,rfl⟩;rw[zal (by omega),zal (by omega)] at ht;exact ht)
 (by
  rintro s ae ⟨v,w,rfl,⟨hl,hm⟩,h1,h2⟩;refine⟨(v,w),0,rfl,⟨⟨hl,hm⟩,⟨by decide,by simp⟩,by simp⟩,?_⟩;rintro x (⟨h3,rfl⟩| ⟨h3,rfl⟩)
  ·exact h1 h3
  exact h2 h3)
theorem qc7:FD X 18 LX:=FD.mk (H:=[]) (hk:=[(4,ah (aK 18 4) gSa)]) (by kernel_rfl) .nil (.cons qhZ .nil) (by
 intro ps R ae hh;obtain⟨v,w,rfl,rfl,hm,hp⟩:=hh
 (rw[<-ql4];delta ZW ZX Z7 ZV ZdB ZdC Z3 Z4 ZdA)
 simp only[zaa];refine zU (λh=> ?_) λh=>⟨v,w,rfl,⟨by omega,hm⟩,λh=>hp false ⟨λh2=>(by cases h2),λh2=>absurd h2 h⟩,λh=>hp true ⟨λ_=>h,λ_=>rfl⟩⟩
 exact hp false ⟨λh2=>(by cases h2),λh2=>by subst h2;exact absurd rfl h⟩)
def l0:List fH:=[([47,97],true,[]),([47,97,47,102],false,[120])]
end
theorem X3{L:List ak}{k:Int}{i:Nat}(h:i<L.length):((L.take (i+1)).filter λg=>g.s.2==k&&(g.bs==(0,0))).length=((L.take i).filter λg=>g.s.2==k&&(g.bs==(0,0))).length+(if L[i].s.2=k/\L[i].bs=(0,0) then 1 else 0):=by rw[zae h,zbw,zah];grind
section
variable{X:XF}
theorem qc8:LD X 6 6 (ah (aK 6 6) qhW):=LD.idx (H:=[]) (hk:=[]) (by rfl) (by rfl) .nil .nil
 (A:=List cj×Int) (B:=List cj) (λa p i=>pl6 a.1 a.2 p i) (λa=>a.1.length) (λa i p=>a.1.length<=2000000/\p=s6 (a.1.take i))
 (λa x=>x=(.exit 0,⟨121,[(1,.d (uE a.2)),(5,.d (.bool true)),(6,.sl 0 0 (s6 a.1).length)],[(0,⟨0,none,qhV false (s6 a.1)⟩)]⟩))
 (by
  rintro⟨m,r⟩ p i ae h0 bK aQ ⟨hc,hp⟩ hn aT
  try skip
  (rw[<-qd9];delta ZfR ZA ZT ZW p7 ZfQ L4 Za Z9 Zw Zt Ob ZeU Xy ZeR)
  have e1:D.nth (m.map oa) i.toNat=oa m[i.toNat]:=ax _ _ _ aQ;have DV:p.length<=i.toNat:=by rw[hp];refine zaE (zaG _ _) ?_;rw[zas];omega
  have iv:s6 (m.take (i.toNat+1))=if m[i.toNat].what.tmod 8≠7 then p++[m[i.toNat]] else p:=by grind [s6,List.take_succ_eq_append_getElem,List.filter_cons_of_pos,List.filter_cons_of_neg]
  have bZ:=λp' (h:p'=if m[i.toNat].what.tmod 8≠7 then p++[m[i.toNat]] else p)=>hn p' ⟨hc,by rw[iv];exact h⟩;have dt:0<=i/\i<((m.map oa).length:Int):=by grind
  rw[e1];generalize m[i.toNat]=x at*
  have c0:D.aj (D.ar (oa x) 0)=x.what:=rfl;have t2:D.agg [D.int .u8 x.what,D.int .u8 (D.aj (D.ar (oa x) 1)),D.int .u8 (D.aj (D.ar (oa x) 2)),D.int .u8 (D.aj (D.ar (oa x) 3)),D.int .u8 (D.aj (D.ar (oa x) 4)),D.bool (D.eG (D.ar (oa x) 5))]=oa x:=rfl;rw[c0,t2,bO];refine bn dt.2 (ao dt (aq (qcR _) (aA (λh7=>ao dt (aq (qcR _) ?_)) λh7=>ao (by omega) (bZ p (by rw[zan (by grind)])))));have hy:=bZ _ rfl;rw[zap (by grind)] at hy;simp only[pl6,zah] at hy;exact aq (c8 rfl (by rw[zaa]) (by omega) (by decide)) (ao (by omega) hy))
 (by
  rintro⟨m,r⟩ p i ae hi ⟨hc,hp⟩ aT
  try skip
  (rw[<-qd9];delta ZfR ZA ZT ZW p7 ZfQ L4 Za Z9 Zw Zt Ob ZeU Xy ZeR)
  refine jU (by rw[zaa];omega) (aT _ (λh=>by cases h) ?_);rw[hp,zaj])
 (by rintro s ae ⟨m,r,rfl,hs,hp⟩;refine⟨(m,r),[],rfl,⟨hs,rfl⟩,?_⟩;grind)
theorem X4:LD X 6 21 (ah (aK 6 21) XY):=LD.idx (H:=[]) (hk:=[]) (by rfl) (by rfl) .nil .nil
 (A:=List ak×List fH×Int×Int) (B:=Int) (λa w i=>twD a.1 a.2.1 a.2.2.1 a.2.2.2 w i) (λa=>a.1.length) (λa i w=>a.1.length<=1000000/\Jm (a.1.take i) a.2.2.1 w)
 (λa x=> ∃w,Jm a.1 a.2.2.1 w/\x=(.exit 4,⟨121,[(5,.d (.bool true)),(8,bp a.1),(9,.sl 0 0 a.2.1.length),(10,iD a.2.2.1),(11,iD a.2.2.2),(13,iD w)],[(0,⟨0,none,rJ false a.2.1⟩)]⟩))
 (by
  rintro⟨L,e,k,n⟩ w i ae h0 bK aQ ⟨hc,hw⟩ hn aT
  try dsimp only at*
  (rw[<-qeb];delta Zk Zm Fw w7 ZA Zg0 QG xe ZfZ Cd cg ct AH ZW p7 Za Z9 Zw Zt gT Qr la dM gi iC nv)
  have e1:D.nth (L.map aR) i.toNat=aR L[i.toNat]:=ax _ _ _ aQ;have jS:=X3 (k:=k) aQ;have hwl:w<=i:=by grind [Jm]
  have hw0:0<=w:=by unfold Jm at hw;omega
  have bZ:=λw' (h:w'=w+(if L[i.toNat].s.2=k/\L[i.toNat].bs=(0,0) then 1 else 0))=>hn w' ⟨hc,by unfold Jm at hw⊢;rw[jS,h,hw];split<;>simp⟩;have dt:0<=i/\i<((L.map aR).length:Int):=by grind
  rw[e1];generalize L[i.toNat]=g at*
  have c1:D.aj (D.ar (aR g) 1)=g.s.2:=rfl;have c4:(D.aj (D.ar (aR g) 4)==(0:Int)&&(D.aj (D.ar (aR g) 5)==(0:Int)&&true))=(g.bs==(0,0)):=Lp g.bs (0,0);rw[c1,c4];refine bn dt.2 (ao dt (aq (fh _) (A9 (λhk=>ao dt (aq (fh _) (aA (λhu=>ao (by omega) (ao (by omega) (bZ _ (by rw[zap ⟨hk,by grind⟩])))) λhu=>ao (by omega) (bZ _ (by rw[zan (λh=>by rw[h.2] at hu;simp at hu)];omega))))) λhk=>ao (by omega) (bZ _ (by omega))))))
 (by
  rintro⟨L,e,k,n⟩ w i ae hi ⟨hc,hw⟩ aT
  try skip
  (rw[<-qeb];delta Zk Zm Fw w7 ZA Zg0 QG xe ZfZ Cd cg ct AH ZW p7 Za Z9 Zw Zt gT Qr la dM gi iC nv)
  grind)
 (by rintro s ae ⟨L,e,k,n,rfl,hs,hp⟩;refine⟨(L,e,k,n),0,rfl,⟨hs,by rfl⟩,?_⟩;grind)
variable(hX:XT X)
include hX
theorem qee:FD X 16 Ma:=FD.mk (H:=[(12,hHn),(19,xc),(17,sa)]) (hk:=[]) (by rfl) (.cons qjy (.cons (Od hX) (.cons (FH hX) .nil))) .nil (by
 intro ps R ae hh;obtain⟨l,r,z,rfl,rfl,hs,bS,cv⟩:=hh
 (rw[<-qkz];delta cg gi L3 ZeH ZW FY Zfw Zfv iO kB kg gY kh iy ZfO ZeE ZeD Z3 F4 ct ZfP Zft Zfs Zo Zk Zm Zn B9)
 have hl:=hs.1;have hr1:aI l.length 88=true:=bN (by omega) (by omega);have hr2:aI (l.length+1) 88=true:=bN (by omega) (by omega);have key: ∀(h:ak) (e:Int) (a:ay×Int),h=nQ (aw l) r->e=lU (aw l) r->a=(if z=true then kx l r else nR l r)->
   (e=0/\a.2=0->ae (.cH [.sl 0 0 (l.length+1),.d (.bool true)],[(0,⟨0,none,pb false (l++[⟨h.s,h.n,h.deps,a.1,h.ops⟩])⟩)]))/\(¬(e=0/\a.2=0)->ae (.cH [bp l,.d (.bool false)],[])):=λh e a hh he ha=>by
  grind [uV,oc]
 refine⟨l,r,rfl,rfl,hs,λh e hh he=>⟨l,r,rfl,rfl,hs,λa ha=> ?_⟩⟩;have fin: ∀a,a=(if z=true then kx l r else nR l r)->(bif e !=0 then ae (.cH [bp l,.d (.bool false)],[]) else bif a.2 !=0 then ae (.cH [bp l,.d (.bool false)],[]) else bif Nat.ble 0 0&&aI (0+(l.map aR).length) 88 then bif Nat.ble (0+(l.map aR).length) ([]++l.map aR).length&&aI (0+(l.map aR).length+[aR ⟨h.s,h.n,h.deps,a.1,h.ops⟩].length) 88 then ae (.cH [.sl 0 0 (0+(l.map aR).length+[aR ⟨h.s,h.n,h.deps,a.1,h.ops⟩].length),.d (.bool true)],[(0,⟨0,none,.arr 34 false (List.take (0+(l.map aR).length) ([]++l.map aR)++[aR ⟨h.s,h.n,h.deps,a.1,h.ops⟩])⟩)]) else False else False):=λa ha=>by obtain⟨k1,k2⟩:=key h e a hh he ha;refine aA (λh1=>k2 λhc=>by rw[hc.1] at h1;cases h1) λh1=>aA (λh2=>k2 λhc=>by rw[hc.2] at h2;cases h2) λh2=>aq (by simp[hr1]) (aq (by simp[hr2]) ?_);have:=k1 ⟨by grind,by grind⟩;grind
 cases z with
 |true=>exact ie rfl ⟨l,r,rfl,rfl,hs,λa2 ha2=>fin a2 ha2⟩
 |false=>exact iK rfl (fin a ha))
theorem X5:LD X 6 15 (ah (aK 6 15) XX):=LD.par (H:=[(16,Ma)]) (hk:=[]) (by rfl) (by rfl) (.cons (qee hX) .nil) .nil
 (A:=List ak×List fH×Int) (B:=Bool×Bool×List ak×Nat×Bool) (λa b=>if b.1=true then tnD b.2.2.1 a.2.1 a.2.2 (b.2.2.2.1:Int) b.2.2.2.2 else tnO b.2.1 b.2.2.1 a.2.1 a.2.2 (b.2.2.2.1:Int) b.2.2.2.2)
 (λa b=>(1<=a.2.2/\a.2.2<=3)/\eM a.1 a.2.2 b.2.2.2.1 0 b.2.2.1/\(b.2.2.2.2=false->b.1=true/\b.2.2.2.1=(bt a.1 a.2.2).length)) (λa b=>2*((bt a.1 a.2.2).length-b.2.2.2.1)+(if b.2.2.2.2=true then 1 else 0))
 (λa z=> ∃L n,Mb a.1 a.2.2 L n/\z=tnE L a.2.1 a.2.2 n)
 (by
  rintro⟨g,e,k⟩ ⟨f,z,L,n,b⟩ ⟨hk,hT,hb⟩
  try dsimp only at*
  have hlen:=hT.X2;have hj:=hT.hj;have hsm:=hT.smS.1;cases b with
  |false=>
   obtain⟨hf,hn⟩:=hb rfl;rw[zap hf]
   (rw[<-qea];delta QG xe Zk Zm Fw w7 Cd cg ct AH ZW p7 ZfW Z3 F4 XW Z9z ZA Rr dn Za Z9 Zw Zo dV ZfV)
   refine iK rfl ⟨L,n,⟨?_,by rw[hn]⟩,rfl⟩;rw[<-hn];exact hT
  |true=>
   have bS: ¬n<(bt g k).length-> ∃m',m'<2*((bt g k).length-n)+(if true=true then 1 else 0)/\ ∃b':Bool×Bool×List ak×Nat×Bool,tnD L e k (n:Int) false=(if b'.1=true then tnD b'.2.2.1 e k (b'.2.2.2.1:Int) b'.2.2.2.2 else tnO b'.2.1 b'.2.2.1 e k (b'.2.2.2.1:Int) b'.2.2.2.2)/\((1<=k/\k<=3)/\eM g k b'.2.2.2.1 0 b'.2.2.1/\(b'.2.2.2.2=false->b'.1=true/\b'.2.2.2.1=(bt g k).length))/\m'=2*((bt g k).length-b'.2.2.2.1)+(if b'.2.2.2.2=true then 1 else 0):=λh=>
    ⟨2*((bt g k).length-n),by simp,(true,z,L,n,false),by rw[zap rfl],⟨hk,hT,λ_=>⟨rfl,by grind⟩⟩,by simp⟩
   have cv: ∀h:n<(bt g k).length,∃m',m'<2*((bt g k).length-n)+(if true=true then 1 else 0)/\ ∃b':Bool×Bool×List ak×Nat×Bool,tnO false (L++[sP L k (bt g k)[n].s]) e k ((n:Int)+1) true=(if b'.1=true then tnD b'.2.2.1 e k (b'.2.2.2.1:Int) b'.2.2.2.2 else tnO b'.2.1 b'.2.2.1 e k (b'.2.2.2.1:Int) b'.2.2.2.2)/\((1<=k/\k<=3)/\eM g k b'.2.2.2.1 0 b'.2.2.1/\(b'.2.2.2.2=false->b'.1=true/\b'.2.2.2.1=(bt g k).length))/\m'=2*((bt g k).length-b'.2.2.2.1)+(if b'.2.2.2.2=true then 1 else 0):=λh=>
    ⟨2*((bt g k).length-(n+1))+1,by omega,(false,false,L++[sP L k (bt g k)[n].s],n+1,true),by rfl,⟨hk,hT.qfH hk.1 (by omega) h,λh=>by cases h⟩,by simp⟩
   have zj:(oc L k false=none-> ¬n<(bt g k).length)/\ ∀x,uV L k false x-> ∃h:n<(bt g k).length,x=sP L k (bt g k)[n].s:=by
    by_cases h:n<(bt g k).length
    ·have ht:=hT.qkD hk.1 (by omega) h;grind [uV]
    have ht:=hT.qkE h;grind [uV]
   have qmm:(n:Int)<40:=by omega
   have hn0:(0:Int)<=n:=by omega
   generalize (n:Int)=ni at bS cv qmm hn0⊢;cases f with
   |true=>
    rw[zap rfl]
    (rw[<-qea];delta QG xe Zk Zm Fw w7 Cd cg ct AH ZW p7 ZfW Z3 F4 XW Z9z ZA Rr dn Za Z9 Zw Zo dV ZfV)
    refine ie rfl (bn (by omega) ⟨L,k,false,rfl,rfl,hsm,λh=>bS (zj.1 h),λx hx=>ao (by omega) ?_⟩);obtain⟨h,rfl⟩:=zj.2 x hx;obtain⟨m',h1,b',h2,h3⟩:=cv h;refine⟨m',h1,b',?_,h3⟩;rw[<-h2];simp
   |false=>
    rw[zan Bool.false_ne_true]
    (rw[<-qkA];delta QG XW cg ZfX Zk Zm Fw w7 Rr dn lZ ZW p7 ZfY Z3 F4 LS Z9z ZA Za Z9 Zw xe Cd ct AH Zo dV ZfV)
    refine ie rfl (bn (by omega) ⟨L,k,false,by rw[b7],rfl,hsm,λh=>bS (zj.1 h),λx hx=>ao (by omega) ?_⟩);obtain⟨h,rfl⟩:=zj.2 x hx;obtain⟨m',h1,b',h2,h3⟩:=cv h;refine⟨m',h1,b',?_,h3⟩;rw[<-h2];simp)
 (by
  rintro s ae (⟨g,e,k,rfl,⟨h1,h2,h3⟩,hp⟩| ⟨e,k,rfl,⟨h1,h2,h3⟩,hp⟩)
  ·refine⟨(g,e,k),(true,true,g,0,true),by rfl,⟨h3,eM.start h1 h2 k,λh=>by cases h⟩,?_⟩;grind
  refine⟨([],e,k),(false,true,[],0,true),by rfl,⟨h3,eM.start h1 h2 k,λh=>by cases h⟩,?_⟩;grind)
theorem X6:LD X 6 28 (ah (aK 6 28) XZ):=LD.par (H:=[(16,Ma)]) (hk:=[]) (by rfl) (by rfl) (.cons (qee hX) .nil) .nil
 (A:=List ak×List fH×Int×Nat) (B:=Bool×List ak×Nat) (λa b=>if b.1=true then trD b.2.1 a.2.1 a.2.2.1 (a.2.2.2:Int) (b.2.2:Int) else trO false b.2.1 a.2.1 a.2.2.1 (a.2.2.2:Int) (b.2.2:Int))
 (λa b=>((1<=a.2.2.1/\a.2.2.1<=3)/\a.2.2.2=(bt a.1 a.2.2.1).length)/\eM a.1 a.2.2.1 a.2.2.2 b.2.2 b.2.1) (λa b=>a.2.2.2-b.2.2)
 (λa z=> ∃L,Mc a.1 a.2.2.1 L/\(z=(.exit 6,⟨121,[(5,.d (.bool true)),(8,bp L),(9,.sl 0 0 a.2.1.length),(10,iD a.2.2.1)],[(0,⟨0,none,rJ false a.2.1⟩)]⟩)\/z=(.exit 6,⟨121,[(5,.d (.bool true)),(8,.sl 0 0 L.length),(9,.sl 1 0 a.2.1.length),(10,iD a.2.2.1)],[(0,⟨0,none,pb false L⟩),(1,⟨0,none,rJ false a.2.1⟩)]⟩)))
 (by
  rintro⟨g,e,k,j⟩ ⟨f,L,m⟩ ⟨⟨hk,hjo⟩,hT⟩
  try dsimp only at*
  have hlen:=hT.X2;have hm:=hT.hm;have hsm:=hT.smS.1;have xq: ¬(m:Int)<(j:Int)->Mc g k L:=λh=>by grind [Mc]
  have cv: ∀h:m<j,∃m',m'<j-m/\ ∃b':Bool×List ak×Nat,trO false (L++[sP L k (yd g k (j-1-m))]) e k (j:Int) ((m:Int)+1)=(if b'.1=true then trD b'.2.1 e k (j:Int) (b'.2.2:Int) else trO false b'.2.1 e k (j:Int) (b'.2.2:Int))/\(((1<=k/\k<=3)/\j=(bt g k).length)/\eM g k j b'.2.2 b'.2.1)/\m'=j-b'.2.2:=λh=>
   ⟨j-(m+1),by omega,(false,L++[sP L k (yd g k (j-1-m))],m+1),by rfl,⟨⟨hk,hjo⟩,hT.qfI hk.1 (by omega) h⟩,rfl⟩
  have bS: ∀h:m<j,oc L k true=none->False:=λh h2=>by rw[hT.qec hk.1 (by omega) h] at h2;cases h2
  have jv: ∀(h:m<j) x,uV L k true x->x=sP L k (yd g k (j-1-m)):=λh x hx=>by unfold uV at hx;rw[hT.qec hk.1 (by omega) h] at hx;grind
  have hm0:(m:Int)<(j:Int)->m<j:=by omega
  have Kb:(0:Int)<=m/\(m:Int)<=100:=by omega
  generalize (m:Int)=mi at cv xq hm0 Kb⊢;generalize (j:Int)=ji at cv xq hm0⊢;cases f with
  |true=>
   rw[zap rfl]
   (rw[<-qkB];delta QG xe Zk Zm w7 Cd cg ct AH ZW p7 FY XW Z9z ZA Fw Rr dn Za Z9 Zw Z3 Zo dV Zg1 Zi)
   refine cr (λh=>⟨L,k,true,rfl,rfl,hsm,λh2=>(bS (hm0 h) h2).elim,λx hx=>ao (by omega) ?_⟩) λh=>⟨L,xq h,.inl rfl⟩
   obtain rfl:=jv (hm0 h) x hx;obtain⟨m',h1,b',h2,h3⟩:=cv (hm0 h);refine⟨m',h1,b',?_,h3⟩;rw[<-h2];simp
  |false=>
   rw[zan Bool.false_ne_true]
   (rw[<-qkC];delta QG XW cg ZfX Zk Zm w7 Rr dn lZ ZW p7 FY LS Z9z ZA Fw Za Z9 Zw xe Cd ct AH Z3 Zo dV Zg1 Zi)
   refine cr (λh=>⟨L,k,true,by rw[b7],rfl,hsm,λh2=>(bS (hm0 h) h2).elim,λx hx=>ao (by omega) ?_⟩) λh=>⟨L,xq h,.inr rfl⟩
   obtain rfl:=jv (hm0 h) x hx;obtain⟨m',h1,b',h2,h3⟩:=cv (hm0 h);refine⟨m',h1,b',?_,h3⟩;rw[<-h2];simp)
 (by rintro s ae ⟨g,L,e,k,n,rfl,⟨⟨h1,h2,h3⟩,hL,hn⟩,hp,hq⟩;refine⟨(g,e,k,(bt g k).length),(true,L,0),by rw[zap rfl,hn];rfl,⟨⟨h3,rfl⟩,hL⟩,?_⟩;grind)
omit hX in
theorem QJ{l:List ak}(h:XO l):(FJ l).length<=1000000:=by have nq:=h.2 aB;have ho2:cG (aw l)<=1000:=nq.2.1.1.2.1;have hB:=wU (on:=fP l) (l:=aw l) (gI (l:=l)) _ (zak _);rw[zaj] at hB;have h1:=uA (gI (l:=l)) (im l) (Lc (ET (jQ (fP l) (aw l)).a (jQ (fP l) (aw l)).p));have h2:=uz (ET (jQ (fP l) (aw l)).a (jQ (fP l) (aw l)).p);have h3:=rf (jQ (fP l) (aw l)).a (jQ (fP l) (aw l)).p;have h4:=uw (sW (aw l) (jQ (fP l) (aw l)));have h5:=DC (T:=pw (sW (aw l) (jQ (fP l) (aw l)))) (V:=Ld (jQ (fP l) (aw l)).h (jQ (fP l) (aw l)).g);have h6:=hB.2.1;unfold sW at h4 h5;unfold FJ AI sW;rw[zaa];omega
def qmn:bg:=λps R ae=> ∃m r,ps=[.d (.sl 6 (m.map oa)),.d (uE r)]/\R=[]/\((AQ m/\m.length<=2000000)/\0<=r/\r<=255)/\ae (.d (.bool true),[])
theorem qh0:FD X 6 qmn:=FD.mk (H:=[(9,AU),(11,qhx),(15,qhM),(17,sa),(18,LX)]) (hk:=[(6,ah (aK 6 6) qhW),(15,ah (aK 6 15) XX),(21,ah (aK 6 21) XY),(28,ah (aK 6 28) XZ)]) (by rfl)
  (.cons (QH hX) (.cons qkr (.cons qkt (.cons (FH hX) (.cons qc7 .nil))))) (.cons qc8 (.cons (X5 hX) (.cons X4 (.cons (X6 hX) .nil)))) (by
 intro ps R ae hh;obtain⟨m,r,rfl,rfl,⟨hm,hr⟩,hp⟩:=hh
 (rw[<-qhX];delta QG xe ZW Z7 Zg4 Zga Cd cg ct AH p7 dn LS Zce Zk Zm Zn jl Z3 Z4 ZdB Zff Zo Zg7 B9 Fw w7 Zg6 iR Zg5 Zg8 XW ZfE Rr ZY Zgc Zgb Zg9 Za Z9 Zg3 Zel ZfB Zfz pU ZfQ L4 Zg2 Zfr)
 have hq:=uU hr.1 (show(0:Int)<3 by decide);refine⟨rfl,rfl,m,r,rfl,hm.2,λp DV=>⟨p,by rw[b7],rfl,?_,?a,?b⟩⟩
 ·rw[DV];exact⟨zaE (zaG _ _) hm.1.1,λx hx=>hm.1.2 x (zbv.1 hx).1⟩
 case' a=>
  generalize r.tmod 3=q at*
  have hO:Jl [] (1+q):=⟨XV,λx hx=>(by cases hx),by omega,by omega⟩
  have h0:=eM.start hO.1 hO.2.1 (1+q);refine⟨[],rfl,rfl,⟨h0.smS,h0.smT⟩,λe he=> ?_⟩;refine ao (by omega) (ao (by omega) (.inr ⟨e,1+q,rfl,hO,λL n hL=> ?_⟩))
 case' b=>
  intro g hg;generalize r.tmod 3=q at*
  have hO:Jl g (1+q):=⟨hg.1,hg.2 λx hx=>(by rw[DV] at hx;simpa using(zbv.1 hx).2),by omega,by omega⟩
  have h0:=eM.start hO.1 hO.2.1 (1+q);refine⟨g,rfl,rfl,⟨h0.smS,h0.smT⟩,λe he=> ?_⟩;refine ao (by omega) (ao (by omega) (.inl ⟨g,e,1+q,rfl,hO,λL n hL=> ?_⟩))
 all_goals
  have hlen:=hL.1.X2;have hgl:=hO.1.len;have Ep:=hL.1.cnt;refine⟨L,e,_,n,rfl,by omega,λw hw=>iK ?_ ⟨_,L,e,_,n,rfl,⟨hO,hL⟩,λL' hA=> ?_,λL' hA=> ?_⟩⟩;have:w=n:=by unfold Jm at hw;unfold qhY at Ep;rw[hw,Ep,hL.2]
  rw[this];simp
 all_goals
  have hS:=hA.smS;have hT:=hA.smT;have hsn:=hA.seen;have hrd:=hA.qbo;refine⟨L',_,by first |rfl |rw[b7],rfl,hS.1,λa ha=>⟨L',by first |rfl |rw[b7],rfl,⟨hS,hT⟩,λe' cS=>⟨e',e,by rw[b7,b7],rfl,?_,λb hb=> ?_⟩⟩⟩
  ·rw[cS];have:=QJ hT;omega
  grind)
end
theorem Jn: ∀l:List D,l.length<=kr l
 | []=>zak _
 |x::l=>by have:=Jn l;rw[zao];unfold kr;omega
theorem Jo(xs:List D)(h:qB PR 8 [26,5] xs)(hb:kr xs<=1048576): ∃lf k R,fJ PR (MT Oe) lf k 6 (xs.map P.d) []=some (.d (.bool true),R):=by obtain⟨x,r,rfl,hx,h⟩:=fitAll_cons h;obtain⟨y,r,rfl,hy,h⟩:=fitAll_cons h;have e:=fitAll_nil h;obtain⟨l,rfl,hl⟩:=qhU hx;obtain⟨n,rfl,hn⟩:=qkx hy;simp only[kr,nK] at hb;have:=Jn (l.map oa);rw[zaa] at this;obtain⟨lf,k,hr⟩:=(qh0 qcN).run (y:=(.d (.bool true),[])) ⟨l,n,rfl,rfl,⟨⟨hl,by omega⟩,hn⟩,rfl⟩;grind
end Pi
namespace Pi
open Go Go.Proofs Go.Proofs.YtngoddkencoalaaGreatDoor
mutual
theorem X7{H:Type}: ∀d:DataW H,fV d<=Rows.uptoBulk d
 | .lit l=>by cases l<;>simp[fV,Rows.uptoBulk]
 | .nil=>by simp[fV,Rows.uptoBulk]
 | .ptr d=>by simp[fV,Rows.uptoBulk]
 | .slice elems spare=>by have h1:=od elems;have h2:=od spare;simp only[fV,Rows.uptoBulk];omega
 | .agg parts=>by have h1:=od parts;simp only[fV,Rows.uptoBulk];omega
 | .iface _ d=>by simp[fV,Rows.uptoBulk]
 | .map es=>by simp[fV,Rows.uptoBulk]
 | .held _=>by simp[fV,Rows.uptoBulk]
theorem od{H:Type}: ∀ds:List (DataW H),gF ds<=Rows.uptoBulkAll ds
 | []=>zak _
 |d::r=>by have h1:=X7 d;have h2:=od r;simp only[gF,Rows.uptoBulkAll];omega
end
theorem Jp{H:Type}: ∀(a b:List (DataW H)),Rows.uptoBulkAll a<=Rows.uptoBulkAll (a++b)
 | [],b=>za1 _
 |d::a,b=>by have:=Jp a b;simp only[zcI,Rows.uptoBulkAll];omega
theorem QK{H:Type}{ds gs:List (DataW H)}(h:Rows.uptoSmall H (ds++gs)=true):gF ds<=1048576:=by have h1:=od ds;have h2:=Jp ds gs;simp only[Rows.uptoSmall,zai] at h;omega
end Pi
