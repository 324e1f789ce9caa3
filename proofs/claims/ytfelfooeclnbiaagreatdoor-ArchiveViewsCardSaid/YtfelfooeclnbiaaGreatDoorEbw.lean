/- The texts HgP ElP GnP Gn2 Gn2H ArP A6 Et Gn1 Gn1H Gn3 HlP W20 Gn3H EtH Eu TrE EuH AvP AvQ Av A6H LsF GnF AvH. -/
import Derived.Test.YtfelfooeclnbiaaGreatDoorEbv
import Derived.Lib.LaidTab
import Derived.Lib.LaidU8T
import Derived.Stop.LaidErr
import Derived.Shelf.Vars
import Derived.Lay
import Derived.Deep.DeepHandedRow
import Derived.SevenTiedAt
import Derived.ProofKit
import Derived.Test.YtfelfooeclnbiaaGreatDoorRows
import Derived.Lib.MapLaws
import Derived.Lib.ValidLaws
namespace Pi
open Go Go.Proofs
set_option maxRecDepth 100000
set_option maxHeartbeats 0
structure bG(i:Int)(l:List av):Prop where
 JQ: ∀g∈l,dC g=true
 nd:(l.map (·.s)).Nodup
 sm: ∀g∈l,(1<=g.s.2/\g.s.2<=3)/\(g.s.1<=i/\g.n<=i)/\g.ops.length<=1/\ ∀o∈g.ops,o.text.length<=2/\o.elems.length<=3
 len:(l.length:Int)<=i
structure oF(i:Int)(l:List av)(K:List (List Int)):Prop where
 len:K.length=3
 vec: ∀v∈K,dN v=true/\ ∀r,e7 v r<=i
 own: ∀g∈l,g.n<=e7 (K.getD (g.s.2-1).toNat []) g.s.2
 top: ∀v∈K,∀r,1<=r->r<=3->e7 v r<=e7 (K.getD (r-1).toNat []) r
structure jv(i:Int)(K:List (List Int))(r:Int)(v:List Int):Prop where
 vec:dN v=true/\ ∀q,e7 v q<=i
 own:e7 v r=e7 (K.getD (r-1).toNat []) r
 top: ∀q,1<=q->q<=3->e7 v q<=e7 (K.getD (q-1).toNat []) q
def aN(l:List av)(v:List Int):List av:=l.filter λg=>decide (g.n<=e7 v g.s.2)
theorem yX{v:List Int}(h:dN v=true)(r:Int):0<=e7 v r:=by
 unfold dN at h;rw[zal] at h;unfold e7;split
 ·exact zbI _
 rw[zab];cases hk:v[(r-1).toNat]? with
 |none=>exact zbI _
 |some x=>exact h.1 x (zaz hk)
theorem oa{v:List Int}(h:dN v=true):v.length<=16:=by unfold dN at h;rw[zal] at h;exact h.2.1
theorem BM{v:List Int}(h1: ∀n∈v,0<=n)(h2:v.length<=16):dN (bM v)=true:=by unfold dN;rw[zal];refine⟨λn hn=>h1 n (za3 hn),?_,by rw[FK]⟩;rw[rF];have:=rE v v.length;omega
theorem BN(v:List Int)(r:Int):e7 (bM v) r=e7 v r:=by
 by_cases h:1<=r
 ·rw[nO _ h,nO _ h,IJ]
 unfold e7;rw[zaq (by omega),zaq (by omega)]
theorem Z2{n:Nat}{f:Nat->Int}{r:Int}(h:1<=r):e7 (pL n f) r=if(r-1).toNat<n then f (r-1).toNat else 0:=by rw[nO _ h,yf]
theorem yY{n:Nat}{f:Nat->Int}(h: ∀i,0<=f i): ∀x∈pL n f,0<=x:=by intro x hx;unfold pL at hx;obtain⟨i,_,rfl⟩:=zaX.1 hx;exact h i
theorem qaa{v:List Int}{r n:Int}(h1:1<=r)(q:Int)(hq:1<=q):e7 (bM (gO v r n)) q=if q=r then n else e7 v q:=by
 rw[BN];unfold gO;rw[Z2 hq];have e:(((q-1).toNat:Nat):Int)+1=q:=by omega
 simp only[e];split
 ·rfl
 rename_i h;rw[zap (by omega),nO _ hq,qd (by omega)]
theorem LI{v:List Int}{q:Int}(h:q<1):e7 v q=0:=by unfold e7;rw[zaq (by omega)]
theorem Ue{v:List Int}{r n:Int}(hv:dN v=true)(h1:1<=r)(h2:r<=16)(hn:0<=n):dN (bM (gO v r n))=true:=by
 refine BM (yY λi=> ?_) ?_
 ·split
  ·exact hn
  exact yX hv _
 unfold gO;rw[FG];have:=oa hv;omega
theorem yZ(v w:List Int)(q:Int)(hq:1<=q):e7 (mc v w) q=max (e7 v q) (e7 w q):=by unfold mc;rw[BN,nO _ hq,QJ,<-nO _ hq,<-nO _ hq]
theorem BO{v w:List Int}(hv:dN v=true)(hw:dN w=true):dN (mc v w)=true:=by
 refine BM (yY λi=> ?_) ?_
 ·have:=yX hv ((i:Int)+1);omega
 unfold W6;rw[FG];have:=oa hv;have:=oa hw;omega
theorem jv.start{i:Int}{l:List av}{K:List (List Int)}(h:oF i l K){r:Int}(h1:1<=r)(h2:r<=3):jv i K r (K.getD (r-1).toNat []):=by
 have hm:K.getD (r-1).toNat []∈K:=by rw[zab,zac (by rw[h.len];omega)];exact zar _
 exact⟨h.vec _ hm,rfl,λq h3 h4=>h.top _ hm q h3 h4⟩
theorem jv.merge{i:Int}{l:List av}{K:List (List Int)}(h:oF i l K){r:Int}(h1:1<=r)(h2:r<=3){v w:List Int}(hv:jv i K r v)(hw:w∈K):jv i K r (mc v w):=by
 have hww:=h.vec _ hw;refine⟨⟨BO hv.vec.1 hww.1,λq=> ?_⟩,?_,λq h3 h4=> ?_⟩
 ·by_cases hq:1<=q
  ·rw[yZ _ _ _ hq];have:=hv.vec.2 q;have:=hww.2 q;omega
  have:=hww.2 q;rw[LI (by omega)] at this⊢;exact this
 ·rw[yZ _ _ _ h1,<-hv.own];have:=h.top _ hw r h1 h2;rw[<-hv.own] at this;omega
 rw[yZ _ _ _ h3];have:=h.top _ hw q h3 h4;have:=hv.top q h3 h4;omega
def eW(l:List av)(v:List Int)(r:Int):aO:=(sb (aN l v)+1,r)
structure y5(l:List av)(v:List Int)(r:Int)(g:av):Prop where
 s:g.s=eW l v r
 n:g.n=e7 v r+1
 deps:g.deps=v
 body:(∃x∈aN l v,g.lA=x.s/\g.ops=[])\/(g.lA=(0,0)/\ ∃o m,g.ops=[o]/\mS g.s 0 o=some m/\o.text.length<=2/\o.elems.length<=3)
theorem Dy{s:aO}:RO s=true↔1<=s.1/\s.1<=1099511627776/\1<=s.2/\s.2<=16:=by show C0 s.1 s.2=true↔_;unfold C0;rw[zal]
theorem Dz{a b:aO}:r8 a b=true↔a.1<b.1\/a.1=b.1/\a.2<b.2:=by show uA a.1 a.2 b.1 b.2=true↔_;unfold uA;rw[zal]
theorem DA{g:av}(h:dC g=true):RO g.s=true/\(1<=g.n/\g.n<=1099511627776)/\dN g.deps=true/\e7 g.deps g.s.2=g.n-1:=by unfold dC hdG at h;simp only[zad,zal,zbp] at h;exact⟨h.1.1.1.1,h.1.1.1.2,h.1.1.2,h.1.2⟩
theorem iS{l:List av}{v:List Int}{g:av}:g∈aN l v↔g∈l/\g.n<=e7 v g.s.2:=by unfold aN;rw[zb0,zal]
theorem bG.sb{i:Int}{l:List av}(h:bG i l)(hi:0<=i)(v:List Int):0<=sb (aN l v)/\sb (aN l v)<=i:=
 ⟨(uH _).1,Sq hi _ λg hg=>(h.sm g (iS.1 hg).1).2.1.1⟩
theorem y5.JQ{i:Int}{l:List av}{K:List (List Int)}{v:List Int}{r:Int}{g:av}(hl:bG i l)(hi:0<=i/\i<=1000)(h1:1<=r)(h2:r<=3)(hv:jv i K r v)(h:y5 l v r g):dC g=true:=by
 have hm:=hl.sb hi.1 v;have ha:=yX hv.vec.1 r;have hb:=hv.vec.2 r;have hs:g.s.1=sb (aN l v)+1/\g.s.2=r:=by rw[h.s];exact⟨rfl,rfl⟩
 unfold dC hdG;have hh:(RO g.s&&decide (1<=g.n/\g.n<=1099511627776)&&dN g.deps&&(e7 g.deps g.s.2==g.n-1))=true:=by rw[h.deps,h.n,hv.vec.1,hs.2];simp only[zad,zal,zbp,zdd];refine⟨⟨Dy.2 (by omega),by omega⟩,by omega⟩
 rw[hh,zbf];rcases h.body with⟨x,hx,hu,ho⟩| ⟨hu,o,m,ho,Ch,_⟩
 ·have z6:=iS.1 hx;have hr:=(DA (hl.JQ x z6.1)).1;have hr2:=Dy.1 hr;have hx3:=(uH (aN l v)).2 x hx;rw[hu,zaq (λe=>by have:=congrArg Prod.fst e;simp only at this;omega),hr,ho];simp only[zbf,zay,zc7,zc1];exact Dz.2 (.inl (by omega))
 rw[hu,zap (by simp),ho];simp only[zam,zay,nW,Ch,zc1,zal];omega
theorem y5.new{i:Int}{l:List av}{K:List (List Int)}{v:List Int}{r:Int}{g:av}(_:bG i l)(hK:oF i l K)(hv:jv i K r v)(_:y5 l v r g): ∀x∈l,x.s.2=r->x∈aN l v:=by intro x hx hr;refine iS.2 ⟨hx,?_⟩;have:=hK.own x hx;rw[hr] at this⊢;rw[hv.own];exact this
theorem y5.qdd{i:Int}{l:List av}{K:List (List Int)}{v:List Int}{r:Int}{g:av}(hl:bG i l)(hK:oF i l K)(hi:0<=i/\i<=1000)(h1:1<=r)(h2:r<=3)(hv:jv i K r v)(h:y5 l v r g):
  bG (i+1) (l++[g])/\oF (i+1) (l++[g]) (K.set (r-1).toNat (bM (gO v r (e7 v r+1)))):=by
 have hm:=hl.sb hi.1 v;have ha:=yX hv.vec.1 r;have hb:=hv.vec.2 r;have hs:g.s.1=sb (aN l v)+1/\g.s.2=r:=by rw[h.s];exact⟨rfl,rfl⟩
 have hgn:=h.n;have hc:=h.JQ hl hi h1 h2 hv;have hw:dN (bM (gO v r (e7 v r+1)))=true:=Ue hv.vec.1 h1 (by omega) (by omega);have hwa:=λq hq=>qaa (v:=v) (n:=e7 v r+1) h1 q hq;have hlen:=hK.len;have pk: ∀q:Int,1<=q->q<=3->(K.set (r-1).toNat (bM (gO v r (e7 v r+1)))).getD (q-1).toNat []=if q=r then bM (gO v r (e7 v r+1)) else K.getD (q-1).toNat []:=by
  intro q h3 h4;rw[zab];split
  next e=>rw[e,zch (by omega)];rfl
  rename_i e;rw[zaY (by omega),zab]
 refine⟨⟨?_,?_,?_,?_⟩,⟨by simp[hlen],?_,?_,?_⟩⟩
 ·intro x hx;rcases zaB.1 hx with hx |hx
  ·exact hl.JQ x hx
  rw[za6.1 hx];exact hc
 ·rw[zaG,zbb];refine⟨hl.nd,by simp,λa ha2 b dM e=> ?_⟩;simp only[zaO,zb8,za6] at dM;subst dM;obtain⟨x,hx,hxe⟩:=zaX.1 ha2;have V0:x.s=g.s:=hxe.trans e;have hk:=h.new hl hK hv x hx (by rw[V0];exact hs.2);have:=(uH (aN l v)).2 x hk;rw[V0] at this;omega
 ·intro x hx;rcases zaB.1 hx with hx |hx
  ·obtain⟨a,b,c⟩:=hl.sm x hx;exact⟨a,by omega,c⟩
  rw[za6.1 hx];refine⟨by omega,by omega,?_⟩;rcases h.body with⟨y,_,_,ho⟩| ⟨_,o,m,ho,_,h5,h6⟩
  ·rw[ho];exact⟨by simp,λo ho=>by cases ho⟩
  rw[ho];exact⟨by simp,λo' fA=>by rw[za6.1 fA];exact⟨h5,h6⟩⟩
 ·have:=hl.len;rw[zaj,zaU];omega
 ·intro u hu;rcases zdh hu with hu |rfl
  ·exact⟨(hK.vec u hu).1,λq=>by have:=(hK.vec u hu).2 q;omega⟩
  refine⟨hw,λq=> ?_⟩;by_cases hq:1<=q
  ·rw[hwa q hq];have:=hv.vec.2 q;split<;>omega
  rw[LI (by omega)];omega
 ·intro x hx;rcases zaB.1 hx with hx |hx
  ·obtain⟨a,_,_⟩:=hl.sm x hx;rw[pk _ a.1 a.2];have h3:=hK.own x hx;split
   next e=>rw[e,hwa r h1,zaq rfl];rw[e,<-hv.own] at h3;omega
   exact h3
  rw[za6.1 hx,hs.2,pk r h1 h2,zaq rfl,hwa r h1,zaq rfl];omega
 intro u hu q h3 h4;rw[pk q h3 h4];rcases zdh hu with hu |rfl
 ·have h5:=hK.top u hu q h3 h4;split
  next e=>rw[hwa q h3,zaq e];rw[e] at h5⊢;rw[<-hv.own] at h5;omega
  exact h5
 split
 ·exact zbI _
 rename_i e;rw[hwa q h3,zap e];exact hv.top q h3 h4
theorem Uf:bG 0 []/\oF 0 [] [[],[],[]]:=by
 refine⟨⟨(λ_ h=>by cases h),by simp,(λ_ h=>by cases h),by simp⟩,⟨rfl,?_,(λ_ h=>by cases h),?_⟩⟩
 ·intro v hv;have:v=[]:=by simpa using hv
  subst this;refine⟨by decide,λr=> ?_⟩;unfold e7;split<;>simp
 intro v hv r h1 h2;have:v=[]:=by simpa using hv
 subst this;have e:e7 [] r=0:=by unfold e7;split<;>simp
 have h3:([[],[],[]]:List (List Int)).getD (r-1).toNat []=[]:=by
  have key: ∀n:Nat,([[],[],[]]:List (List Int)).getD n []=[]:=λn=>by
   match n with
   |0=>rfl
   |1=>rfl
   |2=>rfl
   |_+3=>rfl
  exact key _
 rw[h3];exact zbI _
theorem op1{i:Int}{l:List av}(hl:bG i l){g:av}(hg:g∈l){o:bs}(ho:o∈g.ops): ∃m,mS g.s 0 o=some m:=by
 have h1:=(hl.sm g hg).2.2.1;have h2:=Dp (hl.JQ g hg);cases Al:g.ops with
 |nil=>rw[Al] at ho;cases ho
 |cons a r=>
  rw[Al] at h1 ho h2;have hr:r=[]:=by simpa using h1
  subst hr;rw[za6.1 ho];unfold nW at h2;split at h2
  ·exact⟨_,by assumption⟩
  cases h2
theorem Ug{s t:aO}{k:Int}(ht:RO t=true)(bz:t.1<s.1)(h0:0<=k)(hk:k<=400000):cJ s 0 (t.1,t.2,k)=true:=by have:=Dy.1 ht;unfold cJ;rw[zad,za1];refine⟨?_,.inl (Dz.2 (.inl bz))⟩;show aY t.1 t.2 k=true;unfold aY;rw[zal];omega
def ie(l:List av)(x:aq):Prop:= ∃g∈l,Nj x=g.s/\0<=x.2.2/\x.2.2<=1000
theorem ie.ahead{i:Int}{l:List av}(hl:bG i l){v:List Int}{r:Int}{x:aq}(h:ie (aN l v) x):cJ (eW l v r) 0 x=true:=by obtain⟨g,hg,hs,h0,h1⟩:=h;have hg2:=iS.1 hg;have:=(uH (aN l v)).2 g hg;have hrg:=(DA (hl.JQ g hg2.1)).1;have Cd:x.1=g.s.1:=congrArg Prod.fst hs;have z6:x.2.1=g.s.2:=congrArg Prod.snd hs;have hh:=Ug (s:=eW l v r) hrg (show g.s.1<sb (aN l v)+1 by omega) h0 (by omega);obtain⟨a,b,c⟩:=x;simp only at Cd z6;rw[Cd,z6];exact hh
theorem ie.par{i:Int}{l:List av}(hl:bG i l){v:List Int}{r:Int}{x:aq}(h:x=aD\/ie (aN l v) x):rN (eW l v r) 0 x=true:=by
 unfold rN;rcases h with rfl |h
 ·simp
 rw[h.ahead hl,Bool.or_true]
theorem Uh{i:Int}{l:List av}(hl:bG i l){g:av}(hg:g∈l){o:bs}(ho:o∈g.ops)(hk:o.kind=0):ie l o.node:=by obtain⟨m,hm⟩:=op1 hl hg ho;obtain⟨h1,_⟩:=GQ hm hk;exact⟨g,hg,by rw[h1],by rw[h1];exact zbI _,by rw[h1];show(0:Int)<=1000;decide⟩
theorem LJ{s:aO}{k n:Int}{o:bs}(h:mS s k o=some n)(h0:o.kind=3):o.elem=(s.1,s.2,k):=by
 unfold mS at h;rw[zap (by omega: ¬o.kind=0),zap (by omega: ¬o.kind=1),zap (by omega: ¬o.kind=2),zaq h0] at h;split at h
 ·cases h
 split at h
 next hh=>exact hh.2.2.1
 cases h
theorem Ui{i:Int}{l:List av}(hl:bG i l){g:av}(hg:g∈l){o:bs}(ho:o∈g.ops)(hk:o.kind=3){k:Int}(h0:0<=k)(h1:k<=1000):ie l (o.elem.1,o.elem.2.1,o.elem.2.2+k):=by obtain⟨m,hm⟩:=op1 hl hg ho;have h2:=LJ hm hk;rw[h2];exact⟨g,hg,rfl,by show 0<=0+k;omega,by show 0+k<=1000;omega⟩
def G6(s:aO)(p:aq)(nm:List UInt8)(d:Bool):bs:=⟨0,(s.1,s.2,0),p,nm,d,[],aD,aD,[],[]⟩
def Uj(x p:aq)(nm:List UInt8):bs:=⟨1,x,p,nm,false,[],aD,aD,[],[]⟩
def Uk(x:aq)(d:List aO):bs:=⟨2,x,aD,[],false,d,aD,aD,[],[]⟩
def qab(s:aO)(x a:aq)(t:List UInt8):bs:=⟨3,x,aD,[],false,[],a,(s.1,s.2,0),t,[]⟩
def qac(x:aq)(e:List aq):bs:=⟨4,x,aD,[],false,[],aD,aD,[],e⟩
section
variable{i:Int}{l:List av}(hl:bG i l){v:List Int}{r:Int}
include hl
theorem LK{p:aq}(hp:p=aD\/ie (aN l v) p){nm:List UInt8}(hn:bR nm=true)(d:Bool):mS (eW l v r) 0 (G6 (eW l v r) p nm d)=some 1:=by have h1:=ie.par hl (r:=r) hp;simp[mS,G6,jr,mR,h1,hn]
theorem qad{x p:aq}(hx:ie (aN l v) x)(hp:p=aD\/ie (aN l v) p){nm:List UInt8}(hn:bR nm=true):mS (eW l v r) 0 (Uj x p nm)=some 0:=by have h1:=ie.par hl (r:=r) hp;have h2:=hx.ahead hl (r:=r);simp[mS,Uj,jr,mR,h1,h2,hn]
theorem qae{x:aq}(hx:ie (aN l v) x){d:List aO}(hd: ∀s∈d,∃g∈aN l v,g.s=s)(hs:d.Pairwise λa b=>r8 a b=true)(VQ:d.length<=200):mS (eW l v r) 0 (Uk x d)=some 0:=by
 have h2:=hx.ahead hl (r:=r);have h3:tf (eW l v r) d=true:=by
  unfold tf;rw[zad,zal];refine⟨Da λk hk=> ?_,VQ⟩;unfold wm;have hg:d.getD k (0,0)=d[k]:=by rw[zab,zac hk];rfl
  obtain⟨g,hgm,hgs⟩:=hd _ (zar hk);have hg2:=iS.1 hgm;have h4:=(uH (aN l v)).2 g hgm;rw[hg,<-hgs];rw[zad,zad,za1];refine⟨⟨(DA (hl.JQ g hg2.1)).1,?_⟩,?_⟩
  ·rw[zbA,<-zbS,Dz];show ¬(sb (aN l v)+1<g.s.1\/sb (aN l v)+1=g.s.1/\r<g.s.2);omega
  by_cases h0:k=0
  ·exact .inl (by simp[h0])
  refine .inr ?_;have AJ:d.getD (k-1) (0,0)=d[k-1]:=by rw[zab,zac (by omega)];rfl
  rw[AJ,hgs];exact zba.1 hs (k-1) k (by omega) hk (by omega)
 simp[mS,Uk,jr,mR,h2,h3]
theorem qaf{x a:aq}(hx:ie (aN l v) x)(ha:a=aD\/ie (aN l v) a){t:List UInt8}(ht:ti t=true):mS (eW l v r) 0 (qab (eW l v r) x a t)=some (Gn t):=by have h1:=ie.par hl (r:=r) ha;have h2:=hx.ahead hl (r:=r);simp[mS,qab,jr,mR,h1,h2,ht]
theorem qag{x:aq}(hx:ie (aN l v) x){e:List aq}(he: ∀y∈e,ie (aN l v) y)(hs:e.Pairwise λa b=>lz a b=true)(h1:1<=e.length)(h3:e.length<=3):mS (eW l v r) 0 (qac x e)=some 0:=by
 have h2:=hx.ahead hl (r:=r);have h4:Db (eW l v r) 0 e=true:=by
  unfold Db;rw[zad,zal];refine⟨Da λk hk=> ?_,by omega⟩;unfold RQ;have hg:e.getD k aD=e[k]:=by rw[zab,zac hk];rfl
  rw[hg,zad,za1];refine⟨(he _ (zar hk)).ahead hl,?_⟩;by_cases h0:k=0
  ·exact .inl (by simp[h0])
  refine .inr ?_;have AJ:e.getD (k-1) aD=e[k-1]:=by rw[zab,zac (by omega)];rfl
  rw[AJ];exact zba.1 hs (k-1) k (by omega) hk (by omega)
 simp[mS,qac,jr,mR,h2,h4]
end
abbrev bn:=aq×aq×List UInt8
abbrev br:=aq×aq×List UInt8
def kj(t:List UInt8):List (List UInt8):=if Lib.validD t=true then Gp t else []
def zx(r:bn)(k:Nat):aq:=(r.2.1.1,r.2.1.2.1,r.2.1.2.2+k)
def elA(r:bn):Nat->aq
 |0=>r.1
 |k+1=>zx r k
def N1(o:List br)(x a:aq)(p:List UInt8):List br:=if x=aD\/(o.any λe=>e.1==x)=true then o else o++[(x,a,p)]
def Ed(r:bn)(o:List br)(l:List (List UInt8)):List br:=l.zipIdx.foldl (λo p=>N1 o (zx r p.2) (elA r p.2) p.1) o
def elR(o:List br)(r:bn):List br:=Ed r o (kj r.2.2)
def qC(l:List bn):List br:=l.foldl elR []
theorem pS{r:bn}{o:List br}{l:List (List UInt8)}{i:Nat}(h:i<l.length):Ed r o (l.take (i+1))=N1 (Ed r o (l.take i)) (zx r i) (elA r i) l[i]:=by unfold Ed;rw[zaf h,List.zipIdx_append,zbd];simp[zat,zbW (Nat.le_of_lt h)]
theorem pU{l:List bn}{i:Nat}(h:i<l.length):qC (l.take (i+1))=elR (qC (l.take i)) l[i]:=by unfold qC;rw[zaf h,zbd];rfl
theorem qah(o:List br)(x a:aq)(p:List UInt8):(N1 o x a p).length<=o.length+1:=by
 unfold N1;split
 ·omega
 simp
theorem DB{r:bn}{o:List br}{l:List (List UInt8)}: ∀i,i<=l.length->(Ed r o (l.take i)).length<=o.length+i
 |0,_=>by simp[Ed]
 |i+1,hi=>by rw[pS (by omega)];have:=qah (Ed r o (l.take i)) (zx r i) (elA r i) (l[i]'(by omega));have:=DB (r:=r) (o:=o) (l:=l) i (by omega);omega
def G7(R:List bn)(o:List br):Prop:=(o.map (·.1)).Nodup/\ ∀e∈o,e.1≠aD/\ ∃r∈R,∃k,k<(kj r.2.2).length/\e.1=zx r k/\e.2.1=elA r k
theorem G7.step{R:List bn}{o:List br}(h:G7 R o){r:bn}(hr:r∈R){k:Nat}(hk:k<(kj r.2.2).length)(p:List UInt8):G7 R (N1 o (zx r k) (elA r k) p):=by
 unfold N1;split
 ·exact h
 rename_i hn;refine⟨?_,λe he=> ?_⟩
 ·rw[zaG,zbb];refine⟨h.1,by simp,λa ha b hb e=> ?_⟩;rw[show b=zx r k by simpa using hb] at e;obtain⟨y,hy,hye⟩:=zaX.1 ha;exact hn (.inr (zbG.2 ⟨y,hy,by simpa using hye.trans e⟩))
 rcases zaB.1 he with he |he
 ·exact h.2 e he
 rw[za6.1 he];exact⟨λe=>hn (.inl e),r,hr,k,hk,rfl,rfl⟩
theorem G7.run{R:List bn}{o:List br}(h:G7 R o){r:bn}(hr:r∈R): ∀i,i<=(kj r.2.2).length->G7 R (Ed r o ((kj r.2.2).take i))
 |0,_=>by simpa [Ed] using h
 |i+1,hi=>by rw[pS (by omega)];exact(G7.run h hr i (by omega)).step hr (by omega) _
theorem uT{l:List bn}: ∀i,i<=l.length->G7 l (qC (l.take i))
 |0,_=>⟨by simp[qC],λe he=>by simp[qC] at he⟩
 |i+1,hi=>by rw[pU (by omega)];have:=(uT (l:=l) i (by omega)).run (zar (show i<l.length by omega)) (kj (l[i]'(by omega)).2.2).length (zai _);rwa [zag] at this
def zy(l:List bn):Nat:=(l.map λr=>(kj r.2.2).length).sum
theorem BP{l:List bn}{i:Nat}(h:i<l.length):zy (l.take (i+1))=zy (l.take i)+(kj l[i].2.2).length:=by unfold zy;rw[zaf h,zaG,List.sum_append];simp only[zaO,zb8,List.sum_cons,List.sum_nil,zbV]
theorem Ul(l:List bn)(i:Nat):zy (l.take i)<=zy l:=by
 have:zy l=zy (l.take i)+zy (l.drop i):=by unfold zy;rw[<-List.sum_append,<-zaG,zbv]
 omega
theorem oc{l:List bn}: ∀i,i<=l.length->(qC (l.take i)).length<=zy (l.take i)
 |0,_=>by simp[qC]
 |i+1,hi=>by rw[pU (by omega),BP (by omega)];have h1:=oc (l:=l) i (by omega);have h2:=DB (r:=l[i]'(by omega)) (o:=qC (l.take i)) (l:=kj (l[i]'(by omega)).2.2) _ (zai _);rw[zag] at h2;unfold elR;omega
theorem y7{α β:Type}(f:α->β){l:List α}(h:(l.map f).Nodup):l.Nodup:=List.Pairwise.of_map f (λ_ _ h e=>h (congrArg f e)) h
def gtE(a b:br):Bool:=lz b.1 a.1
def iT(all:List br)(x:aq):List br:=cc gtE (all.filter λe=>e.2.1==x)
def tF(all:List br):Nat->List br->List br
 |0,_=>[]
 |_+1,[]=>[]
 |n+1,x::w=>x::tF all n (iT all x.1++w)
def rU(all:List br):List br:=tF all (all.length+1) (iT all aD)
theorem jx{all:List br}{x:aq}{e:br}:e∈iT all x↔e∈all/\e.2.1=x:=by unfold iT;rw[(cI _).mem_iff,zb0,zbp]
structure uU(all o w:List br):Prop where
 nd:((o++w).map (·.1)).Nodup
 sub: ∀e∈o++w,e∈all/\(e.2.1=aD\/ ∃y∈o,y.1=e.2.1)
theorem uU.len{all o w:List br}(h:uU all o w):o.length+w.length<=all.length:=by have h1:(o++w).Nodup:=y7 _ h.nd;have:=h1.length_le_of_subset (l₂:=all) λe he=>(h.sub e he).1;rwa [zaj] at this
theorem uU.step{all o w:List br}{x:br}(ha:(all.map (·.1)).Nodup)(hr: ∀e∈all,e.1≠aD)(h:uU all o (x::w)):uU all (o++[x]) (iT all x.1++w):=by
 have hx:=h.sub x (zbk _ (.head _));have ov:=h.nd;have e1:o++x::w=o++[x]++w:=by simp
 rw[e1] at ov;have jJ: ∀e∈o++[x]++w,e∈all/\(e.2.1=aD\/ ∃y∈o,y.1=e.2.1):=λe he=>h.sub e (by rwa [e1]);have hxo: ∀y∈o,y.1≠x.1:=by intro y hy e;rw[zaG,zaG,zbb] at ov;have:=(zbb.1 ov.1).2.2 y.1 (zbt hy) x.1 (by simp);exact this e
 have eS: ∀e∈iT all x.1,e∉o++[x]++w:=by
  intro e he bK;obtain⟨_,h2⟩:=jx.1 he;rcases(jJ e bK).2 with h3 | ⟨y,hy,h3⟩
  ·exact hr x hx.1 (by rw[<-h2,h3])
  exact hxo y hy (by rw[h3,h2])
 have hb:(iT all x.1).Nodup:=by unfold iT;exact(cI _).nodup_iff.2 (zco.nodup (y7 _ ha))
 have key: ∀L:List br,L.Nodup->(∀e∈L,e∈all)->(L.map (·.1)).Nodup:=by
  intro L
  induction L with
  |nil=>exact λ_ _=>by simp
  |cons a r ih=>intro h1 h2;rw[za8] at h1;rw[zaO,za8];refine⟨λhm=> ?_,ih h1.2 λe he=>h2 e (.tail _ he)⟩;obtain⟨y,hy,e⟩:=zaX.1 hm;have:=yJ ha y (h2 y (.tail _ hy)) a (h2 a (.head _)) e;exact h1.1 (this▸hy)
 refine⟨key _ ?_ ?_,?_⟩
 ·have hold:(o++[x]++w).Nodup:=y7 _ ov;rw[zbb] at hold⊢;refine⟨hold.1,?_,λa ha2 b dM e=> ?_⟩
  ·rw[zbb];refine⟨hb,hold.2.1,λa ha2 b dM e=> ?_⟩;subst e;exact eS a ha2 (zbk _ dM)
  subst e;rcases zaB.1 dM with dM |dM
  ·exact eS a dM (zbe _ ha2)
  exact hold.2.2 a ha2 a dM rfl
 ·intro e he;rcases zaB.1 he with he |he
  ·exact(jJ e (zbe _ he)).1
  rcases zaB.1 he with he |he
  ·exact(jx.1 he).1
  exact(jJ e (zbk _ he)).1
 intro e he;have hold: ∀e,e∈o++[x]++w->e∈all/\(e.2.1=aD\/ ∃y∈o++[x],y.1=e.2.1):=by
  intro e he;obtain⟨h1,h2⟩:=jJ e he;refine⟨h1,?_⟩;rcases h2 with h2 | ⟨y,hy,h2⟩
  ·exact .inl h2
  exact .inr ⟨y,zbe _ hy,h2⟩
 rcases zaB.1 he with he |he
 ·exact hold e (zbe _ he)
 rcases zaB.1 he with he |he
 ·obtain⟨h1,h2⟩:=jx.1 he;exact⟨h1,.inr ⟨x,zbk _ (.head _),h2.symm⟩⟩
 exact hold e (zbk _ he)
theorem uU.start{all:List br}(ha:(all.map (·.1)).Nodup):uU all [] (iT all aD):=by
 refine⟨?_,λe he=> ?_⟩
 ·rw[zaT];unfold iT;exact((cI _).map _).nodup_iff.2 (List.Nodup.sublist ((zco).map _) ha)
 rw[zaT] at he;obtain⟨h1,h2⟩:=jx.1 he;exact⟨h1,.inl h2⟩
theorem BQ{all:List br}(ha:(all.map (·.1)).Nodup)(hr: ∀e∈all,e.1≠aD): ∀(n m:Nat) (o w:List br),uU all o w->all.length<o.length+n->all.length<o.length+m->tF all n w=tF all m w
 |0,_,o,w,h,hn,_=>by have:=h.len;omega
 |_+1,0,o,w,h,_,hm=>by have:=h.len;omega
 |n+1,m+1,o,w,h,hn,hm=>by
  cases w with
  |nil=>rfl
  |cons x w=>unfold tF;rw[BQ ha hr n m (o++[x]) _ (h.step ha hr) (by simp;omega) (by simp;omega)]
theorem y8{all:List br}(ha:(all.map (·.1)).Nodup)(hr: ∀e∈all,e.1≠aD): ∀(n:Nat) (o w:List br),uU all o w->o.length+(tF all n w).length<=all.length
 |0,o,w,h=>by have:=h.len;simp[tF];omega
 |n+1,o,[],h=>by have:=h.len;simp[tF];simpa using this
 |n+1,o,x::w,h=>by have:=y8 ha hr n (o++[x]) _ (h.step ha hr);simp only[zaj,zaU] at this;simp only[tF,zam];omega
theorem bG.known{i:Int}{l:List av}(h:bG i l)(v:List Int):bG i (aN l v):=
 ⟨λg hg=>h.JQ g (iS.1 hg).1,(zco.map _).nodup h.nd,λg hg=>h.sm g (iS.1 hg).1,by have:=za2 (λg:av=>decide (g.n<=e7 v g.s.2)) l;have:=h.len;unfold aN;omega⟩
theorem bG.mono{i:Int}{l:List av}(h:bG i l):bG (i+1) l:=⟨h.JQ,h.nd,λg hg=>by have:=h.sm g hg;grind,by have:=h.len;omega⟩
theorem oF.mono{i:Int}{l:List av}{K:List (List Int)}(h:oF i l K):oF (i+1) l K:=⟨h.len,λv hv=>⟨(h.vec v hv).1,λr=>by have:=(h.vec v hv).2 r;omega⟩,h.own,h.top⟩
theorem bG.cB{i:Int}{l:List av}(h:bG i l):Pi.cB l<=l.length:=by
 have key: ∀m:List av,(∀g∈m,g.ops.length<=1)->Pi.cB m<=m.length:=λm=>by
  induction m with
  |nil=>simp[lg]
  |cons g r ih=>grind [gU]
 exact key l λg hg=>(h.sm g hg).2.2.1
def DC(x:aq)(o:bs):List bn:=if o.kind=3/\o.node=x then [(o.after,o.elem,o.text)] else []
def tG(x:aq)(l:List bs):List bn:=l.flatMap (DC x)
def cd(l:List av)(x:aq):List bn:=l.flatMap λg=>tG x g.ops
theorem Um(x:aq)(o:bs):(DC x o).length<=1:=by unfold DC;split<;>simp
theorem y9(x:aq): ∀l:List bs,(tG x l).length<=l.length
 | []=>zai _
 |o::l=>by have h1:=Um x o;have h2:=y9 x l;grind [tG]
theorem qm(x:aq): ∀l:List av,(cd l x).length<=cB l
 | []=>zai _
 |g::l=>by have h1:=y9 x g.ops;have h2:=qm x l;grind [cd,gU]
theorem za{l:List av}{x:aq}{r:bn}(h:r∈cd l x): ∃g∈l,∃o∈g.ops,o.kind=3/\r=(o.after,o.elem,o.text):=by obtain⟨g,hg,hr⟩:=zcB.1 h;obtain⟨o,ho,hr⟩:=zcB.1 hr;grind [DC]
def JR(l:List av)(x:aq):List aq:=cc lz ((qC (cd l x)).map (·.1))
theorem tH(t:List UInt8):(kj t).length<=t.length:=by grind [kj,Lb]
theorem G8{i:Int}{l:List av}(hl:bG i l){x y:aq}(h:y∈JR l x):ie l y:=by obtain⟨e,he,rfl⟩:=zaX.1 ((cI _).mem_iff.1 h);have:=(uT (l:=cd l x) _ (zai _)).2;rw[zag] at this;obtain⟨_,r,hr,k,hk,h1,_⟩:=this e he;obtain⟨g,hg,o,ho,h3,rfl⟩:=za hr;have hp:=tH o.text;have ht:=((hl.sm g hg).2.2.2 o ho).1;rw[h1];exact Ui hl hg ho h3 (Int.natCast_nonneg k) (by grind)
theorem qai{l:List aq}(h:l.Nodup):(cc lz l).Pairwise λa b=>lz a b=true:=by refine((Gj RI l).and ((cI l).nodup_iff.2 h)).imp λ{a b} NG=> ?_;rw[<-zcx];exact λe=>NG.2 (RI.q9 _ _ e NG.1)
theorem N2(l:List av)(x:aq):(JR l x).Pairwise λa b=>lz a b=true:=by have:=(uT (l:=cd l x) _ (zai _)).1;rw[zag] at this;exact qai this
def OR(g:List aT)(x:aq)(o:List aO)(d:aT):List aO:=if d.1≠x\/d∈g\/d.2∈o then o else ct r8 o d.2
def qq(h g:List aT)(x:aq):List aO:=h.foldl (OR g x) []
theorem DE{h g:List aT}{x:aq}{i:Nat}(hi:i<h.length):qq (h.take (i+1)) g x=OR g x (qq (h.take i) g x) h[i]:=by grind [qq,List.take_succ_eq_append_getElem]
structure OfR(h:List aT)(o:List aO):Prop where
 sub: ∀s∈o,∃d∈h,d.2=s
 qgY:o.Pairwise λa b=>r8 a b=true
theorem N3{o:List aO}(h:o.Pairwise λa b=>r8 a b=true){s:aO}(hs:s∉o):(ct r8 o s).Pairwise λa b=>r8 a b=true:=by
 have hn:(o++[s]).Nodup:=by
  rw[zbb];refine⟨h.imp λ{a b} NG e=> ?_,by simp,λa ha b hb e=> ?_⟩
  ·rw[e,tu.irr] at NG;cases NG
  grind
 refine((La tu s (h.imp λ{a b} NG=>tu.asymm NG)).and ((gR o s).nodup_iff.2 hn)).imp λ{a b} NG=> ?_;rw[<-zcx];exact λe=>NG.2 (tu.q9 _ _ e NG.1)
theorem OfR.step{h:List aT}{o:List aO}(ho:OfR h o)(g:List aT)(x:aq){d:aT}(hd:d∈h):OfR h (OR g x o d):=by
 unfold OR;split
 ·exact ho
 rename_i hc;refine⟨λs hs=> ?_,N3 ho.qgY λhm=>hc (.inr (.inr hm))⟩;rcases zaB.1 ((gR o d.2).mem_iff.1 hs) with h1 |h1
 ·exact ho.sub s h1
 grind
theorem qbv{h g:List aT}{x:aq}: ∀i,i<=h.length->OfR h (qq (h.take i) g x)
 |0,_=>⟨λs hs=>by simp[qq] at hs,by simp[qq]⟩
 |i+1,hi=>by rw[DE (by omega)];exact(qbv i (by omega)).step g x (zar _)
theorem qaj(g:List aT)(x:aq)(o:List aO)(d:aT):(OR g x o d).length<=o.length+1:=by grind [OR,js]
theorem DF{h g:List aT}{x:aq}: ∀i,i<=h.length->(qq (h.take i) g x).length<=i
 |0,_=>by simp[qq]
 |i+1,hi=>by rw[DE (by omega)];have:=qaj g x (qq (h.take i) g x) (h[i]'(by omega));have:=DF (h:=h) (g:=g) (x:=x) i (by omega);omega
theorem Un{on:List aO}{l:List av}: ∀i,i<=l.length-> ∀d∈(gF on (l.take i)).h,∃g∈l,g.s=d.2
 |0,_,d,hd=>by simp[gF,tl0] at hd
 |i+1,hi,d,hd=>by
  rw[yP (by omega)] at hd;have key: ∀(b:Bool) (s:aO) (m:List bs) (t:Tl),d∈(OE b s m t).h->d∈t.h\/d.2=s:=by
   intro b s m;have: ∀(m:List (bs×Nat)) (t:Tl),d∈(m.foldl (λt p=>SE b s t p.1 p.2) t).h->d∈t.h\/d.2=s:=by
    intro m
    induction m with
    |nil=>grind
    |cons p m ih=>grind [SE]
   exact λt h=>this _ t h
  rcases key _ _ _ _ hd with h |h
  ·exact Un i (by omega) d h
  grind
theorem qak{i:Int}{l:List av}(hl:bG i l)(hi:i<=100){on:List aO}{g:List aT}{x:aq}:(∀s∈qq (gF on l).h g x,∃y∈l,y.s=s)/\(qq (gF on l).h g x).Pairwise (λa b=>r8 a b=true)/\(qq (gF on l).h g x).length<=200:=by
 have hr:=qbv (h:=(gF on l).h) (g:=g) (x:=x) _ (zai _);have hn:=DF (h:=(gF on l).h) (g:=g) (x:=x) _ (zai _);rw[zag] at hr hn;refine⟨λs hs=> ?_,hr.qgY,?_⟩
 ·obtain⟨d,hd,rfl⟩:=hr.sub s hs;exact Un (on:=on) (l:=l) l.length (zai _) d (by rw[zag];exact hd)
 have hb:=(vW (on:=on) hl.JQ l.length (zai _)).2.2.1;rw[zag] at hb;have:=hl.cB;have:=hl.len;omega
def rV(b:Bool)(l:List bs):List aq:=(l.filter λo=>o.kind==0&&(o.dir==b)).map (·.node)
def tI(b:Bool)(l:List av):List aq:=l.flatMap λg=>rV b g.ops
theorem LL{i:Int}{l:List av}(hl:bG i l){b:Bool}{y:aq}(h:y∈tI b l):ie l y:=by obtain⟨g,hg,hy⟩:=zcB.1 h;obtain⟨o,ho,rfl⟩:=zaX.1 hy;grind [Uh]
theorem G9(b:Bool)(l:List bs):(rV b l).length<=l.length:=by grind [rV]
theorem mW(b:Bool): ∀l:List av,(tI b l).length<=cB l
 | []=>zai _
 |g::l=>by have h1:=G9 b g.ops;have h2:=mW b l;grind [tI,gU]
def OpW(l:List av)(v:List Int)(r:Int)(o:bs):Prop:=(∃m,mS (eW l v r) 0 o=some m)/\o.text.length<=2/\o.elems.length<=3
def dH(r:bn):D:= .agg [iE r.1.1,iE r.1.2.1,iE r.1.2.2,iE r.2.1.1,iE r.2.1.2.1,iE r.2.1.2.2,.str r.2.2]
abbrev mX(l:List bn):P:= .d (.sl 7 (l.map dH))
abbrev Uo(z:Bool)(l:List bn):Obj:= .arr 145 z (l.map dH)
abbrev gG(z:Bool)(l:List br):Obj:= .arr 101 z (l.map dH)
abbrev od(x:aq):Obj:= .box 50 [iD x.1,iD x.2.1,iD x.2.2]
abbrev qal(z:Bool)(l:List (List UInt8)):Obj:= .arr 9 z (l.map D.str)
def AtG(l:List av)(i:Int)(g:av):Prop:=D.nth (l.map cu) i.toNat=cu g
def AtR(l:List bn)(i:Int)(r:bn):Prop:=D.nth (l.map dH) i.toNat=dH r
abbrev rn9(l:List av)(x:aq)(o:List bn)(i:Int):S:=⟨53,[(0,dD l),(3,.ref 0 0 0),(5,.sl 1 0 o.length),(6,iD i)],[(0,⟨0,none,od x⟩),(1,⟨0,none,Uo false o⟩)]⟩
abbrev qam(l:List av)(x:aq)(o:List bn)(i k:Int):S:=⟨53,[(0,dD l),(3,.ref 0 0 0),(5,.sl 1 0 o.length),(6,iD i),(7,iD k)],[(0,⟨0,none,od x⟩),(1,⟨0,none,Uo false o⟩)]⟩
def Z9k(o:List bn):En:=En.mk 0 none (Obj.arr (145:TypeId) false (List.map dH o))
def Z9l(x:aq)(o:List bn):List (Nat×En):=[mn x,(1,Z9k o)]
def Z9j(o:List bn):Nat×P:=(5,P.sl 1 0 (List.length o))
def Z9i(l:List av)(i:Int)(k:Int):List D:=[D.agg [D.int .i64 (D.aj (D.ax (jB l i k) 10)),D.int .i64 (D.aj (D.ax (jB l i k) 11)),D.int .i64 (D.aj (D.ax (jB l i k) 12)),D.int .i64 (D.aj (D.ax (jB l i k) 13)),D.int .i64 (D.aj (D.ax (jB l i k) 14)),D.int .i64 (D.aj (D.ax (jB l i k) 15)),D.str (D.cm (D.ax (jB l i k) 16))]]
def Z9h(l:List av)(i:Int)(k:Int)(x:aq):Bool:=D.aj (D.ax (jB l i k) 1)==Prod.fst x&&(D.aj (D.ax (jB l i k) 2)==fC x&&true)&&(D.aj (D.ax (jB l i k) 3)==fB x&&true)
theorem qbw(l:List av)(x:aq)(o:List bn)(i k:Int)(ae:PX×S->Prop):(ob (oB i l) (ob (jP l i) (bif JM k l i then ob (oB i l) (ob (jP l i) (ob (Dx k l i) (ob (Dw l i k) (bif Dv l i k==(3:Int) then bif Z9h l i k x then ob (Nat.ble (List.length o) (List.length (List.map dH o))&&aJ (List.length o+List.length (Z9i l i k)) 64) (ob (Zd k) (ae (PX.normal,S.mk 53 (dB l::dv::(5,P.sl 1 0 (List.length o+List.length (Z9i l i k)))::ei i::qw k) [mn x,(1,En.mk 0 none (Obj.arr (145:TypeId) false (List.take (List.length o) (List.map dH o)++Z9i l i k)))]))) else ob (Zd k) (ae (PX.normal,S.mk 53 (dB l::dv::Z9j o::ei i::qw k) (Z9l x o))) else ob (Zd k) (ae (PX.normal,S.mk 53 (dB l::dv::Z9j o::ei i::qw k) (Z9l x o))))))) else ae (PX.exit 2,S.mk 53 (dB l::dv::Z9j o::BH i) (Z9l x o)))))=(aC [] [] 33 6 (qam l x o i k)) ae:=by kernel_rfl
def Ur:S->K (PX×S):=λs ae=> ∃(l:List av) (x:aq) (o:List bn) (i:Int) (g:av),AtG l i g/\s=qam l x o i 0/\(0<=i/\i<l.length/\o.length+g.ops.length<=1000000)/\ ∀o',o'=o++tG x g.ops->ae (.exit 2,rn9 l x o' i)
theorem qgZ(l:List av)(x:aq)(o:List bn)(i:Int)(ae:PX×S->Prop):(bif yM i l then∃(ar:List av) (a7:aq) (aZ:List bn) (aX:Int) (g:av),AtG ar aX g/\S.mk 53 (dB l::dv::Z9j o::ei i::uG) (Z9l x o)=S.mk 53 (dB ar::dv::Z9j aZ::ei aX::uG) (Z9l a7 aZ)/\((0:Int)<=aX/\aX<tR ar/\List.length aZ+List.length (av.ops g)<=1000000)/\ ∀(o':List bn),o'=aZ++tG a7 (av.ops g)->ob (Zd aX) (ae (PX.normal,S.mk 53 (dB ar::dv::Z9j o'::Zt aX) (Z9l a7 o'))) else ae (PX.exit 0,S.mk 53 [(5,P.sl 0 0 (List.length o))] [(0,Z9k o)]))=(aC [] [(6,ah (aL 33 6) Ur)] 33 3 (rn9 l x o i)) ae:=by kernel_rfl
def qev:S->K (PX×S):=λs ae=> ∃l x,s=rn9 l x [] 0/\(l.length<=1000000/\cB l<=1000)/\ ∀o,o=cd l x->ae (.exit 0,⟨53,[(5,.sl 0 0 o.length)],[(0,⟨0,none,Uo false o⟩)]⟩)
def Us(ar:List av):Prop:=oR ar/\cB ar<=1000
def Z9m(ar:List av)(a7:aq):S:=S.mk 53 (dB ar::dv::(5,rI)::DZ) [mn a7,(1,En.mk 0 none (Obj.arr (145:TypeId) false []))]
theorem qiy(l:List av)(x:aq)(ae:P×List (Nat×En)->Prop):(∃(ar:List av) (a7:aq),Z9m l x=Z9m ar a7/\Us ar/\ ∀(o:List bn),o=cd ar a7->ae (P.sl 0 0 (List.length o),[(0,Z9k o)]))=(aK [] [(3,ah (aL 33 3) qev)] 33 [dD l,.d (cb x)] []) ae:=by kernel_rfl
def Ut:bh:=λps R ae=> ∃l x,ps=[dD l,.d (cb x)]/\R=[]/\(l.length<=1000000/\cB l<=1000)/\ ∀o,o=cd l x->ae (.sl 0 0 o.length,[(0,⟨0,none,Uo false o⟩)])
abbrev qan(h g:List aT)(x:aq)(o:List aO)(n:Nat)(i k:Int):S:=⟨84,[(0,iR h),(1,iR g),(5,.ref 0 0 0),(7,.sl 1 0 n),(8,iD i),(9,iD k)],[(0,⟨0,none,od x⟩),(1,⟨0,none,Ag false o⟩)]⟩
abbrev of9(h g:List aT)(x:aq)(o:List aO)(i:Int):S:=⟨84,[(0,iR h),(1,iR g),(5,.ref 0 0 0),(7,.sl 1 0 o.length),(8,iD i)],[(0,⟨0,none,od x⟩),(1,⟨0,none,Ag false o⟩)]⟩
def Z9p(x:aq)(o:List aO):List (Nat×En):=[mn x,(1,HI o)]
def Z9o(o:List aO)(k:Int):List D:=List.set (List.map eD o) (Zb k) (D.bc (D.agg (X0 o k)) (Z41 o k))
theorem qew(h g:List aT)(x:aq)(o:List aO)(n:Nat)(i k:Int)(ae:PX×S->Prop):(bif Zk k then ob (mZ k n) (ob (Z77 k o) (ob (Jp o k) (ob (Z7 k) (ob (tT k n) (ob (decide (Z8 k<Ab o)) (ob (Z3X o k) (∃(a:aO) (b:aO),[P.d (D.agg (X0 o k)),P.d (D.agg (Z41 o k))]=P.d (D.agg [oP a,oO a])::r9 b/\Zq/\ ∀(r:Bool),r=r8 a b->bif r then ob (Z7 k) (ob (Z7 k) (ob (tT k n) (ob (decide (Z8 k<Ab o)) (ob (Z3X o k) (ob (mZ k n) (ob (Z77 k o) (ob (Jp o k) (ob (mZ k n) (ob (Z77 k o) (ob (Jp o k) (ob (tT k n) (ob (decide (Z8 k<List.length (Z9o o k))) (ob (cT PR (48:TypeId) (D.nth (Z9o o k) (Z8 k))) (ob (Z7 k) (ae (PX.normal,S.mk 84 (sd h::wX g::s6::(7,P.sl 1 0 n)::qA i::Z6R k) [mn x,(1,En.mk 0 none (Obj.arr (48:TypeId) false (List.set (Z9o o k) (Z8 k) (D.bc (D.agg [D.int .i64 (D.aj (D.ax (D.nth (Z9o o k) (Z8 k)) 0)),D.int .i64 (D.aj (D.ax (D.nth (Z9o o k) (Z8 k)) 1))]) (X0 o k)))))])))))))))))))))) else ae (PX.exit 2,S.mk 84 (sd h::wX g::s6::(7,P.sl 1 0 n)::HG i) (Z9p x o))))))))) else ae (PX.exit 2,S.mk 84 (sd h::wX g::s6::(7,P.sl 1 0 n)::HG i) (Z9p x o)))=(aC [(79,pO)] [] 65 8 (qan h g x o n i k)) ae:=by kernel_rfl
def Uu:S->K (PX×S):=λst ae=> ∃h g x o y n i k,st=qan h g x (o++[y]) n i k/\(k=(o.length:Int)/\n=o.length+1/\o.length<=1000000)/\ ∀o',o'=ct r8 o y->ae (.exit 2,of9 h g x o' i)
def Z9r(o:List aO)(h:List aT)(i:Int):Nat:=jO o+List.length [D.agg (Z7z h i)]
def Z9q(i:Int)(ae:PX×S->Prop)(h:List aT)(g:List aT)(o:List aO)(x:aq):Prop:=ob (Zd i) (ae (PX.normal,S.mk 84 (sd h::wX g::s6::(7,P.sl 1 0 (jO o))::sc i) (Z9p x o)))
theorem Uv(h g:List aT)(x:aq)(o:List aO)(i:Int)(ae:PX×S->Prop):(bif YL i h then ob (NP i h) (ob (NN h i) (bif !(D.aj (D.ax (yU h i) 0)==Prod.fst x&&(D.aj (D.ax (yU h i) 1)==fC x&&true)&&(D.aj (D.ax (yU h i) 2)==fB x&&true)) then Z9q i ae h g o x else ob (NP i h) (ob (NN h i) (∃(l:List aT) (a7:aT),Z7A g h i=[uM l,P.d (D.agg [D.int .i64 (Prod.fst (Prod.fst a7)),D.int .i64 (Prod.fst (Prod.snd (Prod.fst a7))),D.int .i64 (Prod.snd (Prod.snd (Prod.fst a7))),D.int .i64 (Prod.fst (Prod.snd a7)),D.int .i64 (Prod.snd (Prod.snd a7))])]/\Zq/\BG l/\ ∀(b:Bool),b=decide (a7∈l)->bif b then Z9q i ae h g o x else ob (NP i h) (ob (NN h i) (∃(l:List aO) (x_2:aO),[zt o,P.d (D.agg (Z7z h i))]=zt l::r9 x_2/\JI o=JI l/\vZ l/\ ∀(b:Bool),OP b l x_2->bif b then ob (Zd i) (ae (PX.normal,S.mk 84 (sd h::wX g::s6::(7,P.sl 1 0 (jO o))::sc i) (Z9p x l))) else ob (NP i h) (ob (NN h i) (ob (Nat.ble (jO o) (Ab l)&&aJ (Z9r o h i) 16) (ob (decide (Z5<=(↑(Z9r o h i):Int)-(1:Int)/\(↑(Z9r o h i):Int)-(1:Int)<=Z6)) (∃(GS:List aT) (dU:List aT) (x_3:aq) (aZ:List aO) (y:aO) (n:Nat) (aX:Int) (k:Int),S.mk 84 [sd h,wX g,s6,(7,P.sl 1 0 (Z9r o h i)),qA i,(9,P.d (D.int .i64 ((↑(Z9r o h i):Int)-(1:Int))))] [mn x,(1,En.mk 0 none (Obj.arr (48:TypeId) false (List.take (jO o) (List.map eD l)++[D.agg (Z7z h i)])))]=S.mk 84 (sd GS::wX dU::s6::(7,P.sl 1 0 n)::qA aX::VH k) [mn x_3,(1,En.mk 0 none (Obj.arr (48:TypeId) false (List.map eD (aZ++[y]))))]/\(k=(↑(jO aZ):Int)/\n=jO aZ+1/\vZ aZ)/\ ∀(o':List aO),o'=ct r8 aZ y->Z9q aX ae GS dU o' x_3)))))))))) else ae (PX.exit 0,S.mk 84 [(7,zt o)] (YV o)))=(aC [(59,S7),(27,GR)] [(8,ah (aL 65 8) Uu)] 65 3 (of9 h g x o i)) ae:=by kernel_rfl
def qex:S->K (PX×S):=λs ae=> ∃h g x,s=of9 h g x [] 0/\(h.length<=1000000/\g.length<=1000000)/\ ∀o,o=qq h g x->ae (.exit 0,⟨84,[(7,.sl 0 0 o.length)],[(0,⟨0,none,Ag false o⟩)]⟩)
def Z9s(GS:List aT)(dU:List aT)(a7:aq):S:=S.mk 84 (sd GS::wX dU::s6::(7,rI)::yT) [mn a7,(1,NR)]
theorem qg0(h g:List aT)(x:aq)(ae:P×List (Nat×En)->Prop):(∃(GS:List aT) (dU:List aT) (a7:aq),Z9s h g x=Z9s GS dU a7/\(BG GS/\BG dU)/\ ∀(o:List aO),o=qq GS dU a7->ae (zt o,YV o))=(aK [] [(3,ah (aL 65 3) qex)] 65 [iR h,iR g,.d (cb x)] []) ae:=by kernel_rfl
def qey:bh:=λps R ae=> ∃h g x,ps=[iR h,iR g,.d (cb x)]/\R=[]/\(h.length<=1000000/\g.length<=1000000)/\ ∀o,o=qq h g x->ae (.sl 0 0 o.length,[(0,⟨0,none,Ag false o⟩)])
abbrev el9(l:List bn)(o:List br)(i:Int):S:=⟨86,[(0,mX l),(3,.sl 0 0 o.length),(4,iD i)],[(0,⟨0,none,gG false o⟩)]⟩
abbrev Uw(l:List bn)(o:List br)(p:List (List UInt8))(a:aq)(i k:Int):S:=⟨86,[(0,mX l),(3,.sl 0 0 o.length),(4,iD i),(5,.sl 1 0 p.length),(7,.ref 2 0 0),(8,iD k)],[(0,⟨0,none,gG false o⟩),(1,⟨0,none,qal false p⟩),(2,⟨0,none,od a⟩)]⟩
abbrev qez(l:List bn)(o:List br)(p:List (List UInt8))(a x:aq)(h:Bool)(i k j:Int):S:=⟨86,[(0,mX l),(3,.sl 0 0 o.length),(4,iD i),(5,.sl 1 0 p.length),(7,.ref 2 0 0),(8,iD k),(9,.ref 3 0 0),(10,.d (.bool h)),(11,iD j)],[(0,⟨0,none,gG false o⟩),(1,⟨0,none,qal false p⟩),(2,⟨0,none,od a⟩),(3,⟨0,none,od x⟩)]⟩
def lS(o:List br):List D:=List.map dH o
def tV(o:List br)(j:Int):D:=D.nth (lS o) (Zb j)
noncomputable def zz(o:List br)(j:Int):Bool:=cT PR (101:TypeId) (tV o j)
def JS(j:Int)(o:List br):Bool:=decide (Zb j<List.length (lS o))
def lE(o:List br):Nat:=List.length o
def Ux(j:Int)(o:List br):Bool:=decide ((0:Int)<=j/\j<(↑(lE o):Int))
def v8(o:List br):En:=En.mk 0 none (Obj.arr (101:TypeId) false (lS o))
def oX(o:List br):Nat×En:=(0,v8 o)
def Z9F(o:List br)(p:List (List UInt8))(a:aq)(x:aq):List (Nat×En):=[oX o,Hr p,(2,lR a),(3,lR x)]
def Z9B:Nat×P:=(9,P.ref 3 0 0)
def HK:Nat×P:=(7,P.ref 2 0 0)
def JT(p:List (List UInt8)):Nat×P:=(5,P.sl 1 0 (List.length p))
def tW(o:List br):P:=P.sl 0 0 (lE o)
def zb(o:List br):Nat×P:=(3,tW o)
def wY(l:List bn):P:=P.d (D.sl 7 (List.map dH l))
def BR(l:List bn):Nat×P:=(0,wY l)
def Z9u(j:Int)(o:List br):Bool:=decide (j<(↑(lE o):Int))
theorem Uy(l:List bn)(o:List br)(p:List (List UInt8))(a x:aq)(h:Bool)(i k j:Int)(ae:PX×S->Prop):(bif Z9u j o then bif h then ob (Zd j) (ae (PX.normal,S.mk 86 [BR l,zb o,ml i,JT p,HK,qA k,Z9B,(10,ZC),(11,P.d (Zh j))] (Z9F o p a x))) else ob (Ux j o) (ob (JS j o) (ob (zz o j) (ob (Zd j) (ae (PX.normal,S.mk 86 [BR l,zb o,ml i,JT p,HK,qA k,Z9B,(10,P.d (D.bool (D.aj (D.ax (tV o j) 0)==Prod.fst x&&(D.aj (D.ax (tV o j) 1)==fC x&&true)&&(D.aj (D.ax (tV o j) 2)==fB x&&true)))),(11,P.d (Zh j))] (Z9F o p a x)))))) else ae (PX.exit 4,S.mk 86 [BR l,zb o,ml i,JT p,HK,qA k,Z9B,(10,fX h)] (Z9F o p a x)))=(aC [] [] 85 13 (qez l o p a x h i k j)) ae:=by kernel_rfl
def Uz:S->K (PX×S):=λs ae=> ∃l o p a x h i k,s=qez l o p a x h i k 0/\o.length<=1000000/\ ∀b,b=(h ||o.any λe=>e.1==x)->ae (.exit 4,⟨86,[(0,mX l),(3,.sl 0 0 o.length),(4,iD i),(5,.sl 1 0 p.length),(7,.ref 2 0 0),(8,iD k),(9,.ref 3 0 0),(10,.d (.bool b))],[(0,⟨0,none,gG false o⟩),(1,⟨0,none,qal false p⟩),(2,⟨0,none,od a⟩),(3,⟨0,none,od x⟩)]⟩)
def Am(o:List br):List (Nat×En):=[oX o]
def DG(aZ:List br):List D:=List.take (lE aZ) (lS aZ)
def Z9O(x:aq)(iz:aq)(lr:List (List UInt8))(gS:Int):List D:=[D.agg [fy x,fw x,fD x,fy iz,fw iz,fD iz,D.str (D.cm (D.nth (sT lr) (Zb gS)))]]
def UA(aZ:List br):Bool:=Nat.ble (lE aZ) (List.length (lS aZ))
def LM(aZ:List br):Prop:=lE aZ<=1000000
def An(l:List bn)(i:Int):D:=D.nth (List.map dH l) (Zb i)
def Z9K(i:Int)(l:List bn):Bool:=decide ((0:Int)<=i/\i<(↑(List.length (List.map dH l)):Int))
theorem UB(l:List bn)(o:List br)(p:List (List UInt8))(a:aq)(i k:Int)(ae:PX×S->Prop):(bif decide (k<ZZ p) then ob (Z9K i l) (ob (cT PR (145:TypeId) (An l i)) (ob (Z9K i l) (ob (cT PR (145:TypeId) (An l i)) (ob (decide (Z5<=D.aj (D.ax (An l i) 5)+k/\D.aj (D.ax (An l i) 5)+k<=Z6)) (∃(ar:List bn) (aZ:List br) (lr:List (List UInt8)) (iz:aq) (x:aq) (h:Bool) (aX:Int) (gS:Int),S.mk 86 [BR l,zb o,ml i,JT p,HK,qA k,Z9B,(10,P.d (D.bool (D.aj (D.ax (An l i) 3)==(0:Int)&&(D.aj (D.ax (An l i) 4)==(0:Int)&&true)&&(D.aj (D.ax (An l i) 5)+k==(0:Int)&&true)))),(11,P.d Z3)] [oX o,Hr p,(2,lR a),(3,En.mk 0 none (Obj.box (50:TypeId) [P.d (D.int .i64 (D.aj (D.ax (An l i) 3))),P.d (D.int .i64 (D.aj (D.ax (An l i) 4))),P.d (D.int .i64 (D.aj (D.ax (An l i) 5)+k))]))]=S.mk 86 [BR ar,zb aZ,ml aX,JT lr,HK,qA gS,Z9B,(10,fX h),(11,P.d Z3)] (Z9F aZ lr iz x)/\LM aZ/\ ∀(b:Bool),b=(h ||List.any aZ λ(e:br)=>Prod.fst e==x)->bif !b then ob (decide ((0:Int)<=gS/\gS<ZZ lr)) (ob (decide (Zb gS<KO lr)) (ob (cT PR (9:TypeId) (D.nth (sT lr) (Zb gS))) (ob (UA aZ&&aJ (lE aZ+List.length (Z9O x iz lr gS)) 64) (ob (Zd gS) (ae (PX.normal,S.mk 86 (BR ar::(3,P.sl 0 0 (lE aZ+List.length (Z9O x iz lr gS)))::ml aX::JT lr::HK::sc gS) ((0,En.mk 0 none (Obj.arr (101:TypeId) false (DG aZ++Z9O x iz lr gS)))::Hr lr::Yv x))))))) else ob (Zd gS) (ae (PX.normal,S.mk 86 (BR ar::zb aZ::ml aX::JT lr::HK::sc gS) (oX aZ::Hr lr::Yv x)))))))) else ae (PX.exit 2,S.mk 86 (BR l::zb o::Jx i) (Am o)))=(aC [] [(13,ah (aL 85 13) Uz)] 85 8 (Uw l o p a i k)) ae:=by kernel_rfl
def UC:S->K (PX×S):=λs ae=> ∃l o p r i,s=Uw l o p r.1 i 0/\(0<=i/\i<l.length/\l.length<=1000000/\p.length<=100000/\o.length+p.length<=1000000/\(0<=r.2.1.2.2/\r.2.1.2.2<=1000000000000))/\AtR l i r/\ ∀o',o'=Ed r o p->ae (.exit 2,el9 l o' i)
def Z9T(l:List bn)(i:Int):List (Nat×En):=[(2,En.mk 0 none (Obj.box (50:TypeId) [P.d (D.int .i64 (D.aj (D.ax (An l i) 0))),P.d (D.int .i64 (D.aj (D.ax (An l i) 1))),P.d (D.int .i64 (D.aj (D.ax (An l i) 2)))]))]
def VR(ar:List bn):Prop:=List.length ar<=1000000
def Z9S(ae:PX×S->Prop):S->Prop:=λ(s0:S)=> ∃(ar:List bn) (aZ:List br) (p:List (List UInt8)) (r:bn) (aX:Int),s0=S.mk 86 (BR ar::zb aZ::ml aX::JT p::HK::yT) [oX aZ,Hr p,(2,En.mk 0 none (Obj.box (50:TypeId) [P.d (D.int .i64 (Prod.fst (Prod.fst r))),P.d (D.int .i64 (Prod.fst (Prod.snd (Prod.fst r)))),P.d (D.int .i64 (Prod.snd (Prod.snd (Prod.fst r))))]))]/\((0:Int)<=aX/\aX<(↑(List.length ar):Int)/\VR ar/\List.length p<=100000/\lE aZ+List.length p<=1000000/\(0:Int)<=Prod.snd (Prod.snd (Prod.fst (Prod.snd r)))/\Prod.snd (Prod.snd (Prod.fst (Prod.snd r)))<=(1000000000000:Int))/\AtR ar aX r/\ ∀(o':List br),o'=Ed r aZ p->ob (Zd aX) (ae (PX.normal,S.mk 86 (BR ar::zb o'::sa aX) (Am o')))
theorem UD(l:List bn)(o:List br)(i:Int)(ae:PX×S->Prop):(bif decide (i<(↑(List.length (List.map dH l)):Int)) then ob (Z9K i l) (ob (cT PR (145:TypeId) (An l i)) (∃(s:List UInt8),[P.d (D.str (D.cm (D.ax (An l i) 6)))]=ZW s/\Zq/\kc s/\(XP s->ob (Z9K i l) (ob (cT PR (145:TypeId) (An l i)) (Z9S ae (S.mk 86 (BR l::zb o::ml i::(5,rI)::HK::yT) (oX o::(1,Re)::Z9T l i)))))/\(XO s-> ∀(aZ:List (List UInt8)),aZ=Gp s->ob (Z9K i l) (ob (cT PR (145:TypeId) (An l i)) (Z9S ae (S.mk 86 (BR l::zb o::ml i::JT aZ::HK::yT) (oX o::Hr aZ::Z9T l i))))))) else ae (PX.exit 0,S.mk 86 [zb o] (Am o)))=(aC [(102,tq)] [(8,ah (aL 85 8) UC)] 85 3 (el9 l o i)) ae:=by kernel_rfl
def eT(l:List bn):Prop:=l.length<=1000000/\zy l<=1000000/\ ∀r∈l,r.2.2.length<=100000/\0<=r.2.1.2.2/\r.2.1.2.2<=1000000000000
def qeA:S->K (PX×S):=λs ae=> ∃l,s=el9 l [] 0/\eT l/\ ∀o,o=qC l->ae (.exit 0,⟨86,[(3,.sl 0 0 o.length)],[(0,⟨0,none,gG false o⟩)]⟩)
def VS(ae:P×List (Nat×En)->Prop)(o:List br):Prop:=ae (tW o,Am o)
def Z9U:En:=En.mk 0 none (Obj.arr (101:TypeId) false [])
def Z9V(ar:List bn):S:=S.mk 86 (BR ar::Sw) [(0,Z9U)]
theorem qg1(l:List bn)(ae:P×List (Nat×En)->Prop):(∃(ar:List bn),Z9V l=Z9V ar/\eT ar/\ ∀(o:List br),o=qC ar->VS ae o)=(aK [] [(3,ah (aL 85 3) qeA)] 85 [mX l] []) ae:=by kernel_rfl
def UE:bh:=λps R ae=> ∃l,ps=[mX l]/\R=[]/\eT l/\ ∀o,o=qC l->ae (.sl 0 0 o.length,[(0,⟨0,none,gG false o⟩)])
abbrev es9(l:List br)(o:List aq)(i:Int):S:=⟨64,[(5,.sl 0 0 l.length),(6,.sl 1 0 o.length),(7,iD i)],[(0,⟨0,none,gG false l⟩),(1,⟨0,none,fO false o⟩)]⟩
abbrev qao(l:List br)(o:List aq)(n:Nat)(i k:Int):S:=⟨64,[(5,.sl 0 0 l.length),(6,.sl 1 0 n),(7,iD i),(8,iD k)],[(0,⟨0,none,gG false l⟩),(1,⟨0,none,fO false o⟩)]⟩
def N4(l:List br):Nat×P:=(5,tW l)
def Z9Y(ae:PX×S->Prop)(l:List br)(n:Nat)(i:Int)(o:List aq):Prop:=ae (PX.exit 2,S.mk 64 [N4 l,FU n,oW i] [oX l,(1,zu o)])
theorem qeB(l:List br)(o:List aq)(n:Nat)(i k:Int)(ae:PX×S->Prop):(bif Zk k then ob (mZ k n) (ob (Tc k o) (ob (wR o k) (ob (Z7 k) (ob (tT k n) (ob (Z7k k o) (ob (X1 o k) (∃(t:Int) (r:Int) (aX:Int) (t':Int) (r':Int) (i':Int),Z7r o k=P.d (D.agg (Zm t::Zm r::Zx aX))::ZM t' r' i'/\Zq/\bif SX t r aX t' r' i' then ob (Z7 k) (ob (Z7 k) (ob (tT k n) (ob (Z7k k o) (ob (X1 o k) (ob (mZ k n) (ob (Tc k o) (ob (wR o k) (ob (mZ k n) (ob (Tc k o) (ob (wR o k) (ob (tT k n) (ob (decide (Z8 k<List.length (VK o k))) (ob (cT PR (50:TypeId) (D.nth (VK o k) (Z8 k))) (ob (Z7 k) (ae (PX.normal,S.mk 64 [N4 l,FU n,oW i,(8,Zl k)] [oX l,(1,Z7n o k)])))))))))))))))) else Z9Y ae l n i o))))))) else Z9Y ae l n i o)=(aC [(55,iN)] [] 66 8 (qao l o n i k)) ae:=by kernel_rfl
def UF:S->K (PX×S):=λst ae=> ∃l o x n i k,st=qao l (o++[x]) n i k/\(k=(o.length:Int)/\n=o.length+1/\o.length<=1000000)/\ ∀o',o'=ct lz o x->ae (.exit 2,es9 l o' i)
def VT(l:List br)(i:Int):D:=D.int .i64 (D.aj (D.ax (tV l i) 1))
def VU(l:List br)(i:Int):D:=D.int .i64 (D.aj (D.ax (tV l i) 0))
def Za1(l:List br)(i:Int):D:=D.agg [VU l i,VT l i,D.int .i64 (D.aj (D.ax (tV l i) 2))]
def Za2(o:List aq)(l:List br)(i:Int):Nat:=gk o+List.length [Za1 l i]
theorem UG(l:List br)(o:List aq)(i:Int)(ae:PX×S->Prop):(bif Z9u i l then ob (Ux i l) (ob (JS i l) (ob (zz l i) (ob (Nat.ble (gk o) (oQ o)&&aJ (Za2 o l i) 24) (ob (decide (Z5<=(↑(Za2 o l i):Int)-(1:Int)/\(↑(Za2 o l i):Int)-(1:Int)<=Z6)) (∃(ar:List br) (aZ:List aq) (x:aq) (n:Nat) (aX:Int) (k:Int),S.mk 64 [N4 l,(6,P.sl 1 0 (Za2 o l i)),oW i,(8,P.d (D.int .i64 ((↑(Za2 o l i):Int)-(1:Int))))] [oX l,(1,En.mk 0 none (Obj.arr (50:TypeId) false (NY o++[Za1 l i])))]=S.mk 64 (N4 ar::FU n::oW aX::HG k) [oX ar,(1,Z7y aZ x)]/\(k=tU aZ/\n=gk aZ+1/\mq aZ)/\ ∀(o':List aq),o'=ct lz aZ x->ob (Zd aX) (ae (PX.normal,S.mk 64 (N4 ar::(6,P.sl 1 0 (gk o'))::qw aX) [oX ar,(1,zu o')]))))))) else ae (PX.exit 0,S.mk 64 [(6,oE o)] (q6 o)))=(aC [] [(8,ah (aL 66 8) UF)] 66 4 (es9 l o i)) ae:=by kernel_rfl
def qeC:S->K (PX×S):=λs ae=> ∃l,s=es9 l [] 0/\l.length<=1000000/\ ∀o,o=cc lz (l.map (·.1))->ae (.exit 0,⟨64,[(6,.sl 0 0 o.length)],[(0,⟨0,none,fO false o⟩)]⟩)
def Za3(l:List br):S:=S.mk 64 (N4 l::Z6W) [oX l,(1,VL)]
def Za4(o:List bn):P:=P.d (D.sl 7 (List.take (List.length o) (List.map dH o)))
theorem qg2(l:List av)(x:aq)(ae:P×List (Nat×En)->Prop):(∃(ar:List av) (a7:aq),fa l::iP x=fa ar::iP a7/\Zq/\Us ar/\ ∀(o:List bn),o=cd ar a7-> ∃(l:List bn),[Za4 o]=[wY l]/\Zq/\eT l/\ ∀(o:List br),o=qC l-> ∃(l:List br),Za3 o=Za3 l/\LM l/\ ∀(o:List aq),o=cc lz (List.map (λ(x:br)=>Prod.fst x) l)->ae (oE o,q6 o))=(aK [(33,Ut),(85,UE)] [(4,ah (aL 66 4) qeC)] 66 [dD l,.d (cb x)] []) ae:=by kernel_rfl
def qeD:bh:=λps R ae=> ∃l x,ps=[dD l,.d (cb x)]/\R=[]/\(l.length<=1000000/\cB l<=1000/\eT (cd l x))/\ ∀o,o=JR l x->ae (.sl 0 0 o.length,[(0,⟨0,none,fO false o⟩)])
theorem UH(r:bn):cT PR 145 (dH r)=true:=by rfl
theorem rW(r:br):cT PR 101 (dH r)=true:=by rfl
theorem qiz(s:List UInt8):cT PR 9 (D.str s)=true:=by rfl
theorem N5{x:aq}{l:List bs}{k:Nat}(h:k<l.length):tG x (l.take (k+1))=tG x (l.take k)++DC x l[k]:=by grind [tG,List.take_succ_eq_append_getElem]
theorem JU{x:aq}{l:List av}{i:Nat}(h:i<l.length):cd (l.take (i+1)) x=cd (l.take i) x++tG x l[i].ops:=by grind [cd,List.take_succ_eq_append_getElem]
section
variable{X:XF}
theorem UI:LD X 33 6 (ah (aL 33 6) Ur):=LD.idx (H:=[]) (hk:=[]) (by rfl) (by rfl) .nil .nil
 (A:=List av×aq×List bn×Int×av) (B:=List bn) (λa o k=>qam a.1 a.2.1 o a.2.2.2.1 k) (λa=>a.2.2.2.2.ops.length)
 (λa k o=>((0<=a.2.2.2.1/\a.2.2.2.1<a.1.length)/\D.nth (a.1.map cu) a.2.2.2.1.toNat=cu a.2.2.2.2/\a.2.2.1.length+a.2.2.2.2.ops.length<=1000000)/\o=a.2.2.1++tG a.2.1 (a.2.2.2.2.ops.take k))
 (λa z=>z=(.exit 2,rn9 a.1 a.2.1 (a.2.2.1++tG a.2.1 a.2.2.2.2.ops) a.2.2.2.1))
 (by
  rintro⟨l,x,o0,i,g⟩ o k ae h0 r4 dy ⟨⟨hb,hg,hl⟩,ho⟩ hn aW
  try dsimp only at*
  (rw[<-qbw];delta Zm ei BH Z9k fB fD fC fw fy lR mn Z9l Z9j Zh qw dP dv fa dB Z6 Z5 Zd Zb nY jB Z9i Z9h Dv Dw Dx JM jP kz oB)
  have eH:0<=i/\i<((l.map cu).length:Int):=by rw[zaa];exact hb
  have u6:D.fU (D.ax (cu g) 6)=g.ops.map fY:=rfl;have e1:D.nth (g.ops.map fY) k.toNat=fY g.ops[k.toNat]:=aG _ _ _ dy;have lC:=N5 (x:=x) dy;have nb:o.length<1000000:=by have:=y9 x (g.ops.take k.toNat);rw[zat] at this;rw[ho,zaj];omega
  rw[hg,u6,e1];have Ec:0<=k/\k<((g.ops.map fY).length:Int):=by grind
  generalize g.ops[k.toNat]=y at*
  have ot:=mT g;have tM:=Nk y;have c0:D.aj (D.ax (fY y) 0)=y.kind:=rfl;have c1:(D.aj (D.ax (fY y) 1)==x.1&&(D.aj (D.ax (fY y) 2)==x.2.1&&true)&&(D.aj (D.ax (fY y) 3)==x.2.2&&true))=(y.node==x):=qz y.node x;have t2:D.agg [D.int .i64 (D.aj (D.ax (fY y) 10)),D.int .i64 (D.aj (D.ax (fY y) 11)),D.int .i64 (D.aj (D.ax (fY y) 12)),D.int .i64 (D.aj (D.ax (fY y) 13)),D.int .i64 (D.aj (D.ax (fY y) 14)),D.int .i64 (D.aj (D.ax (fY y) 15)),D.str (D.cm (D.ax (fY y) 16))]=dH (y.after,y.elem,y.text):=rfl;rw[c0,c1,t2,b7];have bk: ¬(y.kind=3/\y.node=x)->o0++tG x (g.ops.take (k.toNat+1))=o:=λh=>by
   rw[lC,ho];have:DC x y=[]:=by unfold DC;rw[zap h]
   rw[this,zbl]
  have bC:y.kind=3->y.node=x->o0++tG x (g.ops.take (k.toNat+1))=o++[(y.after,y.elem,y.text)]:=λh1 h2=>by
   rw[lC,ho,zaF];have:DC x y=[(y.after,y.elem,y.text)]:=by unfold DC;rw[zaq ⟨h1,h2⟩]
   rw[this]
  refine ak eH (ao ot (bV Ec.2 (ak eH (ao ot (ak Ec (ao tM (Jy (λhk=>az (λhx=> ?_) λhx=>ak (by omega) (hn o ⟨⟨hb,hg,hl⟩,(bk (λhh=>by rw[hh.2] at hx;simp at hx)).symm⟩)) λhk=>ak (by omega) (hn o ⟨⟨hb,hg,hl⟩,(bk (λhh=>hk hh.1)).symm⟩))))))));have hy:=hn (o++[(y.after,y.elem,y.text)]) ⟨⟨hb,hg,hl⟩,(bC hk (by grind)).symm⟩;simp only[qam,zaj] at hy;refine ao (iy rfl (by rw[zaa]) (by omega) (by decide)) (ak (by omega) ?_);exact hy)
 (by
  rintro⟨l,x,o0,i,g⟩ o k ae hk ⟨⟨hb,hg,hl⟩,ho⟩ aW
  try dsimp only at*
  (rw[<-qbw];delta Zm ei BH Z9k fB fD fC fw fy lR mn Z9l Z9j Zh qw dP dv fa dB Z6 Z5 Zd Zb nY jB Z9i Z9h Dv Dw Dx JM jP kz oB)
  have eH:0<=i/\i<((l.map cu).length:Int):=by rw[zaa];exact hb
  have u6:D.fU (D.ax (cu g) 6)=g.ops.map fY:=rfl;rw[hg,u6];refine ak eH (ao (mT g) (oC (by rw[zaa];omega) (aW _ (λh=>by cases h) ?_)));rw[ho,zag])
 (by rintro s ae ⟨l,x,o,i,g,hg,rfl,⟨h1,h2,h3⟩,hp⟩;refine⟨(l,x,o,i,g),o,rfl,⟨⟨⟨h1,h2⟩,hg,h3⟩,by simp[tG]⟩,?_⟩;grind)
theorem qap:LD X 33 3 (ah (aL 33 3) qev):=LD.idx (H:=[]) (hk:=[(6,ah (aL 33 6) Ur)]) (by rfl) (by rfl) .nil (.cons UI .nil)
 (A:=List av×aq) (B:=List bn) (λa o i=>rn9 a.1 a.2 o i) (λa=>a.1.length)
 (λa i o=>(a.1.length<=1000000/\cB a.1<=1000)/\o=cd (a.1.take i) a.2)
 (λa z=>z=(.exit 0,⟨53,[(5,.sl 0 0 (cd a.1 a.2).length)],[(0,⟨0,none,Uo false (cd a.1 a.2)⟩)]⟩))
 (by
  rintro⟨l,x⟩ o i ae h0 cj bK ⟨hc,ho⟩ hn aW
  try dsimp only at*
  have lC:=JU (x:=x) bK;have h2:=qf l (i.toNat+1);have h3:=n0 bK;have h4:=qm x (l.take i.toNat);rw[<-ho] at h4;refine bV (by rw[zaa];exact cj) ⟨l,x,o,i,l[i.toNat],aG _ _ _ bK,rfl,⟨h0,cj,by omega⟩,λo' fA=>ak (by omega) (hn o' ⟨hc,?_⟩)⟩;rw[fA,ho,lC])
 (by
  rintro⟨l,x⟩ o i ae hi ⟨hc,ho⟩ aW
  try skip
  (rw[<-qgZ];delta Z9k Zh Zt Z6 Z5 Zd tR fB fD fC fw fy lR mn Z9l Z3 uG Zm ei Z9j dP dv fa dB kz yM)
  refine oC (by rw[zaa];omega) (aW _ (λh=>by cases h) ?_);rw[ho,zag])
 (by rintro s ae ⟨l,x,rfl,hc,hp⟩;refine⟨(l,x),[],rfl,⟨hc,rfl⟩,?_⟩;grind)
theorem qbx:FD X 33 Ut:=FD.mk (H:=[]) (hk:=[(3,ah (aL 33 3) qev)]) (by rfl) .nil (.cons qap .nil) (by
 intro ps R ae hh;obtain⟨l,x,rfl,rfl,hs,hp⟩:=hh
 (rw[<-qiy];delta Z9k oR Us fB fD fC fw fy lR mn Z3 DZ rI dP dv fa dB Z9m)
 grind)
theorem UJ:LD X 65 8 (ah (aL 65 8) Uu):=LD.ins (H:=[(79,pO)]) (hk:=[]) (by rfl) (by rfl) (.cons yH .nil) .nil
 (A:=List aT×List aT×aq×Nat×Int) (α:=aO) (λa o k=>qan a.1 a.2.1 a.2.2.1 o a.2.2.2.1 a.2.2.2.2 k) r8 (λa=>a.2.2.2.1) (λ_=>True) (λa o=>(.exit 2,⟨84,[(0,iR a.1),(1,iR a.2.1),(5,.ref 0 0 0),(7,.sl 1 0 a.2.2.2.1),(8,iD a.2.2.2.2)],[(0,⟨0,none,od a.2.2.1⟩),(1,⟨0,none,Ag false o⟩)]⟩)) (λ_ _ h=>by cases h)
 (by
  rintro⟨h,g,v,n,i⟩ o k ae _ h0 yV nb hk hz bk bC
  try dsimp only at*
  subst yV
  (rw[<-qew];delta HI fB fD fC fw fy lR mn Z9p Zm qA HG Zl Z6R dP s6 uM wX sd Z8 Z41 Zb X0 Z9o Zq oO oP r9 Z3X Ab tT Z6 Z5 Z7 Jp Z77 mZ Zk)
  refine gT (λhp=> ?_) λhp=>hz (by omega);have gJ:k.toNat-1<o.length:=by omega
  have ek:(k-1).toNat=k.toNat-1:=by omega
  have e1:D.nth (o.map eD) k.toNat=eD o[k.toNat]:=aG _ _ _ hk;have e2:D.nth (o.map eD) (k.toNat-1)=eD o[k.toNat-1]:=aG _ _ _ gJ;have bk:=bk hp;have bC:=bC hp;have uN:=iQ eD o k.toNat o[k.toNat] o[k.toNat-1];have e3: ∀z,D.nth ((o.map eD).set k.toNat z) (k.toNat-1)=eD o[k.toNat-1]:=λz=>by grind [D.nth]
  rw[ek,e1,e2];simp only[e3];generalize o[k.toNat]=x at*
  generalize o[k.toNat-1]=y at*
  simp only[zaa,zbi] at bC⊢;have uO:0<=k/\k<(o.length:Int):=⟨h0,by omega⟩
  have uP:0<=k-1/\k-1<(o.length:Int):=⟨by omega,by omega⟩
  have hf:(-9223372036854775808:Int)<=k-1/\k-1<=9223372036854775807:=by omega
  refine ak uO (ak hk (ao (uF _) (ak hf (ak uP (ak gJ (ao (uF _) ⟨x,y,rfl,rfl,λb hb=>az (λh=> ?_) λh=>bk (by rw[<-hb];exact h)⟩))))));have hy:=bC (by rw[<-hb];exact h);simp only[qan,Ag] at hy;rw[<-uN] at hy;refine ak hf (ak hf (ak uP (ak gJ (ao (uF _) (ak uO (ak hk (ao (uF _) (ak uO (ak hk (ao (uF _) (ak uP (ak gJ (ao (uF _) (ak hf ?_))))))))))))));exact hy)
 (by rintro s ae ⟨h,g,v,o,x,n,i,k,rfl,⟨hk,hn,ho⟩,hp⟩;refine⟨(h,g,v,n,i),o,x,k,rfl,hk,trivial,⟨hn.symm,ho⟩,?_⟩;have:=hp _ rfl;rw[of9,js,<-hn] at this;exact this)
theorem qaq:LD X 65 3 (ah (aL 65 3) qex):=LD.idx (H:=[(59,S7),(27,GR)]) (hk:=[(8,ah (aL 65 8) Uu)]) (by rfl) (by rfl) (.cons qbk (.cons Tp .nil)) (.cons UJ .nil)
 (A:=List aT×List aT×aq) (B:=List aO) (λa o i=>of9 a.1 a.2.1 a.2.2 o i) (λa=>a.1.length) (λa i o=>(a.1.length<=1000000/\a.2.1.length<=1000000)/\o=qq (a.1.take i) a.2.1 a.2.2)
 (λa x=>x=(.exit 0,⟨84,[(7,.sl 0 0 (qq a.1 a.2.1 a.2.2).length)],[(0,⟨0,none,Ag false (qq a.1 a.2.1 a.2.2)⟩)]⟩))
 (by
  rintro⟨h,g,v⟩ o i ae h0 cj bK ⟨hm,ho⟩ hn aW
  try skip
  (rw[<-Uv];delta HI YV Zm VH fB fD fC fw fy lR mn qA Z6 Z5 Zb yU Z7z jO Z9r Ab Z9p Zh sc dP s6 uM wX sd Zd OP vZ VJ JI oO oP r9 zt BG Zq Z7A Z9q NN NP YL)
  have nb:o.length<=i.toNat:=by grind [DF]
  have e1:D.nth (h.map ki) i.toNat=ki h[i.toNat]:=aG _ _ _ bK;have ng:=DE (g:=g) (x:=v) bK;rw[<-ho] at ng;have b9:=λo' (fA:o'=OR g v o h[i.toNat])=>hn o' ⟨hm,by rw[ng];exact fA⟩;generalize h[i.toNat]=d at*
  rw[e1];simp only[zaa];have t1:List.take o.length (o.map eD)++[eD d.2]=(o++[d.2]).map eD:=b7 eD o d.2;have c1:(D.aj (D.ax (ki d) 0)==v.1&&(D.aj (D.ax (ki d) 1)==v.2.1&&true)&&(D.aj (D.ax (ki d) 2)==v.2.2&&true))=(d.1==v):=qz d.1 v;refine bV cj (ak ⟨h0,cj⟩ (ao (JJ _) (az (λhx=>ak (by omega) (b9 o ?_)) λhx=>ak ⟨h0,cj⟩ (ao (JJ _) ⟨g,d,rfl,rfl,hm.2,λb hb=> ?_⟩))))
  ·unfold OR;rw[zaq (.inl (by grind))]
  have z6: ¬d.1≠v:=by grind
  refine az (λBI=>ak (by omega) (b9 o ?_)) λv7=>ak ⟨h0,cj⟩ (ao (JJ _) ⟨o,d.2,rfl,rfl,by omega,λb2 dM=>az (λTr=>ak (by omega) (b9 o ?_)) λTs=> ?_⟩)
  ·unfold OR;rw[hb,zal] at BI;rw[zaq (.inr (.inl BI))]
  ·unfold OR;rw[dM,zal] at Tr;rw[zaq (.inr (.inr Tr))]
  rw[hb,zaM] at v7;rw[dM,zaM] at Ts;have Tt:OR g v o d=ct r8 o d.2:=by unfold OR;rw[zap (λhh=>hh.elim z6 λhh=>hh.elim v7 Ts)]
  simp only[zam,zay,zaI];refine ak ⟨h0,cj⟩ (ao (JJ _) (ao ?_ (ak (by omega) ⟨h,g,v,o,d.2,o.length+1,i,((o.length+1:Nat):Int)-1,congrArg (λz=>(⟨84,[(0,iR h),(1,iR g),(5,.ref 0 0 0),(7,.sl 1 0 (o.length+1)),(8,iD i),(9,iD (((o.length+1:Nat):Int)-1))],[(0,⟨0,none,od v⟩),(1,⟨0,none,.arr 48 false z⟩)]⟩:S)) t1,⟨by omega,rfl,by omega⟩,λo' fA=>ak (by omega) (b9 o' (by rw[Tt];exact fA))⟩)));rw[zad];exact⟨by simp,dh (by omega) (by omega)⟩)
 (by
  rintro⟨h,g,v⟩ o i ae hi ⟨hm,ho⟩ aW
  try skip
  (rw[<-Uv];delta HI YV Zm VH fB fD fC fw fy lR mn qA Z6 Z5 Zb yU Z7z jO Z9r Ab Z9p Zh sc dP s6 uM wX sd Zd OP vZ VJ JI oO oP r9 zt BG Zq Z7A Z9q NN NP YL)
  refine oC (by grind) (aW _ (λh=>by cases h) ?_);rw[ho,zag])
 (by rintro s ae ⟨h,g,v,rfl,hs,hp⟩;refine⟨(h,g,v),[],rfl,⟨hs,rfl⟩,?_⟩;grind)
theorem qg3:FD X 65 qey:=FD.mk (H:=[]) (hk:=[(3,ah (aL 65 3) qex)]) (by rfl) .nil (.cons qaq .nil) (by
 intro ps R ae hh;obtain⟨h,g,v,rfl,rfl,hs,hp⟩:=hh
 (rw[<-qg0];delta HI YV jO zt BG NR fB fD fC fw fy lR mn Z3 yT rI dP s6 uM wX sd Z9s)
 grind)
theorem UK:LD X 85 13 (ah (aL 85 13) Uz):=LD.idx (H:=[]) (hk:=[]) (by rfl) (by rfl) .nil .nil
 (A:=List bn×List br×List (List UInt8)×aq×aq×Bool×Int×Int) (B:=Bool) (λa b j=>qez a.1 a.2.1 a.2.2.1 a.2.2.2.1 a.2.2.2.2.1 b a.2.2.2.2.2.2.1 a.2.2.2.2.2.2.2 j) (λa=>a.2.1.length)
 (λa j b=>a.2.1.length<=1000000/\b=(a.2.2.2.2.2.1 || (a.2.1.take j).any λe=>e.1==a.2.2.2.2.1))
 (λa z=>z=(.exit 4,⟨86,[(0,mX a.1),(3,.sl 0 0 a.2.1.length),(4,iD a.2.2.2.2.2.2.1),(5,.sl 1 0 a.2.2.1.length),(7,.ref 2 0 0),(8,iD a.2.2.2.2.2.2.2),(9,.ref 3 0 0),(10,.d (.bool (a.2.2.2.2.2.1 ||a.2.1.any λe=>e.1==a.2.2.2.2.1)))],[(0,⟨0,none,gG false a.2.1⟩),(1,⟨0,none,qal false a.2.2.1⟩),(2,⟨0,none,od a.2.2.2.1⟩),(3,⟨0,none,od a.2.2.2.2.1⟩)]⟩))
 (by
  rintro⟨l,o,p,a,x,h,i,k⟩ b j ae h0 Ez NW ⟨hc,hb⟩ hn aW
  try skip
  (rw[<-Uy];delta fX fB fC Zb lS tV zz JS lE Ux fD fw fy lR sT Hr v8 oX Z9F Zh ZC Z9B Zm qA HK JT ml tW zb wY BR Z6 Z5 Zd Z9u)
  have e1:D.nth (o.map dH) j.toNat=dH o[j.toNat]:=aG _ _ _ NW;have lC:((o.take (j.toNat+1)).any λe=>e.1==x)=((o.take j.toNat).any (λe=>e.1==x)||o[j.toNat].1==x):=by rw[zaf NW,zcc,zcX,zc6,zcY]
  rw[e1];generalize o[j.toNat]=e at*
  have c1:(D.aj (D.ax (dH e) 0)==x.1&&(D.aj (D.ax (dH e) 1)==x.2.1&&true)&&(D.aj (D.ax (dH e) 2)==x.2.2&&true))=(e.1==x):=qz e.1 x;rw[c1];refine bV Ez (az (λBI=>ak (by omega) (hn true ⟨hc,?_⟩)) λv7=>ak ⟨h0,Ez⟩ (ak (by rw[zaa];exact NW) (ao (rW _) (ak (by omega) (hn _ ⟨hc,?_⟩)))))
  ·rw[lC,<-zcZ,<-hb,BI];rfl
  rw[lC,<-zcZ,<-hb,v7];rfl)
 (by
  rintro⟨l,o,p,a,x,h,i,k⟩ b j ae hj ⟨hc,hb⟩ aW
  try skip
  (rw[<-Uy];delta fX fB fC Zb lS tV zz JS lE Ux fD fw fy lR sT Hr v8 oX Z9F Zh ZC Z9B Zm qA HK JT ml tW zb wY BR Z6 Z5 Zd Z9u)
  refine oC (by omega) (aW _ (λh=>by cases h) ?_);rw[hb,zag])
 (by rintro s ae ⟨l,o,p,a,x,h,i,k,rfl,hc,hp⟩;refine⟨(l,o,p,a,x,h,i,k),h,rfl,⟨hc,by simp⟩,?_⟩;grind)
theorem UL:LD X 85 8 (ah (aL 85 8) UC):=LD.idx (H:=[]) (hk:=[(13,ah (aL 85 13) Uz)]) (by kernel_rfl) (by kernel_rfl) .nil (.cons UK .nil)
 (A:=List bn×List br×List (List UInt8)×bn×Int) (B:=List br) (λa o k=>Uw a.1 o a.2.2.1 (elA a.2.2.2.1 k.toNat) a.2.2.2.2 k) (λa=>a.2.2.1.length)
 (λa k o=>((0<=a.2.2.2.2/\a.2.2.2.2<a.1.length)/\D.nth (a.1.map dH) a.2.2.2.2.toNat=dH a.2.2.2.1/\a.2.2.1.length<=100000/\a.2.1.length+a.2.2.1.length<=1000000/\(0<=a.2.2.2.1.2.1.2.2/\a.2.2.2.1.2.1.2.2<=1000000000000))/\o=Ed a.2.2.2.1 a.2.1 (a.2.2.1.take k))
 (λa z=>z=(.exit 2,el9 a.1 (Ed a.2.2.2.1 a.2.1 a.2.2.1) a.2.2.2.2))
 (by
  rintro⟨l,o0,p,r,i⟩ o k ae h0 r4 dy ⟨⟨hi,hr,Hj,hl,he⟩,ho⟩ hn aW
  try dsimp only at*
  (rw[<-UB];delta lS v8 oX Am Zm ml Jx fB fD fC fw fy lR Yv lE DG Zh sc Z6 Z5 Zd Zb sT Z9O UA KO LM Hr Z9F fX Z3 Z9B qA HK JT tW zb wY BR An Z9K ZZ)
  have eH:0<=i/\i<((l.map dH).length:Int):=by rw[zaa];exact hi
  have nb:o.length<=o0.length+k.toNat:=by rw[ho];exact DB _ (by omega)
  have lC:=pS (r:=r) (o:=o0) dy;rw[<-ho] at lC;have e1:D.nth (p.map D.str) k.toNat=D.str p[k.toNat]:=aG _ _ _ dy;rw[hr];have hx:(r.2.1.1,r.2.1.2.1,r.2.1.2.2+k)=zx r k.toNat:=by unfold zx;rw[Int.toNat_of_nonneg h0]
  have c3:D.aj (D.ax (dH r) 3)=r.2.1.1:=rfl;have c4:D.aj (D.ax (dH r) 4)=r.2.1.2.1:=rfl;have c5:D.aj (D.ax (dH r) 5)=r.2.1.2.2:=rfl;rw[c3,c4,c5];have c1:(r.2.1.1==(0:Int)&&(r.2.1.2.1==(0:Int)&&true)&&(r.2.1.2.2+k==(0:Int)&&true))=(zx r k.toNat==aD):=by rw[<-hx];exact qz (r.2.1.1,r.2.1.2.1,r.2.1.2.2+k) aD
  rw[c1];have ha:elA r (k+1).toNat=zx r k.toNat:=by rw[show(k+1).toNat=k.toNat+1 by omega];rfl
  have hn: ∀o',o'=N1 o (zx r k.toNat) (elA r k.toNat) p[k.toNat]->ae (.normal,Uw l o' p (zx r k.toNat) i (k+1)):=λo' h=>by have:=hn o' ⟨⟨hi,hr,Hj,hl,he⟩,by rw[lC];exact h⟩;rw[ha] at this;exact this
  generalize elA r k.toNat=a at*
  refine bV r4 (ak eH (ao (UH _) (ak eH (ao (UH _) (ak (by omega) ⟨l,o,p,a,zx r k.toNat,zx r k.toNat==aD,i,k,by rw[<-hx],by omega,λb hb=>az (λv7=> ?_) λBI=> ?_⟩)))))
  ·have hs:N1 o (zx r k.toNat) a p[k.toNat]=o++[(zx r k.toNat,a,p[k.toNat])]:=by
    unfold N1;refine zap λh=> ?_;rw[zbA,hb,zcN] at v7;rcases h with h |h
    ·rw[h] at v7;simp at v7
    rw[h] at v7;simp at v7
   have hy:=hn _ hs.symm;rw[e1];have t2:D.agg [D.int .i64 (zx r k.toNat).1,D.int .i64 (zx r k.toNat).2.1,D.int .i64 (zx r k.toNat).2.2,D.int .i64 a.1,D.int .i64 a.2.1,D.int .i64 a.2.2,D.str (D.cm (D.str p[k.toNat]))]=dH (zx r k.toNat,a,p[k.toNat]):=rfl;rw[t2,b7];simp only[Uw,zaj] at hy;refine ak ⟨h0,r4⟩ (ak (by rw[zaa];exact dy) (ao (qiz _) (ao (iy rfl (by rw[zaa]) (by omega) (by decide)) (ak (by omega) ?_))));exact hy
  have hs:N1 o (zx r k.toNat) a p[k.toNat]=o:=by unfold N1;refine zaq ?_;rw[Bool.not_eq_false',hb,za1,zbp] at BI;exact BI
  exact ak (by omega) (hn _ hs.symm))
 (by
  rintro⟨l,o0,p,r,i⟩ o k ae hk ⟨⟨hi,hr,Hj,hl,he⟩,ho⟩ aW
  try dsimp only at*
  (rw[<-UB];delta lS v8 oX Am Zm ml Jx fB fD fC fw fy lR Yv lE DG Zh sc Z6 Z5 Zd Zb sT Z9O UA KO LM Hr Z9F fX Z3 Z9B qA HK JT tW zb wY BR An Z9K ZZ)
  refine oC (by omega) (aW _ (λh=>by cases h) ?_);rw[ho,zag])
 (by rintro s ae ⟨l,o,p,r,i,rfl,hc,hr,hp⟩;refine⟨(l,o,p,r,i),o,rfl,⟨⟨⟨hc.1,hc.2.1⟩,hr,hc.2.2.2.1,hc.2.2.2.2.1,hc.2.2.2.2.2⟩,by simp[Ed]⟩,?_⟩;rintro z rfl;exact hp _ rfl)
theorem qar:LD X 85 3 (ah (aL 85 3) qeA):=LD.idx (H:=[(102,tq)]) (hk:=[(8,ah (aL 85 8) UC)]) (by kernel_rfl) (by kernel_rfl) (.cons Gr .nil) (.cons UL .nil)
 (A:=List bn) (B:=List br) (λl o i=>el9 l o i) (λl=>l.length)
 (λl i o=>eT l/\o=qC (l.take i))
 (λl z=>z=(.exit 0,⟨86,[(3,.sl 0 0 (qC l).length)],[(0,⟨0,none,gG false (qC l)⟩)]⟩))
 (by
  rintro l o i ae h0 cj bK ⟨hc,ho⟩ hn aW
  try dsimp only at*
  (rw[<-UD];delta lS v8 oX Am sT Hr JT XO Zb An Z9T Re Z3 yT HK rI Zm ml lE tW zb wY BR Zh sa Z6 Z5 Zd VR Z9S XP ZX kc Zq ZV ZW Z9K)
  have e1:D.nth (l.map dH) i.toNat=dH l[i.toNat]:=aG _ _ _ bK;have lC:=pU bK;rw[<-ho] at lC;have h1:=oc (l:=l) i.toNat (by omega);rw[<-ho] at h1;have h2:=BP bK;have h3:=Ul l (i.toNat+1);have h4:=hc.2.1;have hl1:=hc.1;have h5:=hc.2.2 _ (zar bK);have h6:=tH l[i.toNat].2.2;have eH:0<=i/\i<((l.map dH).length:Int):=by rw[zaa];exact⟨h0,cj⟩
  rw[e1];generalize l[i.toNat]=r at*
  have hn: ∀o',o'=elR o r->ae (.normal,el9 l o' (i+1)):=λo' h=>hn o' ⟨hc,by rw[lC];exact h⟩;have mB: ∀p,p=kj r.2.2->0<=i/\i<(l.length:Int)/\l.length<=1000000/\p.length<=100000/\o.length+p.length<=1000000/\(0<=r.2.1.2.2/\r.2.1.2.2<=1000000000000):=λp hp=>by subst hp;exact⟨h0,cj,hc.1,by omega,by omega,h5.2⟩
  refine bV eH.2 (ak eH (ao (UH _) ⟨r.2.2,rfl,rfl,by omega,λhv=>ak eH (ao (UH _) ?_),λhv p hp=>ak eH (ao (UH _) ?_)⟩))
  ·have hp:[]=kj r.2.2:=by unfold kj;rw[hv];rfl
   exact⟨l,o,[],r,i,rfl,mB _ hp,e1,λo' fA=>ak (by omega) (hn o' (by rw[fA];unfold elR;rw[<-hp]))⟩
  have hp:p=kj r.2.2:=by unfold kj;rw[hv,zaq rfl];exact hp
  exact⟨l,o,p,r,i,rfl,mB _ hp,e1,λo' fA=>ak (by omega) (hn o' (by rw[fA];unfold elR;rw[<-hp]))⟩)
 (by
  rintro l o i ae hi ⟨hc,ho⟩ aW
  try dsimp only at*
  (rw[<-UD];delta lS v8 oX Am sT Hr JT XO Zb An Z9T Re Z3 yT HK rI Zm ml lE tW zb wY BR Zh sa Z6 Z5 Zd VR Z9S XP ZX kc Zq ZV ZW Z9K)
  refine oC (by rw[zaa];omega) (aW _ (λh=>by cases h) ?_);rw[ho,zag])
 (by rintro s ae ⟨l,rfl,hc,hp⟩;refine⟨l,[],rfl,⟨hc,rfl⟩,?_⟩;rintro z rfl;exact hp _ rfl)
theorem qby:FD X 85 UE:=FD.mk (H:=[]) (hk:=[(3,ah (aL 85 3) qeA)]) (by kernel_rfl) .nil (.cons qar .nil) (by
 intro ps R ae hh;obtain⟨l,rfl,rfl,hs,hp⟩:=hh
 (rw[<-qg1];delta lS v8 oX Am lE tW VS Z9U Z3 Hv ZE Sw wY BR Z9V)
 exact⟨l,rfl,hs,λo ho=>hp o ho⟩)
theorem UM:LD X 66 8 (ah (aL 66 8) UF):=LD.ins (H:=[(55,iN)]) (hk:=[]) (by kernel_rfl) (by kernel_rfl) (.cons la .nil) .nil
 (A:=List br×Nat×Int) (α:=aq) (λa o k=>qao a.1 o a.2.1 a.2.2 k) lz (λa=>a.2.1) (λ_=>True) (λa o=>(.exit 2,⟨64,[(5,.sl 0 0 a.1.length),(6,.sl 1 0 a.2.1),(7,iD a.2.2)],[(0,⟨0,none,gG false a.1⟩),(1,⟨0,none,fO false o⟩)]⟩)) (λ_ _ h=>by cases h)
 (by
  rintro⟨l,n,i⟩ o k ae _ h0 yV nb hk hz bk bC
  try dsimp only at*
  subst yV
  (rw[<-qeB];delta fM zu lS v8 oX Zm oW FU lE tW N4 Z9Y Zb Hs Ht Hu X2 Z8 Z4e VK Z7n Zl SX Zq Zx ZM Z7r X1 oQ Z7k tT Z6 Z5 Z7 wR Tc mZ Zk)
  refine gT (λhp=> ?_) λhp=>hz (by omega);have gJ:k.toNat-1<o.length:=by omega
  have ek:(k-1).toNat=k.toNat-1:=by omega
  have e1:D.nth (o.map cb) k.toNat=cb o[k.toNat]:=aG _ _ _ hk;have e2:D.nth (o.map cb) (k.toNat-1)=cb o[k.toNat-1]:=aG _ _ _ gJ;have bk:=bk hp;have bC:=bC hp;have uN:=iQ cb o k.toNat o[k.toNat] o[k.toNat-1];have e3: ∀z,D.nth ((o.map cb).set k.toNat z) (k.toNat-1)=cb o[k.toNat-1]:=λz=>by unfold D.nth;rw[zab,zaY (by omega)];simp[gJ]
  rw[ek,e1,e2];simp only[e3];generalize o[k.toNat]=x at*
  generalize o[k.toNat-1]=y at*
  simp only[zaa,zbi] at bC⊢;have uO:0<=k/\k<(o.length:Int):=⟨h0,by omega⟩
  have uP:0<=k-1/\k-1<(o.length:Int):=⟨by omega,by omega⟩
  have hf:(-9223372036854775808:Int)<=k-1/\k-1<=9223372036854775807:=by omega
  refine ak uO (ak hk (ao (mQ _) (ak hf (ak uP (ak gJ (ao (mQ _) ⟨(x).1,(x).2.1,(x).2.2,(y).1,(y).2.1,(y).2.2,rfl,rfl,gT (λh=> ?_) λh=>bk (by rw[<-zbS];exact λh2=>h ((ib (x) (y)).2 h2))⟩))))));have hy:=bC ((ib (x) (y)).1 h);simp only[qao,fO] at hy;rw[<-uN] at hy;refine ak hf (ak hf (ak uP (ak gJ (ao (mQ _) (ak uO (ak hk (ao (mQ _) (ak uO (ak hk (ao (mQ _) (ak uP (ak gJ (ao (mQ _) (ak hf ?_))))))))))))));exact hy)
 (by rintro s ae ⟨l,o,x,n,i,k,rfl,⟨hk,hn,ho⟩,hp⟩;refine⟨(l,n,i),o,x,k,rfl,hk,trivial,⟨hn.symm,ho⟩,?_⟩;have:=hp _ rfl;rw[es9,js,<-hn] at this;exact this)
theorem qas:LD X 66 4 (ah (aL 66 4) qeC):=LD.idx (H:=[]) (hk:=[(8,ah (aL 66 8) UF)]) (by kernel_rfl) (by kernel_rfl) .nil (.cons UM .nil)
 (A:=List br) (B:=List aq) (λl o i=>es9 l o i) (λl=>l.length) (λl i o=>l.length<=1000000/\o=cc lz ((l.take i).map (·.1)))
 (λl x=>x=(.exit 0,⟨64,[(6,.sl 0 0 (cc lz (l.map (·.1))).length)],[(0,⟨0,none,fO false (cc lz (l.map (·.1)))⟩)]⟩))
 (by
  rintro l o i ae h0 cj bK ⟨hm,ho⟩ hn aW
  try dsimp only at*
  (rw[<-UG];delta fM zu q6 gk oE Zh qw Z6 Z5 Zd mq tU Z7y Zm qA HG FU Zb lS tV VT VU Za1 NY v8 oX oW lE tW N4 Za2 oQ zz JS Ux Z9u)
  have nb:o.length<=i.toNat:=by rw[ho,kA,zaa,zat];exact Nat.min_le_left _ _
  have e1:D.nth (l.map dH) i.toNat=dH l[i.toNat]:=aG _ _ _ bK;have ng:cc lz ((l.take (i.toNat+1)).map (·.1))=ct lz o l[i.toNat].1:=by rw[zaf bK,zaG,List.map_singleton,rQ,ho]
  have b9:=λo' (fA:o'=ct lz o l[i.toNat].1)=>hn o' ⟨hm,by rw[ng];exact fA⟩;generalize l[i.toNat]=d at*
  rw[e1];have t1:List.take o.length (o.map cb)++[cb d.1]=(o++[d.1]).map cb:=b7 cb o d.1;simp only[zaa,zam,zay,zaI];refine bV cj (ak ⟨h0,cj⟩ (ak bK (ao (rW _) (ao ?_ (ak (by omega) ⟨l,o,d.1,o.length+1,i,((o.length+1:Nat):Int)-1,congrArg (λz=>(⟨64,[(5,.sl 0 0 l.length),(6,.sl 1 0 (o.length+1)),(7,iD i),(8,iD (((o.length+1:Nat):Int)-1))],[(0,⟨0,none,gG false l⟩),(1,⟨0,none,.arr 50 false z⟩)]⟩:S)) t1,⟨by omega,rfl,by omega⟩,λo' fA=>ak (by omega) (b9 o' fA)⟩)))));rw[zad];exact⟨by simp,dh (by omega) (by omega)⟩)
 (by
  rintro l o i ae hi ⟨hm,ho⟩ aW
  try dsimp only at*
  (rw[<-UG];delta fM zu q6 gk oE Zh qw Z6 Z5 Zd mq tU Z7y Zm qA HG FU Zb lS tV VT VU Za1 NY v8 oX oW lE tW N4 Za2 oQ zz JS Ux Z9u)
  refine oC (by omega) (aW _ (λh=>by cases h) ?_);rw[ho,zag])
 (by rintro s ae ⟨l,rfl,hs,hp⟩;refine⟨l,[],rfl,⟨hs,rfl⟩,?_⟩;rintro x rfl;exact hp _ rfl)
theorem qg4:FD X 66 qeD:=FD.mk (H:=[(33,Ut),(85,UE)]) (hk:=[(4,ah (aL 66 4) qeC)]) (by kernel_rfl) (.cons qbx (.cons qby .nil)) (.cons qas .nil) (by
 intro ps R ae hh;obtain⟨l,x,rfl,rfl,⟨hs,h2,hr⟩,hp⟩:=hh
 (rw[<-qg2];delta fM zu q6 gk oE lE LM VL lS v8 oX Z3 uG rI Z6W tW N4 Za3 wY Za4 oR Us Zq fB fD fC fw fy nc iP fa)
 refine⟨l,x,rfl,rfl,⟨hs,h2⟩,λr vd=>⟨r,by rw[zan (by simp)],rfl,by rw[vd];exact hr,λo ho=>⟨o,rfl,?_,λo' fA=>hp o' ?_⟩⟩⟩
 ·have:=oc (l:=r) _ (zai _);rw[zag,<-ho] at this;have:=hr.2.1;rw[<-vd] at this;omega
 rw[fA,ho,vd];rfl)
end
theorem N6: ∀(k n i:Nat) (r:List UInt8),n<128^k->i+k<=9->0<k->(i=0\/0<n)->bW i (fu n++r)=(0,n,r):=by
 intro k
 induction k with
 |zero=>intro n i r _ _ h;omega
 |succ k ih=>
  intro n i r hn hi _ h0;by_cases h:n<128
  ·rw[nT h];simp only[zbF,zaT,bW];have e:(UInt8.ofNat n).toNat=n:=by simp[zbL];omega
   rw[e,zaq h,zap (by omega)]
  rw[sZ h];simp only[zbF,bW];have e:(UInt8.ofNat (n%128+128)).toNat=n%128+128:=by simp[zbL];omega
  have hk:0<k:=by
   rcases Nat.eq_zero_or_pos k with rfl |hk
   ·simp at hn;omega
   exact hk
  have:=ih (n/128) (i+1) r (by rw[zcI] at hn;omega) (by omega) hk (.inr (by omega));rw[e,zap (by omega),zap (by omega),this];simp only[zbg,zaL,zcM,zdd];omega
theorem zd{n:Nat}(r:List UInt8)(h:n<9223372036854775808):bW 0 (fu n++r)=(0,n,r):=
 N6 9 n 0 r (by rw[show 128^9=9223372036854775808 from rfl];exact h) (by omega) (by omega) (.inl rfl)
theorem uV(t r:List UInt8)(h:t.length<9223372036854775808):eB (fu t.length++t++r)=(0,t,r):=by unfold eB;rw[zaF,zd _ h];simp only[ne_eq,not_true,zbq];rw[zap (by simp)];simp
def okE(e:cg):Prop:=(e.2.1=true->e.2.2=[])/\e.1.length<9223372036854775808/\e.2.2.length<9223372036854775808
theorem qat{e:cg}(r:List UInt8)(h:okE e):yC (jN e++r)=some (e,r):=by
 obtain⟨p,d,t⟩:=e;obtain⟨h1,h2,h3⟩:=h;simp only at h1 h2 h3;unfold yC jN;cases d with
 |true=>have:=h1 rfl;subst this;simp only[zbg];rw[zaF,uV _ _ h2];simp
 |false=>
  simp only[zaC,zbq];rw[zaF,uV _ _ h2];have e2:eB (fu t.length++(t++r))=(0,t,r):=by rw[<-zaF];exact uV t r h3
  simp[e2]
theorem LO: ∀(l:List cg) (r:List UInt8),(∀e∈l,okE e)->mP l.length (l.flatMap jN++r)=some (l,r)
 | [],r,_=>rfl
 |e::l,r,h=>by simp only[zam,zbB,mP,zaF];rw[qat _ (h e (by simp))];simp only;rw[LO l r λx hx=>h x (by simp[hx])]
def UN(l:List cg):List UInt8:=fu l.length++l.flatMap jN
theorem qau{l:List cg}(h:gD l): ∀e∈l,(e.2.1=true->e.2.2=[])/\e.1≠[]:=by
 intro e he;obtain⟨i,hi,rfl⟩:=zaN he;have:=h i hi;rw[show l.getD i ([],false,[])=l[i] by simp[zab,hi]] at this;unfold hY at this;simp only[zad] at this;obtain⟨⟨⟨⟨⟨a1,a2⟩,a3⟩,a4⟩,a5⟩,a6⟩:=this;refine⟨λhd=> ?_,λhn=> ?_⟩
 ·rw[hd] at a6;simpa using a6
 rw[hn] at a3;simp[dO] at a3
theorem LP{l:List cg}(h:gD l)(hl:l.length<9223372036854775808)(hs: ∀e∈l,e.1.length<9223372036854775808/\e.2.2.length<9223372036854775808):rK (UN l) l:=by
 unfold rK UN;rw[zd _ hl];refine⟨rfl,?_,h⟩;have:=LO l [] λe he=>⟨(qau h e he).1,hs e he⟩
 rw[zbl] at this;exact this
theorem BS{s:List UInt8}{l m:List cg}(h:rK s l)(k:rK s m):l=m:=by have:=h.2.1.symm.trans k.2.1;simpa using this
abbrev saH(a b:List cg)(k:Int):S:=⟨26,[(0,Ou a),(1,Ou b),(5,iD k)],[]⟩
def gSa:S->K (PX×S):=λs ae=> ∃v w,s=saH v w 0/\(v.length=w.length/\v.length<=3000000)/\(v≠w->ae (.ret,⟨26,[(4,jU false)],[]⟩))/\(v=w->ae (.exit 0,⟨26,[],[]⟩))
def ze:bh:=λps R ae=> ∃v w,ps=[Ou v,Ou w]/\R=[]/\v.length<=3000000/\ ∀b,(b=true↔v=w)->ae (jU b,[])
def zf:bh:=λps R ae=>ps=[]/\R=[]/\ae (jU true,[])
theorem qg5(a b:List cg)(k:Int)(ae:PX×S->Prop):(bif decide (k<Ja a) then ob (Z2m k a) (ob (XH a k) (ob (Z2m k b) (ob (XH b k) (bif !(DQ a k==DQ b k&&(Z2q a k==Z2q b k&&(Z2r a k==Z2r b k&&true))) then ae (PX.ret,S.mk 26 Zc []) else ob (Zd k) (ae (PX.normal,S.mk 26 ((0,r6 a)::(1,r6 b)::Zi k) [])))))) else Zj ae)=(aC [] [] 10 4 (saH a b k)) ae:=by kernel_rfl
def Za5(v:List cg)(w:List cg):S:=S.mk 26 ((0,r6 v)::(1,r6 w)::ZB) []
theorem qiA(a b:List cg)(ae:P×List (Nat×En)->Prop):(bif Ja a !=Ja b then Z1 ae else∃(v:List cg) (w:List cg),Za5 a b=Za5 v w/\(qW v=qW w/\qW v<=3000000)/\(v≠w->Z1 ae)/\(v=w->ZD ae))=(aK [] [(4,ah (aL 10 4) gSa)] 10 [Ou a,Ou b] []) ae:=by kernel_rfl
def Za7(s:List UInt8):Bool:=s==[(2:UInt8),(2:UInt8),(47:UInt8),(97:UInt8),(1:UInt8),(4:UInt8),(47:UInt8),(97:UInt8),(47:UInt8),(102:UInt8),(0:UInt8),(1:UInt8),(120:UInt8)]
def Za8:List D:=[D.agg [D.str [(47:UInt8),(97:UInt8),(47:UInt8),(102:UInt8)],Z0,D.str [(120:UInt8)]]]
def Za6(l:List cg)(e:Int)(s:List UInt8):Prop:=(gD l->e=(0:Int)/\s=fu (qW l)++List.flatMap jN l)/\(¬gD l->e=(80:Int)/\s=[])
def Za9:P:=P.d (D.sl 3 (D.agg [D.str [(47:UInt8),(97:UInt8)],D.bool true,ZO]::Za8))
theorem qiB(ae:P×List (Nat×En)->Prop):(∃(l:List cg),[Za9]=[r6 l]/\Zq/\F7 l/\ ∀(s:List UInt8) (e:Int),Za6 l e s-> ∃(bF:List UInt8),ZW s=ZW bF/\Zq/\kc bF/\(∀(l:List cg),rK bF l-> ∃(ar:List cg),[P.d (D.sl 3 Za8)]=[r6 ar]/\Zq/\F7 ar/\ ∀(qT:List UInt8) (uy:Int),Za6 ar uy qT->bif e==(0:Int) then bif Za7 s then∃(v:List cg) (w:List cg),Za9::Z2X l=[r6 v,r6 w]/\Zq/\qW v<=3000000/\ ∀(b:Bool),(b=true↔v=w)->bif b then ae (P.d (D.bool (uy==(80:Int))),[]) else Z1 ae else Z1 ae else Z1 ae)/\((∀(l:List cg),¬rK bF l)-> ∃(l:List cg),[P.d (D.sl 3 Za8)]=[r6 l]/\Zq/\F7 l/\ ∀(qT:List UInt8) (uy:Int),Za6 l uy qT->bif e==(0:Int) then bif Za7 s then Z1 ae else Z1 ae else Z1 ae))=(aK [(8,Rx),(9,RC),(10,ze)] [] 4 [] []) ae:=by kernel_rfl
def goO(on:Bool)(x:aq)(o:bs):List aq:=if o.kind=4/\o.node=x/\on=true then o.elems else []
def JV(on:Bool)(x:aq)(l:List bs):List aq:=l.flatMap (goO on x)
def lj(l:List av)(o:List aO)(x:aq):List aq:=l.flatMap λg=>JV (decide (g.s∈o)) x g.ops
abbrev go8(l:List av)(on:List aO)(x:aq)(o:List aq)(i:Int):S:=⟨58,[(0,dD l),(1,lB on),(5,.ref 0 0 0),(7,.sl 1 0 o.length),(8,iD i)],[(0,⟨0,none,od x⟩),(1,⟨0,none,fO false o⟩)]⟩
abbrev UO(l:List av)(on:List aO)(x:aq)(o:List aq)(i k:Int):S:=⟨58,[(0,dD l),(1,lB on),(5,.ref 0 0 0),(7,.sl 1 0 o.length),(8,iD i),(9,iD k)],[(0,⟨0,none,od x⟩),(1,⟨0,none,fO false o⟩)]⟩
def Zab(x:aq)(o:List aq):List (Nat×En):=[mn x,(1,zu o)]
def Zaa(o:List aq):Nat×P:=(7,P.sl 1 0 (gk o))
def Zac(k:Int)(ae:PX×S->Prop)(l:List av)(on:List aO)(o:List aq)(i:Int)(x:aq):Prop:=ob (Zd k) (ae (PX.normal,S.mk 58 (dB l::vT on::s6::Zaa o::qA i::Zz k) (Zab x o)))
theorem UP(l:List av)(on:List aO)(x:aq)(o:List aq)(i k:Int)(ae:PX×S->Prop):(ob (oB i l) (ob (jP l i) (bif JM k l i then ob (oB i l) (ob (jP l i) (ob (Dx k l i) (ob (Dw l i k) (bif Dv l i k==(4:Int) then bif Z9h l i k x then ob (oB i l) (ob (jP l i) (∃(ar:List aO) (a7:aO),qv on::Ye l i=qv ar::r9 a7/\Zq/\vZ ar/\ ∀(b:Bool),OP b ar a7->bif b then ob (Nat.ble (gk o) (oQ o)&&aJ (gk o+List.length (D.fU (D.ax (jB l i k) 17))) 24) (ob (Zd k) (ae (PX.normal,S.mk 58 (dB l::vT on::s6::(7,P.sl 1 0 (gk o+List.length (D.fU (D.ax (jB l i k) 17))))::qA i::Zz k) [mn x,(1,En.mk 0 none (Obj.arr (50:TypeId) false (NY o++D.fU (D.ax (jB l i k) 17))))]))) else Zac k ae l on o i x)) else Zac k ae l on o i x else Zac k ae l on o i x)))) else ae (PX.exit 2,S.mk 58 (dB l::vT on::s6::Zaa o::HG i) (Zab x o)))))=(aC [(27,Ta)] [] 34 6 (UO l on x o i k)) ae:=by kernel_rfl
def N7(l:List av)(on:List aO):Prop:=(l.length<=1000000/\cB l<=1000/\on.length<=1000000)/\ ∀g∈l,∀o∈g.ops,o.elems.length<=2000
def UQ:S->K (PX×S):=λs ae=> ∃(l:List av) (on:List aO) (x:aq) (o:List aq) (i:Int) (g:av),AtG l i g/\s=UO l on x o i 0/\((0<=i/\i<l.length)/\on.length<=1000000/\(o.length<=100000000/\g.ops.length<=1000)/\ ∀o∈g.ops,o.elems.length<=2000)/\ ∀o',o'=o++JV (decide (g.s∈on)) x g.ops->ae (.exit 2,go8 l on x o' i)
def Zad(ar:List av)(c7:List aO)(aZ:List aq)(aX:Int)(a7:aq):S:=S.mk 58 [dB ar,vT c7,s6,Zaa aZ,qA aX,(9,P.d Z3)] (Zab a7 aZ)
theorem UR(l:List av)(on:List aO)(x:aq)(o:List aq)(i:Int)(ae:PX×S->Prop):(bif yM i l then∃(ar:List av) (c7:List aO) (a7:aq) (aZ:List aq) (aX:Int) (g:av),AtG ar aX g/\Zad l on o i x=Zad ar c7 aZ aX a7/\(((0:Int)<=aX/\aX<tR ar)/\vZ c7/\(gk aZ<=100000000/\List.length (av.ops g)<=1000)/\ ∀(o:bs),o∈av.ops g->List.length (bs.elems o)<=2000)/\ ∀(o':List aq),o'=aZ++JV (decide (av.s g∈c7)) a7 (av.ops g)->ob (Zd aX) (ae (PX.normal,S.mk 58 (dB ar::vT c7::s6::Zaa o'::sc aX) (Zab a7 o'))) else ae (PX.exit 0,S.mk 58 [(7,oE o)] (q6 o)))=(aC [] [(6,ah (aL 34 6) UQ)] 34 3 (go8 l on x o i)) ae:=by kernel_rfl
def qeE:S->K (PX×S):=λs ae=> ∃l on x,s=go8 l on x [] 0/\N7 l on/\ ∀o,o=lj l on x->ae (.exit 0,⟨58,[(7,.sl 0 0 o.length)],[(0,⟨0,none,fO false o⟩)]⟩)
def Zae(ar:List av)(c7:List aO)(a7:aq):S:=S.mk 58 (dB ar::vT c7::s6::(7,rI)::yT) [mn a7,(1,VL)]
theorem qg6(l:List av)(on:List aO)(x:aq)(ae:P×List (Nat×En)->Prop):(∃(ar:List av) (c7:List aO) (a7:aq),Zae l on x=Zae ar c7 a7/\N7 ar c7/\ ∀(o:List aq),o=lj ar c7 a7->ae (oE o,q6 o))=(aK [] [(3,ah (aL 34 3) qeE)] 34 [dD l,lB on,.d (cb x)] []) ae:=by kernel_rfl
def US:bh:=λps R ae=> ∃l on x,ps=[dD l,lB on,.d (cb x)]/\R=[]/\N7 l on/\ ∀o,o=lj l on x->ae (.sl 0 0 o.length,[(0,⟨0,none,fO false o⟩)])
abbrev be8(a:List br)(x:aq)(o:List br)(i:Int):S:=⟨67,[(0,mX a),(3,.ref 0 0 0),(5,.sl 1 0 o.length),(6,iD i)],[(0,⟨0,none,od x⟩),(1,⟨0,none,gG false o⟩)]⟩
abbrev qav(a:List br)(x:aq)(o:List br)(n:Nat)(i k:Int):S:=⟨67,[(0,mX a),(3,.ref 0 0 0),(5,.sl 1 0 n),(6,iD i),(7,iD k)],[(0,⟨0,none,od x⟩),(1,⟨0,none,gG false o⟩)]⟩
def HL(a:List br):Nat×P:=(0,P.d (D.sl 7 (lS a)))
def Zak(ae:PX×S->Prop)(a:List br)(n:Nat)(i:Int)(x:aq)(o:List br):Prop:=ae (PX.exit 2,S.mk 67 (HL a::dv::HB n::BH i) [mn x,(1,v8 o)])
def Zag(o:List br)(k:Int):List D:=[VU o k,VT o k,D.int .i64 (D.aj (D.ax (tV o k) 2)),D.int .i64 (D.aj (D.ax (tV o k) 3)),D.int .i64 (D.aj (D.ax (tV o k) 4)),D.int .i64 (D.aj (D.ax (tV o k) 5)),D.str (D.cm (D.ax (tV o k) 6))]
def N8(o:List br)(k:Int):D:=D.nth (lS o) (Z8 k)
def Zah(o:List br)(k:Int):List D:=List.set (lS o) (Zb k) (D.bc (D.agg (Zag o k)) [D.int .i64 (D.aj (D.ax (N8 o k) 0)),D.int .i64 (D.aj (D.ax (N8 o k) 1)),D.int .i64 (D.aj (D.ax (N8 o k) 2)),D.int .i64 (D.aj (D.ax (N8 o k) 3)),D.int .i64 (D.aj (D.ax (N8 o k) 4)),D.int .i64 (D.aj (D.ax (N8 o k) 5)),D.str (D.cm (D.ax (N8 o k) 6))])
def Zai(o:List br)(k:Int):D:=D.nth (Zah o k) (Z8 k)
theorem qeF(a:List br)(x:aq)(o:List br)(n:Nat)(i k:Int)(ae:PX×S->Prop):(bif Zk k then ob (mZ k n) (ob (JS k o) (ob (zz o k) (ob (Z7 k) (ob (tT k n) (ob (decide (Z8 k<List.length (lS o))) (ob (cT PR (101:TypeId) (N8 o k)) (∃(t:Int) (r:Int) (aX:Int) (t':Int) (r':Int) (i':Int),[P.d (Za1 o k),P.d (D.agg [D.int .i64 (D.aj (D.ax (N8 o k) 0)),D.int .i64 (D.aj (D.ax (N8 o k) 1)),D.int .i64 (D.aj (D.ax (N8 o k) 2))])]=P.d (D.agg (Zm t::Zm r::Zx aX))::ZM t' r' i'/\Zq/\bif decide (qX t r aX t' r' i'>(0:Int)) then ob (Z7 k) (ob (Z7 k) (ob (tT k n) (ob (decide (Z8 k<List.length (lS o))) (ob (cT PR (101:TypeId) (N8 o k)) (ob (mZ k n) (ob (JS k o) (ob (zz o k) (ob (mZ k n) (ob (JS k o) (ob (zz o k) (ob (tT k n) (ob (decide (Z8 k<List.length (Zah o k))) (ob (cT PR (101:TypeId) (Zai o k)) (ob (Z7 k) (ae (PX.normal,S.mk 67 [HL a,dv,HB n,ei i,(7,Zl k)] [mn x,(1,En.mk 0 none (Obj.arr (101:TypeId) false (List.set (Zah o k) (Z8 k) (D.bc (D.agg [D.int .i64 (D.aj (D.ax (Zai o k) 0)),D.int .i64 (D.aj (D.ax (Zai o k) 1)),D.int .i64 (D.aj (D.ax (Zai o k) 2)),D.int .i64 (D.aj (D.ax (Zai o k) 3)),D.int .i64 (D.aj (D.ax (Zai o k) 4)),D.int .i64 (D.aj (D.ax (Zai o k) 5)),D.str (D.cm (D.ax (Zai o k) 6))]) (Zag o k)))))])))))))))))))))) else Zak ae a n i x o))))))) else Zak ae a n i x o)=(aC [(55,iN)] [] 86 8 (qav a x o n i k)) ae:=by kernel_rfl
def UT:S->K (PX×S):=λst ae=> ∃a x o y n i k,st=qav a x (o++[y]) n i k/\(k=(o.length:Int)/\n=o.length+1/\o.length<=1000000)/\ ∀o',o'=ct gtE o y->ae (.exit 2,be8 a x o' i)
def Zao(o:List br)(a:List br)(i:Int):List (Nat×En):=[(1,En.mk 0 none (Obj.arr (101:TypeId) false (DG o++[D.agg (Zag a i)])))]
def UU(o:List br)(a:List br)(i:Int):Nat:=lE o+List.length [D.agg (Zag a i)]
def Zam(i:Int)(ae:PX×S->Prop)(a:List br)(o:List br)(x:aq):Prop:=ob (Zd i) (ae (PX.normal,S.mk 67 (HL a::dv::(5,P.sl 1 0 (lE o))::Zt i) [mn x,(1,v8 o)]))
def Zal(i:Int)(a:List br):Bool:=decide ((0:Int)<=i/\i<(↑(List.length (lS a)):Int))
theorem UW(a:List br)(x:aq)(o:List br)(i:Int)(ae:PX×S->Prop):(bif decide (i<(↑(List.length (lS a)):Int)) then ob (Zal i a) (ob (zz a i) (bif !(D.aj (D.ax (tV a i) 3)==Prod.fst x&&(D.aj (D.ax (tV a i) 4)==fC x&&true)&&(D.aj (D.ax (tV a i) 5)==fB x&&true)) then Zam i ae a o x else ob (Zal i a) (ob (zz a i) (ob (UA o&&aJ (UU o a i) 64) (ob (decide (Z5<=(↑(UU o a i):Int)-(1:Int)/\(↑(UU o a i):Int)-(1:Int)<=Z6)) (∃(iz:List br) (a7:aq) (aZ:List br) (y:br) (n:Nat) (aX:Int) (k:Int),S.mk 67 [HL a,dv,(5,P.sl 1 0 (UU o a i)),ei i,(7,P.d (D.int .i64 ((↑(UU o a i):Int)-(1:Int))))] (mn x::Zao o a i)=S.mk 67 [HL iz,dv,HB n,ei aX,oW k] [mn a7,(1,En.mk 0 none (Obj.arr (101:TypeId) false (List.map dH (aZ++[y]))))]/\(k=(↑(lE aZ):Int)/\n=lE aZ+1/\LM aZ)/\ ∀(o':List br),o'=ct gtE aZ y->Zam aX ae iz o' a7)))))) else ae (PX.exit 0,S.mk 67 [N4 o] (Am o)))=(aC [] [(8,ah (aL 86 8) UT)] 86 3 (be8 a x o i)) ae:=by kernel_rfl
def qeG:S->K (PX×S):=λs ae=> ∃a x,s=be8 a x [] 0/\a.length<=1000000/\ ∀o,o=iT a x->ae (.exit 0,⟨67,[(5,.sl 0 0 o.length)],[(0,⟨0,none,gG false o⟩)]⟩)
def Zap(iz:List br)(a7:aq):S:=S.mk 67 (HL iz::dv::(5,rI)::DZ) [mn a7,(1,Z9U)]
theorem qg7(a:List br)(x:aq)(ae:P×List (Nat×En)->Prop):(∃(iz:List br) (a7:aq),Zap a x=Zap iz a7/\LM iz/\ ∀(o:List br),o=iT iz a7->VS ae o)=(aK [] [(3,ah (aL 86 3) qeG)] 86 [mX a,.d (cb x)] []) ae:=by kernel_rfl
def UX:bh:=λps R ae=> ∃a x,ps=[mX a,.d (cb x)]/\R=[]/\a.length<=1000000/\ ∀o,o=iT a x->ae (.sl 0 0 o.length,[(0,⟨0,none,gG false o⟩)])
abbrev or8(a o w:List br):S:=⟨35,[(3,.sl 0 0 a.length),(4,.sl 1 0 o.length),(5,.sl 2 0 w.length)],[(0,⟨0,none,gG true a⟩),(1,⟨0,none,gG false o⟩),(2,⟨0,none,gG false w⟩)]⟩
def Zau(a:List br):Nat×En:=(0,En.mk 0 none (Obj.arr (101:TypeId) true (lS a)))
def Zas(aZ:List br):Nat:=0+List.length (DG aZ)
def Zat(aZ:List br)(w:List br):Nat:=Zas aZ+List.length (List.take (lE w-1) (List.drop 1 (lS w)))
def OS(w:List br):D:=D.nth (lS w) 0
def Zar(w:List br):List D:=[D.agg [D.int .i64 (D.aj (D.ax (OS w) 0)),D.int .i64 (D.aj (D.ax (OS w) 1)),D.int .i64 (D.aj (D.ax (OS w) 2)),D.int .i64 (D.aj (D.ax (OS w) 3)),D.int .i64 (D.aj (D.ax (OS w) 4)),D.int .i64 (D.aj (D.ax (OS w) 5)),D.str (D.cm (D.ax (OS w) 6))]]
theorem qeH(a o w:List br)(ae:PX×S->Prop):(bif decide ((↑(lE w):Int)>(0:Int)) then ob (decide ((0:Int)<=(0:Int)/\(0:Int)<(↑(lE w):Int))) (ob (decide (0<List.length (lS w))) (ob (cT PR (101:TypeId) (OS w)) (ob (decide ((0:Int)<=(1:Int)/\(1:Int)<=(↑(lE w):Int))) (ob (UA o&&aJ (lE o+List.length (Zar w)) 64) (∃(iz:List bn) (x:aq),[P.d (D.sl 7 (DG a)),P.d (D.agg [D.int .i64 (D.aj (D.ax (OS w) 0)),D.int .i64 (D.aj (D.ax (OS w) 1)),D.int .i64 (D.aj (D.ax (OS w) 2))])]=wY iz::iP x/\Zq/\VR iz/\ ∀(aZ:List br),aZ=iT iz x->ob (Nat.ble 0 0&&aJ (Zas aZ) 64) (ob (Nat.ble (Zas aZ) (List.length ([]++DG aZ))&&aJ (Zat aZ w) 64) (ae (PX.normal,S.mk 35 [zb a,(4,P.sl 1 0 (lE o+List.length (Zar w))),(5,P.sl 2 0 (Zat aZ w))] [Zau a,(1,En.mk 0 none (Obj.arr (101:TypeId) false (DG o++Zar w))),(2,En.mk 0 none (Obj.arr (101:TypeId) false (List.take (Zas aZ) ([]++DG aZ)++List.take (lE w-1) (List.drop 1 (lS w)))))])))))))) else ae (PX.exit 0,S.mk 35 [(4,tW o)] (Am o)))=(aC [(86,UX)] [] 60 4 (or8 a o w)) ae:=by kernel_rfl
def UY(a:List br):Prop:=a.length<=1000000/\(a.map (·.1)).Nodup/\ ∀e∈a,e.1≠aD
def qeI:S->K (PX×S):=λs ae=> ∃a,s=or8 a [] (iT a aD)/\UY a/\ ∀o,o=rU a->ae (.exit 0,⟨35,[(4,.sl 0 0 o.length)],[(0,⟨0,none,gG false o⟩)]⟩)
theorem qg8(l:List bn)(ae:P×List (Nat×En)->Prop):(∃(ar:List bn),[wY l]=[wY ar]/\Zq/\eT ar/\ ∀(o:List br),o=qC ar-> ∃(a:List bn) (x:aq),[P.d (D.sl 7 (DG o)),VA]=wY a::iP x/\Zq/\VR a/\ ∀(aZ:List br),aZ=iT a x-> ∃(a:List br),S.mk 35 [zb o,(4,rI),(5,P.sl 2 0 (lE aZ))] [Zau o,(1,Z9U),(2,v8 aZ)]=S.mk 35 [zb a,(4,rI),(5,P.sl 2 0 (List.length (iT a aD)))] [Zau a,(1,Z9U),(2,En.mk 0 none (Obj.arr (101:TypeId) false (List.map dH (iT a aD))))]/\UY a/\ ∀(o:List br),o=rU a->VS ae o)=(aK [(85,UE),(86,UX)] [(4,ah (aL 60 4) qeI)] 60 [mX l] []) ae:=by kernel_rfl
def qeJ:bh:=λps R ae=> ∃l,ps=[mX l]/\R=[]/\eT l/\ ∀o,o=rU (qC l)->ae (.sl 0 0 o.length,[(0,⟨0,none,gG false o⟩)])
def JW(on:List aO)(g:List aq)(e:br):Bool:=decide (Nj e.1∈on)&& !decide (e.1∈g)
def UZ(l:List bn)(on:List aO)(g:List aq):List br:=(rU (qC l)).filter (JW on g)
abbrev se8(on:List aO)(g:List aq)(a o:List br)(i:Int):S:=⟨44,[(1,lB on),(2,da g),(7,.sl 0 0 a.length),(8,.sl 1 0 o.length),(9,iD i)],[(0,⟨0,none,gG false a⟩),(1,⟨0,none,gG false o⟩)]⟩
def Zav(i:Int)(ae:PX×S->Prop)(on:List aO)(g:List aq)(a:List br)(o:List br):Prop:=ob (Zd i) (ae (PX.normal,S.mk 44 (vT on::(2,iw g)::(7,tW a)::(8,P.sl 1 0 (lE o))::Zz i) [oX a,(1,v8 o)]))
theorem U0(on:List aO)(g:List aq)(a o:List br)(i:Int)(ae:PX×S->Prop):(bif Z9u i a then ob (Ux i a) (ob (JS i a) (ob (zz a i) (∃(l:List aO) (x:aO),[qv on,P.d (D.agg [VU a i,VT a i])]=qv l::r9 x/\Zq/\vZ l/\ ∀(b:Bool),OP b l x->bif b then ob (Ux i a) (ob (JS i a) (ob (zz a i) (∃(l:List aq) (x:aq),[iw g,P.d (Za1 a i)]=iw l::iP x/\Zq/\mq l/\bif !decide (x∈l) then ob (Ux i a) (ob (JS i a) (ob (zz a i) (ob (UA o&&aJ (UU o a i) 64) (ob (Zd i) (ae (PX.normal,S.mk 44 (vT on::(2,iw g)::(7,tW a)::(8,P.sl 1 0 (UU o a i))::Zz i) (oX a::Zao o a i))))))) else Zav i ae on g a o))) else Zav i ae on g a o))) else ae (PX.exit 0,S.mk 44 [(8,tW o)] (Am o)))=(aC [(27,Ta),(58,JA)] [] 32 4 (se8 on g a o i)) ae:=by kernel_rfl
def qeK:S->K (PX×S):=λs ae=> ∃on g a,s=se8 on g a [] 0/\(on.length<=1000000/\g.length<=1000000/\a.length<=1000000)/\ ∀o,o=a.filter (JW on g)->ae (.exit 0,⟨44,[(8,.sl 0 0 o.length)],[(0,⟨0,none,gG false o⟩)]⟩)
def Zaw(c7:List aO)(dU:List aq)(a:List br):S:=S.mk 44 [vT c7,(2,iw dU),(7,tW a),(8,rI),(9,P.d Z3)] [oX a,(1,Z9U)]
theorem qg9(l:List bn)(on:List aO)(g:List aq)(ae:P×List (Nat×En)->Prop):(∃(ar:List bn),[wY l]=[wY ar]/\Zq/\eT ar/\ ∀(o:List br),o=rU (qC ar)-> ∃(c7:List aO) (dU:List aq) (a:List br),Zaw on g o=Zaw c7 dU a/\(vZ c7/\mq dU/\LM a)/\ ∀(o:List br),o=List.filter (JW c7 dU) a->VS ae o)=(aK [(60,qeJ)] [(4,ah (aL 32 4) qeK)] 32 [mX l,lB on,da g] []) ae:=by kernel_rfl
def JX:bh:=λps R ae=> ∃l on g,ps=[mX l,lB on,da g]/\R=[]/\(eT l/\on.length<=1000000/\g.length<=1000000)/\ ∀o,o=UZ l on g->ae (.sl 0 0 o.length,[(0,⟨0,none,gG false o⟩)])
def gl(l:List br):List UInt8:=l.flatMap (·.2.2)
abbrev tx8(l:List br)(s:List UInt8)(i:Int):S:=⟨19,[(0,mX l),(3,sD s),(4,iD i)],[]⟩
theorem U1(l:List br)(s:List UInt8)(i:Int)(ae:PX×S->Prop):(bif decide (i<(↑(List.length (lS l)):Int)) then ob (Zal i l) (ob (zz l i) (ob (decide (ZX s+List.length (D.cm (D.ax (tV l i) 6))<=Zr)) (ob (Zd i) (ae (PX.normal,S.mk 19 (HL l::(3,P.d (D.str (s++D.cm (D.ax (tV l i) 6))))::sa i) []))))) else ae (PX.exit 0,S.mk 19 [(3,ZV s)] []))=(aC [] [] 12 3 (tx8 l s i)) ae:=by kernel_rfl
def qeL:S->K (PX×S):=λs ae=> ∃l,s=tx8 l [] 0/\(l.length<=1000000/\(gl l).length<=1000000000000)/\ ∀t,t=gl l->ae (.exit 0,⟨19,[(3,sD t)],[]⟩)
theorem qha(l:List br)(ae:P×List (Nat×En)->Prop):(∃(ar:List br),S.mk 19 (HL l::Z1k::Hv) []=S.mk 19 (HL ar::Z1k::Hv) []/\(LM ar/\List.length (gl ar)<=1000000000000)/\ ∀(t:List UInt8),t=gl ar->ae (ZV t,[]))=(aK [] [(3,ah (aL 12 3) qeL)] 12 [mX l] []) ae:=by kernel_rfl
def U2:bh:=λps R ae=> ∃l,ps=[mX l]/\R=[]/\(l.length<=1000000/\(gl l).length<=1000000000000)/\ ∀t,t=gl l->ae (sD t,[])
abbrev knH(l:List av)(v:List Int)(o:List av)(i:Int):S:=⟨35,[(0,dD l),(1,vD v),(5,.sl 0 0 o.length),(6,iD i)],[(0,⟨0,none,Ae false o⟩)]⟩
theorem qbz(l:List av)(v:List Int)(o:List av)(i:Int)(ae:PX×S->Prop):(bif yM i l then ob (oB i l) (ob (jP l i) (ob (oB i l) (ob (jP l i) (∃(ar:List Int) (r:Int),[Ze v,P.d (Bw l i)]=Ze ar::Zo r/\Zq/\Zs ar/\bif decide (D.aj (D.ax (nY l i) 2)<=e7 ar r) then ob (oB i l) (ob (jP l i) (ob (Nat.ble (List.length o) (kz o)&&aJ (List.length o+List.length [Sv l i]) 88) (ob (Zd i) (ae (PX.normal,S.mk 35 (dB l::Zg v::(5,P.sl 0 0 (List.length o+List.length [Sv l i]))::Zt i) [(0,En.mk 0 none (Obj.arr (89:TypeId) false (List.take (List.length o) (List.map cu o)++[Sv l i])))]))))) else ob (Zd i) (ae (PX.normal,S.mk 35 (dB l::Zg v::(5,vU o)::Zt i) (Ny o))))))) else ae (PX.exit 0,S.mk 35 [(5,vU o)] (Ny o)))=(aC [(37,W8)] [] 36 3 (knH l v o i)) ae:=by kernel_rfl
def gKn:S->K (PX×S):=λs ae=> ∃l v,s=knH l v [] 0/\(l.length<=1000000/\v.length<=1000000)/\ ∀o,o=aN l v->ae (.exit 0,⟨35,[(5,.sl 0 0 o.length)],[(0,⟨0,none,Ae false o⟩)]⟩)
theorem qiC(l:List av)(v:List Int)(ae:P×List (Nat×En)->Prop):(∃(ar:List av) (e9:List Int),S.mk 35 (dB l::Zg v::Tk) Z5a=S.mk 35 (dB ar::Zg e9::Tk) Z5a/\(oR ar/\X5 e9)/\ ∀(o:List av),o=aN ar e9->ae (vU o,Ny o))=(aK [] [(3,ah (aL 36 3) gKn)] 36 [dD l,vD v] []) ae:=by kernel_rfl
def hKn:bh:=λps R ae=> ∃l v,ps=[dD l,vD v]/\R=[]/\(l.length<=1000000/\v.length<=1000000)/\ ∀o,o=aN l v->ae (.sl 0 0 o.length,[(0,⟨0,none,Ae false o⟩)])
abbrev U3(l:List av)(t i:Int):S:=⟨20,[(0,dD l),(3,iD t),(4,iD i)],[]⟩
theorem qbA(l:List av)(t i:Int)(ae:PX×S->Prop):(bif yM i l then ob (oB i l) (ob (jP l i) (ob (Zd i) (ae (PX.normal,S.mk 20 (dB l::(3,P.d (D.int .i64 (max t (D.aj (D.ax (nY l i) 0)))))::sa i) [])))) else ae (PX.exit 0,S.mk 20 [(3,P.d (Zm t))] []))=(aC [] [] 38 3 (U3 l t i)) ae:=by kernel_rfl
def U4:S->K (PX×S):=λs ae=> ∃l,s=U3 l 0 0/\l.length<=1000000/\ ∀t,t=sb l->ae (.exit 0,⟨20,[(3,iD t)],[]⟩)
def Zax(ar:List av):S:=S.mk 20 (dB ar::(3,P.d Z3)::Hv) []
theorem qiD(l:List av)(ae:P×List (Nat×En)->Prop):(∃(ar:List av),Zax l=Zax ar/\oR ar/\ ∀(t:Int),t=sb ar->ae (P.d (Zm t),[]))=(aK [] [(3,ah (aL 38 3) U4)] 38 [dD l] []) ae:=by kernel_rfl
def U5:bh:=λps R ae=> ∃l,ps=[dD l]/\R=[]/\l.length<=1000000/\ ∀t,t=sb l->ae (iD t,[])
abbrev ndH(l:List av)(b:Bool)(o:List aq)(i:Int):S:=⟨60,[(0,dD l),(1,.d (.bool b)),(5,.sl 0 0 o.length),(6,iD i)],[(0,⟨0,none,fO false o⟩)]⟩
abbrev ndI(l:List av)(b:Bool)(o:List aq)(i k:Int):S:=⟨60,[(0,dD l),(1,.d (.bool b)),(5,.sl 0 0 o.length),(6,iD i),(7,iD k)],[(0,⟨0,none,fO false o⟩)]⟩
def OT(b:Bool):Nat×P:=(1,fX b)
def ZaA(k:Int)(ae:PX×S->Prop)(l:List av)(b:Bool)(o:List aq)(i:Int):Prop:=ob (Zd k) (ae (PX.normal,S.mk 60 (dB l::OT b::(5,oE o)::ei i::qw k) (q6 o)))
def Zay(l:List av)(i:Int)(k:Int):List D:=[D.agg [Z8U l i k,Z8V l i k,Z8W l i k]]
theorem qbB(l:List av)(b:Bool)(o:List aq)(i k:Int)(ae:PX×S->Prop):(ob (oB i l) (ob (jP l i) (bif JM k l i then ob (oB i l) (ob (jP l i) (ob (Dx k l i) (ob (Dw l i k) (bif Dv l i k==(0:Int) then ob (oB i l) (ob (jP l i) (ob (Dx k l i) (ob (Dw l i k) (bif D.eY (D.ax (jB l i k) 8)==b then ob (oB i l) (ob (jP l i) (ob (Dx k l i) (ob (Dw l i k) (ob (Nat.ble (gk o) (oQ o)&&aJ (gk o+List.length (Zay l i k)) 24) (ob (Zd k) (ae (PX.normal,S.mk 60 (dB l::OT b::(5,P.sl 0 0 (gk o+List.length (Zay l i k)))::ei i::qw k) [(0,En.mk 0 none (Obj.arr (50:TypeId) false (NY o++Zay l i k)))]))))))) else ZaA k ae l b o i)))) else ZaA k ae l b o i)))) else ae (PX.exit 2,S.mk 60 (dB l::OT b::(5,oE o)::BH i) (q6 o)))))=(aC [] [] 62 6 (ndI l b o i k)) ae:=by kernel_rfl
def qeM:S->K (PX×S):=λs ae=> ∃(l:List av) (b:Bool) (o:List aq) (i:Int) (g:av),AtG l i g/\s=ndI l b o i 0/\(0<=i/\i<l.length/\o.length+g.ops.length<=1000000)/\ ∀o',o'=o++rV b g.ops->ae (.exit 2,ndH l b o' i)
theorem qbC(l:List av)(b:Bool)(o:List aq)(i:Int)(ae:PX×S->Prop):(bif yM i l then∃(ar:List av) (S1:Bool) (aZ:List aq) (aX:Int) (g:av),AtG ar aX g/\S.mk 60 (dB l::OT b::(5,oE o)::ei i::uG) (q6 o)=S.mk 60 (dB ar::OT S1::(5,oE aZ)::ei aX::uG) (q6 aZ)/\((0:Int)<=aX/\aX<tR ar/\gk aZ+List.length (av.ops g)<=1000000)/\ ∀(o':List aq),o'=aZ++rV S1 (av.ops g)->ob (Zd aX) (ae (PX.normal,S.mk 60 (dB ar::OT S1::(5,oE o')::Zt aX) (q6 o'))) else ae (PX.exit 0,S.mk 60 [(5,oE o)] (q6 o)))=(aC [] [(6,ah (aL 62 6) qeM)] 62 3 (ndH l b o i)) ae:=by kernel_rfl
def gNd:S->K (PX×S):=λs ae=> ∃l b,s=ndH l b [] 0/\(l.length<=1000000/\cB l<=1000)/\ ∀o,o=tI b l->ae (.exit 0,⟨60,[(5,.sl 0 0 o.length)],[(0,⟨0,none,fO false o⟩)]⟩)
def ZaB(ar:List av)(S1:Bool):S:=S.mk 60 (dB ar::OT S1::Tk) [(0,VL)]
theorem qiE(l:List av)(b:Bool)(ae:P×List (Nat×En)->Prop):(∃(ar:List av) (S1:Bool),ZaB l b=ZaB ar S1/\Us ar/\ ∀(o:List aq),o=tI S1 ar->ae (oE o,q6 o))=(aK [] [(3,ah (aL 62 3) gNd)] 62 [dD l,.d (.bool b)] []) ae:=by kernel_rfl
def qeN:bh:=λps R ae=> ∃l b,ps=[dD l,.d (.bool b)]/\R=[]/\(l.length<=1000000/\cB l<=1000)/\ ∀o,o=tI b l->ae (.sl 0 0 o.length,[(0,⟨0,none,fO false o⟩)])
theorem qiF(a b:List aq)(ae:P×List (Nat×En)->Prop):(ob (Nat.ble 0 0&&aJ (0+oQ a) 24) (ob (Nat.ble (0+oQ a) (List.length ([]++fM a))&&aJ (0+oQ a+oQ b) 24) (ae (P.sl 0 0 (0+oQ a+oQ b),[(0,En.mk 0 none (Obj.arr (50:TypeId) false (List.take (0+oQ a) ([]++fM a)++fM b)))]))))=(aK [] [] 64 [da a,da b] []) ae:=by kernel_rfl
def hJn:bh:=λps R ae=> ∃a b,ps=[da a,da b]/\R=[]/\(a.length<=1000000/\b.length<=1000000)/\ ∀o,o=a++b->ae (.sl 0 0 o.length,[(0,⟨0,none,fO false o⟩)])
theorem Ha{l:List av}{v:List Int}{i:Nat}(h:i<l.length):aN (l.take (i+1)) v=if l[i].n<=e7 v l[i].s.2 then aN (l.take i) v++[l[i]] else aN (l.take i) v:=by
 unfold aN;rw[zaf h,zcd];by_cases hc:l[i].n<=e7 v l[i].s.2
 ·rw[zaq hc,zce (by simpa using hc)];rfl
 rw[zap hc,zcf (by simpa using hc),zcp,zbl]
theorem JY(l:List av)(v:List Int):(aN l v).length<=l.length:=za2 _ _
section
variable{X:XF}
theorem qeO:LD X 36 3 (ah (aL 36 3) gKn):=LD.idx (H:=[(37,W8)]) (hk:=[]) (by kernel_rfl) (by kernel_rfl) (.cons FL .nil) .nil
 (A:=List av×List Int) (B:=List av) (λa o i=>knH a.1 a.2 o i) (λa=>a.1.length) (λa i o=>(a.1.length<=1000000/\a.2.length<=1000000)/\o=aN (a.1.take i) a.2)
 (λa x=>x=(.exit 0,⟨35,[(5,.sl 0 0 (aN a.1 a.2).length)],[(0,⟨0,none,Ae false (aN a.1 a.2)⟩)]⟩))
 (by
  rintro⟨l,v⟩ o i ae h0 cj bK ⟨hl,fA⟩ hn ho
  try dsimp only at*
  (rw[<-qbz];delta Ny vU Zh Zt Ze Zg fa dB Z6 Z5 Zd Zb nY Bw Dj Sv kz Zr Zs Zq Zm Zo jP oB yM)
  have e1:D.nth (l.map cu) i.toNat=cu l[i.toNat]:=aG _ _ _ bK;have nb:o.length<=l.length:=by rw[fA];exact zaE (JY _ _) (by rw[zat];exact Nat.min_le_right _ _)
  have hk:=Ha (v:=v) bK;rw[<-fA] at hk;have eH:i<((l.map cu).length:Int):=by rw[zaa];exact cj
  have NK:i.toNat<(l.map cu).length:=by rw[zaa];exact bK
  rw[e1];generalize l[i.toNat]=g at*
  have ot:=mT g;have t2:D.agg [D.int .i64 (D.aj (D.ax (cu g) 0)),D.int .i64 (D.aj (D.ax (cu g) 1)),D.int .i64 g.n,D.sl 1 (D.fU (D.ax (cu g) 3)),D.int .i64 (D.aj (D.ax (cu g) 4)),D.int .i64 (D.aj (D.ax (cu g) 5)),D.sl 18 (D.fU (D.ax (cu g) 6))]=cu g:=rfl;have u2:D.aj (D.ax (cu g) 2)=g.n:=rfl;refine gh (zbw eH) (ak ⟨h0,eH⟩ (ao ot (ak ⟨h0,eH⟩ (ao ot ⟨v,g.s.2,rfl,rfl,by omega,?_⟩))));rw[u2];refine gT (λhc=>ak ⟨h0,eH⟩ (ao ot (ao ?_ (ak (by omega) ?_)))) λhc=>ak (by omega) ?_
  ·rw[zad];exact⟨by simp,dh (by omega) (by omega)⟩
  ·have:=hn (o++[g]) ⟨hl,by rw[hk,zaq hc]⟩;rw[t2,b7];simp only[knH,zaj,zam,zay,zaI] at this;exact this
  exact hn o ⟨hl,by rw[hk,zap hc]⟩)
 (by
  rintro⟨l,v⟩ o i ae hi ⟨hl,fA⟩ ho
  try dsimp only at*
  (rw[<-qbz];delta Ny vU Zh Zt Ze Zg fa dB Z6 Z5 Zd Zb nY Bw Dj Sv kz Zr Zs Zq Zm Zo jP oB yM)
  have eH: ¬i<((l.map cu).length:Int):=by rw[zaa];omega
  rw[zag] at fA;refine jo (za5 eH) (ho _ (λh=>by cases h) ?_);rw[fA])
 (by rintro s ae ⟨l,v,rfl,hl,hp⟩;refine⟨(l,v),[],rfl,⟨hl,rfl⟩,?_⟩;rintro x rfl;exact hp _ rfl)
theorem qiG:FD X 36 hKn:=FD.mk (H:=[]) (hk:=[(3,ah (aL 36 3) gKn)]) (by kernel_rfl) .nil (.cons qeO .nil) (by
 intro ps R ae hh;obtain⟨l,v,rfl,rfl,hl,hp⟩:=hh
 (rw[<-qiC];delta Ny vU X5 oR Z59 Z5a Z3 DZ ZE Tk Ze Zg fa dB)
 exact⟨l,v,rfl,hl,λo ho=>hp o ho⟩)
theorem U6:LD X 38 3 (ah (aL 38 3) U4):=LD.idx (H:=[]) (hk:=[]) (by kernel_rfl) (by kernel_rfl) .nil .nil
 (A:=List av) (B:=Int) (λl t i=>U3 l t i) (λl=>l.length) (λl i t=>l.length<=1000000/\t=sb (l.take i))
 (λl x=>x=(.exit 0,⟨20,[(3,iD (sb l))],[]⟩))
 (by
  rintro l t i ae h0 cj bK ⟨hl,rfl⟩ hn ho
  try dsimp only at*
  (rw[<-qbA];delta Zm Zh sa Zb nY fa dB Z6 Z5 Zd jP kz oB yM)
  have e1:D.nth (l.map cu) i.toNat=cu l[i.toNat]:=aG _ _ _ bK;have hk:=TQ bK;have eH:i<((l.map cu).length:Int):=by rw[zaa];exact cj
  rw[e1];have ot:=mT l[i.toNat];refine gh (zbw eH) (ak ⟨h0,eH⟩ (ao ot (ak (by omega) ?_)));have:=hn _ ⟨hl,rfl⟩;rw[hk] at this;exact this)
 (by
  rintro l t i ae hi ⟨hl,ht⟩ ho
  try dsimp only at*
  (rw[<-qbA];delta Zm Zh sa Zb nY fa dB Z6 Z5 Zd jP kz oB yM)
  have eH: ¬i<((l.map cu).length:Int):=by rw[zaa];omega
  rw[zag] at ht;refine jo (za5 eH) (ho _ (λh=>by cases h) ?_);rw[ht])
 (by rintro s ae ⟨l,rfl,hl,hp⟩;refine⟨l,0,rfl,⟨hl,rfl⟩,?_⟩;rintro x rfl;exact hp _ rfl)
theorem qeP:FD X 38 U5:=FD.mk (H:=[]) (hk:=[(3,ah (aL 38 3) U4)]) (by kernel_rfl) .nil (.cons U6 .nil) (by
 intro ps R ae hh;obtain⟨l,rfl,rfl,hl,hp⟩:=hh
 (rw[<-qiD];delta Zm oR Z3 Hv fa dB Zax)
 exact⟨l,rfl,hl,λt ht=>hp t ht⟩)
theorem qiH:FD X 64 hJn:=FD.mk (H:=[]) (hk:=[]) (by kernel_rfl) .nil .nil (by
 intro ps R ae hh;obtain⟨a,b,rfl,rfl,⟨ha,hb⟩,hp⟩:=hh
 (rw[<-qiF];delta fM oQ)
 have:=hp (a++b) rfl;have tk:List.take a.length (a.map cb)=a.map cb:=zan (by simp);simp only[zaT,zaI,zaa];rw[tk];refine ao ?_ (ao ?_ ?_)
 ·rw[zad];exact⟨by simp,bL (by omega) (by omega)⟩
 ·rw[zad];exact⟨by simp,bL (by omega) (by omega)⟩
 rw[<-zaG];rw[zaj] at this;exact this)
theorem N9{b:Bool}{l:List bs}{k:Nat}(h:k<l.length):rV b (l.take (k+1))=if l[k].kind=0/\l[k].dir=b then rV b (l.take k)++[l[k].node] else rV b (l.take k):=by
 unfold rV;rw[zaf h,zcd];split
 next hc=>rw[zce (by simp[hc.1,hc.2])];simp
 rename_i hc;rw[zcf (by rw[zad,zbp,zbp];exact hc)];simp
theorem Oa{b:Bool}{l:List av}{i:Nat}(h:i<l.length):tI b (l.take (i+1))=tI b (l.take i)++rV b l[i].ops:=by unfold tI;rw[zaf h,zbu];simp
theorem qaw:LD X 62 6 (ah (aL 62 6) qeM):=LD.idx (H:=[]) (hk:=[]) (by kernel_rfl) (by kernel_rfl) .nil .nil
 (A:=List av×Bool×List aq×Int×av) (B:=List aq) (λa o k=>ndI a.1 a.2.1 o a.2.2.2.1 k) (λa=>a.2.2.2.2.ops.length)
 (λa k o=>((0<=a.2.2.2.1/\a.2.2.2.1<a.1.length)/\D.nth (a.1.map cu) a.2.2.2.1.toNat=cu a.2.2.2.2/\a.2.2.1.length+a.2.2.2.2.ops.length<=1000000)/\o=a.2.2.1++rV a.2.1 (a.2.2.2.2.ops.take k))
 (λa z=>z=(.exit 2,ndH a.1 a.2.1 (a.2.2.1++rV a.2.1 a.2.2.2.2.ops) a.2.2.2.1))
 (by
  rintro⟨l,b,o0,i,g⟩ o k ae h0 r4 dy ⟨⟨hb,hg,hl⟩,ho⟩ hn aW
  try dsimp only at*
  (rw[<-qbB];delta fM zu q6 Zm ei BH gk oE Zh qw fX OT fa dB Z6 Z5 Zd ZaA NY Zb nY jB Z8W Z8V Z8U Zay oQ Dv Dw Dx JM jP kz oB)
  have eH:0<=i/\i<((l.map cu).length:Int):=by rw[zaa];exact hb
  have u6:D.fU (D.ax (cu g) 6)=g.ops.map fY:=rfl;have e1:D.nth (g.ops.map fY) k.toNat=fY g.ops[k.toNat]:=aG _ _ _ dy;have lC:=N9 (b:=b) dy;have nb:o.length<1000000:=by have:=G9 b (g.ops.take k.toNat);rw[zat] at this;rw[ho,zaj];omega
  rw[hg,u6,e1];have Ec:0<=k/\k<((g.ops.map fY).length:Int):=by rw[zaa];exact⟨h0,r4⟩
  generalize g.ops[k.toNat]=y at*
  have ot:=mT g;have tM:=Nk y;have c0:D.aj (D.ax (fY y) 0)=y.kind:=rfl;have c1:D.eY (D.ax (fY y) 8)=y.dir:=rfl;have t2:D.agg [D.int .i64 (D.aj (D.ax (fY y) 1)),D.int .i64 (D.aj (D.ax (fY y) 2)),D.int .i64 (D.aj (D.ax (fY y) 3))]=cb y.node:=rfl;rw[c0,c1,t2,b7];have bk: ¬(y.kind=0/\y.dir=b)->o0++rV b (g.ops.take (k.toNat+1))=o:=λh=>by rw[lC,ho,zap h]
  have bC:y.kind=0->y.dir=b->o0++rV b (g.ops.take (k.toNat+1))=o++[y.node]:=λh1 h2=>by rw[lC,ho,zaq ⟨h1,h2⟩,zaF]
  refine ak eH (ao ot (bV Ec.2 (ak eH (ao ot (ak Ec (ao tM (Jy (λhk=>ak eH (ao ot (ak Ec (ao tM (az (λhx=>ak eH (ao ot (ak Ec (ao tM ?_)))) λhx=>ak (by omega) (hn o ⟨⟨hb,hg,hl⟩,(bk (λhh=>by rw[hh.2] at hx;simp at hx)).symm⟩)))))) λhk=>ak (by omega) (hn o ⟨⟨hb,hg,hl⟩,(bk (λhh=>hk hh.1)).symm⟩))))))));have hy:=hn (o++[y.node]) ⟨⟨hb,hg,hl⟩,(bC hk (by simpa using hx)).symm⟩;simp only[ndI,zaj] at hy;refine ao (iy rfl (by rw[zaa]) (by omega) (by decide)) (ak (by omega) ?_);exact hy)
 (by
  rintro⟨l,b,o0,i,g⟩ o k ae hk ⟨⟨hb,hg,hl⟩,ho⟩ aW
  try dsimp only at*
  (rw[<-qbB];delta fM zu q6 Zm ei BH gk oE Zh qw fX OT fa dB Z6 Z5 Zd ZaA NY Zb nY jB Z8W Z8V Z8U Zay oQ Dv Dw Dx JM jP kz oB)
  have eH:0<=i/\i<((l.map cu).length:Int):=by rw[zaa];exact hb
  have u6:D.fU (D.ax (cu g) 6)=g.ops.map fY:=rfl;rw[hg,u6];refine ak eH (ao (mT g) (oC (by rw[zaa];omega) (aW _ (λh=>by cases h) ?_)));rw[ho,zag])
 (by rintro s ae ⟨l,b,o,i,g,hg,rfl,⟨h1,h2,h3⟩,hp⟩;refine⟨(l,b,o,i,g),o,rfl,⟨⟨⟨h1,h2⟩,hg,h3⟩,by simp[rV]⟩,?_⟩;rintro z rfl;exact hp _ rfl)
theorem qeQ:LD X 62 3 (ah (aL 62 3) gNd):=LD.idx (H:=[]) (hk:=[(6,ah (aL 62 6) qeM)]) (by kernel_rfl) (by kernel_rfl) .nil (.cons qaw .nil)
 (A:=List av×Bool) (B:=List aq) (λa o i=>ndH a.1 a.2 o i) (λa=>a.1.length)
 (λa i o=>(a.1.length<=1000000/\cB a.1<=1000)/\o=tI a.2 (a.1.take i))
 (λa z=>z=(.exit 0,⟨60,[(5,.sl 0 0 (tI a.2 a.1).length)],[(0,⟨0,none,fO false (tI a.2 a.1)⟩)]⟩))
 (by
  rintro⟨l,b⟩ o i ae h0 cj bK ⟨hc,ho⟩ hn aW
  try dsimp only at*
  (rw[<-qbC];delta Zh Zt Z6 Z5 Zd gk tR fM zu q6 Z3 uG Zm ei oE fX OT fa dB kz yM)
  have lC:=Oa (b:=b) bK;have h2:=qf l (i.toNat+1);have h3:=n0 bK;have h4:=mW b (l.take i.toNat);rw[<-ho] at h4;refine bV (by rw[zaa];exact cj) ⟨l,b,o,i,l[i.toNat],aG _ _ _ bK,rfl,⟨h0,cj,by omega⟩,λo' fA=>ak (by omega) (hn o' ⟨hc,?_⟩)⟩;rw[fA,ho,lC])
 (by
  rintro⟨l,b⟩ o i ae hi ⟨hc,ho⟩ aW
  try dsimp only at*
  (rw[<-qbC];delta Zh Zt Z6 Z5 Zd gk tR fM zu q6 Z3 uG Zm ei oE fX OT fa dB kz yM)
  refine oC (by rw[zaa];omega) (aW _ (λh=>by cases h) ?_);rw[ho,zag])
 (by rintro s ae ⟨l,b,rfl,hc,hp⟩;refine⟨(l,b),[],rfl,⟨hc,rfl⟩,?_⟩;rintro z rfl;exact hp _ rfl)
theorem qhb:FD X 62 qeN:=FD.mk (H:=[]) (hk:=[(3,ah (aL 62 3) gNd)]) (by kernel_rfl) .nil (.cons qeQ .nil) (by
 intro ps R ae hh;obtain⟨l,b,rfl,rfl,hs,hp⟩:=hh
 (rw[<-qiE];delta fM zu q6 gk oE oR Us VL Z3 DZ ZE Tk fX OT fa dB ZaB)
 exact⟨l,b,rfl,hs,λo ho=>hp o ho⟩)
end
structure cz where
 what:Int
 r:Int
 a:Int
 b:Int
 c:Int
 see:Bool
abbrev uE(n:Int):D:= .int .u8 n
def wx(x:cz):D:= .agg [uE x.what,uE x.r,uE x.a,uE x.b,uE x.c,.bool x.see]
structure DH(x:cz):Prop where
 what:0<=x.what/\x.what<=255
 r:0<=x.r/\x.r<=255
 a:0<=x.a/\x.a<=255
 b:0<=x.b/\x.b<=255
 c:0<=x.c/\x.c<=255
def wD(l:List av)(K:List (List Int)):D:= .agg [.sl 7 (l.map cu),.sl 1 (K.map λv=> .sl 1 (bB v))]
def U7:bh:=λps R ae=> ∃(l:List aq) (n:Int),ps=[da l,.d (uE n)]/\R=[]/\(l.length<=1000000/\0<=n/\n<=255)/\ ∀y,(y=aD\/y∈l)->ae (.d (cb y),[])
def ZaR(x:cz)(o:List aq):Int:=Int.tmod (cz.b x) (tU o)+(1:Int)+Int.tmod (cz.c x) (3:Int)
def ZaM(x:cz):Bool:=decide (Z5<=cz.c x/\cz.c x<=Z6)
def ZaI:List D:=[Z3,Z3,Z3,Z3,Z3,Z3,ZO,D.sl 3 []]
def ZaQ(ae:P×List (Nat×En)->Prop):Prop:=ae (P.bI (P.d (D.agg (Z3::Z3::Z3::Z3::Z3::Z3::Z3::ZO::Z0::D.sl 2 []::ZaI))::IP),[])
def ZaS(l:List av)(y:aq)(ae:P×List (Nat×En)->Prop)(x:cz):Prop:= ∃(Ao:List av) (a7:aq),fa l::iP y=fa Ao::iP a7/\Zq/\(oR Ao/\cB Ao<=1000/\eT (cd Ao a7))/\ ∀(o:List aq),o=JR Ao a7->bif Z3G y then ZaQ ae else bif tU o==(0:Int) then ZaQ ae else ob (decide (Z5<=cz.b x/\cz.b x<=Z6)) (ob (!decide (tU o=(0:Int))) (ob (decide (Z5<=Int.tmod (cz.b x) (tU o)+(1:Int)/\Int.tmod (cz.b x) (tU o)+(1:Int)<=Z6)) (ob (ZaM x) (ob (decide (Z5<=ZaR x o/\ZaR x o<=Z6)) (ob (decide ((0:Int)<=min (tU o) (ZaR x o)/\min (tU o) (ZaR x o)<=tU o)) (ob (decide ((0:Int)<=Int.tmod (cz.b x) (tU o)/\Int.tmod (cz.b x) (tU o)<=(↑(Int.toNat (min (tU o) (ZaR x o))):Int))) (ae (P.bI (P.d (D.agg [D.int .i64 (4:Int),fy y,fw y,fD y,Z3,Z3,Z3,ZO,Z0,D.sl 2 [],Z3,Z3,Z3,Z3,Z3,Z3,ZO,D.sl 3 (List.take (Int.toNat (min (tU o) (ZaR x o))-Int.toNat (Int.tmod (cz.b x) (tU o))) (List.drop (Int.toNat (Int.tmod (cz.b x) (tU o))) (fM o)))])::z8),[]))))))))
def ZaL(y:aq):List P:=[P.d (D.bool !Z3G y)]
def ZaN(x:cz):Int:=Int.tmod (cz.c x) (5:Int)+(1:Int)
def ZaO(x:cz):Int:=ZaN x+Int.tmod (cz.c x) (2:Int)
def ZaF(y:aq)(vY:List aq):Prop:=y=aD\/y∈vY
def ZaE(vY:List aq)(n:Int):Prop:=mq vY/\(0:Int)<=n/\n<=(255:Int)
def ZaP(x:cz)(l:List av)(y:aq)(ae:P×List (Nat×En)->Prop)(s:aO):Prop:=ob (ZaM x) (∃(Ao:List av) (a7:aq),fa l::iP y=fa Ao::iP a7/\Zq/\(oR Ao/\cB Ao<=1000/\eT (cd Ao a7))/\ ∀(o:List aq),o=JR Ao a7-> ∃(l:List aq) (n:Int),[N0 o,P.d (D.int .u8 (cz.b x))]=[iw l,P.d (D.int .u8 n)]/\Zq/\ZaE l n/\ ∀(SQ:aq),ZaF SQ l->ob (decide (Z5<=ZaN x/\ZaN x<=Z6)) (ob (ZaM x) (ob (decide (Z5<=ZaO x/\ZaO x<=Z6)) (ob (decide ((0:Int)<=ZaO x/\ZaO x<=(6:Int))) (ob (decide ((0:Int)<=Int.tmod (cz.c x) (5:Int)/\Int.tmod (cz.c x) (5:Int)<=(↑(Int.toNat (ZaO x)):Int))) (ae (P.bI (P.d (D.agg [D.int .i64 (3:Int),fy y,fw y,fD y,Z3,Z3,Z3,ZO,Z0,D.sl 2 [],fy SQ,fw SQ,fD SQ,oP s,oO s,Z3,D.str (List.drop (Int.toNat (Int.tmod (cz.c x) (5:Int))) (List.take (Int.toNat (ZaO x)) [(117:UInt8),(118:UInt8),(119:UInt8),(120:UInt8),(121:UInt8),(122:UInt8)])),D.sl 3 []])::ZaL y),[])))))))
def ZaC(x:cz):Int:=IntKind.wrap IntKind.u8 (Int.tmod (cz.b x) (3:Int)+(1:Int))
def ZaH(x:cz):D:=D.str (List.drop (Int.toNat (Int.tmod (cz.b x) (3:Int))) (List.take (Int.toNat (ZaC x)) [(97:UInt8),(98:UInt8),(99:UInt8)]))
def ZaK(y:aq)(x:cz):List D:=fy y::fw y::fD y::ZaH x::Z0::D.sl 2 []::ZaI
def U8(x:cz):Int:=Int.tmod (cz.what x) (8:Int)
def ZaJ(o:List aq)(x:cz):List P:=[N0 o,P.d (D.int .u8 (cz.a x))]
theorem qiI(l:List av)(s:aO)(x:cz)(ae:P×List (Nat×En)->Prop):(∃(ar:List av) (b:Bool),fa l::z8=[fa ar,fX b]/\Zq/\Us ar/\ ∀(o:List aq),o=tI b ar-> ∃(jz:List av) (b:Bool),fa l::IP=[fa jz,fX b]/\Zq/\Us jz/\ ∀(aZ:List aq),aZ=tI b jz->ob (decide ((0:Int)<=ZaC x/\ZaC x<=(3:Int))) (ob (decide ((0:Int)<=Int.tmod (cz.b x) (3:Int)/\Int.tmod (cz.b x) (3:Int)<=(↑(Int.toNat (ZaC x)):Int))) (∃(vY:List aq) (n:Int),ZaJ aZ x=[iw vY,P.d (D.int .u8 n)]/\Zq/\ZaE vY n/\ ∀(y:aq),ZaF y vY->bif U8 x==(0:Int) then∃(l:List aq) (n:Int),ZaJ o x=[iw l,P.d (D.int .u8 n)]/\Zq/\ZaE l n/\ ∀(y:aq),ZaF y l->ae (P.bI (P.d (D.agg (Z3::oP s::oO s::Z3::fy y::fw y::fD y::ZaH x::D.bool true::D.sl 2 []::ZaI))::z8),[]) else bif U8 x==(1:Int) then∃(l:List aq) (n:Int),ZaJ o x=[iw l,P.d (D.int .u8 n)]/\Zq/\ZaE l n/\ ∀(y:aq),ZaF y l->ae (P.bI (P.d (D.agg (Z3::oP s::oO s::Z3::ZaK y x))::z8),[]) else bif U8 x==(2:Int) then∃(a:List aq) (b:List aq),[N0 aZ,N0 o]=[iw a,iw b]/\Zq/\(mq a/\mq b)/\ ∀(NZ:List aq),NZ=a++b-> ∃(l:List aq) (n:Int),[N0 NZ,P.d (D.int .u8 (cz.c x))]=[iw l,P.d (D.int .u8 n)]/\Zq/\ZaE l n/\ ∀(y:aq),ZaF y l-> ∃(l:List aq) (n:Int),ZaJ o x=[iw l,P.d (D.int .u8 n)]/\Zq/\ZaE l n/\ ∀(SQ:aq),ZaF SQ l->ae (P.bI (P.d (D.agg (D.int .i64 (1:Int)::fy y::fw y::fD y::ZaK SQ x))::ZaL y),[]) else bif U8 x==(3:Int) then∃(a:List aq) (b:List aq),[N0 aZ,N0 o]=[iw a,iw b]/\Zq/\(mq a/\mq b)/\ ∀(o:List aq),o=a++b-> ∃(Ao:List aq) (n:Int),[N0 o,P.d (D.int .u8 (cz.c x))]=[iw Ao,P.d (D.int .u8 n)]/\Zq/\ZaE Ao n/\ ∀(y:aq),ZaF y Ao-> ∃(l_5:List av),BL l=BL l_5/\Zq/\SmS l_5/\ ∀(o:List aO) (t:Tl) (p:List Pl) (x:List It),o=dE l_5->t=gF o (au l_5)->p=lD (au l_5) t->x=JP (au l_5) t-> ∃(h:List aT) (g:List aT) (x:aq),P.d (D.sl 5 (List.map ki (Tl.h t)))::P.d (D.sl 5 (List.map ki (Tl.g t)))::iP y=uM h::uM g::iP x/\Zq/\(BG h/\BG g)/\ ∀(o:List aO),o=qq h g x->ae (P.bI (P.d (D.agg (D.int .i64 (2:Int)::fy y::fw y::fD y::Z3::Z3::Z3::ZO::Z0::Z9d o::ZaI))::ZaL y),[]) else bif U8 x==(4:Int) then bif U8 x==(4:Int) then ZaP x l y ae s else ZaS l y ae x else bif U8 x==(5:Int) then ZaP x l y ae s else ZaS l y ae x)))=(aK [(62,qeN),(63,U7),(64,hJn),(11,GZ),(65,qey),(66,qeD)] [] 39 [dD l,.d (eD s),.d (wx x)] []) ae:=by kernel_rfl
def ZaT(l:List aq)(n:Int)(c:Int):D:=D.nth (fM l) (Int.toNat (Int.tmod n (c+(1:Int))))
theorem qeR(l:List aq)(n:Int)(ae:P×List (Nat×En)->Prop):(ob (decide (Z5<=n/\n<=Z6)) (∀(c:Int),c=Bs l->ob (Zd c) (ob (!decide (c+(1:Int)=(0:Int))) (bif Int.tmod n (c+(1:Int))==Bs l then ae (VA,[]) else ob (decide ((0:Int)<=Int.tmod n (c+(1:Int))/\Int.tmod n (c+(1:Int))<Bs l)) (ob (cT PR (50:TypeId) (ZaT l n c)) (ae (P.d (D.agg [D.int .i64 (D.aj (D.ax (ZaT l n c) 0)),D.int .i64 (D.aj (D.ax (ZaT l n c) 1)),D.int .i64 (D.aj (D.ax (ZaT l n c) 2))]),[])))))))=(aK [] [] 63 [da l,.d (uE n)] []) ae:=by kernel_rfl
def qeS:bh:=λps R ae=> ∃(i:Int) (l:List av) (v:List Int) (r:Int) (x:cz),ps=[dD (aN l v),.d (eD (eW l v r)),.d (wx x)]/\R=[]/\(bG i l/\(0<=i/\i<=100)/\DH x)/\ ∀o (b:Bool),(b=true->OpW l v r o)->ae (.bI [.d (fY o),.d (.bool b)],[])
abbrev arV(z:Bool)(l:List (List Int)):Obj:= .arr 86 z (l.map λv=> .sl 1 (bB v))
abbrev bxW(l:List av)(K:List (List Int)):Obj:= .box 58 [dD l,.d (.sl 1 (K.map λv=> .sl 1 (bB v)))]
abbrev qeT(x:cz):Obj:= .box 61 [.d (uE x.what),.d (uE x.r),.d (uE x.a),.d (uE x.b),.d (uE x.c),.d (.bool x.see)]
abbrev dn5(l:List av)(K:List (List Int))(x:cz)(r:Int)(v:List Int)(i:Int):S:=⟨120,[(2,.ref 0 0 0),(3,.ref 1 0 0),(4,.ref 2 0 0),(5,iD r),(6,vD v),(7,iD i)],[(0,⟨0,none,bxW l K⟩),(1,⟨0,none,qeT x⟩),(2,⟨0,none,.box 58 [.sl 3 0 0,.sl 4 0 0]⟩),(3,⟨0,none,Ae false []⟩),(4,⟨0,none,arV false []⟩)]⟩
def Ee(K:List (List Int)):List D:=List.map (λ(v:List Int)=>D.sl 1 (bB v)) K
def OU(l:List av)(K:List (List Int)):Nat×En:=(0,En.mk 0 none (Obj.box (58:TypeId) [fa l,P.d (D.sl 1 (Ee K))]))
def ZaX(l:List av)(K:List (List Int))(x:cz):List (Nat×En):=[OU l K,(1,En.mk 0 none (Obj.box (61:TypeId) [P.d (D.int .u8 (cz.what x)),P.d (D.int .u8 (cz.r x)),P.d (D.int .u8 (cz.a x)),P.d (D.int .u8 (cz.b x)),P.d (D.int .u8 (cz.c x)),P.d (D.bool (cz.see x))])),(2,En.mk 0 none (Obj.box (58:TypeId) [P.sl 3 0 0,P.sl 4 0 0])),(3,Z59),(4,En.mk 0 none (Obj.arr (86:TypeId) false []))]
def ZaV:Nat×P:=(4,P.ref 2 0 0)
theorem qbD(l:List av)(K:List (List Int))(x:cz)(r:Int)(v:List Int)(i:Int)(ae:PX×S->Prop):(bif decide (i<(↑(List.length (Ee K)):Int)) then ob (decide ((0:Int)<=i/\i<(↑(List.length (Ee K)):Int))) (ob (cT PR (86:TypeId) (D.nth (Ee K) (Zb i))) (∃(e9:List Int) (w:List Int),[Ze v,P.d (D.sl 1 (D.fU (D.nth (Ee K) (Zb i))))]=[Ze e9,Ze w]/\Zq/\(mj e9/\mj w)/\ob (Zd i) (ae (PX.normal,S.mk 120 (Lc::tO::ZaV::yj r::(6,P.d (D.sl 1 (bB (mc e9 w))))::qw i) (ZaX l K x))))) else ae (PX.exit 0,S.mk 120 [Lc,tO,ZaV,yj r,(6,Ze v)] (ZaX l K x)))=(aC [(35,IL)] [] 14 5 (dn5 l K x r v i)) ae:=by kernel_rfl
def mgA(v:List Int)(K:List (List Int)):List Int:=K.foldl mc v
def JZ(v:List Int)(K:List (List Int)):Prop:=K.length<=1000/\dN v=true/\ ∀w∈K,dN w=true
def qeU:S->K (PX×S):=λs ae=> ∃l K x r v,s=dn5 l K x r v 0/\JZ v K/\ ∀w,w=mgA v K->ae (.exit 0,⟨120,[(2,.ref 0 0 0),(3,.ref 1 0 0),(4,.ref 2 0 0),(5,iD r),(6,vD w)],[(0,⟨0,none,bxW l K⟩),(1,⟨0,none,qeT x⟩),(2,⟨0,none,.box 58 [.sl 3 0 0,.sl 4 0 0]⟩),(3,⟨0,none,Ae false []⟩),(4,⟨0,none,arV false []⟩)]⟩)
def U9(x:cz):Int:=(1:Int)+Int.tmod (cz.r x) (3:Int)
def Zb0(x:cz):Nat:=Int.toNat (U9 x-(1:Int))
def Ob(q7:List (List Int)):List D:=[]++Ee q7
def Zb8(q7:List (List Int)):Nat:=0+List.length (Ee q7)
def Zbo(K:List (List Int))(x:cz)(w:List Int):List D:=[D.sl 1 (List.take (Zb8 K) (List.set (Ob K) (Zb0 x) (D.bc (D.sl 1 (D.fU (D.nth (Ob K) (Zb0 x)))) [D.sl 1 (bB w)])))]
def Zbn(x:cz)(K:List (List Int)):Bool:=decide ((0:Int)<=U9 x-(1:Int)/\U9 x-(1:Int)<(↑(Zb8 K):Int))
def Zbk(o:bs):List D:=[Z3,Z3,D.sl 18 [Ld o]]
def Va(x:cz):List P:=[P.d (D.agg [D.int .u8 (cz.what x),D.int .u8 (cz.r x),D.int .u8 (cz.a x),D.int .u8 (cz.b x),D.int .u8 (cz.c x),D.bool (cz.see x)])]
def Zbh(q7:List (List Int))(r:Int)(Bk:List Int):List D:=[D.sl 1 (List.take (Zb8 q7) (List.set (Ob q7) (Z8 r) (D.bc (D.sl 1 (D.fU (D.nth (Ob q7) (Z8 r)))) [D.sl 1 (bB Bk)])))]
def Zbg(ar:List av):List D:=List.take (0+kz ar) ([]++List.map cu ar)
def Zb5(o:List av)(a7:cz):D:=D.nth (List.map cu o) (Int.toNat (Int.tmod (cz.a a7) (tR o)))
def Zbf(o:List av)(a7:cz):List D:=[D.int .i64 (D.aj (D.ax (Zb5 o a7) 0)),D.int .i64 (D.aj (D.ax (Zb5 o a7) 1)),D.sl 18 []]
def Zbd(ar:List av):Bool:=Nat.ble (0+kz ar) (List.length ([]++List.map cu ar))
def Zbc(ar:List av):Bool:=Nat.ble 0 0&&aJ (0+kz ar) 88
def Zba(r:Int)(q7:List (List Int)):Bool:=decide ((0:Int)<=r-(1:Int)/\r-(1:Int)<(↑(Zb8 q7):Int))
def Zb9(q7:List (List Int)):Bool:=Nat.ble 0 0&&aJ (Zb8 q7) 24
def Zb7(v:List Int)(Gf:Int):Prop:=X5 v/\(1:Int)<=Gf/\Gf<=(16:Int)
def Hb(l:List Int)(fR:Int):D:=D.int .i64 (e7 l fR+(1:Int))
def Zb4(a7:cz)(o:List av):Bool:=decide ((0:Int)<=Int.tmod (cz.a a7) (tR o)/\Int.tmod (cz.a a7) (tR o)<tR o)
def Zb3(a7:cz):Bool:=decide (Z5<=cz.a a7/\cz.a a7<=Z6)
def OV(ar:List av)(q7:List (List Int)):P:=P.d (D.agg [D.sl 7 (List.map cu ar),D.sl 1 (Ee q7)])
def Zb1(l:List Int)(fR:Int):Bool:=decide (Z5<=e7 l fR+(1:Int)/\e7 l fR+(1:Int)<=Z6)
def OW(K:List (List Int))(x:cz):D:=D.sl 1 (D.fU (D.nth (Ee K) (Zb0 x)))
def OX(x:cz):D:=D.int .i64 (U9 x)
def ZaZ(x:cz):Bool:=decide (Z5<=U9 x-(1:Int)/\U9 x-(1:Int)<=Z6)
theorem qiJ(l:List av)(K:List (List Int))(x:cz)(ae:P×List (Nat×En)->Prop):(ob (decide (Z5<=cz.r x/\cz.r x<=Z6)) (ob (decide (Z5<=U9 x/\U9 x<=Z6)) (ob (ZaZ x) (ob (decide ((0:Int)<=U9 x-(1:Int)/\U9 x-(1:Int)<(↑(List.length (Ee K)):Int))) (ob (cT PR (86:TypeId) (D.nth (Ee K) (Zb0 x))) (bif cz.see x then∃(ar:List av) (q7:List (List Int)) (a7:cz) (r:Int) (v:List Int),S.mk 120 (Lc::tO::ZaV::(5,P.d (OX x))::(6,P.d (OW K x))::uG) (ZaX l K x)=S.mk 120 (Lc::tO::ZaV::yj r::(6,Ze v)::uG) (ZaX ar q7 a7)/\JZ v q7/\ ∀(w:List Int),w=mgA v q7-> ∃(l:List av) (v:List Int),[fa ar,Ze w]=[fa l,Ze v]/\Zq/\(oR l/\X5 v)/\ ∀(o:List av),o=aN l v-> ∃(l:List Int) (fR:Int),Ze w::Zo r=Ze l::Zo fR/\Zq/\Zs l/\ob (Zb1 l fR) (∃(jz:List av),[OQ o]=BL jz/\Zq/\oR jz/\ ∀(t:Int),t=sb jz->ob (Zd t) (bif U8 a7==(7:Int) then bif tR o==(0:Int) then ae (OV ar q7,[]) else ob (Zb3 a7) (ob (!decide (tR o=(0:Int))) (ob (Zb4 a7 o) (ob (decide (Int.toNat (Int.tmod (cz.a a7) (tR o))<kz o)) (ob (cT PR (89:TypeId) (Zb5 o a7)) (∃(v:List Int) (Gf:Int) (n:Int),[Ze w,P.d (Zm r),P.d (Hb l fR)]=Ze v::P.d (Zm Gf)::Zo n/\Zq/\Zb7 v Gf/\ ∀(Bk:List Int),Bk=bM (gO v Gf n)->ob (Zb9 q7) (ob (Z7 r) (ob (Zba r q7) (ob (decide (Z8 r<List.length (Ob q7))) (ob (cT PR (86:TypeId) (D.nth (Ob q7) (Z8 r))) (ob (Zbc ar) (ob (Zbd ar&&aJ (0+kz ar+List.length [D.agg (Zh t::Zm r::Hb l fR::D.sl 1 (bB w)::Zbf o a7)]) 88) (ae (P.d (D.agg (D.sl 7 (List.take (0+kz ar+List.length [D.agg (Zh t::Zm r::Hb l fR::D.sl 1 (bB w)::Zbf o a7)]) (Zbg ar++[D.agg (Zh t::Zm r::Hb l fR::D.sl 1 (bB w)::Zbf o a7)]))::Zbh q7 r Bk)),[]))))))))))))) else∃(i:Int) (vY:List av) (v:List Int) (Gf:Int) (x:cz),OQ o::P.d (D.agg (Zh t::Zx r))::Va a7=P.d (D.sl 7 (List.map cu (aN vY v)))::P.d (D.agg [D.int .i64 (Prod.fst (eW vY v Gf)),D.int .i64 (Prod.snd (eW vY v Gf))])::Va x/\Zq/\(bG i vY/\((0:Int)<=i/\i<=(100:Int))/\DH x)/\ ∀(o:bs) (b:Bool),(b=true->OpW vY v Gf o)->bif !b then ae (OV ar q7,[]) else∃(v:List Int) (r_3:Int) (n:Int),[Ze w,P.d (Zm r),P.d (Hb l fR)]=Ze v::P.d (Zm r_3)::Zo n/\Zq/\Zb7 v r_3/\ ∀(Bk:List Int),Bk=bM (gO v r_3 n)->ob (Zb9 q7) (ob (Z7 r) (ob (Zba r q7) (ob (decide (Z8 r<List.length (Ob q7))) (ob (cT PR (86:TypeId) (D.nth (Ob q7) (Z8 r))) (ob (Zbc ar) (ob (Zbd ar&&aJ (0+kz ar+List.length [D.agg (Zh t::Zm r::Hb l fR::D.sl 1 (bB w)::Zbk o)]) 88) (ae (P.d (D.agg (D.sl 7 (List.take (0+kz ar+List.length [D.agg (Zh t::Zm r::Hb l fR::D.sl 1 (bB w)::Zbk o)]) (Zbg ar++[D.agg (Zh t::Zm r::Hb l fR::D.sl 1 (bB w)::Zbk o)]))::Zbh q7 r Bk)),[])))))))))) else∃(ar:List av) (v:List Int),[fa l,P.d (OW K x)]=[fa ar,Ze v]/\Zq/\(oR ar/\X5 v)/\ ∀(o:List av),o=aN ar v-> ∃(jz:List Int) (r:Int),[P.d (OW K x),P.d (OX x)]=Ze jz::Zo r/\Zq/\Zs jz/\ob (Zb1 jz r) (∃(vY:List av),[OQ o]=BL vY/\Zq/\oR vY/\ ∀(t:Int),t=sb vY->ob (Zd t) (bif U8 x==(7:Int) then bif tR o==(0:Int) then ae (OV l K,[]) else ob (Zb3 x) (ob (!decide (tR o=(0:Int))) (ob (Zb4 x o) (ob (decide (Int.toNat (Int.tmod (cz.a x) (tR o))<kz o)) (ob (cT PR (89:TypeId) (Zb5 o x)) (∃(v:List Int) (fR:Int) (n:Int),[P.d (OW K x),P.d (OX x),P.d (Hb jz r)]=Ze v::P.d (Zm fR)::Zo n/\Zq/\Zb7 v fR/\ ∀(w:List Int),w=bM (gO v fR n)->ob (Zb9 K) (ob (ZaZ x) (ob (Zbn x K) (ob (decide (Zb0 x<List.length (Ob K))) (ob (cT PR (86:TypeId) (D.nth (Ob K) (Zb0 x))) (ob (Zbc l) (ob (Zbd l&&aJ (0+kz l+List.length [D.agg (Zh t::OX x::Hb jz r::OW K x::Zbf o x)]) 88) (ae (P.d (D.agg (D.sl 7 (List.take (0+kz l+List.length [D.agg (Zh t::OX x::Hb jz r::OW K x::Zbf o x)]) (Zbg l++[D.agg (Zh t::OX x::Hb jz r::OW K x::Zbf o x)]))::Zbo K x w)),[]))))))))))))) else∃(i:Int) (Ao:List av) (v:List Int) (fR:Int) (a7:cz),OQ o::P.d (D.agg [Zh t,OX x])::Va x=P.d (D.sl 7 (List.map cu (aN Ao v)))::P.d (D.agg [D.int .i64 (Prod.fst (eW Ao v fR)),D.int .i64 (Prod.snd (eW Ao v fR))])::Va a7/\Zq/\(bG i Ao/\((0:Int)<=i/\i<=(100:Int))/\DH a7)/\ ∀(o:bs) (b:Bool),(b=true->OpW Ao v fR o)->bif !b then ae (OV l K,[]) else∃(v:List Int) (Gf:Int) (n:Int),[P.d (OW K x),P.d (OX x),P.d (Hb jz r)]=Ze v::P.d (Zm Gf)::Zo n/\Zq/\Zb7 v Gf/\ ∀(w:List Int),w=bM (gO v Gf n)->ob (Zb9 K) (ob (ZaZ x) (ob (Zbn x K) (ob (decide (Zb0 x<List.length (Ob K))) (ob (cT PR (86:TypeId) (D.nth (Ob K) (Zb0 x))) (ob (Zbc l) (ob (Zbd l&&aJ (0+kz l+List.length [D.agg (Zh t::OX x::Hb jz r::OW K x::Zbk o)]) 88) (ae (P.d (D.agg (D.sl 7 (List.take (0+kz l+List.length [D.agg (Zh t::OX x::Hb jz r::OW K x::Zbk o)]) (Zbg l++[D.agg (Zh t::OX x::Hb jz r::OW K x::Zbk o)]))::Zbo K x w)),[]))))))))))))))))=(aK [(36,hKn),(37,W8),(40,JL),(38,U5),(39,qeS)] [(5,ah (aL 14 5) qeU)] 14 [.d (wD l K),.d (wx x)] []) ae:=by kernel_rfl
def BT(i:Int)(l:List av)(x:cz)(l':List av)(K':List (List Int)):Prop:=bG (i+1) l'/\oF (i+1) l' K'/\(x.what.tmod 8≠7->(∀g∈l,g.lA=(0,0))-> ∀g∈l',g.lA=(0,0))
def WOk(i:Int)(l:List av)(K:List (List Int)):Prop:=bG i l/\oF i l K/\0<=i/\i<=100
def LQ:bh:=λps R ae=> ∃(i:Int) (l:List av) (K:List (List Int)) (x:cz),ps=[.d (wD l K),.d (wx x)]/\R=[]/\(WOk i l K/\DH x)/\ ∀l' K',BT i l x l' K'->ae (.d (wD l' K'),[])
abbrev hi3(m:List cz)(l:List av)(K:List (List Int))(i:Int):S:=⟨25,[(0,.d (.sl 6 (m.map wx))),(3,.ref 0 0 0),(4,iD i)],[(0,⟨0,none,bxW l K⟩)]⟩
abbrev lx(m:List cz):S:=⟨25,[(0,.d (.sl 6 (m.map wx))),(3,.ref 0 0 0),(4,iD 0)],[(0,⟨0,none,.box 58 [.d .dS,.sl 1 0 3]⟩),(1,⟨0,none,arV false [[],[],[]]⟩)]⟩
def Zbr(m:List cz):Nat×P:=(0,P.d (D.sl 6 (List.map wx m)))
def Zbq(m:List cz)(i:Int):D:=D.nth (List.map wx m) (Zb i)
def Zbp(m:List cz):Int:=(↑(List.length (List.map wx m)):Int)
theorem qbE(m:List cz)(l:List av)(K:List (List Int))(i:Int)(ae:PX×S->Prop):(bif decide (i<Zbp m) then bif decide (i<(16:Int)) then ob (decide ((0:Int)<=i/\i<Zbp m)) (ob (cT PR (61:TypeId) (Zbq m i)) (∃(aX:Int) (ar:List av) (q7:List (List Int)) (x:cz),[OV l K,P.d (D.agg [D.int .u8 (D.aj (D.ax (Zbq m i) 0)),D.int .u8 (D.aj (D.ax (Zbq m i) 1)),D.int .u8 (D.aj (D.ax (Zbq m i) 2)),D.int .u8 (D.aj (D.ax (Zbq m i) 3)),D.int .u8 (D.aj (D.ax (Zbq m i) 4)),D.bool (D.eY (D.ax (Zbq m i) 5))])]=OV ar q7::Va x/\Zq/\(WOk aX ar q7/\DH x)/\ ∀(l':List av) (K':List (List Int)),BT aX ar x l' K'->ob (Zd i) (ae (PX.normal,S.mk 25 (Zbr m::dv::sa i) [OU l' K'])))) else ae (PX.exit 0,S.mk 25 [dv] [OU l K]) else ae (PX.exit 0,S.mk 25 [dv] [OU l K]))=(aC [(14,LQ)] [] 6 3 (hi3 m l K i)) ae:=by kernel_rfl
def Zbt:List D:=[D.sl 1 [],D.sl 1 [],D.sl 1 []]
def Zbu:List (Nat×En):=[(0,En.mk 0 none (Obj.box (58:TypeId) [P.d D.dS,P.sl 1 0 3])),(1,En.mk 0 none (Obj.arr (86:TypeId) false Zbt))]
def Zbs(m:List cz):D:=D.nth (List.map wx m) 0
theorem qbF(m:List cz)(ae:PX×S->Prop):(bif decide ((0:Int)<Zbp m) then ob (decide ((0:Int)<=(0:Int)/\(0:Int)<Zbp m)) (ob (cT PR (61:TypeId) (Zbs m)) (∃(i:Int) (l:List av) (K:List (List Int)) (x:cz),[P.d (D.agg [D.sl 7 [],D.sl 1 Zbt]),P.d (D.agg [D.int .u8 (D.aj (D.ax (Zbs m) 0)),D.int .u8 (D.aj (D.ax (Zbs m) 1)),D.int .u8 (D.aj (D.ax (Zbs m) 2)),D.int .u8 (D.aj (D.ax (Zbs m) 3)),D.int .u8 (D.aj (D.ax (Zbs m) 4)),D.bool (D.eY (D.ax (Zbs m) 5))])]=OV l K::Va x/\Zq/\(WOk i l K/\DH x)/\ ∀(l':List av) (K':List (List Int)),BT i l x l' K'->ae (PX.normal,S.mk 25 [Zbr m,dv,(4,ZF)] [OU l' K']))) else ae (PX.exit 0,S.mk 25 [dv] Zbu))=(aC [(14,LQ)] [] 6 3 (lx m)) ae:=by kernel_rfl
def zg(m:List cz):Prop:=m.length<=9223372036854775807/\ ∀x∈m,DH x
def BU(m:List cz)(g:List av):Prop:=bG 16 g/\((∀x∈m,x.what.tmod 8≠7)-> ∀y∈g,y.lA=(0,0))
def qeV:S->K (PX×S):=λs ae=> ∃m,s=lx m/\zg m/\ae (.exit 0,⟨25,[(3,.ref 0 0 0)],[(0,⟨0,none,.box 58 [.d .dS,.sl 1 0 3]⟩),(1,⟨0,none,arV false [[],[],[]]⟩)]⟩)/\ ∀l (K:List (List Int)),BU m l->ae (.exit 0,⟨25,[(3,.ref 0 0 0)],[(0,⟨0,none,bxW l K⟩)]⟩)
theorem qhc(m:List cz)(ae:P×List (Nat×En)->Prop):(∃(dV:List cz),S.mk 25 (Zbr m::dv::Hv) Zbu=S.mk 25 (Zbr dV::dv::Hv) Zbu/\zg dV/\ae (ZE,Z5a)/\ ∀(l:List av) (_:List (List Int)),BU dV l->ae (fa l,[]))=(aK [] [(3,ah (aL 6 3) qeV)] 6 [.d (.sl 6 (m.map wx))] []) ae:=by kernel_rfl
def qeW:bh:=λps R ae=> ∃m,ps=[.d (.sl 6 (m.map wx))]/\R=[]/\zg m/\ae (.sl 0 0 0,[(0,⟨0,none,Ae false []⟩)])/\ ∀g,BU m g->ae (dD g,[])
section
variable{i:Int}{l:List av}(h:bG i l)(hi:0<=i/\i<=1000)
theorem bG.right{i:Int}{l:List av}(h:bG i l):au l=l:=Jt h.JQ h.nd
include h hi
theorem bG.time:0<=Pi.sb l/\Pi.sb l<=i:=⟨(uH _).1,Sq hi.1 _ λg hg=>(h.sm g hg).2.1.1⟩
theorem bG.qiK(r:Int):0<=mxN l r/\mxN l r<=i:=⟨Ju l r,Sm l 0 hi.1 λg hg=>(h.sm g hg).2.1.2⟩
theorem bG.next{r:Int}(h1:1<=r)(h2:r<=16):qba l r=0:=by have:=h.time hi;have:=h.qiK hi r;unfold qba;rw[zap (by omega),zap (by omega)]
end
end Pi
namespace Pi
open Go Go.Proofs Go.RowKit Go.Proofs.YtfelfooeclnbiaaGreatDoor
set_option maxRecDepth 100000
abbrev q8:List (String×DataW Unit):=[("math/bits.deBruijn32tab",Rows.laid_math_bits_deBruijn32tab),("math/bits.deBruijn64tab",Rows.laid_math_bits_deBruijn64tab),("internal/strconv.uint64pow10",Rows.laid_internal_strconv_uint64pow10),("unicode/utf8.acceptRanges",Rows.laid_unicode_utf8_acceptRanges),("strconv.ErrRange",Rows.laid_strconv_ErrRange),("strconv.ErrSyntax",Rows.laid_strconv_ErrSyntax),("unicode/utf8.first",Rows.laid_unicode_utf8_first)]
theorem gES:Tryz.prog.globalNamed "strconv.ErrSyntax" =some 3:=by kernel_rfl
theorem gER:Tryz.prog.globalNamed "strconv.ErrRange" =some 4:=by kernel_rfl
theorem gP:Tryz.prog.globalNamed "internal/strconv.uint64pow10" =some 5:=by kernel_rfl
theorem tES:(Tryz.prog.globals[3]?).map (·.type)=some 70:=by kernel_rfl
theorem tER:(Tryz.prog.globals[4]?).map (·.type)=some 70:=by kernel_rfl
theorem tP:(Tryz.prog.globals[5]?).map (·.type)=some 233:=by kernel_rfl
theorem qbG: "*" ++ "errors.errorString" = "*errors.errorString" :=by decide
theorem qbH(u:TypeId)(h:Tryz.prog.typeName? 3 u=some "*errors.errorString"):u=223:=
 typeName_ptr_named (nm:= "errors.errorString") (by rw[qbG];kernel_rfl) (by kernel_rfl) (by decide) u (by rw[qbG];exact h)
theorem Hc(w:World)(h:laidMetH Tryz.prog q8 w):laidMet Tryz.prog q8 w:=by
 unfold laidMetH at h;have e:(q8.filter λx=>x.2.handleName?.isSome)=[]:=by kernel_rfl
 rw[e] at h;exact h
theorem qax(w:World)(h:laidMet Tryz.prog q8 w):laidMetH Tryz.prog q8 w:=by
 unfold laidMetH;have e:(q8.filter λx=>x.2.handleName?.isSome)=[]:=by kernel_rfl
 rw[e];exact h
theorem qhd:(Rows.laid_internal_strconv_uint64pow10:DataW Unit)=Lib.tabData .u64 Lib.pow10Tab:=by kernel_rfl
theorem qhe:(Rows.laid_unicode_utf8_first:DataW Unit)=Lib.firstData:=by kernel_rfl
theorem qhf:(Rows.laid_unicode_utf8_acceptRanges:DataW Unit)=Lib.acceptData:=by kernel_rfl
def qiL:Go.Shelf.Ren:=⟨λn=>n,λ|5=>5 |119=>175 |138=>177 |139=>178 |n=>n,λ|3=>0 |4=>1 |n=>n⟩
theorem qhg{W:World}(h:laidMet Tryz.prog q8 W):Lib.Utf8Tabs 0 1 W:=
 utf8Tabs_of_readsT (ρ:=qiL) ⟨by kernel_rfl,by kernel_rfl,by kernel_rfl,by kernel_rfl⟩ ⟨by kernel_rfl,by kernel_rfl,by kernel_rfl,by kernel_rfl,by kernel_rfl,by kernel_rfl,by kernel_rfl⟩
  (by rw[<-qhe];exact Lib.laidMet.reads h (.tail _ (.tail _ (.tail _ (.tail _ (.tail _ (.tail _ (.head _))))))))
  (by rw[<-qhf];exact Lib.laidMet.reads h (.tail _ (.tail _ (.tail _ (.head _)))))
theorem qeX{W:World}(h0:laidMetH Tryz.prog q8 W)(hs:W.ShapedOpen Tryz.prog):Vy W:=by
 have h:=Hc W h0;have h3:=h.tail.tail;have h5:=h3.tail.tail;have h6:=h5.tail;obtain⟨a1,s1,hv1,_,_,_⟩:=laid_sentinel h5 gER tER Tryz.underlying70 qbH Tryz.underlying223 Tryz.underlying225 rfl rfl Tryz.underlying9 (by kernel_rfl) (by kernel_rfl);obtain⟨a0,s0,hv0,_,_,_⟩:=laid_sentinel h6 gES tES Tryz.underlying70 qbH Tryz.underlying223 Tryz.underlying225 rfl rfl Tryz.underlying9 (by kernel_rfl) (by kernel_rfl);have Fv:Lib.TabIs Tryz.prog W "internal/strconv.uint64pow10" .u64 Lib.pow10Tab:=
  Lib.tabIs_of_head (k:= .u64) (zs:=Lib.pow10Tab) gP tP Tryz.underlying233 Tryz.underlying123 (by kernel_rfl) (by kernel_rfl) (by rw[<-qhd];exact h3)
 refine⟨?_,⟨_,by have:=World.var?_cell gES hv0 0;simpa using this,.inr ⟨_,_,rfl⟩⟩,⟨_,by have:=World.var?_cell gER hv1 0;simpa using this,.inr ⟨_,_,rfl⟩⟩,λw hw=> ?_,qhg h⟩
 ·exact cell_of_shapedOpen_int (zero:= #[.int .i64 0]) (t:=3) hs (zbJ (by kernel_rfl)) (by kernel_rfl) rfl (by kernel_rfl) (by kernel_rfl) Tryz.underlying3
 unfold Lib.TabIs World.var? at Fv⊢;rw[gP] at Fv⊢;simp only[zaw] at Fv⊢;by_cases hb:5<W.heap.size
 ·rw[hw 5 hb];exact Fv
 rw[zci (by omega)] at Fv;cases Fv
noncomputable def wL(os:Os):World:=World.laidAll Tryz.prog os q8
theorem qeY(os:Os)(args:Array Value):laidMet Tryz.prog q8 ((wL os).forCall (λ_ _=>0) ⟨#[],args,[]⟩).memory:=
 laidMet_laidAll _ (by kernel_rfl) (by kernel_rfl)
end Pi
namespace Pi
open Go Go.Proofs
set_option maxRecDepth 100000
set_option maxHeartbeats 0
theorem wa{a b:Int}(h:0<=a)(hb:0<b):0<=a.tmod b/\a.tmod b<b:=⟨Int.tmod_nonneg b h,Int.tmod_lt_of_pos a hb⟩
theorem bG.smS{i:Int}{l:List av}(h:bG i l)(hi:i<=1000):SmS l:=by
 have h1:=h.len;have h2:=h.cB;refine⟨⟨by omega,λg hg=>⟨λo ho=> ?_,?_,?_⟩⟩,?_⟩
 ·have h3:=(h.sm g hg).2.2.2 o ho;have h4:=yR (h.JQ g hg) o ho;exact⟨by omega,by omega,by omega⟩
 ·have h3:=(h.sm g hg).2.2.1;omega
 ·have:=oa (DA (h.JQ g hg)).2.2.1;omega
 show Pi.cB l<=1000;omega
theorem qhh{q:Int}(h:q=0\/q=1\/q=2):((0<=IntKind.wrap IntKind.u8 (q+1)/\IntKind.wrap IntKind.u8 (q+1)<=((3:Nat):Int))/\(0<=q/\q<=((IntKind.wrap IntKind.u8 (q+1)).toNat:Int)))/\bR (List.drop q.toNat (List.take (IntKind.wrap IntKind.u8 (q+1)).toNat [97,98,99]))=true:=by rcases h with rfl |rfl |rfl<;>exact⟨by decide,by kernel_rfl⟩
theorem qhi{k d:Int}(hk:0<=k/\k<5)(hd:0<=d/\d<2):ti (List.drop k.toNat (List.take (k+1+d).toNat [117,118,119,120,121,122]))=true/\(List.drop k.toNat (List.take (k+1+d).toNat ([117,118,119,120,121,122]:List UInt8))).length<=2:=by
 obtain hk:k=0\/k=1\/k=2\/k=3\/k=4:=by omega
 obtain hd:d=0\/d=1:=by omega
 rcases hk with rfl |rfl |rfl |rfl |rfl<;>rcases hd with rfl |rfl<;>exact⟨by kernel_rfl,by decide⟩
theorem DI{i:Int}{l:List av}(h:bG i l)(hi:i<=1000)(x:aq):eT (cd l x):=by
 have h1:=h.len;have h2:=h.cB;have h3:=qm x l;have hr: ∀r∈cd l x,r.2.2.length<=2/\r.2.1.2.2=0:=λr hr=>by obtain⟨g,hg,o,ho,hk,rfl⟩:=za hr;obtain⟨m,hm⟩:=op1 h hg ho;have:=LJ hm hk;exact⟨((h.sm g hg).2.2.2 o ho).1,by rw[this]⟩
 have key: ∀L:List bn,(∀r∈L,r.2.2.length<=2)->zy L<=2*L.length:=λL=>by
  induction L with
  |nil=>intro _;simp[zy]
  |cons r L ih=>
   intro hL;have h4:=ih λr hr=>hL r (.tail _ hr);have h5:=hL r (.head _);have h6:=tH r.2.2;have h7:zy (r::L)=(kj r.2.2).length+zy L:=by simp[zy]
   rw[h7,zam];omega
 refine⟨by omega,?_,λr h=> ?_⟩
 ·have:=key _ λr h=>(hr r h).1;omega
 have:=hr r h;rw[this.2];exact⟨by omega,by omega,by omega⟩
theorem cC{α:Type}(f:α->D)(o:List α):List.take o.length (o.map f)=o.map f:=zan (by simp)
theorem qeZ{l:List av}{e:List aq}(he: ∀y∈e,ie l y)(hs:e.Pairwise λa b=>lz a b=true){q d:Int}(hq:0<=q/\q<(e.length:Int))(hd:0<=d/\d<3):
  (∀y∈(e.drop q.toNat).take ((min (e.length:Int) (q+1+d)).toNat-q.toNat),ie l y)/\((e.drop q.toNat).take ((min (e.length:Int) (q+1+d)).toNat-q.toNat)).Pairwise (λa b=>lz a b=true)/\
   1<=((e.drop q.toNat).take ((min (e.length:Int) (q+1+d)).toNat-q.toNat)).length/\((e.drop q.toNat).take ((min (e.length:Int) (q+1+d)).toNat-q.toNat)).length<=3:=by
 refine⟨λy hy=>he y (zb3 (za3 hy)),hs.sublist ((List.take_sublist _ _).trans (List.drop_sublist _ _)),?_,?_⟩
 ·rw[zat,za0];omega
 rw[zat];omega
section
variable{X:XF}
theorem qe0:FD X 63 U7:=FD.mk (H:=[]) (hk:=[]) (by kernel_rfl) .nil .nil (by
 intro ps R ae hh;obtain⟨l,n,rfl,rfl,⟨hl,hn⟩,hp⟩:=hh
 (rw[<-qeR];delta fM ZaT Z3 VA Z6 Z5 Zd oQ Bs)
 refine ak (by omega) λc hc=> ?_;have hm:(l.map cb).length=l.length:=zaa ..;rw[hm] at hc⊢;have hq:=wa hn.1 (show 0<c+1 by omega);refine ak (by omega) (ao (by rw[za5 (by omega)];rfl) (Jy (λ_=>hp aD (.inl rfl)) λh=>ak (by omega) ?_));generalize n.tmod (c+1)=q at*
 have bz:q.toNat<l.length:=by omega
 rw[aG _ _ _ bz];exact ao (mQ _) (hp _ (.inr (zar bz))))
theorem qhj:FD X 39 qeS:=FD.mk (H:=[(62,qeN),(63,U7),(64,hJn),(11,GZ),(65,qey),(66,qeD)]) (hk:=[]) (by kernel_rfl)
  (.cons qhb (.cons qe0 (.cons qiH (.cons Ud (.cons qg3 (.cons qg4 .nil)))))) .nil (by
 intro ps R ae hh;obtain⟨i,l,v,r,x,rfl,rfl,⟨hl,hi,hx⟩,hp⟩:=hh
 (rw[<-qiI];delta ZC z8 fM Z0 ZO Z3 fB fD fC fw fy gk tU ZaR Z6 Z5 ZaM IP ZaI ZaQ Z3G oR Zq nc iP fa ZaS ZaL oO oP ZaN ZaO ZaF mq ZaE iw NY N0 ZaP jO Z9d BG uM BL ZaC ZaH ZaK U8 ZaJ Us fX)
 have hL:=hl.known v;have hlen:=hL.len;have Al:=hL.cB;have hq:=wa hx.b.1 (show(0:Int)<3 by decide);have zW:=qhh (q:=x.b.tmod 3) (by omega);have hk:=wa hx.c.1 (show(0:Int)<5 by decide);have hd:=wa hx.c.1 (show(0:Int)<2 by decide);have hd3:=wa hx.c.1 (show(0:Int)<3 by decide);have huv:=qhi hk hd;have hc:=hx.c;have hb:=hx.b;have h0:(aN l v).length<=1000000/\cB (aN l v)<=1000:=by omega
 refine⟨_,true,rfl,rfl,h0,λds Wa=>⟨_,false,rfl,rfl,h0,λfs hfs=>ak zW.1.1 (ak zW.1.2 ?_)⟩⟩;have hrd: ∀y,(y=aD\/y∈ds)->(y=aD\/ie (aN l v) y):=λy h=>h.imp_right λh=>LL hL (Wa▸h);have hrf: ∀y,(y=aD\/y∈fs)->(y=aD\/ie (aN l v) y):=λy h=>h.imp_right λh=>LL hL (hfs▸h);have hra: ∀y,(y=aD\/y∈fs++ds)->(y=aD\/ie (aN l v) y):=λy h=>h.elim .inl λh=>(zaB.1 h).elim (λh=>hrf y (.inr h)) λh=>hrd y (.inr h);have hdl:ds.length<=1000000:=by rw[Wa];have:=mW true (aN l v);omega
 have wb:fs.length<=1000000:=by rw[hfs];have:=mW false (aN l v);omega
 have Kw:(fs++ds).length<=1000000:=by have:=mW true (aN l v);have:=mW false (aN l v);rw[zaj,hfs,Wa];omega
 have hdp: ∀(Q:aq->Prop),(∀y,(y=aD\/ie (aN l v) y)->Q y)-> ∃(m:List aq) (n:Int),[P.d (D.sl 3 (List.take ds.length (ds.map cb))),P.d (D.int .u8 x.a)]=[P.d (D.sl 3 (m.map cb)),P.d (D.int .u8 n)]/\EqR [] []/\(m.length<=1000000/\0<=n/\n<=255)/\ ∀y,(y=aD\/y∈m)->Q y:=
  λQ h=>⟨ds,x.a,by rw[cC],rfl,⟨hdl,hx.a⟩,λy hy=>h y (hrd y hy)⟩
 have qay: ∀y:aq,(y.1==(0:Int)&&(y.2.1==(0:Int)&&true)&&(y.2.2==(0:Int)&&true))=(y==aD):=λy=>qz y aD;have cU: ∀y:aq,(y=aD\/ie (aN l v) y)->(!(y==aD))=true->ie (aN l v) y:=λy h h1=>h.resolve_left λe=>by rw[e] at h1;simp at h1
 refine⟨fs,x.a,by rw[cC],rfl,⟨wb,hx.a⟩,λf hf=> ?_⟩;have hf:=hrf f hf;refine Jy (λ_=>hdp _ λy hy=>hp (G6 (eW l v r) y _ true) true λ_=>⟨⟨_,LK hl hy zW.2 true⟩,by simp[G6],by simp[G6]⟩) λ_=>
  Jy (λ_=>hdp _ λy hy=>hp (G6 (eW l v r) y _ false) true λ_=>⟨⟨_,LK hl hy zW.2 false⟩,by simp[G6],by simp[G6]⟩) λ_=>
  Jy (λ_=>⟨fs,ds,by rw[cC,cC],rfl,⟨wb,hdl⟩,λa ha=>⟨a,x.c,by rw[cC],rfl,⟨by rw[ha];exact Kw,hx.c⟩,λy hy=>hdp _ λz hz=> ?_⟩⟩) λ_=>
  Jy (λ_=>⟨fs,ds,by rw[cC,cC],rfl,⟨wb,hdl⟩,λa ha=>⟨a,x.c,by rw[cC],rfl,⟨by rw[ha];exact Kw,hx.c⟩,λy hy=>⟨aN l v,rfl,rfl,hL.smS (by omega),λon t p it yV ht _ _=>⟨t.h,t.g,y,rfl,rfl,?_,λd Di=> ?_⟩⟩⟩⟩) λ_=> ?_
 ·have hy:=hra y (by rw[<-ha];exact hy);rw[qay];exact hp (Uj y z _) (!(y==aD)) λh=>⟨⟨_,qad hl (cU y hy h) hz zW.2⟩,by simp[Uj],by simp[Uj]⟩
 ·have hR:=hL.right;have hB:=vW (on:=on) (l:=aN l v) hL.JQ _ (zai _);rw[zag] at hB;rw[ht,hR];have h1:=hB.2.2.1;have h2:=hB.2.2.2;exact⟨by omega,by omega⟩
 ·have hy:=hra y (by rw[<-ha];exact hy);have hd4:=qak hL (by omega) (on:=on) (g:=t.g) (x:=y);rw[qay,cC];rw[hL.right] at ht;rw[<-ht,<-Di] at hd4;exact hp (Uk y d) (!(y==aD)) λh=>⟨⟨_,qae hl (cU y hy h) hd4.1 hd4.2.1 hd4.2.2⟩,by simp[Uk],by simp[Uk]⟩
 have WD:(aN l v).length<=1000000/\cB (aN l v)<=1000/\eT (cd (aN l v) f):=⟨h0.1,h0.2,DI hL (by omega) f⟩
 have AA:(JR (aN l v) f).length<=1000000:=by have:=oc (l:=cd (aN l v) f) _ (zai _);rw[zag] at this;have:=WD.2.2.2.1;unfold JR;rw[kA,zaa];omega
 refine Jy (λh4=>Jy (λ_=> ?_) λh=>absurd h4 h) λ_=>Jy (λ_=> ?_) λ_=> ?_
 rotate_left 2
 ·refine⟨_,f,rfl,rfl,WD,λe he=> ?_⟩;rw[qay];have bk:ae (P.bI [P.d (fY ⟨0,aD,aD,[],false,[],aD,aD,[],[]⟩),P.d (D.bool false)],[]):=hp _ false λh=>by cases h
  refine az (λ_=>bk) λhf2=>Jy (λ_=>bk) λKn=> ?_;have hfr:ie (aN l v) f:=cU f hf (by rw[hf2];rfl);have hq2:=wa hx.b.1 (show(0:Int)<(e.length:Int) by omega);have qi3:e.length<=1000000:=by rw[he];exact AA
  have hct:=qeZ (e:=e) (λy hy=>G8 hL (he▸hy)) (by rw[he];exact N2 _ _) hq2 hd3;generalize x.b.tmod (e.length:Int)=q at*
  generalize x.c.tmod 3=d at*
  refine ak (by omega) (ao (by rw[za5 (by omega)];rfl) (ak (by omega) (ak (by omega) (ak (by omega) (ak (by omega) (ak (by omega) ?_))))));rw[<-List.map_drop,<-List.map_take];exact hp (qac f _) true λ_=>⟨⟨_,qag hl hfr hct.1 hct.2.1 hct.2.2.1 hct.2.2.2⟩,by simp[qac],hct.2.2.2⟩
 all_goals
  refine ak (by omega) ⟨_,f,rfl,rfl,WD,λe he=>⟨e,x.b,by rw[cC],rfl,⟨by rw[he];exact AA,hx.b⟩,λa ha=> ?_⟩⟩;rw[qay];have ha:a=aD\/ie (aN l v) a:=ha.imp_right λh=>G8 hL (he▸h);generalize x.c.tmod 5=k at*
  generalize x.c.tmod 2=d at*
  refine ak (by omega) (ak (by omega) (ak (by omega) (ak (by omega) (ak (by omega) ?_))));exact hp (qab (eW l v r) f a _) (!(f==aD)) λh=>⟨⟨_,qaf hl (cU f hf h) ha huv.1⟩,huv.2,by simp[qab]⟩)
theorem jv.all{i:Int}{l:List av}{K:List (List Int)}(h:oF i l K){r:Int}(h1:1<=r)(h2:r<=3): ∀(M:List (List Int)) (v:List Int),jv i K r v->(∀w∈M,w∈K)->jv i K r (mgA v M)
 | [],_,hv,_=>hv
 |w::M,v,hv,hM=>jv.all h h1 h2 M (mc v w) (jv.merge h h1 h2 hv (hM w (.head _))) λx hx=>hM x (.tail _ hx)
theorem Vb: ∀(M:List (List Int)) (v:List Int),dN v=true->(∀w∈M,dN w=true)->dN (mgA v M)=true
 | [],_,hv,_=>hv
 |w::M,v,hv,hM=>Vb M (mc v w) (BO hv (hM w (.head _))) λx hx=>hM x (.tail _ hx)
theorem qaz(v:List Int):cT PR 86 (D.sl 1 (bB v))=true:=by kernel_rfl
theorem qaA:LD X 14 5 (ah (aL 14 5) qeU):=LD.idx (H:=[(35,IL)]) (hk:=[]) (by kernel_rfl) (by kernel_rfl) (.cons QR .nil) .nil
 (A:=List av×List (List Int)×cz×Int×List Int) (B:=List Int) (λa v i=>dn5 a.1 a.2.1 a.2.2.1 a.2.2.2.1 v i) (λa=>a.2.1.length)
 (λa i v=>JZ a.2.2.2.2 a.2.1/\v=mgA a.2.2.2.2 (a.2.1.take i))
 (λa z=>z=(.exit 0,⟨120,[(2,.ref 0 0 0),(3,.ref 1 0 0),(4,.ref 2 0 0),(5,iD a.2.2.2.1),(6,vD (mgA a.2.2.2.2 a.2.1))],[(0,⟨0,none,bxW a.1 a.2.1⟩),(1,⟨0,none,qeT a.2.2.1⟩),(2,⟨0,none,.box 58 [.sl 3 0 0,.sl 4 0 0]⟩),(3,⟨0,none,Ae false []⟩),(4,⟨0,none,arV false []⟩)]⟩))
 (by
  rintro⟨l,K,x,r,v0⟩ v i ae h0 cj bK ⟨hc,hv⟩ hn aW
  try dsimp only at*
  (rw[<-qbD];delta Z59 Ee fa OU ZaX Zh qw Zm yj ZaV tN tO dP Lc Z6 Z5 Zd Zq Ze Zb)
  have e1:D.nth (K.map λv=>D.sl 1 (bB v)) i.toNat=D.sl 1 (bB K[i.toNat]):=aG _ _ _ bK;have eH:0<=i/\i<((K.map λv=>D.sl 1 (bB v)).length:Int):=by rw[zaa];exact⟨h0,cj⟩
  have hvo:dN v=true:=by rw[hv];exact Vb _ _ hc.2.1 λw hw=>hc.2.2 w (za3 hw)
  have hwo:=hc.2.2 _ (zar bK);have lC:mgA v0 (K.take (i.toNat+1))=mc v K[i.toNat]:=by rw[hv];unfold mgA;rw[zaf bK,zbd];rfl
  have hl1:=oa hvo;have CL:=oa hwo;have hK:=hc.1;rw[e1];generalize K[i.toNat]=w at*
  refine bV eH.2 (ak eH (ao (qaz _) ⟨v,w,rfl,rfl,⟨?_,?_⟩,ak (by omega) (hn _ ⟨hc,lC.symm⟩)⟩))
  ·unfold mj;omega
  unfold mj;omega)
 (by
  rintro⟨l,K,x,r,v0⟩ v i ae hi ⟨hc,hv⟩ aW
  try dsimp only at*
  (rw[<-qbD];delta Z59 Ee fa OU ZaX Zh qw Zm yj ZaV tN tO dP Lc Z6 Z5 Zd Zq Ze Zb)
  refine oC (by rw[zaa];omega) (aW _ (λh=>by cases h) ?_);rw[hv,zag];rfl)
 (by rintro s ae ⟨l,K,x,r,v,rfl,hc,hp⟩;refine⟨(l,K,x,r,v),v,rfl,⟨hc,rfl⟩,?_⟩;rintro z rfl;exact hp _ rfl)
theorem qe1:FD X 14 LQ:=FD.mk (H:=[(36,hKn),(37,W8),(40,JL),(38,U5),(39,qeS)]) (hk:=[(5,ah (aL 14 5) qeU)]) (by kernel_rfl)
  (.cons qiG (.cons FL (.cons YY (.cons qeP (.cons qhj .nil))))) (.cons qaA .nil) (by
 intro ps R ae hh;obtain⟨i,l,K,x,rfl,rfl,⟨⟨hl,hK,h0,hi⟩,hx⟩,hp⟩:=hh
 (rw[<-qiJ];delta U9 Zb0 Ee Ob Zb8 Zbo Zbn Nn Np R8 R9 Sb Sc Sd Se Ox Oy Oz Ld Z3 Zbk Va Zm Zx Z8 Zbh kz Zbg tR Zb5 Zbf Zh Zbd Zbc Zba Z6 Z5 Z7 Zb9 X5 Zb7 Hb Zb4 Zb3 OV U8 Zd fa BL OQ Zb1 Zr Zs Zo oR Zq Ze yj Z59 OU ZaX uG OW OX ZaV tN tO dP Lc ZaZ)
 have hr:=wa hx.r.1 (show(0:Int)<3 by decide);have hxr:=hx.r;have hxa:=hx.a;have h3:=hK.len;have sC:=hl.len;generalize x.r.tmod 3=q at*
 have vd:(1+q-1).toNat=q.toNat:=by omega
 have hqn:q.toNat<K.length:=by omega
 have e1:D.nth (K.map λv=>D.sl 1 (bB v)) q.toNat=D.sl 1 (bB K[q.toNat]):=aG _ _ _ hqn;have hS:=jv.start hK (r:=1+q) (by omega) (by omega);have hv0:K.getD (1+q-1).toNat []=K[q.toNat]:=by rw[vd,zab,zac hqn];rfl
 rw[hv0] at hS;simp only[zaT,zaI,zaa,zam,zay,vd,e1];have u0:D.fU (D.sl 1 (bB K[q.toNat]))=bB K[q.toNat]:=rfl;rw[u0];have hNo:BT i l x l K:=⟨hl.mono,hK.mono,λ_ h=>h⟩
 have bk:=hp l K hNo;have hMo: ∀v g,jv i K (1+q) v->y5 l v (1+q) g->(x.what.tmod 8≠7->g.lA=(0,0))->BT i l x (l++[g]) (K.set q.toNat (bM (gO v (1+q) (e7 v (1+q)+1)))):=λv g hv hg hz=>by
  have:=hg.qdd hl hK ⟨h0,by omega⟩ (by omega) (by omega) hv;rw[vd] at this;refine⟨this.1,this.2,λh7 hy y hy2=> ?_⟩;rcases zaB.1 hy2 with h |h
  ·exact hy y h
  rw[za6.1 h];exact hz h7
 have hEq: ∀(g:av) (u:List Int) (z:List D),D.agg [D.sl 7 ((l++[g]).map cu),D.sl 1 ((K.set q.toNat u).map λv=>D.sl 1 (bB v))]=D.agg [D.sl 7 (List.take (l.length+1) (List.take l.length (l.map cu)++[cu g])),D.sl 1 (List.take K.length ((K.map λv=>D.sl 1 (bB v)).set q.toNat (D.bc (D.sl 1 z) [D.sl 1 (bB u)])))]:=λg u z=>by simp[D.bc,List.map_set,zan]
 refine ak (by omega) (ak (by omega) (ak (by omega) (ak (by omega) (ao (qaz _) (az (λ_=>⟨l,K,x,1+q,K[q.toNat],rfl,⟨by omega,hS.vec.1,λw hw=>(hK.vec w hw).1⟩,λv hv=> ?a⟩) λ_=> ?b)))))
 case' a=>
  replace hS:jv i K (1+q) v:=by rw[hv];exact jv.all hK (by omega) (by omega) K _ hS λ_ h=>h
  clear hv
 case' b=>generalize K[q.toNat]=v at*
 all_goals
  have hvl:=oa hS.vec.1;have ha:=yX hS.vec.1 (1+q);have hb:=hS.vec.2 (1+q);have hm:=hl.sb h0 v;have r4:=(hl.known v).len;have hrk:aJ K.length 24=true:=bL (by omega) (by omega);have hrl:aJ l.length 88=true:=bL (by omega) (by omega);have qhk:aJ (l.length+1) 88=true:=bL (by omega) (by omega);have hwo:=λg=>hMo v g hS;refine⟨l,v,rfl,rfl,⟨by omega,by omega⟩,λo ho=>⟨v,1+q,rfl,rfl,by omega,ak (by omega) ⟨o,by rw[cC],rfl,by rw[ho];omega,λt ht=>ak (by rw[ho] at ht;omega) (Jy (λh7=> ?_) λh7=> ?_)⟩⟩⟩
  ·refine Jy (λ_=>bk) λcU=> ?_;have hq2:=wa hxa.1 (show(0:Int)<(o.length:Int) by omega);generalize x.a.tmod (o.length:Int)=p at*
   have hpn:p.toNat<o.length:=by omega
   have e2:D.nth (o.map cu) p.toNat=cu o[p.toNat]:=aG _ _ _ hpn;rw[e2];have hym:o[p.toNat]∈aN l v:=ho▸zar hpn;generalize o[p.toNat]=y at*
   refine ak (by omega) (ao (by rw[za5 (by omega)];rfl) (ak (by omega) (ak hpn (ao (mT _) ⟨v,1+q,_,rfl,rfl,⟨by omega,by omega,by omega⟩,λw hw=>ao (by rw[hrk];rfl) (ak (by omega) (ak (by omega) ?_))⟩))))
   try rw[vd,e1]
   refine ak hqn (ao (qaz _) (ao (by rw[hrl];rfl) (ao (by rw[qhk];simp) ?_)));rw[hw];have hg:=hp _ _ (hwo ⟨eW l v (1+q),e7 v (1+q)+1,v,y.s,[]⟩ ⟨rfl,rfl,rfl,.inl ⟨y,hym,rfl,rfl⟩⟩ λh=>absurd h7 h);refine Eq.mp (congrArg (λz=>ae (P.d z,[])) ?_) hg;rw[ht,ho];exact hEq _ _ _
  refine⟨i,l,v,1+q,x,by rw[cC,ho,ht,ho];rfl,rfl,⟨hl,⟨h0,hi⟩,hx⟩,λu b hu=>az (λ_=>bk) λdM=>⟨v,1+q,_,rfl,rfl,⟨by omega,by omega,by omega⟩,λw hw=>ao (by rw[hrk];rfl) (ak (by omega) (ak (by omega) ?_))⟩⟩;obtain⟨⟨m,Ch⟩,hu2,hu3⟩:=hu (by simpa using dM)
  try rw[vd,e1]
  refine ak hqn (ao (qaz _) (ao (by rw[hrl];rfl) (ao (by rw[qhk];simp) ?_)));rw[hw];have hg:=hp _ _ (hwo ⟨eW l v (1+q),e7 v (1+q)+1,v,(0,0),[u]⟩ ⟨rfl,rfl,rfl,.inr ⟨rfl,u,m,rfl,Ch,hu2,hu3⟩⟩ λ_=>rfl);refine Eq.mp (congrArg (λz=>ae (P.d z,[])) ?_) hg;rw[ht,ho];exact hEq _ _ _)
theorem bG.le{i j:Int}{l:List av}(h:bG i l)(sF:i<=j):bG j l:=⟨h.JQ,h.nd,λg hg=>by have:=h.sm g hg;exact⟨this.1,by omega,this.2.2⟩,by have:=h.len;omega⟩
theorem qhl(x:cz):cT PR 61 (wx x)=true:=by kernel_rfl
def Vc(m:List cz)(b:List av×List (List Int))(i:Int):S:=if i=0 then lx m else hi3 m b.1 b.2 i
theorem qaB:LD X 6 3 (ah (aL 6 3) qeV):=LD.idx (H:=[(14,LQ)]) (hk:=[]) (by kernel_rfl) (by kernel_rfl) (.cons qe1 .nil) .nil
 (A:=List cz) (B:=List av×List (List Int)) Vc (λm=>min m.length 16)
 (λm i b=>zg m/\(i=0->b=([],[[],[],[]]))/\WOk i b.1 b.2/\((∀x∈m,x.what.tmod 8≠7)-> ∀y∈b.1,y.lA=(0,0)))
 (λm z=>(z=(.exit 0,⟨25,[(3,.ref 0 0 0)],[(0,⟨0,none,.box 58 [.d .dS,.sl 1 0 3]⟩),(1,⟨0,none,arV false [[],[],[]]⟩)]⟩))\/ ∃l K,BU m l/\z=(.exit 0,⟨25,[(3,.ref 0 0 0)],[(0,⟨0,none,bxW l K⟩)]⟩))
 (by
  rintro m ⟨l,K⟩ i ae h0 cj bK ⟨hc,hb,hw,hz⟩ hn aW
  try dsimp only at*
  have hml:i<m.length:=by omega
  have hmn:i.toNat<m.length:=by omega
  have e1:D.nth (m.map wx) i.toNat=wx m[i.toNat]:=aG _ _ _ hmn;have hx:=hc.2 _ (zar hmn);have eH:0<=i/\i<((m.map wx).length:Int):=by rw[zaa];exact⟨h0,hml⟩
  have MO: ∀l' K',BT i l m[i.toNat] l' K'->ae (.normal,hi3 m l' K' (i+1)):=λl' K' h=>by
   have MC:((i.toNat+1:Nat):Int)=i+1:=by omega
   have:=hn (l',K') ⟨hc,λh=>by omega,by rw[MC];exact⟨h.1,h.2.1,by omega,by omega⟩,λhh=>h.2.2 (hh _ (zar hmn)) (hz hh)⟩;unfold Vc at this;rw[zap (by omega)] at this;exact this
  have hwi:WOk i l K:=by rw[show((i.toNat:Nat):Int)=i by omega] at hw;exact hw
  unfold Vc;by_cases lx:i=0
  ·rw[zaq lx];subst lx;have hb:=hb rfl;cases hb
   (rw[<-qbF];delta Zbt Zbu Ee fa OU ZF dP dv Zbr Zq Va OV Zbs Zbp)
   have e2:D.nth (m.map wx) 0=wx m[Int.toNat 0]:=e1;rw[e2];refine bV eH.2 (ak eH (ao (qhl _) ⟨0,[],[[],[],[]],m[Int.toNat 0],rfl,rfl,⟨hwi,hx⟩,λl' K' h=>MO l' K' h⟩))
  rw[zap lx]
  (rw[<-qbE];delta Ee fa OU Zh sa dP dv Zbr Z6 Z5 Zd Zq Va OV Zb Zbq Zbp;rw[e1])
  exact bV eH.2 (bV (by omega) (ak eH (ao (qhl _) ⟨i,l,K,m[i.toNat],rfl,rfl,⟨hwi,hx⟩,λl' K' h=>ak (by omega) (MO l' K' h)⟩))))
 (by
  rintro m ⟨l,K⟩ i ae hi ⟨hc,hb,hw,hz⟩ aW
  try dsimp only at*
  unfold Vc;by_cases lx:i=0
  ·rw[zaq lx]
   (rw[<-qbF];delta Zbt Zbu Ee fa OU ZF dP dv Zbr Zq Va OV Zbs Zbp)
   exact oC (by rw[zaa];omega) (aW _ (λh=>by cases h) (.inl rfl))
  rw[zap lx]
  (rw[<-qbE];delta Ee fa OU Zh sa dP dv Zbr Z6 Z5 Zd Zq Va OV Zb Zbq Zbp)
  have hH:BU m l:=⟨hw.1.le (by omega),hz⟩
  have Nf:=aW _ (λh=>by cases h) (.inr ⟨l,K,hH,rfl⟩);exact gT (λh1=>gT (λh2=>by rw[zaa] at h1;omega) λ_=>Nf) λ_=>Nf)
 (by
  rintro s ae ⟨m,rfl,hc,h1,h2⟩;refine⟨m,([],[[],[],[]]),by unfold Vc;rw[zaq rfl],⟨hc,λ_=>rfl,⟨Uf.1,Uf.2,by decide,by decide⟩,λ_ y hy=>by cases hy⟩,?_⟩;rintro z (rfl | ⟨l,K,h,rfl⟩)
  ·exact h1
  exact h2 l K h)
theorem qhm:FD X 6 qeW:=FD.mk (H:=[]) (hk:=[(3,ah (aL 6 3) qeV)]) (by kernel_rfl) .nil (.cons qaB .nil) (by
 intro ps R ae hh;obtain⟨m,rfl,rfl,hs,h1,h2⟩:=hh
 (rw[<-qhc];delta fa Z59 Z5a ZE Zbt Zbu Z3 Hv dP dv Zbr)
 exact⟨m,rfl,hs,h1,λl _ h=>h2 l h⟩)
end
theorem Vd{b:Bool}{x:aq}{l:List bs}{k:Nat}(h:k<l.length):JV b x (l.take (k+1))=JV b x (l.take k)++goO b x l[k]:=by unfold JV;rw[zaf h,zbu];simp
theorem J0{on:List aO}{x:aq}{l:List av}{i:Nat}(h:i<l.length):lj (l.take (i+1)) on x=lj (l.take i) on x++JV (decide (l[i].s∈on)) x l[i].ops:=by unfold lj;rw[zaf h,zbu];simp
theorem qaC{b:Bool}{x:aq}{o:bs}{n:Nat}(h:o.elems.length<=n):(goO b x o).length<=n:=by
 unfold goO;split
 ·exact h
 exact za7 _
theorem DJ{b:Bool}{x:aq}{n:Nat}: ∀l:List bs,(∀o∈l,o.elems.length<=n)->(JV b x l).length<=n*l.length
 | [],_=>by simp[JV]
 |o::l,h=>by
  have h1:=qaC (b:=b) (x:=x) (h o (.head _));have h2:=DJ (b:=b) (x:=x) l λy hy=>h y (.tail _ hy);unfold JV at*
  rw[zbB,zaj,zam,zdf,zcS];omega
theorem uW{on:List aO}{x:aq}{n:Nat}: ∀l:List av,(∀g∈l,∀o∈g.ops,o.elems.length<=n)->(lj l on x).length<=n*cB l
 | [],_=>by simp[lj]
 |g::l,h=>by
  have h1:=DJ (b:=decide (g.s∈on)) (x:=x) g.ops (h g (.head _));have h2:=uW (on:=on) (x:=x) l λy hy=>h y (.tail _ hy);unfold lj at*
  rw[zbB,zaj,gU,zdf];omega
section
variable{X:XF}
theorem Ve:LD X 34 6 (ah (aL 34 6) UQ):=LD.idx (H:=[(27,Ta)]) (hk:=[]) (by kernel_rfl) (by kernel_rfl) (.cons qbl .nil) .nil
 (A:=List av×List aO×aq×List aq×Int×av) (B:=List aq) (λa o k=>UO a.1 a.2.1 a.2.2.1 o a.2.2.2.2.1 k) (λa=>a.2.2.2.2.2.ops.length)
 (λa k o=>(((0<=a.2.2.2.2.1/\a.2.2.2.2.1<a.1.length)/\a.2.1.length<=1000000)/\D.nth (a.1.map cu) a.2.2.2.2.1.toNat=cu a.2.2.2.2.2/\(a.2.2.2.1.length<=100000000/\a.2.2.2.2.2.ops.length<=1000)/\ ∀o∈a.2.2.2.2.2.ops,o.elems.length<=2000)/\o=a.2.2.2.1++JV (decide (a.2.2.2.2.2.s∈a.2.1)) a.2.2.1 (a.2.2.2.2.2.ops.take k))
 (λa z=>z=(.exit 2,go8 a.1 a.2.1 a.2.2.1 (a.2.2.2.1++JV (decide (a.2.2.2.2.2.s∈a.2.1)) a.2.2.1 a.2.2.2.2.2.ops) a.2.2.2.2.1))
 (by
  rintro⟨l,on,x,o0,i,g⟩ o k ae h0 r4 dy ⟨⟨hb,hg,hl,he⟩,ho⟩ hn aW
  try dsimp only at*
  (rw[<-UP];delta fM zu fB fD fC fw fy lR mn Zab Zm qA HG gk Zaa Zh Zz dP s6 qv vT fa dB Z6 Z5 Zd Zac NY Zb nY jB oQ OP jO vZ Zq oO oP r9 Bw Dj Ye Z9h Dv Dw Dx JM jP kz oB)
  have eH:0<=i/\i<((l.map cu).length:Int):=by rw[zaa];exact hb.1
  have u6:D.fU (D.ax (cu g) 6)=g.ops.map fY:=rfl;have e1:D.nth (g.ops.map fY) k.toNat=fY g.ops[k.toNat]:=aG _ _ _ dy;have lC:=Vd (b:=decide (g.s∈on)) (x:=x) dy;have nb:o.length<=200000000:=by have h1:=DJ (b:=decide (g.s∈on)) (x:=x) (g.ops.take k.toNat) λo ho=>he o (za3 ho);rw[zat] at h1;have h2:2000*min k.toNat g.ops.length<=2000*1000:=Nat.mul_le_mul_left _ (by omega);rw[ho,zaj];omega
  have hye:=he _ (zar dy);rw[hg,u6,e1];have Ec:0<=k/\k<((g.ops.map fY).length:Int):=by rw[zaa];exact⟨h0,r4⟩
  generalize g.ops[k.toNat]=y at*
  have ot:=mT g;have tM:=Nk y;have c0:D.aj (D.ax (fY y) 0)=y.kind:=rfl;have c1:(D.aj (D.ax (fY y) 1)==x.1&&(D.aj (D.ax (fY y) 2)==x.2.1&&true)&&(D.aj (D.ax (fY y) 3)==x.2.2&&true))=(y.node==x):=qz y.node x;have c2:D.fU (D.ax (fY y) 17)=y.elems.map cb:=rfl;rw[c0,c1,c2];have bk: ¬(y.kind=4/\y.node=x/\decide (g.s∈on)=true)->o0++JV (decide (g.s∈on)) x (g.ops.take (k.toNat+1))=o:=λh=>by
   rw[lC,ho];have:goO (decide (g.s∈on)) x y=[]:=by unfold goO;rw[zap h]
   rw[this,zbl]
  have bC:y.kind=4->y.node=x->decide (g.s∈on)=true->o0++JV (decide (g.s∈on)) x (g.ops.take (k.toNat+1))=o++y.elems:=λh1 h2 h3=>by
   rw[lC,ho,zaF];have:goO (decide (g.s∈on)) x y=y.elems:=by unfold goO;rw[zaq ⟨h1,h2,h3⟩]
   rw[this]
  have Vf: ¬(y.kind=4/\y.node=x/\decide (g.s∈on)=true)->ae (.normal,UO l on x o i (k+1)):=λh=>hn o ⟨⟨hb,hg,hl,he⟩,(bk h).symm⟩;refine ak eH (ao ot (bV Ec.2 (ak eH (ao ot (ak Ec (ao tM (Jy (λhk=>az (λhx=>ak eH (ao ot ⟨on,g.s,rfl,rfl,hb.2,λb hbb=>az (λBI=> ?_) λv7=>ak (by omega) (Vf λh=>by rw[hbb,h.2.2] at v7;cases v7)⟩)) λhx=>ak (by omega) (Vf λh=>by rw[h.2.1] at hx;simp at hx)) λhk=>ak (by omega) (Vf λh=>hk h.1))))))));have hy:=hn (o++y.elems) ⟨⟨hb,hg,hl,he⟩,(bC hk (by simpa using hx) (by rw[<-hbb];exact BI)).symm⟩;simp only[UO,fO,zaj,zaG] at hy;have Ch:(y.elems.map cb).length=y.elems.length:=zaa ..;rw[cC,Ch];refine ao ?_ (ak (by omega) hy);rw[zad];exact⟨by simp,bL (by omega) (by omega)⟩)
 (by
  rintro⟨l,on,x,o0,i,g⟩ o k ae hk ⟨⟨hb,hg,hl,he⟩,ho⟩ aW
  try dsimp only at*
  (rw[<-UP];delta fM zu fB fD fC fw fy lR mn Zab Zm qA HG gk Zaa Zh Zz dP s6 qv vT fa dB Z6 Z5 Zd Zac NY Zb nY jB oQ OP jO vZ Zq oO oP r9 Bw Dj Ye Z9h Dv Dw Dx JM jP kz oB)
  have eH:0<=i/\i<((l.map cu).length:Int):=by rw[zaa];exact hb.1
  have u6:D.fU (D.ax (cu g) 6)=g.ops.map fY:=rfl;rw[hg,u6];refine ak eH (ao (mT g) (oC (by rw[zaa];omega) (aW _ (λh=>by cases h) ?_)));rw[ho,zag])
 (by rintro s ae ⟨l,on,x,o,i,g,hg,rfl,⟨h1,h2,h3,h4⟩,hp⟩;refine⟨(l,on,x,o,i,g),o,rfl,⟨⟨⟨h1,h2⟩,hg,h3,h4⟩,by simp[JV]⟩,?_⟩;rintro z rfl;exact hp _ rfl)
theorem qaD:LD X 34 3 (ah (aL 34 3) qeE):=LD.idx (H:=[]) (hk:=[(6,ah (aL 34 6) UQ)]) (by kernel_rfl) (by kernel_rfl) .nil (.cons Ve .nil)
 (A:=List av×List aO×aq) (B:=List aq) (λa o i=>go8 a.1 a.2.1 a.2.2 o i) (λa=>a.1.length)
 (λa i o=>N7 a.1 a.2.1/\o=lj (a.1.take i) a.2.1 a.2.2)
 (λa z=>z=(.exit 0,⟨58,[(7,.sl 0 0 (lj a.1 a.2.1 a.2.2).length)],[(0,⟨0,none,fO false (lj a.1 a.2.1 a.2.2)⟩)]⟩))
 (by
  rintro⟨l,on,x⟩ o i ae h0 cj bK ⟨hc,ho⟩ hn aW
  try dsimp only at*
  (rw[<-UR];delta fM zu q6 gk oE fB fD fC fw fy lR mn Zab Zh sc Zaa dP s6 qv vT fa dB Z6 Z5 Zd jO vZ tR Z3 Zm qA Zad kz yM)
  have lC:=J0 (on:=on) (x:=x) bK;have h1:=uW (on:=on) (x:=x) (n:=2000) (l.take i.toNat) λg hg=>hc.2 g (za3 hg);rw[<-ho] at h1;have h2:=qf l (i.toNat+1);have h3:=n0 bK;have h4:=hc.1;refine bV (by rw[zaa];exact cj) ⟨l,on,x,o,i,l[i.toNat],aG _ _ _ bK,rfl,⟨⟨h0,cj⟩,by omega,⟨by omega,by omega⟩,hc.2 _ (zar bK)⟩,λo' fA=>ak (by omega) (hn o' ⟨hc,?_⟩)⟩;rw[fA,ho,lC])
 (by
  rintro⟨l,on,x⟩ o i ae hi ⟨hc,ho⟩ aW
  try dsimp only at*
  (rw[<-UR];delta fM zu q6 gk oE fB fD fC fw fy lR mn Zab Zh sc Zaa dP s6 qv vT fa dB Z6 Z5 Zd jO vZ tR Z3 Zm qA Zad kz yM)
  refine oC (by rw[zaa];omega) (aW _ (λh=>by cases h) ?_);rw[ho,zag])
 (by rintro s ae ⟨l,on,x,rfl,hc,hp⟩;refine⟨(l,on,x),[],rfl,⟨hc,rfl⟩,?_⟩;rintro z rfl;exact hp _ rfl)
theorem qe2:FD X 34 US:=FD.mk (H:=[]) (hk:=[(3,ah (aL 34 3) qeE)]) (by kernel_rfl) .nil (.cons qaD .nil) (by
 intro ps R ae hh;obtain⟨l,on,x,rfl,rfl,hs,hp⟩:=hh
 (rw[<-qg6];delta fM zu q6 gk oE VL fB fD fC fw fy lR mn Z3 yT rI dP s6 qv vT fa dB Zae)
 exact⟨l,on,x,rfl,hs,λo ho=>hp o ho⟩)
theorem LR(x y:aq):qX x.1 x.2.1 x.2.2 y.1 y.2.1 y.2.2>0↔lz y x=true:=by
 unfold lz;simp only[zal,qX,Gc,orI,Gb]
 (repeat' split)<;>omega
theorem Vg:LD X 86 8 (ah (aL 86 8) UT):=LD.ins (H:=[(55,iN)]) (hk:=[]) (by kernel_rfl) (by kernel_rfl) (.cons la .nil) .nil
 (A:=List br×aq×Nat×Int) (α:=br) (λa o k=>qav a.1 a.2.1 o a.2.2.1 a.2.2.2 k) gtE (λa=>a.2.2.1) (λ_=>True) (λa o=>(.exit 2,⟨67,[(0,mX a.1),(3,.ref 0 0 0),(5,.sl 1 0 a.2.2.1),(6,iD a.2.2.2)],[(0,⟨0,none,od a.2.1⟩),(1,⟨0,none,gG false o⟩)]⟩)) (λ_ _ h=>by cases h)
 (by
  rintro⟨l,v,n,i⟩ o k ae _ h0 yV nb hk hz bk bC
  try dsimp only at*
  subst yV
  (rw[<-qeF];delta lS v8 fB fD fC fw fy lR mn Zm ei BH HB dP dv HL Zak Zb tV VT VU Zag Zl Z8 N8 Zah Zai Zq Zx ZM Za1 tT Z6 Z5 Z7 zz JS mZ Zk)
  refine gT (λhp=> ?_) λhp=>hz (by omega);have gJ:k.toNat-1<o.length:=by omega
  have ek:(k-1).toNat=k.toNat-1:=by omega
  have e1:D.nth (o.map dH) k.toNat=dH o[k.toNat]:=aG _ _ _ hk;have e2:D.nth (o.map dH) (k.toNat-1)=dH o[k.toNat-1]:=aG _ _ _ gJ;have bk:=bk hp;have bC:=bC hp;have uN:=iQ dH o k.toNat o[k.toNat] o[k.toNat-1];have e3: ∀z,D.nth ((o.map dH).set k.toNat z) (k.toNat-1)=dH o[k.toNat-1]:=λz=>by unfold D.nth;rw[zab,zaY (by omega)];simp[gJ]
  rw[ek,e1,e2];simp only[e3];generalize o[k.toNat]=x at*
  generalize o[k.toNat-1]=y at*
  simp only[zaa,zbi] at bC⊢;have uO:0<=k/\k<(o.length:Int):=⟨h0,by omega⟩
  have uP:0<=k-1/\k-1<(o.length:Int):=⟨by omega,by omega⟩
  have hf:(-9223372036854775808:Int)<=k-1/\k-1<=9223372036854775807:=by omega
  refine ak uO (ak hk (ao (rW _) (ak hf (ak uP (ak gJ (ao (rW _) ⟨x.1.1,x.1.2.1,x.1.2.2,y.1.1,y.1.2.1,y.1.2.2,rfl,rfl,gT (λh=> ?_) λh=>bk (by rw[<-zbS];exact λh2=>h ((LR x.1 y.1).2 h2))⟩))))));have hy:=bC ((LR x.1 y.1).1 h);simp only[qav,gG] at hy;rw[<-uN] at hy;refine ak hf (ak hf (ak uP (ak gJ (ao (rW _) (ak uO (ak hk (ao (rW _) (ak uO (ak hk (ao (rW _) (ak uP (ak gJ (ao (rW _) (ak hf ?_))))))))))))));exact hy)
 (by rintro s ae ⟨l,v,o,x,n,i,k,rfl,⟨hk,hn,ho⟩,hp⟩;refine⟨(l,v,n,i),o,x,k,rfl,hk,trivial,⟨hn.symm,ho⟩,?_⟩;have:=hp _ rfl;rw[be8,js,<-hn] at this;exact this)
theorem qaE:LD X 86 3 (ah (aL 86 3) qeG):=LD.idx (H:=[]) (hk:=[(8,ah (aL 86 8) UT)]) (by kernel_rfl) (by kernel_rfl) .nil (.cons Vg .nil)
 (A:=List br×aq) (B:=List br) (λa o i=>be8 a.1 a.2 o i) (λa=>a.1.length) (λa i o=>a.1.length<=1000000/\o=iT (a.1.take i) a.2)
 (λa x=>x=(.exit 0,⟨67,[(5,.sl 0 0 (iT a.1 a.2).length)],[(0,⟨0,none,gG false (iT a.1 a.2)⟩)]⟩))
 (by
  rintro⟨l,v⟩ o i ae h0 cj bK ⟨hm,ho⟩ hn aW
  try dsimp only at*
  (rw[<-UW];delta lS v8 oX Am lE tW N4 LM Zm oW HB Zb tV VT VU Zag DG Zao fB fD fC fw fy lR mn ei dP dv HL Z6 Z5 UU UA Zh Zt Zd Zam zz Zal)
  have nb:o.length<=i.toNat:=by rw[ho];unfold iT;rw[kA];refine zaE (za2 _ _) ?_;rw[zat];omega
  have e1:D.nth (l.map dH) i.toNat=dH l[i.toNat]:=aG _ _ _ bK;have ng:iT (l.take (i.toNat+1)) v=if l[i.toNat].2.1=v then ct gtE o l[i.toNat] else o:=by
   unfold iT at ho⊢;rw[zaf bK,zcd];split
   next hc=>rw[zce (by simpa using hc),zcp,rQ,ho]
   rename_i hc;rw[zcf (by simpa using hc),zcp,zbl,ho]
  have b9:=λo' (fA:o'=if l[i.toNat].2.1=v then ct gtE o l[i.toNat] else o)=>hn o' ⟨hm,by rw[ng];exact fA⟩;generalize l[i.toNat]=d at*
  rw[e1];have t1:List.take o.length (o.map dH)++[dH d]=(o++[d]).map dH:=b7 dH o d;have c1:(D.aj (D.ax (dH d) 3)==v.1&&(D.aj (D.ax (dH d) 4)==v.2.1&&true)&&(D.aj (D.ax (dH d) 5)==v.2.2&&true))=(d.2.1==v):=qz d.2.1 v;have eH:0<=i/\i<((l.map dH).length:Int):=by rw[zaa];exact⟨h0,cj⟩
  rw[c1];refine bV eH.2 (ak eH (ao (rW _) (az (λhx=>ak (by omega) (b9 o (by rw[zap (by simpa using hx)]))) λhx=>ak eH (ao (rW _) ?_))));have z6:d.2.1=v:=by simpa using hx
  simp only[zaa,zam,zay,zaI];refine ao ?_ (ak (by omega) ⟨l,v,o,d,o.length+1,i,((o.length+1:Nat):Int)-1,congrArg (λz=>(⟨67,[(0,mX l),(3,.ref 0 0 0),(5,.sl 1 0 (o.length+1)),(6,iD i),(7,iD (((o.length+1:Nat):Int)-1))],[(0,⟨0,none,od v⟩),(1,⟨0,none,.arr 101 false z⟩)]⟩:S)) t1,⟨by omega,rfl,by omega⟩,λo' fA=>ak (by omega) (b9 o' (by rw[zaq z6];exact fA))⟩);rw[zad];exact⟨by simp,dh (by omega) (by omega)⟩)
 (by
  rintro⟨l,v⟩ o i ae hi ⟨hm,ho⟩ aW
  try dsimp only at*
  (rw[<-UW];delta lS v8 oX Am lE tW N4 LM Zm oW HB Zb tV VT VU Zag DG Zao fB fD fC fw fy lR mn ei dP dv HL Z6 Z5 UU UA Zh Zt Zd Zam zz Zal)
  refine oC (by rw[zaa];omega) (aW _ (λh=>by cases h) ?_);rw[ho,zag])
 (by rintro s ae ⟨l,v,rfl,hs,hp⟩;refine⟨(l,v),[],rfl,⟨hs,rfl⟩,?_⟩;rintro x rfl;exact hp _ rfl)
theorem qbI:FD X 86 UX:=FD.mk (H:=[]) (hk:=[(3,ah (aL 86 3) qeG)]) (by kernel_rfl) .nil (.cons qaE .nil) (by
 intro ps R ae hh;obtain⟨l,v,rfl,rfl,hs,hp⟩:=hh
 (rw[<-qg7];delta lS v8 oX Am lE tW VS LM Z9U fB fD fC fw fy lR mn Z3 DZ rI dP dv HL Zap)
 exact⟨l,v,rfl,hs,λo ho=>hp o ho⟩)
theorem qaF:LD X 60 4 (ah (aL 60 4) qeI):=LD.par (H:=[(86,UX)]) (hk:=[]) (by kernel_rfl) (by kernel_rfl) (.cons qbI .nil) .nil
 (A:=List br) (B:=List br×List br) (λa b=>or8 a b.1 b.2) (λa b=>UY a/\uU a b.1 b.2/\b.1++tF a (a.length+1) b.2=rU a) (λa b=>a.length-b.1.length)
 (λa z=>z=(.exit 0,⟨35,[(4,.sl 0 0 (rU a).length)],[(0,⟨0,none,gG false (rU a)⟩)]⟩))
 (by
  rintro a ⟨o,w⟩ ⟨hc,hw,hx⟩
  try dsimp only at*
  (rw[<-qeH];delta lS v8 oX Am lE tW Zau zb DG Zas Zat VR Zq fB fD fC fw fy nc iP wY OS Zar UA)
  have hl:=hw.len;have hc1:=hc.1;cases w with
  |nil=>
   refine oC (by simp) ?_;have:o=rU a:=by rw[<-hx];simp[tF]
   rw[this];rfl
  |cons x w=>
   rw[zam] at hl;have hs:=hw.step hc.2.1 hc.2.2;have CL:=hs.len;rw[zaj,zaj,zaU] at CL;have hm:=BQ hc.2.1 hc.2.2 a.length (a.length+1) (o++[x]) (iT a x.1++w) hs (by rw[zaj,zaU];omega) (by rw[zaj,zaU];omega);have z6:(o++[x])++tF a (a.length+1) (iT a x.1++w)=rU a:=by rw[<-hm,<-hx,zaF];rfl
   have e1:D.nth ((x::w).map dH) 0=dH x:=rfl;rw[e1];have t2:D.agg [D.int .i64 (D.aj (D.ax (dH x) 0)),D.int .i64 (D.aj (D.ax (dH x) 1)),D.int .i64 (D.aj (D.ax (dH x) 2)),D.int .i64 (D.aj (D.ax (dH x) 3)),D.int .i64 (D.aj (D.ax (dH x) 4)),D.int .i64 (D.aj (D.ax (dH x) 5)),D.str (D.cm (D.ax (dH x) 6))]=dH x:=rfl;have t3:List.take ((x::w).length-1) (List.drop 1 ((x::w).map dH))=w.map dH:=by rw[zaO,zb6,zbn,zam,Nat.add_sub_cancel,cC]
   rw[t2,t3,b7];refine bV (by rw[zam];omega) (ak (by rw[zam];omega) (ak (by simp) (ao (rW _) (ak (by rw[zam];omega) (ao (iy rfl (by rw[zaa]) (by omega) (by decide)) ⟨a,x.1,by rw[cC];rfl,rfl,hc.1,λb hb=> ?_⟩)))));have Qz:b.length+w.length<=1000000:=by rw[hb];omega
   rw[cC];have t4:List.take (0+(b.map dH).length) ([]++b.map dH)++w.map dH=(b++w).map dH:=by rw[zaT,zaI,zag,zaG]
   rw[t4];refine ao ?_ (ao ?_ ⟨a.length-(o.length+1),by omega,(o++[x],b++w),?_,⟨hc,by rw[hb];exact hs,by rw[hb];exact z6⟩,by rw[zaj,zaU]⟩)
   ·rw[zad];exact⟨by simp,bL (by rw[zaa];omega) (by rw[zaa];omega)⟩
   ·rw[zad];exact⟨by simp,bL (by rw[zaa,zaa];omega) (by rw[zaa,zaa];omega)⟩
   simp only[or8,zaj,zaa,zaI,zam,zay])
 (by rintro s ae ⟨a,rfl,hc,hp⟩;refine⟨a,([],iT a aD),rfl,⟨hc,uU.start hc.2.1,rfl⟩,?_⟩;rintro z rfl;exact hp _ rfl)
theorem qhn:FD X 60 qeJ:=FD.mk (H:=[(85,UE),(86,UX)]) (hk:=[(4,ah (aL 60 4) qeI)]) (by kernel_rfl) (.cons qby (.cons qbI .nil)) (.cons qaF .nil) (by
 intro ps R ae hh;obtain⟨l,rfl,rfl,hs,hp⟩:=hh
 (rw[<-qg8];delta lS v8 oX Am lE tW VS Z9U Zau rI zb VR fB fD fC fw fy nc iP Z3 VA DG Zq wY)
 have bK:=uT (l:=l) _ (zai _);have VQ:=oc (l:=l) _ (zai _);rw[zag] at bK VQ;have hle:(qC l).length<=1000000:=zaE VQ hs.2.1;refine⟨l,rfl,rfl,hs,λo ho=>⟨o,aD,by rw[cC],rfl,by rw[ho];exact hle,λb hb=>⟨o,by rw[hb],⟨by rw[ho];exact hle,by rw[ho];exact bK.1,λe he=>(bK.2 e (ho▸he)).1⟩,λu hu=>hp u (by rw[hu,ho])⟩⟩⟩)
theorem qaG:LD X 32 4 (ah (aL 32 4) qeK):=LD.idx (H:=[(27,Ta),(58,JA)]) (hk:=[]) (by kernel_rfl) (by kernel_rfl) (.cons qbl (.cons SP .nil)) .nil
 (A:=List aO×List aq×List br) (B:=List br) (λa o i=>se8 a.1 a.2.1 a.2.2 o i) (λa=>a.2.2.length) (λa i o=>(a.1.length<=1000000/\a.2.1.length<=1000000/\a.2.2.length<=1000000)/\o=(a.2.2.take i).filter (JW a.1 a.2.1))
 (λa x=>x=(.exit 0,⟨44,[(8,.sl 0 0 (a.2.2.filter (JW a.1 a.2.1)).length)],[(0,⟨0,none,gG false (a.2.2.filter (JW a.1 a.2.1))⟩)]⟩))
 (by
  rintro⟨on,g,a⟩ o i ae h0 cj bK ⟨hc,ho⟩ hn aW
  try dsimp only at*
  (rw[<-U0];delta lS v8 oX Am Zh Zz lE tW fM iw qv vT Z6 Z5 Zd Zav Zb tV VT VU Zag DG Zao UU UA gk mq fB fD fC fw fy nc iP Za1 OP jO vZ Zq oO oP r9 zz JS Ux Z9u)
  have nb:o.length<=i.toNat:=by rw[ho];refine zaE (za2 _ _) ?_;rw[zat];omega
  have e1:D.nth (a.map dH) i.toNat=dH a[i.toNat]:=aG _ _ _ bK;have ng:(a.take (i.toNat+1)).filter (JW on g)=if JW on g a[i.toNat]=true then o++[a[i.toNat]] else o:=by
   rw[zaf bK,zcd,<-ho];split
   next h=>rw[zce h];rfl
   rename_i h;rw[zcf h,zcp,zbl]
  have b9:=λo' (fA:o'=if JW on g a[i.toNat]=true then o++[a[i.toNat]] else o)=>hn o' ⟨hc,by rw[ng];exact fA⟩;generalize a[i.toNat]=e at*
  rw[e1];have t2:D.agg [D.int .i64 (D.aj (D.ax (dH e) 0)),D.int .i64 (D.aj (D.ax (dH e) 1)),D.int .i64 (D.aj (D.ax (dH e) 2)),D.int .i64 (D.aj (D.ax (dH e) 3)),D.int .i64 (D.aj (D.ax (dH e) 4)),D.int .i64 (D.aj (D.ax (dH e) 5)),D.str (D.cm (D.ax (dH e) 6))]=dH e:=rfl;rw[t2,b7];have eH:0<=i/\i<(a.length:Int):=⟨h0,cj⟩
  have NV:i.toNat<(a.map dH).length:=by rw[zaa];exact bK
  have oK: ¬(Nj e.1∈on)->JW on g e=false:=λh=>by unfold JW;rw[za5 h];rfl
  refine bV cj (ak eH (ak NV (ao (rW _) ⟨on,Nj e.1,rfl,rfl,hc.1,λb hb=>az (λBI=>ak eH (ak NV (ao (rW _) ⟨g,e.1,rfl,rfl,hc.2.1,az (λhg=>ak eH (ak NV (ao (rW _) ?_))) λhg=>ak (by omega) (b9 o ?_)⟩))) λv7=>ak (by omega) (b9 o ?_)⟩)))
  ·have jy:JW on g e=true:=by unfold JW;rw[<-hb,BI,hg];rfl
   have hy:=b9 _ rfl;rw[zaq jy] at hy;simp only[se8,zaj] at hy;exact ao (iy rfl (by rw[zaa]) (by omega) (by decide)) (ak (by omega) hy)
  ·have jy:JW on g e=false:=by unfold JW;rw[hg,Bool.and_false]
   rw[jy];rfl
  rw[oK (by rw[hb,zaM] at v7;exact v7)];rfl)
 (by
  rintro⟨on,g,a⟩ o i ae hi ⟨hc,ho⟩ aW
  try dsimp only at*
  (rw[<-U0];delta lS v8 oX Am Zh Zz lE tW fM iw qv vT Z6 Z5 Zd Zav Zb tV VT VU Zag DG Zao UU UA gk mq fB fD fC fw fy nc iP Za1 OP jO vZ Zq oO oP r9 zz JS Ux Z9u)
  refine oC (by omega) (aW _ (λh=>by cases h) ?_);rw[ho,zag])
 (by rintro s ae ⟨on,g,a,rfl,hs,hp⟩;refine⟨(on,g,a),[],rfl,⟨hs,rfl⟩,?_⟩;rintro x rfl;exact hp _ rfl)
theorem He{l:List bn}(hs:eT l):(rU (qC l)).length<=1000000:=by
 have bK:=uT (l:=l) _ (zai _);have VQ:=oc (l:=l) _ (zai _);rw[zag] at bK VQ;have:=y8 bK.1 (λe he=>(bK.2 e he).1) ((qC l).length+1) [] _ (uU.start bK.1);have:=hs.2.1;unfold rU;rw[zay] at*
 omega
theorem qaH:FD X 32 JX:=FD.mk (H:=[(60,qeJ)]) (hk:=[(4,ah (aL 32 4) qeK)]) (by kernel_rfl) (.cons qhn .nil) (.cons qaG .nil) (by
 intro ps R ae hh;obtain⟨l,on,g,rfl,rfl,hs,hp⟩:=hh
 (rw[<-qg9];delta lS v8 oX Am lE tW VS LM gk mq jO vZ Z9U Z3 rI fM iw qv vT Zaw Zq wY)
 exact⟨l,rfl,rfl,hs.1,λo ho=>⟨on,g,o,rfl,⟨hs.2.1,hs.2.2,by rw[ho];exact He hs.1⟩,λu hu=>hp u (by rw[hu,ho];rfl)⟩⟩)
theorem qaI:LD X 12 3 (ah (aL 12 3) qeL):=LD.idx (H:=[]) (hk:=[]) (by kernel_rfl) (by kernel_rfl) .nil .nil
 (A:=List br) (B:=List UInt8) (λl s i=>tx8 l s i) (λl=>l.length) (λl i s=>(l.length<=1000000/\(gl l).length<=1000000000000)/\s=gl (l.take i))
 (λl x=>x=(.exit 0,⟨19,[(3,sD (gl l))],[]⟩))
 (by
  rintro l s i ae h0 cj bK ⟨hc,hs⟩ hn aW
  try dsimp only at*
  (rw[<-U1];delta ZV Zh sa lS HL Z6 Z5 Zd Zr Zb tV ZX zz Zal)
  have e1:D.nth (l.map dH) i.toNat=dH l[i.toNat]:=aG _ _ _ bK;have ng:gl (l.take (i.toNat+1))=s++l[i.toNat].2.2:=by unfold gl;rw[zaf bK,zbu,hs];simp[gl]
  have hle:(gl (l.take (i.toNat+1))).length<=(gl l).length:=by
   have:gl l=gl (l.take (i.toNat+1))++gl (l.drop (i.toNat+1)):=by unfold gl;rw[<-zbu,zbv]
   rw[this,zaj];omega
  rw[ng,zaj] at hle;have eH:0<=i/\i<((l.map dH).length:Int):=by rw[zaa];exact⟨h0,cj⟩
  have b9:=hn _ ⟨hc,ng.symm⟩;rw[e1];generalize l[i.toNat]=e at*
  have c6:D.cm (D.ax (dH e) 6)=e.2.2:=rfl;rw[c6];refine bV eH.2 (ak eH (ao (rW _) (ak (by omega) (ak (by omega) b9)))))
 (by
  rintro l s i ae hi ⟨hc,hs⟩ aW
  try dsimp only at*
  (rw[<-U1];delta ZV Zh sa lS HL Z6 Z5 Zd Zr Zb tV ZX zz Zal)
  refine oC (by rw[zaa];omega) (aW _ (λh=>by cases h) ?_);rw[hs,zag])
 (by rintro s ae ⟨l,rfl,hs,hp⟩;refine⟨l,[],rfl,⟨hs,rfl⟩,?_⟩;rintro x rfl;exact hp _ rfl)
theorem qe3:FD X 12 U2:=FD.mk (H:=[]) (hk:=[(3,ah (aL 12 3) qeL)]) (by kernel_rfl) .nil (.cons qaI .nil) (by
 intro ps R ae hh;obtain⟨l,rfl,rfl,hs,hp⟩:=hh
 (rw[<-qha];delta ZV lE LM Z3 Hv ZO Z1k lS HL)
 exact⟨l,rfl,hs,λo ho=>hp o ho⟩)
end
def rX(l:List av)(on:List aO)(x:aq):List br:=UZ (cd l x) on (lj l on x)
def SmT(l:List av):Prop:=SmL l/\ ∀x,eT (cd (au l) x)/\N7 (au l) (dE l)/\(lj (au l) (dE l) x).length<=1000000
theorem qe4(l:List av)(x:aq)(ae:P×List (Nat×En)->Prop):(∃(ar:List av),BL l=BL ar/\Zq/\SmL ar/\ ∀(m:List av),m=au ar-> ∃(l:List av),[OQ m]=BL l/\Zq/\oR l/\ ∀(o:List Hd),o=List.map Di l-> ∃(l:List Hd),[P.d (D.sl 4 (OD o))]=[P.d (D.sl 4 (List.map fN l))]/\Zq/\Du l/\ ∀(o:List aO),o=onX l-> ∃(l:List av) (a7:aq),OQ m::iP x=fa l::iP a7/\Zq/\Us l/\ ∀(aZ:List bn),aZ=cd l a7-> ∃(l:List av) (on:List aO) (x_2:aq),OQ m::P.d (Z9d o)::iP x=fa l::qv on::iP x_2/\Zq/\N7 l on/\ ∀(NZ:List aq),NZ=lj l on x_2-> ∃(l:List bn) (on:List aO) (g:List aq),[Za4 aZ,P.d (Z9d o),N0 NZ]=[wY l,qv on,iw g]/\Zq/\(eT l/\vZ on/\mq g)/\ ∀(o:List br),o=UZ l on g->VS ae o)=(aK [(24,Sr),(26,TB),(25,TI),(33,Ut),(34,US),(32,JX)] [] 13 [dD l,.d (cb x)] []) ae:=by kernel_rfl
def Vh:bh:=λps R ae=> ∃l x,ps=[dD l,.d (cb x)]/\R=[]/\SmT l/\ ∀o,o=rX (au l) (dE l) x->ae (.sl 0 0 o.length,[(0,⟨0,none,gG false o⟩)])
abbrev DK(z:Bool)(l:List cg):Obj:= .arr 33 z (l.map ke)
def km(l:List av)(on:List aO)(x:It):cg:=(x.2.1,x.2.2.1,if x.2.2.1=true then [] else gl (rX l on x.1))
abbrev en4(l:List av)(o:List aO)(p:List Pl)(h g:List aT)(x:List It)(e:List cg)(i:Int):S:=⟨41,[(0,dD l),(3,.ref 0 0 0),(4,.sl 1 0 e.length),(5,iD i)],[(0,⟨0,none,.box 45 [.d (.sl 2 (o.map eD)),.d (.sl 8 (p.map eV)),.d (.sl 5 (h.map ki)),.d (.sl 5 (g.map ki)),.d (.sl 6 (x.map dW))]⟩),(1,⟨0,none,DK false e⟩)]⟩
def Zby(e:List cg):Nat×P:=(4,P.sl 0 0 (qW e))
def Zbx(x:List It)(i:Int):List D:=[D.agg [D.str (D.cm (D.ax (zr x i) 3)),D.bool (D.eY (D.ax (zr x i) 4)),ZO]]
def Zbw(o:List aO)(p:List Pl)(h:List aT)(g:List aT)(x:List It):Nat×En:=(0,En.mk 0 none (Obj.box (45:TypeId) [qv o,ij p,uM h,uM g,P.d (D.sl 6 (List.map dW x))]))
def Zbv(x:List It)(i:Int)(t:List UInt8):List D:=[D.agg [D.str (D.cm (D.ax (zr x i) 3)),D.bool (D.eY (D.ax (zr x i) 4)),D.str t]]
theorem qbJ(l:List av)(o:List aO)(p:List Pl)(h g:List aT)(x:List It)(e:List cg)(i:Int)(ae:PX×S->Prop):(bif decide (i<(↑(OJ x):Int)) then ob (decide ((0:Int)<=i/\i<(↑(OJ x):Int))) (ob (cT PR (52:TypeId) (zr x i)) (bif !D.eY (D.ax (zr x i) 4) then∃(ar:List av) (a7:aq),[fa l,P.d (D.agg [D.int .i64 (D.aj (D.ax (zr x i) 0)),D.int .i64 (D.aj (D.ax (zr x i) 1)),D.int .i64 (D.aj (D.ax (zr x i) 2))])]=fa ar::iP a7/\Zq/\SmT ar/\ ∀(aZ:List br),aZ=rX (au ar) (dE ar) a7-> ∃(jz:List bn),[P.d (D.sl 7 (DG aZ))]=[wY jz]/\Zq/\(VR jz/\List.length (gl jz)<=1000000000000)/\ ∀(t:List UInt8),t=gl jz->ob (Z2N e&&aJ (qW e+List.length (Zbv x i t)) 40) (ob (Zd i) (ae (PX.normal,S.mk 41 (dB l::dv::(4,P.sl 1 0 (qW e+List.length (Zbv x i t)))::Zi i) [Zbw o p h g x,(1,En.mk 0 none (Obj.arr (33:TypeId) false (RA e++Zbv x i t)))]))) else ob (Z2N e&&aJ (qW e+List.length (Zbx x i)) 40) (ob (Zd i) (ae (PX.normal,S.mk 41 (dB l::dv::(4,P.sl 1 0 (qW e+List.length (Zbx x i)))::Zi i) [Zbw o p h g x,(1,En.mk 0 none (Obj.arr (33:TypeId) false (RA e++Zbx x i)))]))))) else ae (PX.exit 0,S.mk 41 [Zby e] (K6 e)))=(aC [(13,Vh),(12,U2)] [] 5 4 (en4 l o p h g x e i)) ae:=by kernel_rfl
def qe5:S->K (PX×S):=λs ae=> ∃l o p h g x,s=en4 l o p h g x [] 0/\(SmT l/\x.length<=1000000)/\ ∀e,e=x.map (km (au l) (dE l))->ae (.exit 0,⟨41,[(4,.sl 0 0 e.length)],[(0,⟨0,none,DK false e⟩)]⟩)
theorem qiM(l:List av)(ae:P×List (Nat×En)->Prop):(∃(ar:List av),BL l=BL ar/\Zq/\SmS ar/\ ∀(o:List aO) (t:Tl) (p:List Pl) (x:List It),o=dE ar->t=gF o (au ar)->p=lD (au ar) t->x=JP (au ar) t-> ∃(jz:List av) (aZ:List aO) (lr:List Pl) (h:List aT) (g:List aT) (a7:List It),S.mk 41 (dB l::dv::(4,rI)::ZB) [(0,En.mk 0 none (Obj.box (45:TypeId) [qv o,ij p,P.d (D.sl 5 (List.map ki (Tl.h t))),P.d (D.sl 5 (List.map ki (Tl.g t))),P.d (D.sl 6 (List.map dW x))])),(1,Z2U)]=S.mk 41 (dB jz::dv::(4,rI)::ZB) [Zbw aZ lr h g a7,(1,Z2U)]/\(SmT jz/\List.length a7<=1000000)/\ ∀(e:List cg),e=List.map (km (au jz) (dE jz)) a7->ae (P.sl 0 0 (qW e),K6 e))=(aK [(11,GZ)] [(4,ah (aL 5 4) qe5)] 5 [dD l] []) ae:=by kernel_rfl
def oe(l:List av):List cg:=(JP (au l) (gF (dE l) (au l))).map (km (au l) (dE l))
def qe6:bh:=λps R ae=> ∃l,ps=[dD l]/\R=[]/\(SmS l/\SmT l)/\ ∀e,e=oe l->ae (.sl 0 0 e.length,[(0,⟨0,none,DK false e⟩)])
section
variable{T:List Pl}{V V':List aq}
theorem J1(a:List (List UInt8))(b:List UInt8):cE (a++[b])=cE a++47::b:=by simp[cE]
theorem uX{x:It}:x∈bY T V↔ ∃p∈aQ T V,x=dQ T V p:=by rw[jt.mem_iff,zaX];exact⟨λ⟨p,h1,h2⟩=>⟨p,h1,h2.symm⟩,λ⟨p,h1,h2⟩=>⟨p,h1,h2.symm⟩⟩
theorem uY:(bY T V).length<=T.length:=by rw[jt.length_eq,zaa];exact za2 _ _
end
theorem LS: ∀(n:Nat) (s p:List UInt8),p∈Dc n s->p.length<=s.length
 |0,s,p,h=>by unfold Dc at h;cases h
 |n+1,[],p,h=>by unfold Dc at h;cases h
 |n+1,a::s,p,h=>by
  unfold Dc at h;rcases zas.1 h with rfl |h
  ·rw[zat];exact Nat.min_le_right _ _
  have:=LS n _ p h;rw[za0] at this;omega
theorem qaJ{t p:List UInt8}(h:p∈kj t):p.length<=t.length:=by
 unfold kj at h;split at h
 ·exact LS _ _ _ h
 cases h
theorem Vi{r:bn}{o:List br}{n:Nat}(ho: ∀e∈o,e.2.2.length<=n){l:List (List UInt8)}(hl: ∀p∈l,p.length<=n): ∀i,i<=l.length-> ∀e∈Ed r o (l.take i),e.2.2.length<=n
 |0,_=>by simpa [Ed] using ho
 |i+1,hi=>by
  rw[pS (by omega)];have ih:=Vi (r:=r) ho hl i (by omega);intro e he;unfold N1 at he;split at he
  ·exact ih e he
  rcases zaB.1 he with he |he
  ·exact ih e he
  rw[za6.1 he];exact hl _ (zar _)
theorem J2{l:List bn}{n:Nat}(hl: ∀r∈l,r.2.2.length<=n): ∀i,i<=l.length-> ∀e∈qC (l.take i),e.2.2.length<=n
 |0,_=>by simp[qC]
 |i+1,hi=>by rw[pU (by omega)];have:=Vi (r:=l[i]'(by omega)) (J2 hl i (by omega)) (l:=kj (l[i]'(by omega)).2.2) (λp hp=>zaE (qaJ hp) (hl _ (zar _))) _ (zai _);rw[zag] at this;exact this
theorem tJ{all:List br}: ∀(n:Nat) (w:List br),(∀e∈w,e∈all)-> ∀e∈tF all n w,e∈all
 |0,_,_,e,h=>by cases h
 |_+1,[],_,e,h=>by cases h
 |n+1,x::w,hw,e,h=>by
  unfold tF at h;rcases zas.1 h with rfl |h
  ·exact hw _ (.head _)
  refine tJ n _ (λy hy=> ?_) e h;rcases zaB.1 hy with hy |hy
  ·exact(jx.1 hy).1
  exact hw y (.tail _ hy)
theorem zh{n:Nat}: ∀l:List br,(∀e∈l,e.2.2.length<=n)->(gl l).length<=n*l.length
 | [],_=>by simp[gl]
 |e::l,h=>by
  have h1:=h e (.head _);have h2:=zh l λy hy=>h y (.tail _ hy);unfold gl at*
  rw[zbB,zaj,zam,zdf,zcS];omega
theorem qaK{l:List av}{on:List aO}{x:aq}(h:eT (cd l x)):(rX l on x).length<=1000000/\(gl (rX l on x)).length<=1000000000000:=by
 have h1:(rX l on x).length<=1000000:=zaE (za2 _ _) (He h);have h2: ∀e∈rX l on x,e.2.2.length<=100000:=λe he=>by have he:=(zb0.1 he).1;have:=tJ (all:=qC (cd l x)) _ _ (λy hy=>(jx.1 hy).1) e he;have key:=J2 (l:=cd l x) (n:=100000) (λr hr=>(h.2.2 r hr).1) _ (zai _);rw[zag] at key;exact key e this
 have h3:=zh _ h2;have h4:100000*(rX l on x).length<=100000*1000000:=Nat.mul_le_mul_left _ h1;exact⟨h1,by omega⟩
section
variable{X:XF}
theorem qe7:FD X 13 Vh:=FD.mk (H:=[(24,Sr),(26,TB),(25,TI),(33,Ut),(34,US),(32,JX)]) (hk:=[]) (by kernel_rfl) (.cons GB (.cons qbm (.cons qbn (.cons qbx (.cons qe2 (.cons qaH .nil)))))) .nil (by
 intro ps R ae hh;obtain⟨l,x,rfl,rfl,⟨hs,ht⟩,hp⟩:=hh
 (rw[<-qe4];delta lS v8 oX Am lE tW VS gk mq jO vZ fM iw wY NY N0 Za4 qv Z9d oR Us fa fB fD fC fw fy nc iP Du OD OQ Zq BL)
 obtain⟨h1,h2,h3⟩:=ht x;have yV:onX ((au l).map Di)=dE l:=rfl;have hl:=h2.1;refine⟨l,rfl,rfl,hs,λm hm=>⟨m,by rw[cC],rfl,by rw[hm];exact hl.1,λo ho=>⟨o,by rw[cC],rfl,by rw[ho,hm,zaa];exact hl.1,λon qe8=>⟨m,x,by rw[cC],rfl,by rw[hm];exact⟨hl.1,hl.2.1⟩,λr hr=>⟨m,on,x,by rw[cC,cC],rfl,?_,λg hg=>⟨r,on,g,by rw[cC,cC,cC],rfl,?_,λe he=>hp e ?_⟩⟩⟩⟩⟩⟩
 ·rw[qe8,ho,hm,yV];exact h2
 ·rw[hr,hg,qe8,ho,hm,yV];exact⟨h1,hl.2.2,h3⟩
 rw[he,hr,hg,qe8,ho,hm,yV];rfl)
theorem qaL:LD X 5 4 (ah (aL 5 4) qe5):=LD.idx (H:=[(13,Vh),(12,U2)]) (hk:=[]) (by kernel_rfl) (by kernel_rfl) (.cons qe7 (.cons qe3 .nil)) .nil
 (A:=List av×List aO×List Pl×List aT×List aT×List It) (B:=List cg) (λa e i=>en4 a.1 a.2.1 a.2.2.1 a.2.2.2.1 a.2.2.2.2.1 a.2.2.2.2.2 e i) (λa=>a.2.2.2.2.2.length)
 (λa i e=>(SmT a.1/\a.2.2.2.2.2.length<=1000000)/\e=(a.2.2.2.2.2.take i).map (km (au a.1) (dE a.1)))
 (λa z=>z=(.exit 0,⟨41,[(4,.sl 0 0 (a.2.2.2.2.2.map (km (au a.1) (dE a.1))).length)],[(0,⟨0,none,DK false (a.2.2.2.2.2.map (km (au a.1) (dE a.1)))⟩)]⟩))
 (by
  rintro⟨l,o,p,h,g,x⟩ e i ae h0 cj bK ⟨hc,he⟩ hn aW
  try dsimp only at*
  (rw[<-qbJ];delta K6 qW Zby ZO Zb zr Zbx RA uM fZ ij qv Zbw Zh Zi dP dv fa dB Z6 Z5 Zd Zbv Z2N VR wY lS lE DG Zq fB fD fC fw fy nc iP OJ)
  have e1:D.nth (x.map dW) i.toNat=dW x[i.toNat]:=aG _ _ _ bK;have ng:(x.take (i.toNat+1)).map (km (au l) (dE l))=e++[km (au l) (dE l) x[i.toNat]]:=by rw[zaf bK,zaG,he];rfl
  have AA:e.length=i.toNat:=by rw[he,zaa,zat];omega
  have b9:=hn _ ⟨hc,ng.symm⟩;have H9:=hc.2;have eH:0<=i/\i<((x.map dW).length:Int):=by rw[zaa];exact⟨h0,cj⟩
  rw[e1];generalize x[i.toNat]=y at*
  have c4:D.eY (D.ax (dW y) 4)=y.2.2.1:=rfl;have c3:D.cm (D.ax (dW y) 3)=y.2.1:=rfl;have nx:=(qaK (on:=dE l) (hc.1.2 y.1).1)
  rw[c4,c3];refine bV eH.2 (ak eH (ao (qdI _) (az (λhd=>⟨l,y.1,rfl,rfl,hc.1,λt ht=>⟨t,by rw[cC],rfl,by rw[ht];exact nx,λs hs=> ?_⟩⟩) λhd=> ?_)))
  ·have qe9:km (au l) (dE l) y=(y.2.1,y.2.2.1,s):=by unfold km;rw[zap (by simpa using hd),hs,ht]
   rw[qe9] at b9;have t2:D.agg [D.str y.2.1,D.bool y.2.2.1,D.str s]=ke (y.2.1,y.2.2.1,s):=rfl;rw[t2,b7];simp only[en4,zaj] at b9;exact ao (iy rfl (by rw[zaa]) (by omega) (by decide)) (ak (by omega) b9)
  have qe9:km (au l) (dE l) y=(y.2.1,y.2.2.1,[]):=by unfold km;rw[zaq (by simpa using hd)]
  rw[qe9] at b9;have t2:D.agg [D.str y.2.1,D.bool y.2.2.1,D.str []]=ke (y.2.1,y.2.2.1,[]):=rfl;rw[t2,b7];simp only[en4,zaj] at b9;exact ao (iy rfl (by rw[zaa]) (by omega) (by decide)) (ak (by omega) b9))
 (by
  rintro⟨l,o,p,h,g,x⟩ e i ae hi ⟨hc,he⟩ aW
  try dsimp only at*
  (rw[<-qbJ];delta K6 qW Zby ZO Zb zr Zbx RA uM fZ ij qv Zbw Zh Zi dP dv fa dB Z6 Z5 Zd Zbv Z2N VR wY lS lE DG Zq fB fD fC fw fy nc iP OJ)
  refine oC (by rw[zaa];omega) (aW _ (λh=>by cases h) ?_);rw[he,zag])
 (by rintro s ae ⟨l,o,p,h,g,x,rfl,hs,hp⟩;refine⟨(l,o,p,h,g,x),[],rfl,⟨hs,rfl⟩,?_⟩;rintro z rfl;exact hp _ rfl)
theorem qho:FD X 5 qe6:=FD.mk (H:=[(11,GZ)]) (hk:=[(4,ah (aL 5 4) qe5)]) (by kernel_rfl) (.cons Ud .nil) (.cons qaL .nil) (by
 intro ps R ae hh;obtain⟨l,rfl,rfl,hs,hp⟩:=hh
 (rw[<-qiM];delta K6 qW uM fZ ij qv Zbw Z2U Z3 ZB rI dP dv fa dB Zq BL)
 refine⟨l,rfl,rfl,hs.1,λo t p x ho ht Nf hx=>⟨l,o,p,t.h,t.g,x,rfl,⟨hs.2,?_⟩,λe he=>hp e ?_⟩⟩
 ·have oT:=hs.2.2 aD;have ho2:cB (au l)<=1000:=oT.2.1.1.2.1;have hB:=vW (on:=dE l) (l:=au l) (gE (l:=l)) _ (zai _);rw[zag] at hB;have h1:=qk (gE (l:=l)) (kh l) (HE (Ah (gF (dE l) (au l)).a (gF (dE l) (au l)).p));have h2:=qj (Ah (gF (dE l) (au l)).a (gF (dE l) (au l)).p);have h3:=n9 (gF (dE l) (au l)).a (gF (dE l) (au l)).p;have h4:=qg (lD (au l) (gF (dE l) (au l)));have h5:=uY (T:=ly (lD (au l) (gF (dE l) (au l)))) (V:=Dt (gF (dE l) (au l)).h (gF (dE l) (au l)).g);have h6:=hB.2.1;rw[hx,ht,ho];unfold lD at h4 h5;unfold JP lD;omega
 rw[he,hx,ht,ho];rfl)
end
theorem qaM{l:List UInt8}(cU:l≠[])(hv: ¬((Lib.decodeL l).1=65533/\(Lib.decodeL l).2=1))(s:List UInt8):Lib.decodeL (l.take (Lib.decodeL l).2++s)=Lib.decodeL l:=by
 have hl:0<l.length:=zbm.2 cU;rw[Lib.decodeL_N l] at hv⊢;rw[Lib.decodeL_N];rcases Lib.decodeN_shape l.length (l.getD 0 0).toNat (l.getD 1 0).toNat (l.getD 2 0).toNat (l.getD 3 0).toNat with⟨c,e⟩| ⟨c1,c2,c3,cv,e⟩| ⟨c1,c2,c3,c4,cv,cs,e⟩| ⟨c1,c2,c3,c4,c5,cv,cw,e⟩|e
 ·rw[e,Lib.takeA l hl];unfold Lib.decodeN;rw[zaq (by simpa using c)];rfl
 ·rw[e,Lib.takeB l c2];unfold Lib.decodeN;simp only[zbF,zaT,zbR,zcn,zam];rw[zap (by omega),zaq ⟨c1,by omega,c3⟩,zaq cv]
 ·rw[e,Lib.takeC l c2];unfold Lib.decodeN;simp only[zbF,zaT,zbR,zcn,zam];rw[zap (by omega),zap (by omega),zaq ⟨c1,⟨by omega,c3⟩,by omega,c4⟩,zaq ⟨cv,by omega⟩]
 ·rw[e,Lib.takeD l c2];unfold Lib.decodeN;simp only[zbF,zaT,zbR,zcn,zam];rw[zap (by omega),zap (by omega),zap (by omega),zaq ⟨c1,⟨by omega,c3⟩,⟨by omega,c4⟩,by omega,c5⟩,zaq ⟨cv,by omega⟩]
 rw[e] at hv;exact absurd ⟨rfl,rfl⟩ hv
def One(p:List UInt8):Prop:= ∀s,Lib.validD (p++s)=Lib.validD s
theorem LU: ∀(n:Nat) (t:List UInt8),t.length<=n->Lib.validD t=true-> ∀p∈Gp t,One p
 |0,t,h,_,p,hp=>by have:t=[]:=zax (by omega);subst this;cases hp
 |n+1,t,h,hv,p,hp=>by
  by_cases ht:t=[]
  ·subst ht;cases hp
  have hd:=tj ht;have hl:0<t.length:=zbm.2 ht;rw[Lib.validD_step t ht] at hv;split at hv
  ·cases hv
  rename_i hg;rw[yG ht] at hp;rcases zas.1 hp with rfl |hp
  ·intro s;have hle:=Lib.decodeL_le t ht;have Di:=qaM ht hg s;rw[Lib.validD_step _ (by intro e;have:=congrArg List.length e;rw[zaj,zat,zay] at this;omega),Di,zap hg];congr 1;rw[zda,zat,zbW hle,Nat.sub_self,zbn,List.drop_of_length_le (by rw[zat];exact Nat.min_le_left _ _),zaT]
  exact LU n _ (by rw[za0];omega) hv p hp
theorem Vj{t p:List UInt8}(h:p∈kj t):One p:=by
 unfold kj at h;split at h
 ·exact LU _ t (zai _) (by assumption) p h
 cases h
theorem LV{r:bn}{o:List br}(ho: ∀e∈o,One e.2.2){l:List (List UInt8)}(hl: ∀p∈l,One p): ∀i,i<=l.length-> ∀e∈Ed r o (l.take i),One e.2.2
 |0,_=>by simpa [Ed] using ho
 |i+1,hi=>by
  rw[pS (by omega)];have ih:=LV (r:=r) ho hl i (by omega);intro e he;unfold N1 at he;split at he
  ·exact ih e he
  rcases zaB.1 he with he |he
  ·exact ih e he
  rw[za6.1 he];exact hl _ (zar _)
theorem LW{l:List bn}: ∀i,i<=l.length-> ∀e∈qC (l.take i),One e.2.2
 |0,_=>by simp[qC]
 |i+1,hi=>by rw[pU (by omega)];have:=LV (r:=l[i]'(by omega)) (LW (l:=l) i (by omega)) (l:=kj (l[i]'(by omega)).2.2) (λp hp=>Vj hp) _ (zai _);rw[zag] at this;exact this
theorem zi: ∀l:List br,(∀e∈l,One e.2.2)->Lib.validD (gl l)=true
 | [],_=>rfl
 |e::l,h=>by show Lib.validD (e.2.2++gl l)=true;rw[h e (.head _)];exact zi l λx hx=>h x (.tail _ hx)
theorem J3(l:List av)(on:List aO)(x:aq):Lib.validD (gl (rX l on x))=true:=by refine zi _ λe he=> ?_;have h1:=(zb0.1 he).1;have h2:=tJ _ _ (λy hy=>(jx.1 hy).1) e h1;have:=LW (l:=cd l x) _ (zai _);rw[zag] at this;exact this e h2
theorem Hf(c:UInt8)(r:List UInt8): ∀u:List UInt8,Op.bytesLess u (u++c::r)=true
 | []=>rfl
 |a::u=>by rw[zbF,ic,Hf c r u];simp
theorem J4(s:List UInt8)(i:Nat):Lib.occAt s [47] i=true↔s[i]?=some 47:=by
 unfold Lib.occAt;by_cases h:i<s.length
 ·rw[za9 h,zac h];show((47:UInt8)==s[i]&&List.isPrefixOf [] (s.drop (i+1)))=true↔_;rw[show List.isPrefixOf [] (s.drop (i+1))=true by cases s.drop (i+1)<;>rfl];simp only[zc1,zbp,zak];exact⟨Eq.symm,Eq.symm⟩
 rw[zcg (by omega),zbj (by omega)];exact⟨(λh=>by cases h),(λh=>by cases h)⟩
theorem qaN{u n:List UInt8}(h:(47:UInt8)∉n):XE (u++47::n)=u:=by
 have h1: ∀j,(u++47::n)[j]?=some 47->j<=u.length:=λj hj=>by refine Nat.le_of_not_lt λbz=>h ?_;rw[zaS (by omega),List.getElem?_cons,zap (by omega)] at hj;exact zaz hj
 have h2:(u++47::n)[u.length]?=some 47:=by simp
 have e:(max 0 (Lib.lastIndex (u++47::n) [47])).toNat=u.length:=by
  unfold Lib.lastIndex;have hl:1<=(u++47::n).length:=by simp;omega
  split
  ·simp only[zaU];rw[show(u++47::n).length-1+1=(u++47::n).length by omega];rcases Lib.lastOcc_spec (u++47::n) [47] (u++47::n).length with⟨e,h⟩| ⟨i,hi,e,ho,h⟩
   ·have:=h u.length (by simp);rw[(J4 _ _).2 h2] at this;cases this
   rw[e];have h3:=h1 i ((J4 _ i).1 ho);have: ¬i<u.length:=λbz=>by have:=h u.length bz (by simp);rw[(J4 _ _).2 h2] at this;cases this
   omega
  rename_i CL;exact absurd hl CL
 unfold XE;rw[e,zcH];rfl
structure UpI(I:List It)(i:Nat)(x:It):Prop where
 path: ∃u n,x.2.1=u++47::n/\bQ n=true/\(u=[]\/ ∃j y,j<i/\I[j]?=some y/\y.2.1=u/\y.2.2.1=true)
 nms: ∃l,l≠[]/\(∀s∈l,bQ s=true)/\x.2.1=yr l
theorem Vk{T:List Pl}{V:List aq}(hT:Rt T){i:Nat}{x:It}(hx:(bY T V)[i]?=some x):UpI (bY T V) i x:=by
 have hi:i<(bY T V).length:=(zae.1 hx).1;obtain⟨p,hp,rfl⟩:=uX.1 (zaz hx);obtain⟨pT,pm⟩:=tA hp;obtain⟨w,hw,mw⟩:=ky pm;have AK:=tc hT.1 pT;have Hg:(dQ T V p).2.1=cE (w.reverse.map (q4 T V)):=by show oD T V p.1=_;unfold oD;rw[lh hw]
 have cU:w.reverse.map (q4 T V)≠[]:=by obtain⟨r,hr⟩:=hw.hd;rw[hr];simp
 have zW:uK T V p.1=w.reverse.map (q4 T V):=lh hw;have sX:bQ (q4 T V p.1)=true:=by unfold q4;rw[AK];exact GJ (hT.2 p pT)
 refine⟨?_,_,cU,λs hs=>pP hT p.1 s (by rw[zW];exact hs),by rw[Hg,KY _ cU]⟩;cases hw with
 |top h h0=>exact⟨[],q4 T V p.1,by rw[Hg];simp[cE],sX,.inl rfl⟩
 | @step _ p' q w' h h0 hq hd pJ=>
  rw[AK] at h;cases h;have e:((p.1::w').reverse.map (q4 T V))=w'.reverse.map (q4 T V)++[q4 T V p.1]:=by simp
  have hmq:marked T V p.2.1=true:=by obtain⟨r,hr⟩:=pJ.hd;exact mw _ (by rw[hr];simp)
  have hqs:=tv hmq hq;have hqx:dQ T V q∈bY T V:=uX.2 ⟨q,hqs,rfl⟩;have hq1:q.1=p.2.1:=(du hq).2;have hqp:(dQ T V q).2.1=cE (w'.reverse.map (q4 T V)):=by show oD T V q.1=_;unfold oD;rw[hq1,lh pJ]
  obtain⟨j,hj⟩:=zaP hqx;have Ez:j<(bY T V).length:=(zae.1 hj).1;rw[e,J1] at Hg;refine⟨cE (w'.reverse.map (q4 T V)),q4 T V p.1,Hg,sX,.inr ⟨j,_,?_,hj,hqp,hd⟩⟩;have bz:Op.bytesLess (dQ T V q).2.1 (dQ T V p).2.1=true:=by rw[hqp,Hg];exact Hf _ _ _
  refine Nat.lt_of_not_le λhle=> ?_;have hpw:=zba.1 (BB (live:=V) hT);rcases Nat.lt_or_eq_of_le hle with h1 |h1
  ·have:=hpw i j hi Ez h1;rw[(zae.1 hx).2,(zae.1 hj).2] at this;rw[K8.asymm bz] at this;cases this
  subst h1;have:=zb9 (hx.symm.trans hj);rw[this,jd] at bz;cases bz
theorem qaO{l:List av}(hs: ∀e∈oe l,(dO e.1).1≠2):gD (oe l):=by
 have hT:Rt (ly (lD (au l) (gF (dE l) (au l)))):=Dq _;have hE:oe l=(bY (ly (lD (au l) (gF (dE l) (au l)))) (Dt (gF (dE l) (au l)).h (gF (dE l) (au l)).g)).map (km (au l) (dE l)):=rfl;generalize ly (lD (au l) (gF (dE l) (au l)))=T at hT hE;generalize Dt (gF (dE l) (au l)).h (gF (dE l) (au l)).g=V at hE;rw[hE] at hs⊢;intro i hi;rw[zaa] at hi;obtain⟨x,hx⟩: ∃x,(bY T V)[i]?=some x:=⟨_,zac hi⟩
 obtain⟨⟨u,n,hp,hn,hu⟩,nm,cU,hsn,hj⟩:=Vk hT hx;have ge: ∀(j:Nat) (y:It),(bY T V)[j]?=some y->((bY T V).map (km (au l) (dE l))).getD j ([],false,[])=km (au l) (dE l) y:=λj y hy=>by rw[zab,zaD,hy];rfl
 rw[ge i x hx];have h1:=hs (km (au l) (dE l) x) (zaX.2 ⟨x,zaz hx,rfl⟩);have h2:dO x.2.1=if 20<nm.length then(2,[]) else(0,nm):=by rw[hj];exact FT hsn
 have h3:dO x.2.1=(0,nm):=by
  split at h2
  ·exact absurd (by show(dO x.2.1).1=2;rw[h2]) h1
  exact h2
 have hup:XE x.2.1=u:=by rw[hp];exact qaN (wP hn)
 have hval:Lib.validD (km (au l) (dE l) x).2.2=true:=by
  show Lib.validD (if x.2.2.1=true then [] else gl (rX (au l) (dE l) x.1))=true;split
  ·rfl
  exact J3 _ _ _
 have Jc:mO ((bY T V).map (km (au l) (dE l))) i u=true:=by
  unfold mO;rcases hu with rfl | ⟨j,y,bz,hy,hyu,hyd⟩
  ·rfl
  rw[za1];refine .inr (zbG.2 ⟨km (au l) (dE l) y,?_,?_⟩)
  ·refine zaz (i:=j) ?_;rw[zbr,zaq bz,zaD,hy];rfl
  show(y.2.2.1&&y.2.1==u)=true;rw[hyd,hyu];simp
 have qdk:x.2.1≠[]:=by rw[hp];simp
 have oi:Op.bytesLess x.2.1 (nU ((bY T V).map (km (au l) (dE l))) i)=false/\(x.2.1==nU ((bY T V).map (km (au l) (dE l))) i)=false:=by
  unfold nU;split
  ·exact⟨mf _,by simpa using qdk⟩
  rename_i h0;obtain⟨y,hy⟩: ∃y,(bY T V)[i-1]?=some y:=⟨_,zac (by omega)⟩
  rw[ge _ y hy];have:=zba.1 (BB (live:=V) hT) (i-1) i (by omega) hi (by omega);rw[(zae.1 hx).2,(zae.1 hy).2] at this;refine⟨K8.asymm this,?_⟩;show(x.2.1==y.2.1)=false;rw[zbQ];intro e;rw[e,jd] at this;cases this
 unfold hY;show((dO x.2.1).1==0&&Lib.validD (km (au l) (dE l) x).2.2&& !((dO x.2.1).2==[])&&mO _ i (XE x.2.1)&& !(Op.bytesLess x.2.1 _ ||x.2.1==_)&&(!x.2.2.1 || (km (au l) (dE l) x).2.2==[]))=true;rw[h3,hval,hup,Jc,oi.1,oi.2];have:(!x.2.2.1 || (km (au l) (dE l) x).2.2==[])=true:=by show(!x.2.2.1 || (if x.2.2.1=true then [] else gl (rX (au l) (dE l) x.1))==[])=true;cases x.2.2.1<;>simp
 rw[this];simp[cU]
theorem Vl{g:List av}(h:bG 16 g):SmT g:=by have hs:=h.smS (by decide);have yV:(dE g).length<=g.length:=LG g;have AA: ∀y∈g,∀o∈y.ops,o.elems.length<=3:=λy hy o ho=>((h.sm y hy).2.2.2 o ho).2;have hl:=h.len;refine⟨hs.1,λx=> ?_⟩;rw[h.right];refine⟨DI h (by decide) x,⟨⟨by omega,hs.2,by omega⟩,λy hy o ho=>zaE (AA y hy o ho) (by decide)⟩,?_⟩;have h1:=uW (on:=dE g) (x:=x) (n:=3) g AA;have h2:cB g<=1000:=hs.2;omega
theorem Vm{g:List av}(h:bG 16 g)(on:List aO)(x:aq):(gl (rX g on x)).length<=10000:=by
 have hr:=DI h (by decide) x;have h1: ∀r∈cd g x,r.2.2.length<=2:=λr hr=>by obtain⟨y,hy,o,ho,hk,rfl⟩:=za hr;exact((h.sm y hy).2.2.2 o ho).1
 have h2: ∀e∈rX g on x,e.2.2.length<=2:=λe he=>by have he:=(zb0.1 he).1;have:=tJ (all:=qC (cd g x)) _ _ (λy hy=>(jx.1 hy).1) e he;have key:=J2 (l:=cd g x) (n:=2) h1 _ (zai _);rw[zag] at key;exact key e this
 have key: ∀L:List bn,(∀r∈L,r.2.2.length<=2)->zy L<=2*L.length:=λL=>by
  induction L with
  |nil=>intro _;simp[zy]
  |cons r L ih=>
   intro hL;have h4:=ih λr hr=>hL r (.tail _ hr);have h5:=hL r (.head _);have h6:=tH r.2.2;have h7:zy (r::L)=(kj r.2.2).length+zy L:=by simp[zy]
   rw[h7,zam];omega
 have h3:=key _ h1;have h4:=qm x g;have h5:=h.cB;have h9:=h.len;have h6:=zh _ h2;have h7:(rX g on x).length<=(rU (qC (cd g x))).length:=za2 _ _;have h8:(rU (qC (cd g x))).length<=zy (cd g x):=by
  have bK:=uT (l:=cd g x) _ (zai _);have VQ:=oc (l:=cd g x) _ (zai _);rw[zag] at bK VQ;have:=y8 bK.1 (λe he=>(bK.2 e he).1) ((qC (cd g x)).length+1) [] _ (uU.start bK.1);unfold rU;rw[zay] at*
  omega
 omega
theorem BV{g:List av}(h:bG 16 g):(oe g).length<=16:=by
 have yV:=h.cB;have VQ:=h.len;have hB:=vW (on:=dE g) (l:=au g) (gE (l:=g)) _ (zai _);rw[zag] at hB;have h1:=qk (gE (l:=g)) (kh g) (HE (Ah (gF (dE g) (au g)).a (gF (dE g) (au g)).p));have h2:=qj (Ah (gF (dE g) (au g)).a (gF (dE g) (au g)).p);have h3:=n9 (gF (dE g) (au g)).a (gF (dE g) (au g)).p;have h4:=qg (lD (au g) (gF (dE g) (au g)));have h5:=uY (T:=ly (lD (au g) (gF (dE g) (au g)))) (V:=Dt (gF (dE g) (au g)).h (gF (dE g) (au g)).g);have h6:=hB.2.1;have h7:=rR g;have h8:(ly (lD (au g) (gF (dE g) (au g)))).length<=16:=by unfold lD at h4⊢;omega
 unfold oe JP;rw[zaa];omega
theorem zj{g:List av}(h:bG 16 g):F7 (oe g):=by
 have yV:=h.cB;have VQ:=h.len;have hB:=vW (on:=dE g) (l:=au g) (gE (l:=g)) _ (zai _);rw[zag] at hB;have h1:=qk (gE (l:=g)) (kh g) (HE (Ah (gF (dE g) (au g)).a (gF (dE g) (au g)).p));have h2:=qj (Ah (gF (dE g) (au g)).a (gF (dE g) (au g)).p);have h3:=n9 (gF (dE g) (au g)).a (gF (dE g) (au g)).p;have h4:=qg (lD (au g) (gF (dE g) (au g)));have h5:=uY (T:=ly (lD (au g) (gF (dE g) (au g)))) (V:=Dt (gF (dE g) (au g)).h (gF (dE g) (au g)).g);have h6:=hB.2.1;have h7:=rR g;have hT:Rt (ly (lD (au g) (gF (dE g) (au g)))):=Dq _;have h8:(ly (lD (au g) (gF (dE g) (au g)))).length<=16:=by unfold lD at h4⊢;omega
 unfold oe JP;refine⟨by rw[zaa];omega,λe he=> ?_⟩;obtain⟨y,hy,rfl⟩:=zaX.1 he;obtain⟨p,hp,rfl⟩:=uX.1 hy;obtain⟨w,hw,_⟩:=ky (tA hp).2;have h9:=BD (V:=Dt (gF (dE g) (au g)).h (gF (dE g) (au g)).g) hT hw;refine⟨?_,?_⟩
 ·show(oD _ _ p.1).length<=10000;unfold oD;rw[lh hw];unfold Ri at h9;omega
 show(if p.2.2.2=true then [] else gl (rX (au g) (dE g) p.1)).length<=10000;split
 ·simp
 rw[h.right];exact Vm h _ _
abbrev av6(e:List cg)(i:Int):S:=⟨60,[(3,.d (.bool true)),(4,.sl 0 0 e.length),(5,iD i)],[(0,⟨0,none,DK false e⟩)]⟩
theorem qhp(e:List cg)(i:Int)(ae:PX×S->Prop):(bif decide (i<(↑(qW e):Int)) then ob (decide ((0:Int)<=i/\i<(↑(qW e):Int))) (ob (decide (Zb i<List.length (List.map ke e))) (ob (XH e i) (∃(s:List UInt8),[P.d (D.str (DQ e i))]=ZW s/\Zq/\kc s/\ ∀(n:Nat) (uy:Int) (l:List (List UInt8)),dO s=(uy,l)->n=List.length l->bif uy==(2:Int) then ae (PX.ret,S.mk 60 [(2,ZC),(3,ZC),Zby e] (K6 e)) else ob (Zd i) (ae (PX.normal,S.mk 60 ((3,ZC)::Zby e::Zi i) (K6 e)))))) else ae (PX.exit 0,S.mk 60 [(3,ZC),Zby e] (K6 e)))=(aC [(7,lN)] [] 3 6 (av6 e i)) ae:=by kernel_rfl
def zk(e:List cg):Prop:= ∀x∈e,(dO x.1).1≠2
def qfa:S->K (PX×S):=λs ae=> ∃e,s=av6 e 0/\F7 e/\ae (.ret,⟨60,[(2,.d (.bool true)),(3,.d (.bool true)),(4,.sl 0 0 e.length)],[(0,⟨0,none,DK false e⟩)]⟩)/\(zk e->ae (.exit 0,⟨60,[(3,.d (.bool true)),(4,.sl 0 0 e.length)],[(0,⟨0,none,DK false e⟩)]⟩))
def Zbz(uy:List cg):S:=S.mk 60 ((3,ZC)::Zby uy::ZB) (K6 uy)
def ZbA(ae:P×List (Nat×En)->Prop):List P->Prop:=λ(s0:List P)=> ∃(l:List av),s0=BL l/\Zq/\(SmS l/\SmT l)/\ ∀(e:List cg),e=oe l-> ∃(uy:List cg),Zbz e=Zbz uy/\F7 uy/\ZD ae/\(zk uy-> ∃(l:List cg),Z2X uy=[r6 l]/\Zq/\F7 l/\ ∀(s:List UInt8) (e:Int),Za6 l e s-> ∃(bF:List UInt8),ZW s=ZW bF/\Zq/\kc bF/\(∀(l:List cg),rK bF l->bif e==(0:Int) then∃(v:List cg) (w:List cg),P.d (D.sl 3 (RA uy))::Z2X l=[r6 v,r6 w]/\Zq/\qW v<=3000000/\ ∀(b:Bool),(b=true↔v=w)->ae (fX b,[]) else Z1 ae)/\((∀(l:List cg),¬rK bF l)->bif e==(0:Int) then Z1 ae else Z1 ae))
theorem qhq(m:List cz)(ae:P×List (Nat×En)->Prop):(EqP [] []/\Zq/\ ∃(dV:List cz),[P.d (D.sl 6 (List.map wx m))]=[P.d (D.sl 6 (List.map wx dV))]/\Zq/\zg dV/\ZbA ae [P.d (D.sl 7 [])]/\ ∀(g:List av),BU dV g->ZbA ae (BL g))=(aK [(4,zf),(6,qeW),(5,qe6),(7,lN),(8,Rx),(9,RC),(10,ze)] [(6,ah (aL 3 6) qfa)] 3 [.d (.sl 6 (m.map wx))] []) ae:=by kernel_rfl
theorem qhr(e f:cg):(D.cm (D.ax (ke e) 0)==D.cm (D.ax (ke f) 0)&&(D.eY (D.ax (ke e) 1)==D.eY (D.ax (ke f) 1)&&(D.cm (D.ax (ke e) 2)==D.cm (D.ax (ke f) 2)&&true)))=decide (e=f):=by obtain⟨a,b,c⟩:=e;obtain⟨a',b',c'⟩:=f;show(a==a'&&(b==b'&&(c==c'&&true)))=_;rw[zbh];simp
theorem DL(l:List cg):List.take l.length (l.map ke)=l.map ke:=zan (by simp)
section
variable{X:XF}
theorem qfb:LD X 10 4 (ah (aL 10 4) gSa):=LD.par (H:=[]) (hk:=[]) (by kernel_rfl) (by kernel_rfl) .nil .nil
 (A:=List cg×List cg) (B:=Int) (λa k=>saH a.1 a.2 k)
 (λa k=>(a.1.length=a.2.length/\a.1.length<=3000000)/\(0<=k/\k.toNat<=a.1.length)/\a.1.take k.toNat=a.2.take k.toNat)
 (λa k=>(a.1.length-k).toNat)
 (λa x=>(a.1≠a.2/\x=(.ret,⟨26,[(4,jU false)],[]⟩))\/(a.1=a.2/\x=(.exit 0,⟨26,[],[]⟩)))
 (by
  rintro⟨v,w⟩ k ⟨⟨hl,hm⟩,⟨h0,h1⟩,ht⟩;dsimp only at*
  (rw[<-qg5];delta Zj Zh Zi r6 Z6 Z5 Zd Z0 Zc Zb Z2r Z2q DQ XH Ja Z2m)
  simp only[zaa];refine a8 (λh=> ?_) λh=> ?_
  ·have hk:k.toNat<v.length:=by omega
   have u7:k.toNat<w.length:=by omega
   rw[yB hk,yB u7,qhr];refine aP ⟨h0,by omega⟩ (ao (Rv _) (aP ⟨h0,by omega⟩ (ao (Rv _) (az (λh2=> ?_) λh2=>ao (gB (by omega) (by omega)) ?_))))
   ·refine .inl ⟨λe=> ?_,rfl⟩;subst e;simp at h2
   refine⟨_,?_,k+1,rfl,⟨⟨hl,hm⟩,⟨by omega,by omega⟩,?_⟩,rfl⟩
   ·omega
   have h3:v.getD k.toNat ([],false,[])=w.getD k.toNat ([],false,[]):=by simpa using h2
   rw[show(k+1).toNat=k.toNat+1 by omega,zbo,zbo,ht];simp only[zab,zac hk,zac u7,zby] at h3;rw[zac hk,zac u7,h3]
  refine .inr ⟨?_,rfl⟩;rw[zan (by omega),zan (by omega)] at ht;exact ht)
 (by
  rintro s ae ⟨v,w,rfl,⟨hl,hm⟩,h1,h2⟩;refine⟨(v,w),0,rfl,⟨⟨hl,hm⟩,⟨by decide,by simp⟩,by simp⟩,?_⟩;rintro x (⟨h3,rfl⟩| ⟨h3,rfl⟩)
  ·exact h1 h3
  exact h2 h3)
theorem LX:FD X 10 ze:=FD.mk (H:=[]) (hk:=[(4,ah (aL 10 4) gSa)]) (by kernel_rfl) .nil (.cons qfb .nil) (by
 intro ps R ae hh;obtain⟨v,w,rfl,rfl,hm,hp⟩:=hh
 (rw[<-qiA];delta ZC ZD qW Z3 ZB r6 Za5 Z0 Z1 Ja)
 simp only[zaa];refine lK (λh=> ?_) λh=>⟨v,w,rfl,⟨by omega,hm⟩,λh=>hp false ⟨λh2=>(by cases h2),λh2=>absurd h2 h⟩,λh=>hp true ⟨λ_=>h,λ_=>rfl⟩⟩
 exact hp false ⟨λh2=>(by cases h2),λh2=>by subst h2;exact absurd rfl h⟩)
def l0:List cg:=[([47,97],true,[]),([47,97,47,102],false,[120])]
theorem qhs:gD l0:=λi hi=>match i,hi with
 |0,_=>by kernel_rfl
 |1,_=>by kernel_rfl
theorem qiN: ¬gD [([47,97,47,102],false,[120])]:=λh=>by
 have h1:=h 0 (by simp);have h2:hY [([47,97,47,102],false,[120])] 0 ([([47,97,47,102],false,[120])].getD 0 ([],false,[]))=false:=by kernel_rfl
 rw[h2] at h1;cases h1
theorem qht:fu l0.length++l0.flatMap jN=[2,2,47,97,1,4,47,97,47,102,0,1,120]:=by simp[l0,jN,nT]
theorem qhu:rK (fu l0.length++l0.flatMap jN) l0:=LP qhs (by simp[l0]) (λe he=>by simp only[l0,zas,zcl,zdk] at he;rcases he with rfl |rfl<;>simp)
theorem Oc:FD X 4 zf:=FD.mk (H:=[(8,Rx),(9,RC),(10,ze)]) (hk:=[]) (by kernel_rfl) (.cons qa8 (.cons qa9 (.cons LX .nil))) .nil (by
 intro ps R ae hh;obtain⟨rfl,rfl,hp⟩:=hh
 (rw[<-qiB];delta Z0 Z1 qW RA Z2X Za7 Za8 ZX kc ZV ZW Za6 Zq r6 ZO Za9)
 refine⟨l0,rfl,rfl,⟨by decide,λe he=>by simp only[l0,zas,zcl,zdk] at he;rcases he with rfl |rfl<;>simp⟩,λs e hse=> ?_⟩;obtain⟨rfl,rfl⟩:=hse.1 qhs;refine⟨_,rfl,rfl,by rw[qht];decide,λl hl=> ?_,λh=>absurd qhu (h l0)⟩;have:=BS hl qhu;subst this;refine⟨[([47,97,47,102],false,[120])],rfl,rfl,⟨by decide,by simp⟩,λs2 e2 qiO=>gh rfl (gh (by rw[qht];rfl) ⟨l0,l0,by rw[DL];rfl,rfl,by decide,λb hb=> ?_⟩)⟩;obtain⟨rfl,_⟩:=qiO.2 qiN;rw[hb.2 rfl];exact hp)
end
theorem BW{α:Type}(f:α->D)(P:D->Prop)(Q:α->Prop)(h1: ∀y,P y-> ∃x,y=f x/\Q x): ∀es:List D,(∀y∈es,P y)-> ∃l:List α,es=l.map f/\ ∀x∈l,Q x
 | [],_=>⟨[],rfl,by simp⟩
 |y::es,hy=>by obtain⟨l,rfl,hl⟩:=BW f P Q h1 es λy h=>hy y (.tail _ h);obtain⟨x,rfl,hx⟩:=h1 y (hy y (.head _));exact⟨x::l,rfl,λz hz=>by rcases zas.1 hz with rfl |hz;exact hx;exact hl z hz⟩
theorem Hh{n:Int}(hw:(Lit.int .u8 n).wf=true):0<=n/\n<=255:=by
 have h1:IntKind.min .u8=0:=by decide
 have h2:IntKind.max .u8=255:=by decide
 replace hw:(decide (IntKind.min .u8<=n)&&decide (n<=IntKind.max .u8))=true:=hw
 rw[h1,h2,zad,zal,zal] at hw;exact hw
theorem qhv{m:Nat}{x:D}(h:E8 PR (m+3) 61 x): ∃d:cz,x=wx d/\DH d:=by
 obtain⟨cs,rfl,hl,hf⟩:=E9 (k:=6) Tryz.underlying61 (by kernel_rfl) h;obtain⟨a,b,c,d,e,f,rfl⟩: ∃a b c d e f,cs=[a,b,c,d,e,f]:=by
  match cs,hl with
  | [a,b,c,d,e,f],_=>exact⟨a,b,c,d,e,f,rfl⟩
 have z0:PR.cellsOf 5=1:=by kernel_rfl
 have z3:PR.cellsOf 4=1:=by kernel_rfl
 have g0:=hf _ (zbT ..);have g1:=hf _ (zaH _ (zbT ..));have g2:=hf _ (zaH _ (zaH _ (zbT ..)));have g3:=hf _ (zaH _ (zaH _ (zaH _ (zbT ..))));have g4:=hf _ (zaH _ (zaH _ (zaH _ (zaH _ (zbT ..)))));have g5:=hf _ (zaH _ (zaH _ (zaH _ (zaH _ (zaH _ (zbT ..))))));simp only[z0,z3,zbn,zb6,List.take_succ_cons,List.take_zero] at g0 g1 g2 g3 g4 g5;obtain⟨x0,rfl,h0⟩:=sQ Tryz.underlying5 g0;obtain⟨x1,rfl,h1⟩:=sQ Tryz.underlying5 g1;obtain⟨x2,rfl,h2⟩:=sQ Tryz.underlying5 g2;obtain⟨x3,rfl,h3⟩:=sQ Tryz.underlying5 g3;obtain⟨x4,rfl,h4⟩:=sQ Tryz.underlying5 g4;obtain⟨x5,rfl⟩:=Qp Tryz.underlying4 g5;exact⟨⟨x0,x1,x2,x3,x4,x5⟩,rfl,Hh h0,Hh h1,Hh h2,Hh h3,Hh h4⟩
theorem qfc{m:Nat}{x:D}(h:E8 PR (m+4) 22 x): ∃l:List cz,x= .sl 6 (l.map wx)/\zg l:=by
 obtain⟨es,rfl,hl,hy⟩:=IA (k:=6) Tryz.underlying22 (by kernel_rfl) h;obtain⟨l,rfl,hq⟩:=BW wx _ DH (λy hy=>qhv hy) es hy;refine⟨l,rfl,?_,hq⟩;rw[zaa] at hl;have:maxLen<=9223372036854775807:=by decide
 exact zaE hl this
theorem Od{l:List cg}(h:l.length<=20/\ ∀e∈l,e.1.length<=10000/\e.2.2.length<=10000):(UN l).length<=2000000:=by have h1:=K5 l h.2;have h2:=s5 (n:=l.length) (by omega);unfold UN;rw[zaj];omega
section
variable{X:XF}
theorem qaP:LD X 3 6 (ah (aL 3 6) qfa):=LD.par (H:=[(7,lN)]) (hk:=[]) (by kernel_rfl) (by kernel_rfl) (.cons FW .nil) .nil
 (A:=List cg) (B:=Int) (λe i=>av6 e i)
 (λe i=>F7 e/\(0<=i/\i.toNat<=e.length)/\ ∀x∈e.take i.toNat,(dO x.1).1≠2)
 (λe i=>(e.length-i).toNat)
 (λe x=>x=(.ret,⟨60,[(2,.d (.bool true)),(3,.d (.bool true)),(4,.sl 0 0 e.length)],[(0,⟨0,none,DK false e⟩)]⟩)\/(zk e/\x=(.exit 0,⟨60,[(3,.d (.bool true)),(4,.sl 0 0 e.length)],[(0,⟨0,none,DK false e⟩)]⟩)))
 (by
  rintro e i ⟨hS,⟨h0,h1⟩,ht⟩
  (rw[<-qhp];delta Zh Zi Z6 Z5 Zd K6 qW Zby ZC ZX kc Zq ZV ZW Zb DQ XH)
  refine gT (λh=> ?_) λh=> .inr ⟨λx hx=>ht x (by rw[zan (by omega)];exact hx),rfl⟩;have hk:i.toNat<e.length:=by omega
  rw[yB hk];have b9:e.getD i.toNat ([],false,[])∈e:=by simp[zab,hk]
  have lC:e.take (i.toNat+1)=e.take i.toNat++[e.getD i.toNat ([],false,[])]:=by rw[zbo,zac hk];simp[zab,hk]
  generalize e.getD i.toNat ([],false,[])=y at b9 lC;have hy:=hS.2 y b9;have Hm:=hS.1;refine ak ⟨h0,h⟩ (ak (by rw[zaa];exact hk) (ao (Rv y) ⟨y.1,rfl,rfl,by omega,λn c l ri hn=>az (λh2=> .inl rfl) λh2=>ak (by omega) ?_⟩));refine⟨_,?_,i+1,rfl,⟨hS,⟨by omega,by omega⟩,?_⟩,rfl⟩
  ·omega
  rw[show(i+1).toNat=i.toNat+1 by omega,lC];intro x hx;rcases zaB.1 hx with hx |hx
  ·exact ht x hx
  rw[za6.1 hx,ri];simpa using h2)
 (by
  rintro s ae ⟨e,rfl,hS,h1,h2⟩;refine⟨e,0,rfl,⟨hS,⟨by decide,by simp⟩,by simp⟩,?_⟩;rintro x (rfl | ⟨h3,rfl⟩)
  ·exact h1
  exact h2 h3)
theorem qaQ{g:List av}(hg:bG 16 g)(hN:zk (oe g)){s:List UInt8}{e:Int}(he:(gD (oe g)->e=0/\s=fu (oe g).length++(oe g).flatMap jN)/\(¬gD (oe g)->e=80/\s=[])):
  e=0/\s.length<=2000000/\rK s (oe g):=by
 have hc:=qaO hN;have hS:=zj hg;have hl:=BV hg;obtain⟨h1,h2⟩:=he.1 hc;have h3:s=UN (oe g):=h2;refine⟨h1,by rw[h3];exact Od ⟨by omega,hS.2⟩,?_⟩;rw[h3];exact LP hc (by omega) λy hy=>by have:=hS.2 y hy;omega
def qhw:bh:=λps R ae=> ∃m,ps=[.d (.sl 6 (m.map wx))]/\R=[]/\zg m/\ae (.d (.bool true),[])
theorem qhx:FD X 3 qhw:=FD.mk (H:=[(4,zf),(6,qeW),(5,qe6),(7,lN),(8,Rx),(9,RC),(10,ze)]) (hk:=[(6,ah (aL 3 6) qfa)]) (by kernel_rfl)
  (.cons Oc (.cons qhm (.cons qho (.cons FW (.cons qa8 (.cons qa9 (.cons LX .nil))))))) (.cons qaP .nil) (by
 intro ps R ae hh;obtain⟨m,rfl,rfl,hm,hp⟩:=hh
 (rw[<-qhq];delta fa BL Z0 Z1 fX qW RA ZX kc ZV ZW Za6 r6 Z2X ZC ZD K6 Z3 ZB Zby Zbz Zq ZbA)
 have key: ∀(g:List av),bG 16 g-> ∃(l:List av),[P.d (D.sl 7 (List.map cu g))]=[P.d (D.sl 7 (List.map cu l))]/\EqR [] []/\(SmS l/\SmT l)/\ ∀(e:List cg),e=oe l-> ∃(uy:List cg),av6 e 0=av6 uy 0/\F7 uy/\ae (P.d (D.bool true),[])/\(zk uy-> ∃(l:List cg),[P.d (D.sl 3 (List.take (List.length uy) (List.map ke uy)))]=[P.d (D.sl 3 (List.map ke l))]/\EqR [] []/\F7 l/\ ∀(s:List UInt8) (e:Int),(gD l->e=(0:Int)/\s=fu (List.length l)++List.flatMap jN l)/\(¬gD l->e=(80:Int)/\s=[])-> ∃(bF:List UInt8),[P.d (D.str s)]=[P.d (D.str bF)]/\EqR [] []/\List.length bF<=2000000/\(∀(l:List cg),rK bF l->bif e==(0:Int) then∃(v:List cg),∃(w:List cg),[P.d (D.sl 3 (List.take (List.length uy) (List.map ke uy))),P.d (D.sl 3 (List.take (List.length l) (List.map ke l)))]=[P.d (D.sl 3 (List.map ke v)),P.d (D.sl 3 (List.map ke w))]/\EqR [] []/\List.length v<=3000000/\ ∀(b:Bool),(b=true↔v=w)->ae (P.d (D.bool b),[]) else ae (P.d (D.bool false),[]))/\((∀(l:List cg),¬rK bF l)->bif e==(0:Int) then ae (P.d (D.bool false),[]) else ae (P.d (D.bool false),[]))):=λg hg=>by refine⟨g,rfl,rfl,⟨hg.smS (by decide),Vl hg⟩,λe he=>⟨e,rfl,by rw[he];exact zj hg,hp,λhN=>⟨e,by rw[DL],rfl,by rw[he];exact zj hg,λs c hsc=> ?_⟩⟩⟩;rw[he] at hN hsc;obtain⟨h1,h2,h3⟩:=qaQ hg hN hsc;refine⟨s,rfl,rfl,h2,λl hl=> ?_,λbk=>absurd h3 (bk _)⟩;have hle:=BS hl h3;rw[h1,hle,he];refine⟨oe g,oe g,by rw[DL],rfl,by have:=BV hg;omega,λb hb=> ?_⟩;rw[hb.2 rfl];exact hp
 exact⟨rfl,rfl,m,rfl,rfl,hm,key [] (Uf.1.le (by decide)),λg hg=>key g hg.1⟩)
end
theorem tK{X:XF}(xs:List D)(h:rz PR 8 [22] xs): ∃lf k R,fG PR (MZ X) lf k 3 (xs.map P.d) []=some (.d (.bool true),R):=by obtain⟨x,r,rfl,hx,h⟩:=fitAll_cons h;have e:=fitAll_nil h;subst e;obtain⟨l,rfl,hl⟩:=qfc hx;obtain⟨lf,k,hr⟩:=(qhx (X:=X)).run (y:=(.d (.bool true),[])) ⟨l,rfl,rfl,hl,rfl⟩;exact⟨lf,k,[],hr⟩
end Pi
