/- The texts Wv11H Bs0 A6 Et Wv12 Wv12H Wv13 Wv13H Gn1 Gn1H GwP Gn3 Gn3H EtH Eu HlP TrE EuH Wv14 Wv14H Wv15 Wv15H Wv16 Wv16H W16 HtP VnP VuP Vu1 LsF GnF A6H Vu1H. -/
import Derived.Test.YtdgkdigdflkjhaaGreatDoorEaf
import Derived.Lib.LaidTab
import Derived.Lib.LaidU8T
import Derived.Stop.LaidErr
import Derived.Shelf.Vars
import Derived.Lay
import Derived.Deep.DeepHandedRow
import Derived.SevenTiedAt
import Derived.ProofKit
import Derived.Test.YtdgkdigdflkjhaaGreatDoorRows
open Option renaming some→Z,none→Y
open Bool renaming false→C,true→O
open List renaming length→J
open Go renaming TypeId→I,Value→W,Program→M
open List renaming map→aa,take→ab,replicate→ee,take_succ_eq_append_getElem→mi,count→th,reverse→ue,set→vc
open Prod renaming fst→ba,snd→bl
open Nat renaming beq→bo,ble→gr,eq_of_beq_eq_true→pt,testBit→so
open Int renaming toNat→dd,tmod→te
open ByteArray renaming mk→gz
open Option renaming isSome→ir,map→mm
open Array renaming replicate→ss,range→tz
open Pi.D renaming int→we,aq→xz,aj→AM,agg→BC,nth→CE,str→GT,bool→IM,sl→IR,dq→OF,cq→Q3,c8→RK
open Pi.En renaming mk→AC
open Pi.PX renaming normal→AD,exit→DD,ret→Q4
open Pi.S renaming mk→AS
open Pi.Obj renaming arr→Cs,box→H1,map→If,iter→Sa
open Pi.P renaming d→Do,sl→IH,ref→So
open Go.Op renaming operands→FS,bytesLess→Nm,equalIn→Q1
open Go.IntKind renaming i64→GE
open Pi.K renaming fail→HH,bind→IN
open Pi.KW renaming fail→ID,bind→IT,ret→Mo,dN→Q2
open Pi.FD renaming mk→IS
open Pi.Ext renaming refl→No
open Pi.Names renaming refl→NO
open Pi.Code renaming nv→Of
open Go.Instr renaming sliceBound→OK,sliceBounds→PM
open Go.Builtin renaming zeroCells→PP
namespace Pi
open Go Go.Proofs
set_option maxRecDepth 100000
set_option maxHeartbeats 0
theorem qsR:nP PR 138 1= .region 1 (opsOf 138 1).toArray C:=by rfl
theorem qsS es cf: ∃o1 A,opsOf 138 1=[o1,A]/\bw PR cf [o1,A] (qbD es []) o1=Z (qbD es [(3,.d (.sl 4 es))])/\A.op= .binOp .eql 177 (.tmp 3) (.const (.slice Y 0 0)) 177/\A.guard=Y/\A.dst=Z 4:=⟨_,_,rfl,by rfl,by rfl,by rfl,by rfl⟩
theorem qfD w d t e a l c (h:PR.underlying t=Z (.slice e)):(Q1 (d+1) t (.slice a l c) (.slice Y 0 0)).run PR w= .ok a.isNone w:=by cases a<;>simp[Q1,run_underlying h]
theorem qpY w t e a l c (h:PR.underlying t=Z (.slice e)):(binOp .eql t (.slice a l c) (.slice Y 0 0)).run PR w= .ok (.bool a.isNone) w:=by have:(Op.equal t (.slice a l c) (.slice Y 0 0)).run PR w= .ok a.isNone w:=qfD w 9999 t e a l c h;simp[binOp,this]
theorem UY x:bE PR 180 (cx x)=O:=by rfl
theorem qsT: ∃e,PR.underlying 177=Z (.slice e):=⟨180,by rfl⟩
theorem Gb all (B:(all.map (·.1)).Nodup) x: ∃y,aK (nE (lu (mO all)) (aF x)) .cd=y/\(y= .cd/\(ic all x).reverse=[]\/y= .sl 4 ((ic all x).reverse.map cx)):=by
 refine⟨_,rfl,?_⟩;have h:=qe9 B x;unfold nE;unfold getM at h;have:(λy:ak×List a8=>OF (aF y.1) (aF x))=λy=>y.1==x:=by funext y;rw[zbf,nX,zbV]
 rw[this];cases A:(lu (mO all)).find? (λy=>y.1==x) with
 |none=>rw[A] at h;exact .inl ⟨rfl,h.symm⟩
 |some y=>rw[A] at h;right;rw[<-h];rfl
section
variable{X:XF}{w0:World}(hX:b7 PR w0 X.cf)
include hX
theorem qpZ:GN w0 138 1 qpS:=by
 rintro val lo mk s E ⟨es,rfl,hp⟩;intro r oi F G w ac Q' hs hK;rw[qsR];refine wpIn_region_list ?_;obtain⟨o1,o2,e0,e1,e2,e3,e4⟩:=qsS es (eL PR (yP X) 0 0);rw[e0];have gm:b7 PR w0 (eL PR (yP X) 0 0):=lC (kp:=yP X) hX sK 0;refine cJ (eU gm hs e1 λA w1 ⟨F1,G1,k1,k2⟩=> ?_);have hv:=k1.tm 3 _ rfl;have Q: ∃b,(es≠[]->b=C)/\(execOp A.eval o2).run PR w1= .ok (.value (.bool b)) w1:=by
  have R:A.eval (.tmp 3)=A.tmps.getD 3 undef:=rfl;generalize A.tmps.getD 3 undef=v at hv R;obtain⟨e,he⟩:=qsT;have key: ∀B n c,v= .slice B n c->(execOp A.eval o2).run PR w1= .ok (.value (.bool B.isNone)) w1:=λB n c L=>by rw[L] at R;have H:A.eval (.const (.slice Y 0 0))= .slice Y 0 0:=rfl;simp only[execOp,e2,R,H,eqGuard,Sem.run_bind,Sem.run_pure];simp[qpY]
  cases hv with
  |d hd=>
   cases hd with
   |Qd B _ c=>grind
   |Qe b off _ cap _ f=>grind
 obtain⟨b,hb,hx⟩:=Q;refine cJ ?_;rw[zau (by simp[Region.wanted,e3])];obtain⟨d1,d2⟩:=cL k1 (dst:=Z 4) (p:= .d (.bool b)) (s':=qbD es [(3,.d (.sl 4 es)),(4,.d (.bool b))]) rfl (v:= .bool b) (.d (.bool b));refine lR (λc hc=>by rw[e2] at hc;cases hc) (v:= .bool b) (w':=w1) (.inl hx) ?_;rw[e4];exact hK .normal _ _ _ (hp b hb) ⟨F1,G1,d1,k2⟩
theorem qp0:ND w0 138 qpU:=NR.mk hX .nil .nil (.reg (id:=1) (qpZ hX) .nil) (by
 rintro ps R E ⟨x,es,rfl,rfl,hx,B,A⟩;rcases hx with⟨rfl,rfl⟩|rfl
 ·skip
  refine⟨[],rfl,λb _=> ?_⟩;cases b with
  |true=>exact A
  |false=>exact A
 ·(rw[<-qpT];delta Zgz Zgx ZV Zgw Zgy)
  refine⟨es.map cx,rfl,λb F=> ?_⟩;cases b with
  |true=>
   have:es=[]:=by simp_all
   grind
  |false=>rw[zbt,zaE,zaa];exact ao (by rw[zac];exact⟨rfl,bP (by omega) (by omega)⟩) A)
theorem qp1:LN w0 92 3 (ah (aV 92 3) qpW):=LN.par hX (by rfl) .nil .nil .nil
 (A:=List a8) (B:=List a8×List a8) (λall b=>orH (lu (mO all)) b.1 b.2.reverse)
 (λa b=>qbE a/\wx a b.1 b.2/\b.1++uC a (J a+1) b.2=uD a) (λa b=>J a-J b.1)
 (λa z=>z=(.exit 0,⟨38,[(4,.sl 0 0 (J (uD a)))],[(0,⟨0,Y,dY (uD a)⟩)]⟩))
 (by
  rintro a ⟨o,w⟩ ⟨F,hw,hx⟩;dsimp only at*
  (rw[<-qpV];delta tF ZgH kQ qU zb ZgB ZgC ZgD ZgE ZgG Zgv CC ZdH k7 ZgF Av Z8 Z7)
  have hc1:=F.1;cases w with
  |nil=>
   refine Cj (by simp) ?_;have:o=uD a:=by rw[<-hx];simp[uC]
   rw[this];rfl
  |cons x w=>
   have hs:=hw.step F.2.1 F.2.2;have Db:=hs.len;rw[zaf,zaf,zbP] at Db;have hm:=FU F.2.1 F.2.2 (J a) (J a+1) (o++[x]) (ic a x.1++w) hs (by rw[zaf,zbP];omega) (by omega);have M8:(o++[x])++uC a (J a+1) (ic a x.1++w)=uD a:=by rw[<-hm,<-hx,zaW];rfl
   have L:(J (x::w).reverse:Int)-1=J w:=by simp
   have ht:dd (J w:Int)=J w:=zbY _;have e0:(x::w).reverse=w.reverse++[x]:=List.reverse_cons ..;have e1:CE ((x::w).reverse.map cx) (J w)=cx x:=by simp[CE]
   rw[L,ht,e1];have Q:J (x::w).reverse=J w+1:=by simp
   rw[zaa];obtain⟨y,hy,H⟩:=Gb a F.2.1 x.1;have c1:BC [we GE (AM (xz (cx x) 0)),we GE (AM (xz (cx x) 1)),we GE (AM (xz (cx x) 2))]=aF x.1:=rfl;have c3:BC [we GE (AM (xz (cx x) 0)),we GE (AM (xz (cx x) 1)),we GE (AM (xz (cx x) 2)),GT (Q3 (xz (cx x) 3))]=cx x:=rfl;rw[c1,c3,hy,bx,Q];have c4:ab (J w) ((x::w).reverse.map cx)=w.reverse.map cx:=by rw[e0,zaC,zbH (by simp)]
   rw[c4];have Hj: ∀(k:Nat) (es:List a8),k=J es->es=(ic a x.1).reverse->roundPost (J a-J o) (λm s=> ∃G:List a8×List a8,s=orH (lu (mO a)) G.1 G.2.reverse/\(qbE a/\wx a G.1 G.2/\G.1++uC a (J a+1) G.2=uD a)/\m=J a-J G.1) (λz=>z=(.exit 0,⟨38,[(4,.sl 0 0 (J (uD a)))],[(0,⟨0,Y,dY (uD a)⟩)]⟩)) (.normal,⟨38,[(3,.mp 0 0),(4,.sl 1 0 (J o+1)),(5,.sl 2 0 (J w+k))],[(0,⟨0,Y,.map 49 (nE (lu (mO a))) (J (lu (mO a))) O⟩),(1,⟨0,Y,dY (o++[x])⟩),(2,⟨0,Y,.arr 180 C (w.reverse.map cx++es.map cx)⟩)]⟩):=λk es hk Da=>by refine⟨J a-(J o+1),by omega,(o++[x],ic a x.1++w),?_,⟨F,hs,M8⟩,by rw[zaf,zbP]⟩;grind
   refine dv (by omega) (ar (by omega) (ar (by omega) (ar (by omega) (ao (UY x) (ao (fy rfl (by rw[zaa]) (by omega) (by decide)) (ar (by omega) ⟨?_,λes R=> ?_,λR=> ?_,λb n c R=> ?_⟩))))))
   ·rcases H with⟨rfl,_⟩|rfl<;>rfl
   ·rcases H with⟨rfl,_⟩|rfl
    ·cases R
    have I2:es=(ic a x.1).reverse.map cx:=by grind
    subst I2;have QF:J (ic a x.1).reverse=J (ic a x.1):=zcr ..;refine ao (by rw[zac];exact⟨by simp,bP (by rw[zaa];omega) (by rw[zaa];omega)⟩) ?_;exact Hj _ (ic a x.1).reverse (by rw[zaa]) rfl
   ·have xd:(ic a x.1).reverse=[]:=by grind
    refine ao (by rw[zac];exact⟨by simp,bP (by omega) (by omega)⟩) ?_;exact Hj 0 [] rfl xd.symm
   grind)
 (by rintro s E ⟨a,rfl,F,hp⟩;refine⟨a,([],ic a aJ),rfl,⟨F,wx.start F.2.1,rfl⟩,?_⟩;grind)
theorem qp2:ND w0 92 qhj:=ND.mk hX .nil (.cons (qkH hX) (.cons (qp0 hX) .nil)) (Lu.hks (.cons (qp1 hX) .nil) (by rfl)) (by
 rintro ps R E ⟨l,rfl,rfl,hs,Q⟩
 (rw[<-qpX];delta kQ qU Af tF ZgH Zgx Zgv ZgK CC ZfG Zn ZgL ZdH Z5 ZgI ZgJ F6 ZfX)
 have G:=CS (l:=l) _ (zag _);have B:=qm (l:=l) _ (zag _);rw[zan] at G B;have L:J (ku l)<=1000000:=zaJ B hs.2.1;have hA:qbE (ku l):=⟨L,G.1,λe F=>(G.2 e F).1⟩
 have QF:J ((ic (ku l) aJ).reverse)<=1000000:=by rw[zcr];have:=(wx.start G.1).len;omega
 refine⟨l,rfl,rfl,hs,λm hm=> ?_⟩;subst hm;obtain⟨y,hy,A⟩:=Gb (ku l) G.1 aJ;have c1:BC [we GE (0:Int),we GE (0:Int),we GE (0:Int)]=aF aJ:=rfl;rw[c1,hy];refine⟨?_,λes F=> ?_,λF=> ?_,λb n c F=> ?_⟩
 ·rcases A with⟨rfl,_⟩|rfl<;>rfl
 ·rcases A with⟨rfl,_⟩|rfl
  ·cases F
  have I2:es=(ic (ku l) aJ).reverse.map cx:=by grind
  subst I2;exact⟨_,(ic (ku l) aJ).reverse,rfl,rfl,.inr rfl,QF,ku l,rfl,hA,λo H=>Q o H⟩
 ·have xd:(ic (ku l) aJ).reverse=[]:=by grind
  exact⟨_,(ic (ku l) aJ).reverse,rfl,rfl,.inl ⟨rfl,xd⟩,QF,ku l,rfl,hA,λo H=>Q o H⟩
 grind)
end
end Pi
namespace Pi
open Go Go.Proofs Go.RowKit Go.Shelf
set_option maxRecDepth 100000
set_option maxHeartbeats 2000000 in
theorem qbF b cap p a R w w1 (B:w.heap[b]?=some (.cells #[p,.slice a 0 cap] 228 (0,0)))
  (hSD:(Builtin.unsafeSliceData_ #[(Tryz.aR.t 37)] (Tryz.aR.t 127) #[.slice a 0 cap]).run Tryz.prog w.drew= .ok (.pointer R) w1) (Q:w1.heap[b]?=w.heap[b]?):
  Calls Tryz.prog 135 #[.pointer (some ⟨b,0,none⟩)] w λe w'=>e= .returned (.string ⟨#[]⟩)/\w'=w1:=by
 have L:=Tryz.vF;have hUS:=λW q=>Lib.run_unsafeString_none (P:=Tryz.prog) W (Tryz.aR.t 127) (Tryz.aR.t 3) (Tryz.aR.t 9) q;have c1:w.drew.cell? ⟨b,1,none⟩=some (.slice a 0 cap):=by have:w.drew.heap[b]?=some (.cells #[p,.slice a 0 cap] 228 (0,0)):=B;rw[Lib.cell_of_heap this];rfl
 have c2:w1.cell? ⟨b,1,none⟩=some (.slice a 0 cap):=by rw[Lib.cell_of_heap (Q.trans B)];rfl
 have A:=L.mixed;have G:=run_underlying L.t72
 skip
 have H:=L.t37;have a37:=L.a37;have F:=L.z37;skip
 skip
 skip
 skip
 skip
 go_enter L.f169,Body.n169_ntmps Tryz.aR
 go_wp2
 go_region_o
 all_goals (go_wp2;go_ret;exact⟨rfl,rfl⟩)
theorem de.more{T F G w w'}{R}(h:de Tryz.prog T F G w R)(hx: ∀b,b<w.heap.size->w'.heap[b]?=w.heap[b]?)(hs:w.heap.size<=w'.heap.size)(hd:w.drawn<=w'.drawn)(H: ∀n e b,lk R n=Z e->a7 (G n) e.obj b->b<w.heap.size):de Tryz.prog T F G w' R:=by have Q:Names G G R R:=NO G R;exact⟨⟨h.oR.1,λd hd=>by cases hd⟩,h.size,λt p L=>by simp[lk] at L,λn e B=>(h.rg n e B).mono (λ_ h=>h) (λb A=>hx b (h.gL b A)) Q rfl (λb A=>hx b (H n e b B A)),h.own,h.jb,λb A=>zaR (h.gL b A) hs,h.tag,λb A=>⟨(h.z b A).1,(hx b (h.gL b (h.z b A).1)).trans (h.z b A).2⟩,zaJ h.dr hd,zaJ h.sz hs⟩
def qhk:bc:=λps R E=>ps=[bS]/\R=bO (Z 0) (Z 1) bN []/\E (sD [],bO (Z 0) (Z 1) bN [])
theorem qkI{w0}:ND w0 135 qhk:=by
 rintro ps R E ⟨rfl,rfl,hp⟩ F G w vs hH hl hv
 match vs,hl,hv with
 | [u],_,hv=>
  have hpu:=hv 0 u _ rfl rfl;cases hpu with
  |ref _ _ _ _ hr h1=>
   have hce:=enters Tryz.func135 (by rfl) (by rfl);have hO:=hH.rg 0 _ rfl;obtain⟨b,hG,rfl⟩:=hr.at (e:=⟨0,Z 0,.box 228 [bN,.sl 1 0 0]⟩) rfl rfl rfl;obtain⟨b',cs,Q,hh,dy,gT,jU⟩:=hO;rw[hG] at Q;simp at Q;subst Q;have ou:=jU 1 _ rfl;have hOm:=hH.rg 1 _ rfl;have h2:=xx (by omega);generalize cs.getD 1 undef=c1 at ou h2;cases ou with
   |sl _ _ _ _ _ hrm=>
    obtain⟨a,N,cap,B,rfl,hlN⟩:=hrm.at (e:=⟨0,Z 1,u8R []⟩) rfl rfl rfl;rw[h2] at hh;have yH: ∀n e b,lk (bO (Z 0) (Z 1) bN []) n=Z e->a7 (G n) e.obj b->b<w.heap.size:=λn e b H A=>by
     have hOn:=hH.rg n e H;rcases n with _ |_ |n
     ·cases H;rw[hG] at A;cases A;grind
     ·cases H;have A:aI (G 1)=Z b:=A.2;rcases hOn with⟨hg,_⟩| ⟨g,iZ,cur,k,K1,hg,_⟩
      ·rw[hg] at A;cases A
      rw[K1] at A;cases A;grind
     cases H
    have fin: ∀w1 L,(Builtin.unsafeSliceData_ #[(Tryz.aR.t 37)] (Tryz.aR.t 127) #[.slice a 0 cap]).run Tryz.prog w.drew= .ok (.pointer L) w1->(∀b,b<w.heap.size->w1.heap[b]?=w.heap[b]?)->w.heap.size<=w1.heap.size->w.drawn<=w1.drawn->w1.os=w.os/\w1.tape=w.tape/\w1.output=w.output->jq PR 135 #[.pointer (Z ⟨b,0,Y⟩)] w (λv w'=> ∃y:P×List (Nat×En),E y/\ ∃F' G',de PR ⟨G,w0,0,C⟩ F' G' w' y.2/\aL F' w' G' y.2 v y.1/\Ext (Own G (bO (Z 0) (Z 1) bN [])) (Own G' y.2) F F' w w'):=λw1 L hSD k1 k2 k3 k4=>by
     refine .inl ⟨hce _ w,(qbF b cap _ a L w w1 hh hSD (k1 b (zar.1 hh).1)).mono λe' w' ⟨cP,zO⟩=>⟨_,cP,_,hp,F,G,?_,.d (.str []),?_⟩⟩
     ·grind [de.more]
     subst zO;exact⟨λ_ h=>h,λ_ h=> .inl h,λ_ h=> .inl h,λb A _=>k1 b A,k2,k4.1,k4.2.1,k4.2.2⟩
    cases a with
    |none=>exact fin w.drew Y rfl (λ_ _=>rfl) (zag _) (zb5 _) ⟨rfl,rfl,rfl⟩
    |some ad=>
     by_cases hc:cap=0
     ·subst hc;rcases hOm with⟨hg,_⟩| ⟨g,iZ,cur,k,K1,hg,_⟩
      ·rw[hg] at B;cases B
      rw[B] at K1;obtain⟨rfl,_,_⟩:=K1;have NP:w.drew.shape? g=Z (5,cur.size):=by have DB:w.drew.heap[g]?=Z (.cells cur 5 (0,0)):=hg;simp[World.shape?,DB]
      have:=Lib.run_unsafeSliceData_zero (P:=Tryz.prog) (w:=w.drew) #[(Tryz.aR.t 37)] (Tryz.aR.t 127) (Tryz.aR.t 5) Tryz.vF.t127 ⟨g,0,Y⟩ 0 _ NP;exact fin _ _ this (λb A=>vE w.drew _ A) (by simp) (zb5 _) ⟨rfl,rfl,rfl⟩
     exact fin w.drew (Z ad) (Lib.run_unsafeSliceData_row _ _ _ _ _ _ hc) (λ_ _=>rfl) (zag _) (zb5 _) ⟨rfl,rfl,rfl⟩
def qhl:bc:=λps R E=>qmG ps R E\/qhk ps R E
theorem ND.qsV{X w0}(hX:b7 PR w0 X.cf){f h}(hf:FD X f h):ND w0 f h:=λps R E Q F G w vs hH hl L=>by obtain⟨x,h1,h2⟩:=hf ps R E Q;obtain⟨lf,k,h3⟩:=h1.some;exact jq.mono (lC (kp:=yP X) (lf:=lf) hX sK k f ps R x.1 x.2 h3 F G w vs hH hl L) λv w' ⟨F',G',H,B,A⟩=>⟨x,h2,F',G',H,B,A⟩
theorem qkJ{X:XF}{w0}(hX:b7 PR w0 X.cf):ND w0 135 qhl:=λps R E h=>h.elim (ND.qsV hX qmJ ps R E) (qkI ps R E)
end Pi
namespace Pi
open Go Go.Proofs
set_option maxRecDepth 100000
set_option maxHeartbeats 0
abbrev saH(a b:List sO)(k:Int):S:=⟨26,[(0,esP a),(1,esP b),(5,iD k)],[]⟩
def gSa:S->K (PX×S):=λs E=> ∃v w,s=saH v w 0/\(J v=J w/\J v<=3000000)/\(v≠w->E (.ret,⟨26,[(4,lG C)],[]⟩))/\(v=w->E (.exit 0,⟨26,[],[]⟩))
def qbG:bc:=λps R E=> ∃v w,ps=[esP v,esP w]/\R=[]/\J v<=3000000/\ ∀b,(b=O↔v=w)->E (lG b,[])
def ZgN a:=Do (IR 3 (aa wP a))
def ZgM a:=(↑(J (aa wP a)):Int)
theorem qp3 a b k E:(bif decide (k<ZgM a) then ob (decide ((0:Int)<=k/\k<ZgM a)) (ob (bE PR (47:I) (CE (aa wP a) (Zs k))) (ob (decide ((0:Int)<=k/\k<ZgM b)) (ob (bE PR (47:I) (CE (aa wP b) (Zs k))) (bif !(Q3 (xz (CE (aa wP a) (Zs k)) 0)==Q3 (xz (CE (aa wP b) (Zs k)) 0)&&(RK (xz (CE (aa wP a) (Zs k)) 1)==RK (xz (CE (aa wP b) (Zs k)) 1)&&(Q3 (xz (CE (aa wP a) (Zs k)) 2)==Q3 (xz (CE (aa wP b) (Zs k)) 2)&&O))) then E (Q4,AS 26 Zu []) else ob (Zv k) (E (AD,AS 26 ((0,ZgN a)::(1,ZgN b)::ZB k) [])))))) else ZC E)=(aG [] [] 10 4 (saH a b k)) E:=by kernel_rfl
def ZgO v w:=AS 26 ((0,ZgN v)::(1,ZgN w)::ZS) []
theorem qsW a b E:(bif ZgM a !=ZgM b then Z3 E else∃v w,ZgO a b=ZgO v w/\(J v=J w/\J v<=3000000)/\(v≠w->Z3 E)/\(v=w->ZU E))=(aO [] [(4,ah (aV 10 4) gSa)] 10 [esP a,esP b] []) E:=by kernel_rfl
def goO on x (o:bq):=if o.kind=4/\o.node=x/\on=O then o.elems else []
def Ss on x (l:List bq):=l.flatMap (goO on x)
def ie(l:List au)(o:List aN) x:=l.flatMap λg=>Ss (decide (g.s∈o)) x g.ops
def qsX l (on:List aN):=(J l<=1000000/\cK l<=1000/\J on<=1000000)/\ ∀g∈l,∀o∈g.ops,J o.elems<=2000
def ZgR g:= ∀o,o∈au.ops g->J (bq.elems o)<=2000
def seT(on:List aN)(g:List ak)(e:a8):=decide (Jj e.1∈on)&& !decide (e.1∈g)
def n5 l on g:=(uD (ku l)).filter (seT on g)
def Zh9 g:=(2,gC g)
def fW(l:List a8):=l.flatMap (·.2.2)
abbrev twB(p:P)(c:List UInt8):List (Nat×En):=[(1,⟨0,Y,.box 228 [p,.sl 2 0 (J c)]⟩),(2,⟨0,Y,u8R c⟩)]
abbrev twS(l:List a8)(a:List D)(p:P)(c:List UInt8)(i:Int):S:=⟨29,[(4,.sl 0 0 (J l)),(5,.ref 1 0 0),(11,.d (.sl 4 (l.map cx))),(12,iD (J l)),(13,iD i)],(0,⟨0,Y,.arr 49 C a⟩)::twB p c⟩
def Zhf A:=[(2,AC 0 Y (Cs (5:I) C (aa bD A)))]
def Zhi l i:=[cp,Do (GT (Q3 (xz (CE (tF l) (Zs i)) 3)))]
def Zhg A:=(1,AC 0 Y (H1 (228:I) [jB,IH 2 0 (jO A)]))::Zhf A
def Zhe l:=(11,Do (IR 4 (tF l)))
def Z4w s1 p A:=s1=(0,AC 0 (Z 0) (H1 (228:I) (p::Z4u A)))::Z4v A
def Zhh i (E:PX×S->Prop) l a:=λs0 s1=> ∃p A s,s0=cp::lH s/\Z4w s1 p A/\(p=bN\/p=bS)/\(jO A<=1000000000000/\jO s<=1000000000000)/\ ∀(B:List UInt8) (_:Int),B=A++s->ob (Zv i) (E (AD,AS 29 [(4,qU l),Z74,Zhe l,(12,Do (we GE (zb l))),(13,ZA i)] ((0,AC 0 Y (Cs (49:I) C (vc a (Zs i) (D.aY (Zbf a i) [we GE (AM (xz (CE (tF l) (Zs i)) 0)),we GE (AM (xz (CE (tF l) (Zs i)) 1)),we GE (AM (xz (CE (tF l) (Zs i)) 2))]))))::Zhg B)))
noncomputable def Zhd l i:=bE PR (180:I) (CE (tF l) (Zs i))
theorem qp4 l a c i E:(bif Zfm i l then ob (decide ((0:Int)<=i/\i<(↑(Av l):Int))) (ob (Zhd l i) (ob (Zfy i l) (ob (tA i a) (ob (Vy a i) (Zhh i E l a (Zhi l i) (Z4y c)))))) else E (DD 0,AS 29 [(4,qU l),Z74] ((0,vU a)::(1,AC 0 Y (H1 (228:I) [Do D.lW,IH 2 0 (jO c)]))::Zhf c)))=(bV [(134,hWS)] [] [] 90 4 (twS l a bN c i)) E:=by kernel_rfl
theorem qp5 l a c i E:(bif Zfm i l then ob (decide ((0:Int)<=i/\i<(↑(Av l):Int))) (ob (Zhd l i) (ob (Zfy i l) (ob (tA i a) (ob (Vy a i) (Zhh i E l a (Zhi l i) (Z4z c)))))) else E (DD 0,AS 29 [(4,qU l),Z74] ((0,vU a)::Zhg c)))=(bV [(134,hWS)] [] [] 90 4 (twS l a (.ref 1 0 0) c i)) E:=by kernel_rfl
abbrev twX(l:List a8)(p:P)(c:List UInt8):S:=⟨29,[(4,.sl 0 0 (J l)),(5,.ref 1 0 0)],(0,⟨0,Y,fw C (l.map (·.1))⟩)::twB p c⟩
def UZ l:=J l<=1000000/\J (fW l)<=1000000000000/\ ∀e∈l,e.2.2≠[]
def gTw:S->K (PX×S):=λs E=> ∃l,s=twS l (ee (J (aa cx l)) (BC [we GE 0,we GE 0,we GE 0])) bN [] 0/\UZ l/\(l=[]->E (.exit 0,twX [] bN []))/\ ∀c,c≠[]->c=fW l->E (.exit 0,twX l (.ref 1 0 0) c)
def Zhl A:=AC 0 Y (Cs (49:I) C (aa aF (aa (λ(x:a8)=>ba x) A)))
def Zhm A:=[(0,Zhl A)]
def Zhk:=[(0,AC 0 (Z 0) (H1 (228:I) [Do D.lW,Af])),(1,AC 0 (Z 1) (Cs (5:I) C []))]
def Zhj A:=[(0,AC 0 Y (Cs (49:I) C (ee (Av A) ZgI))),(1,AC 0 Y (H1 (228:I) [Do D.lW,IH 2 0 0])),(2,AC 0 Y (Cs (5:I) C []))]
theorem qsY l E:(ob (decide ((0:Int)<=(↑(Av l):Int)/\(↑(Av l):Int)<=(↑(Av l):Int)/\(↑(Av l):Int)<=Z8/\(24:Int)*(↑(Av l):Int)<=Z3q)) (∃A,AS 29 ((4,IH 0 0 (Av l))::Z74::Zhe l::(12,Do (we GE (↑(Av l):Int)))::ZbB) (Zhj l)=AS 29 ((4,qU A)::Z74::Zhe A::(12,Do (we GE (zb A)))::ZbB) (Zhj A)/\UZ A/\(A=[]->(∃c,oI=oI/\Zhk=Z4z c/\c≠[]/\E (P.cy (ZV::lH c),Zbv))\/oI=oI/\Zhk=Zhk/\E (P.cy [ZV,Do nA],Zbv))/\ ∀c,c≠[]->c=fW A->(∃B,oI=oI/\Z4z c=Z4z B/\B≠[]/\E (P.cy (qU A::lH B),Zhm A))\/oI=oI/\Z4z c=Zhk/\E (P.cy [qU A,Do nA],Zhm A)))=(fK [] [(135,qhl)] [(4,ah (aV 90 4) gTw)] 90 [.d (.sl 4 (l.map cx))] []) E:=by kernel_rfl
def qhm:bc:=λps R E=> ∃l,ps=[.d (.sl 4 (l.map cx))]/\R=[]/\UZ l/\E (.cy [.sl 0 0 (J l),sD (fW l)],[(0,⟨0,Y,fw C (l.map (·.1))⟩)])
def zIx:D:= .agg [.int GE 0,.int GE 0,.int GE 0]
def MI(l:List a8) k:=(l.take k).map (λe=>aF e.1)++ee (J l-k) zIx
theorem Sv{l k}(h:k<=J l):J (MI l k)=J l:=by grind [MI]
theorem Sw{l k}(h:k<J l):CE (MI l k) k=zIx:=by grind [CE,MI,aF]
theorem qfE{l k}(h:k<J l):(MI l k).set k (aF l[k].1)=MI l (k+1):=by
 unfold MI;have A:J ((l.take k).map λe=>aF e.1)=k:=by simp;omega
 rw[List.set_append_right _ _ (by omega),A,zcP,show J l-k=(J l-(k+1))+1 by omega,List.replicate_succ,zc2,zah h,zaC,zaW];rfl
theorem qfF l:MI l (J l)=(l.map (·.1)).map aF:=by simp[MI]
theorem Gc{l k}(h:k<J l):fW (l.take (k+1))=fW (l.take k)++l[k].2.2:=by grind [fW,mi]
theorem qfG l k:J (fW (l.take k))<=J (fW l):=by grind [fW,List.take_append_drop,List.length_append]
section
variable{X:XF}{w0:World}(hX:b7 PR w0 X.cf)
include hX
theorem qsZ:LN w0 90 4 (ah (aV 90 4) gTw):=LN.par hX (by rfl) (.cons qrH .nil) .nil .nil
 (A:=List a8) (B:=Bool×Int) (λl b=>twS l (MI l b.2.toNat) (bif b.1 then bN else .ref 1 0 0) (fW (l.take b.2.toNat)) b.2)
 (λl b=>UZ l/\(0<=b.2/\b.2<=J l)/\(b.1=O->b.2=0)/\(b.1=C->0<b.2)) (λl b=>J l-b.2.toNat)
 (λl x=>(l=[]/\x=(.exit 0,twX [] bN []))\/(fW l≠[]/\x=(.exit 0,twX l (.ref 1 0 0) (fW l))))
 (by
  rintro l ⟨f,i⟩ ⟨hs,⟨R,dE⟩,hf,hf2⟩;have hl1:=hs.1;have key:i<J l->(F:i.toNat<J l)->(roundPost (J l-i.toNat) (λm s=> ∃G:Bool×Int,s=twS l (MI l G.2.toNat) (bif G.1 then bN else .ref 1 0 0) (fW (l.take G.2.toNat)) G.2/\(UZ l/\(0<=G.2/\G.2<=J l)/\(G.1=O->G.2=0)/\(G.1=C->0<G.2))/\m=J l-G.2.toNat) (λx=>(l=[]/\x=(.exit 0,twX [] bN []))\/(fW l≠[]/\x=(.exit 0,twX l (.ref 1 0 0) (fW l)))) (.normal,twS l ((MI l i.toNat).set i.toNat (aF l[i.toNat].1)) (.ref 1 0 0) (fW (l.take i.toNat)++l[i.toNat].2.2) (i+1))):=λhi F=>by refine⟨J l-(i+1).toNat,by omega,(C,i+1),?_,⟨hs,⟨by grind,by grind⟩,(λh=>by cases h),λ_=>by grind⟩,rfl⟩;show _=twS l (MI l (i+1).toNat) (.ref 1 0 0) (fW (l.take (i+1).toNat)) (i+1);rw[show(i+1).toNat=i.toNat+1 by omega,qfE F,Gc F]
  have H: ∀F:i.toNat<J l,J (fW (l.take i.toNat))<=1000000000000/\J l[i.toNat].2.2<=1000000000000:=λF=>by have Q:=qfG l (i.toNat+1);rw[Gc F,zaf] at Q;have h3:=hs.2.1;omega
  have e1: ∀F:i.toNat<J l,CE (l.map cx) i.toNat=cx l[i.toNat]:=λF=>aA _ _ _ F;have e3: ∀x:a8,D.aY (BC [we GE (AM (xz zIx 0)),we GE (AM (xz zIx 1)),we GE (AM (xz zIx 2))]) [we GE (AM (xz (cx x) 0)),we GE (AM (xz (cx x) 1)),we GE (AM (xz (cx x) 2))]=aF x.1:=λ_=>rfl;cases f with
  |true=>
   have zl:=hf rfl;show bV _ [] [] _ 4 (twS l (MI l i.toNat) bN (fW (l.take i.toNat)) i) _
   (rw[<-qp4];delta Zhf jO vU jB Z74 kQ qU Z4v Z4u Z4y Zs tF cp Zhi Zhg nT RD H8 H9 Zbf Zz ZA zb Zhe Z8 Z7 Zv Z4w lH Zhh Vy tA Zfy Zhd Av Zfm)
   refine b8 (λhi=> ?_) λhi=> ?_
   ·have F:i.toNat<J l:=by omega
    rw[e1 F,Sw F,e3];refine ar (by grind) (ao (UY _) (ar ⟨R,hi⟩ (ar (by rw[Sv (by omega)];exact F) (ao (jG (0,0,0)) ⟨bN,_,l[i.toNat].2.2,rfl,rfl,.inl rfl,H F,λc' n nJ=>ar (by omega) ?_⟩))));grind
   have:l=[]:=zds.1 (by omega);subst this;subst zl;exact .inl ⟨rfl,rfl⟩
  |false=>
   show bV _ [] [] _ 4 (twS l (MI l i.toNat) (.ref 1 0 0) (fW (l.take i.toNat)) i) _
   (rw[<-qp5];delta Zhf jO jB Zhg vU Z74 kQ qU Z4v Z4u cp Z4z Zs tF Zhi nT RD H8 H9 Zbf Zz ZA zb Zhe Z8 Z7 Zv Z4w lH Zhh Vy tA Zfy Zhd Av Zfm)
   refine b8 (λhi=> ?_) λhi=> ?_
   ·have F:i.toNat<J l:=by omega
    rw[e1 F,Sw F,e3];refine ar (by grind) (ao (UY _) (ar ⟨R,hi⟩ (ar (by rw[Sv (by omega)];exact F) (ao (jG (0,0,0)) ⟨bS,_,l[i.toNat].2.2,rfl,rfl,.inr rfl,H F,λc' n nJ=>ar (by omega) ?_⟩))));grind
   have L:i.toNat=J l:=by omega
   rw[L,zan,qfF];refine .inr ⟨λh=> ?_,rfl⟩;cases l with
   |nil=>grind
   |cons x r=>have:=hs.2.2 x (.head _);unfold fW at h;rw[zbT,List.append_eq_nil_iff] at h;exact this h.1)
 (by
  rintro s E ⟨l,rfl,hs,h1,Q⟩;refine⟨l,(O,0),?_,⟨hs,⟨zbW 0,by simp⟩,λ_=>rfl,λh=>by cases h⟩,?_⟩
  ·show _=twS l (MI l 0) bN (fW (l.take 0)) 0;unfold MI;rw[List.take_zero,zaa];rfl
  grind)
theorem qkK:ND w0 90 qhm:=ND.mk hX .nil (.cons (qkJ hX) .nil) (Lu.hks (.cons (qsZ hX) .nil) (by rfl)) (by
 rintro ps R E ⟨l,rfl,rfl,hs,A⟩
 (rw[<-qsY];delta Zhl Zhm nA xH Zbv lH ZV Z4v jO Z4u cp Z4z Af Zhk oI kQ zb qU Z5 ZgI tF Av Zhj ZbB Zhe jB Z74 Z3q Z8)
 have B:=hs.1;rw[zaa];refine ar (by omega) ⟨l,by rw[zaa],hs,λh=> ?_,λc G F=> ?_⟩
 ·subst h;exact .inr ⟨rfl,rfl,A⟩
 grind)
end
structure ni where
 U:List aN
 g:List ak
 c:Int
 d:Int
abbrev seR(b:Nat)(V:ni):List (Nat×En):=[(b,⟨0,Z b,.box 100 [.mp (b+1) 0]⟩),(b+1,⟨0,Z (b+1),.map 27 (cM V.U) V.c C⟩),(b+2,⟨0,Z (b+2),.box 175 [.mp (b+3) 0]⟩),(b+3,⟨0,Z (b+3),.map 49 (cI V.g) V.d C⟩)]
def iY(V:ni)(x:a8):=decide (V.U.count (Jj x.1)=0)||decide (0<V.g.count x.1)
def qkL:bc:=λps R E=> ∃x V,ps=[.d (cx x),.ref 0 0 0,.ref 2 0 0]/\R=seR 0 V/\E (.d (.bool (iY V x)),seR 0 V)
def Zho(x:a8):=we GE (ba (bl (ba x)))
def Zhn(x:a8):=we GE (ba (ba x))
def Zhu V x:=aK (cI (ni.g V) (BC [Zhn x,Zho x,we GE (bl (bl (ba x)))])) Z5
def Zhs V:=If 49 (λd=>match d with |BC [we GE a,we GE b,we GE c]=>if th (a,b,c) (ni.g V)=0 then Y else Z (iE (↑(th (a,b,c) (ni.g V)):Int))|_=>Y) (ni.d V) C
def Zhr V:=If 27 (λd=>match d with |BC [we GE a,we GE b]=>if th (a,b) (ni.U V)=0 then Y else Z (iE (↑(th (a,b) (ni.U V)):Int))|_=>Y) (ni.c V) C
def Zhq:=H1 (100:I) [P.mp 1 0]
def Zht V:=[(0,AC 0 (Z 0) Zhq),(1,AC 0 (Z 1) (Zhr V)),(2,AC 0 (Z 2) (H1 (175:I) [kP])),(3,AC 0 (Z 3) (Zhs V))]
def Zhp V x:=aK (cM (ni.U V) (BC [Zhn x,Zho x])) Z5
theorem qp6 x V E:(ob (bE PR (3:I) (Zhp V x)) (bif AM (Zhp V x)==(0:Int) then E (ZT,Zht V) else ob (bE PR (3:I) (Zhu V x)) (E (Do (IM (decide (AM (Zhu V x)>(0:Int)))),Zht V))))=(aO [] [] 93 [.d (cx x),.ref 0 0 0,.ref 2 0 0] (seR 0 V)) E:=by kernel_rfl
abbrev seS(m:List a8) V:=(0,⟨0,Z 0,.arr 180 C (m.map cx)⟩)::seR 1 V
abbrev MJ:P:= .fn 93 [.ref 1 0 0,.ref 3 0 0]
abbrev ixE(m:List a8)(V:ni)(n k:Int):S:=⟨19,[(0,.sl 0 0 (J m)),(1,MJ),(7,iD n),(8,iD k)],seS m V⟩
abbrev oxE(m:List a8)(V:ni)(i:Int):PX×S:=(.ret,⟨19,[(0,.sl 0 0 (J m)),(1,MJ),(4,iD i)],seS m V⟩)
abbrev qp7(m:List a8)(V:ni):PX×S:=(.exit 0,⟨19,[(0,.sl 0 0 (J m)),(1,MJ)],seS m V⟩)
def ZhA:=(3,AC 0 (Z 3) (H1 (175:I) [P.mp 4 0]))
def Zhz:=(1,AC 0 (Z 1) (H1 (100:I) [P.mp 2 0]))
def ZhB A:=[Zhz,(2,AC 0 (Z 2) (Zhr A)),ZhA,(4,AC 0 (Z 4) (Zhs A))]
def Sx m A:=ZdO m::ZhB A
def Zhx:=P.fn (93:FuncId) [jB,PB]
def Zhy:=(1,Zhx)
def Zhw m:=(0,qU m)
def ZhD m k:=[we GE (AM (xz (CE (tF m) (Zs k)) 0)),we GE (AM (xz (CE (tF m) (Zs k)) 1)),we GE (AM (xz (CE (tF m) (Zs k)) 2)),GT (Q3 (xz (CE (tF m) (Zs k)) 3))]
theorem qp8 m V n k E:(bif Zh k n then ob (Zfy k m) (ob (decide (Zs k<Av m)) (ob (Zhd m k) (∃x A,[Do (BC (ZhD m k)),cp,qh]=[Do (BC [Zhn x,Zho x,we GE (bl (bl (ba x))),GT (bl (bl x))]),cp,qh]/\Zht V=Zht A/\bif iY A x then E (Q4,AS 19 (Zhw m::Zhy::HU k) (Sx m A)) else ob (Zv k) (E (AD,AS 19 (Zhw m::Zhy::sq n::vY k) (Sx m A)))))) else E (DD 0,AS 19 [Zhw m,Zhy] (Sx m V)))=(aG [(93,qkL)] [] 136 2 (ixE m V n k)) E:=by kernel_rfl
def qs4:S->K (PX×S):=λs E=> ∃m V,s=ixE m V (J m:Int) 0/\J m<=1000000/\(∀i hi,0<=i->iY V m[i.toNat]=O->(∀j (A:j<i.toNat),iY V (m[j]'(by omega))=C)->E (oxE m V i))/\((∀j (A:j<J m),iY V m[j]=C)->E (qp7 m V))
def ZhF A B:= ∀(j:Nat) (F:j<J A),iY B A[j]=C
def qp9:bc:=λps R E=> ∃m V,ps=[.sl 0 0 (J m),MJ]/\R=seS m V/\J m<=1000000/\(∀i hi,0<=i->iY V m[i.toNat]=O->(∀j (A:j<i.toNat),iY V (m[j]'(by omega))=C)->E (iD i,seS m V))/\((∀j (A:j<J m),iY V m[j]=C)->E (iD (-1),seS m V))
abbrev dsH(q:List a8)(n:Nat)(V:ni)(i k:Int):S:=⟨42,[(0,.sl 0 0 n),(1,MJ),(5,iD i),(6,iD k)],seS q V⟩
theorem qs5 q n V i k E:(bif Df k n then ob (jA k n) (ob (decide (Zs k<Av q)) (ob (Zhd q k) (∃x A,[Do (BC (ZhD q k)),cp,qh]=[Do (BC [Zhn x,Zho x,we GE (bl (bl (ba x))),GT (bl (bl x))]),cp,qh]/\Zht V=Zht A/\bif !iY A x then ob (jA i n) (ob (decide (Zs i<Av q)) (ob (Zhd q i) (ob (Zv i) (ob (Zv k) (E (AD,AS 42 (qP n::Zhy::(5,ZA i)::ZL k) ((0,AC 0 (Z 0) (Cs (180:I) C (vc (tF q) (Zs i) (D.aY (BC (ZhD q i)) (ZhD q k)))))::ZhB A))))))) else ob (Zv k) (E (AD,AS 42 (qP n::Zhy::zq i::ZL k) (Sx q A)))))) else E (DD 0,AS 42 [qP n,Zhy,zq i] (Sx q V)))=(aG [(93,qkL)] [] 91 5 (dsH q n V i k)) E:=by kernel_rfl
def qx V x:= !iY V x
abbrev dsE(q:List a8)(n:Nat)(V:ni)(i:Int):PX×S:=(.exit 0,⟨42,[(0,.sl 0 0 n),(1,MJ),(5,iD i)],seS q V⟩)
structure qkM(m:List a8)(V:ni)(i k:Int):Prop where
 len:J m<=1000000
 i0:0<=i
 ik:k=i+1
 kl:k<=J m
 eq:(m.take k.toNat).filter (qx V)=m.take i.toNat
def gDs:S->K (PX×S):=λs E=> ∃m V i k,s=dsH m (J m) V i k/\qkM m V i k/\ ∀(o:List a8) (A:Int),o=m.filter (qx V)->A=J o->J o<=J m->E (dsE (o++m.drop (J o)) (J m) V A)
def ZhH o A:=aa cx (o++List.drop (kQ o) A)
def ZhG A:=[qU A,Zhx]
theorem qqa m V E:(∃F G,ZhG m=ZhG F/\Sx m V=Sx F G/\ZfG F/\(∀i hi,(0:Int)<=i->iY G F[dd i]=O->(∀(j:Nat) (L:j<dd i),iY G F[j]=C)->bif i==(-1:Int) then E (qU m,Sx F G) else ob (Zv i) (∃A V H k,AS 42 (Zhw m::Zhy::zq i::ZL i) (Sx F G)=AS 42 (Zhw A::Zhy::zq H::Fz k) (Sx A V)/\qkM A V H k/\ ∀o B,o=List.filter (qx V) A->B=zb o->kQ o<=kQ A->ob (decide ((0:Int)<=B/\B<=zb A)) (ob (decide (Zs B+(kQ A-Zs B)<=J (ZhH o A))) (ob (decide ((0:Int)<=B/\B<=zb A)) (E (IH 0 0 (Zs B),(0,AC 0 (Z 0) (Cs (180:I) C (ab (Zs B) (ZhH o A)++ee (kQ A-Zs B) (BC [Z5,Z5,Z5,nA])++List.drop (Zs B+(kQ A-Zs B)) (ZhH o A))))::ZhB V))))))/\(ZhF F G->E (qU m,Sx F G)))=(aO [(136,qp9)] [(5,ah (aV 91 5) gDs)] 91 [.sl 0 0 (J m),MJ] (seS m V)) E:=by kernel_rfl
def hDs:bc:=λps R E=> ∃m V,ps=[.sl 0 0 (J m),MJ]/\R=seS m V/\J m<=1000000/\ ∀o tl,o=m.filter (qx V)->E (.sl 0 0 (J o),(0,⟨0,Z 0,.arr 180 C (o.map cx++tl)⟩)::seR 1 V)
theorem wH{m:List a8}{i}(h:i<J m) t:(m.take (i+1)).filter t=(m.take i).filter t++(if t m[i]=O then [m[i]] else []):=by rw[zah h,zcf];grind
theorem sE V x:qx V x= !iY V x:=rfl
theorem IL{m o:List a8}(h:J o<=J m):J (o++m.drop (J o))=J m:=by simp;omega
theorem qkN{m o k}(hk:k<J m)(h:J o<=k):(o++m.drop (J o))[k]'(by rw[IL (by omega)];exact hk)=m[k]:=by grind
theorem qkO{m o:List a8}{x}(h:J o<J m):(o++m.drop (J o)).set (J o) x=(o++[x])++m.drop (J (o++[x])):=by grind [List.drop_eq_getElem_cons]
theorem qbH{m o k}(hk:k<J m)(h:J o<=k):CE ((o++m.drop (J o)).map cx) k=cx m[k]:=by rw[aA _ _ _ (by rw[IL (by omega)];exact hk),qkN hk h]
section
variable{X:XF}
theorem qhn:FD X 93 qkL:=IS .nil .nil (by
 intro ps R E B;obtain⟨x,V,rfl,rfl,A⟩:=B
 (rw[<-qp6];delta Z5 Zho Zhn Zhu Zhs kP Zhr Zhq Zht ZT Zhp)
 have L:aK (cM V.U (BC [we GE x.1.1,we GE x.1.2.1])) (we GE (0:Int))=we GE (V.U.count (Jj x.1):Int):=rU V.U (Jj x.1);have H:aK (cI V.g (BC [we GE x.1.1,we GE x.1.2.1,we GE x.1.2.2])) (we GE (0:Int))=we GE (V.g.count x.1:Int):=Cw V.g x.1;rw[L,H];have G:AM (we GE (V.U.count (Jj x.1):Int))=(V.U.count (Jj x.1):Int):=rfl;have F:AM (we GE (V.g.count x.1:Int))=(V.g.count x.1:Int):=rfl;rw[G,F];unfold iY at A;refine ao (isInt _) (zp (λh=> ?_) λh=>ao (isInt _) ?_)
 ·rw[za6 (show V.U.count (Jj x.1)=0 by omega),Bool.true_or] at A;exact A
 rw[za7 (show ¬V.U.count (Jj x.1)=0 by omega),zcZ] at A;have:decide ((V.g.count x.1:Int)>0)=decide (0<V.g.count x.1):=by rw[zcI];omega
 rw[this];exact A)
theorem qfH:LD X 136 2 (ah (aV 136 2) qs4):=
 LD.find (.cons qhn .nil) .nil
  (A:=List a8×ni) (λa k=>ixE a.1 a.2 (J a.1:Int) k) (·.1) (λa _ x=>iY a.2 x) (λa=>J a.1<=1000000) (λa i=>oxE a.1 a.2 i) (λa=>qp7 a.1 a.2) (λ_ _ h=>by cases h) (λ_ h=>by cases h)
  (by
   rintro⟨m,V⟩ k E eb B h0 hk ht hf
   (rw[<-qp8];delta Zz ZA vY Zj Zl sq Z8 Z7 Zv Zhs ZhA Zhr Zhz ZhB tF ZdO Sx qO HU PB jB Zhx Zhy kQ qU Zhw kP Zhq Zht Zho Zhn qh cp Zs ZhD Zhd Av zb Zfy Zh)
   have e1:CE (m.map cx) k.toNat=cx m[k.toNat]:=aA _ _ _ eb;rw[e1];simp only[zaa];refine dv hk (ar ⟨h0,hk⟩ (ar eb (ao (UY _) ⟨m[k.toNat],V,rfl,rfl,az (λh=>ht h) λh=>ar (by omega) (hf h)⟩))))
  (by rintro⟨m,V⟩ k E B hk hp;exact Cj (by omega) hp)
  (by rintro s E ⟨m,V,rfl,B,G,F⟩;exact⟨(m,V),rfl,B,G,F⟩)
theorem qqb:FD X 136 qp9:=IS .nil (.cons qfH .nil) (by intro ps R E B;obtain⟨m,V,rfl,rfl,A,G,F⟩:=B;exact⟨m,V,rfl,A,G,F⟩)
theorem qkP:LD X 91 5 (ah (aV 91 5) gDs):=
 LD.par (.cons qhn .nil) .nil
  (A:=List a8×ni) (B:=List a8×Int×Int) (λa b=>dsH (b.1++a.1.drop (J b.1)) (J a.1) a.2 b.2.1 b.2.2)
  (λa b=>J a.1<=1000000/\b.1=(a.1.take b.2.2.toNat).filter (qx a.2)/\b.2.1=(J b.1:Int)/\0<=b.2.2/\b.2.2.toNat<=J a.1)
  (λa b=>((J a.1:Int)-b.2.2).toNat)
  (λa x=> ∃(o:List a8) (i:Int),o=a.1.filter (qx a.2)/\i=(J o:Int)/\J o<=J a.1/\x=dsE (o++a.1.drop (J o)) (J a.1) a.2 i)
  (by
   rintro⟨m,V⟩ ⟨o,i,k⟩ ⟨hm,ho,hi,h0,hk⟩;dsimp only at*
   have uo:J o<=k.toNat:=by grind
   (rw[<-qs5];delta Zhs ZhA Zhr Zhz ZhB tF ZdO Sx Zj Zl zq Zz ZA ZL PB jB Zhx Zhy ZM qP Z8 Z7 Zv kP Zhq Zht Zho Zhn qh cp Zs ZhD Zhd Av jA Df)
   refine b8 (λG=> ?_) λG=> ?_
   ·have R:k.toNat<J m:=by omega
    have y7:=wH R (qx V);have xi:=IL (m:=m) (o:=o) (by omega);have e1:CE ((o++m.drop (J o)).map cx) k.toNat=cx m[k.toNat]:=qbH R uo;have mq:=λx:a8=>qkO (m:=m) (o:=o) (x:=x) (by omega);have H:i.toNat=J o:=by omega
    have Q:0<=i/\i<(J m:Int):=⟨by omega,by omega⟩
    have L:(-9223372036854775808:Int)<=i+1/\i+1<=9223372036854775807:=by omega
    have eZ:(-9223372036854775808:Int)<=k+1/\k+1<=9223372036854775807:=by omega
    have e2:CE ((o++m.drop (J o)).map cx) i.toNat=cx m[i.toNat]:=qbH (by omega) (by omega);rw[e1,e2];generalize m[k.toNat]=g at*
    generalize m[i.toNat]=y at*
    have w1: ∀x y:a8,D.aY (BC [we GE (AM (xz (cx x) 0)),we GE (AM (xz (cx x) 1)),we GE (AM (xz (cx x) 2)),GT (Q3 (xz (cx x) 3))]) [we GE (AM (xz (cx y) 0)),we GE (AM (xz (cx y) 1)),we GE (AM (xz (cx y) 2)),GT (Q3 (xz (cx y) 3))]=cx y:=λ_ _=>rfl;rw[w1,H,<-zbA,mq];simp only[zaa,xi];refine ar ⟨h0,G⟩ (ar R (ao (UY _) ⟨g,V,rfl,rfl,az (λh=> ?_) λh=> ?_⟩))
    ·refine ar Q (ar (by omega) (ao (UY _) (ar L (ar eZ ?_))));refine⟨((J m:Int)-(k+1)).toNat,by omega,(o++[g],i+1,k+1),rfl,⟨hm,?_,?_,by grind,by grind⟩,rfl⟩
     ·show o++[g]=_;rw[show(k+1).toNat=k.toNat+1 by omega,y7,zau (by exact h),ho]
     grind
    refine ar eZ ?_;refine⟨((J m:Int)-(k+1)).toNat,by omega,(o,i,k+1),rfl,⟨hm,?_,hi,by grind,by grind⟩,rfl⟩;show o=_;rw[show(k+1).toNat=k.toNat+1 by omega,y7,zat (by rw[sE,h];simp),zaL];exact ho
   refine⟨o,i,?_,hi,by omega,rfl⟩;rw[ho,zak (by omega)])
  (by
   rintro s E ⟨m,V,i,k,rfl,F,G⟩;have C8:=F.kl;have h0:=F.i0;have hik:=F.ik;have hl:J (m.take i.toNat)=i.toNat:=by rw[zaG];omega
   refine⟨(m,V),(m.take i.toNat,i,k),?_,⟨F.len,F.eq.symm,?_,by grind,by grind⟩,?_⟩
   ·skip
    rw[hl,zbg]
   ·grind
   grind)
theorem qkQ{m V}(h: ∀j (A:j<J m),iY V m[j]=C):m.filter (qx V)=m:=by rw[zb7];grind [List.getElem_of_mem,sE]
theorem qbI{m V i}(A:J m<=1000000)(hi:i.toNat<J m)(B:0<=i)(ht:iY V m[i.toNat]=O)(G: ∀j (F:j<i.toNat),iY V (m[j]'(by omega))=C):qkM m V i (i+1):=by refine⟨A,B,rfl,by omega,?_⟩;rw[show(i+1).toNat=i.toNat+1 by omega,wH hi,zat (by rw[sE,ht];simp),zaL,zb7];grind [List.mem_take_iff_getElem,sE]
theorem qs6:FD X 91 hDs:=IS (.cons qqb .nil) (.cons qkP .nil) (by
 intro ps R E Q;obtain⟨m,V,rfl,rfl,F,B⟩:=Q
 (rw[<-qqa];delta ZhF Zhs ZhA Zhr Zhz ZhB nA Z5 kQ ZhH Zs zb Zj Zl ZQ Fz Zz ZA ZL zq PB jB Zhx Zhy qU Zhw Z8 Z7 Zv ZfG tF ZdO Sx ZhG)
 refine⟨m,V,rfl,rfl,F,λi hi h0 ht hb=>zp (λh=>by omega) λ_=>ar (by omega) ⟨m,V,i,i+1,rfl,qbI F hi h0 ht hb,λo H L zG G=> ?_⟩,λh=> ?_⟩
 ·have A:H.toNat=J o:=by omega
  refine ar (by omega) (ar (by rw[A,zaa,IL G];omega) (ar (by omega) ?_));rw[A,zaC,zbH (by simp),zaW];exact B o _ L
 have:=B m [] (qkQ h).symm;rwa [zaL] at this)
end
abbrev knH(l:List au)(v:List Int)(o:List au)(i:Int):S:=⟨35,[(0,ey l),(1,vD v),(5,.sl 0 0 (J o)),(6,iD i)],[(0,⟨0,Y,xR C o⟩)]⟩
theorem qho l v o i E:(bif Ju i l then ob (tB i l) (ob (nV l i) (ob (tB i l) (ob (nV l i) (∃A r,[Zw v,Do (L9 l i)]=Zw A::Zm r/\Zn/\ZK A/\bif decide (AM (xz (su l i) 2)<=j8 A r) then ob (tB i l) (ob (nV l i) (ob (gr (J o) (kH o)&&aB (Z9i o l i) 88) (ob (Zv i) (E (AD,AS 35 (iG l::Zy v::(5,IH 0 0 (Z9i o l i))::ZL i) [(0,Zd4 o l i)]))))) else ob (Zv i) (E (AD,AS 35 (iG l::Zy v::(5,Ea o)::ZL i) (Vt o))))))) else E (DD 0,AS 35 [(5,Ea o)] (Vt o)))=(aG [(40,hAt)] [] 39 3 (knH l v o i)) E:=by kernel_rfl
def gKn:S->K (PX×S):=λs E=> ∃l v,s=knH l v [] 0/\(J l<=1000000/\J v<=1000000)/\ ∀o,o=gZ l v->E (.exit 0,⟨35,[(5,.sl 0 0 (J o))],[(0,⟨0,Y,xR C o⟩)]⟩)
theorem qs7 l v E:(∃B A,AS 35 (iG l::Zy v::UH) Z9p=AS 35 (iG B::Zy A::UH) Z9p/\(sv B/\Vp A)/\ ∀o,o=gZ B A->E (Ea o,Vt o))=(aO [] [(3,ah (aV 39 3) gKn)] 39 [ey l,vD v] []) E:=by kernel_rfl
def hKn:bc:=λps R E=> ∃l v,ps=[ey l,vD v]/\R=[]/\(J l<=1000000/\J v<=1000000)/\ ∀o,o=gZ l v->E (.sl 0 0 (J o),[(0,⟨0,Y,xR C o⟩)])
abbrev qbJ(l:List au)(t i:Int):S:=⟨20,[(0,ey l),(3,iD t),(4,iD i)],[]⟩
theorem qhp l t i E:(bif Ju i l then ob (tB i l) (ob (nV l i) (ob (Zv i) (E (AD,AS 20 (iG l::(3,Do (we GE (max t (AM (xz (su l i) 0)))))::Cu i) [])))) else E (DD 0,AS 20 (ZH t) []))=(aG [] [] 15 3 (qbJ l t i)) E:=by kernel_rfl
def qhq:S->K (PX×S):=λs E=> ∃l,s=qbJ l 0 0/\J l<=1000000/\ ∀t,t=tv l->E (.exit 0,⟨20,[(3,iD t)],[]⟩)
def ZhI A:=AS 20 (iG A::(3,Do Z5)::Us) []
theorem qs8 l E:(∃A,ZhI l=ZhI A/\sv A/\ ∀t,t=tv A->E (Zl t,[]))=(aO [] [(3,ah (aV 15 3) qhq)] 15 [ey l] []) E:=by kernel_rfl
def qbK:bc:=λps R E=> ∃l,ps=[ey l]/\R=[]/\J l<=1000000/\ ∀t,t=tv l->E (iD t,[])
abbrev ndH(l:List au)(b:Bool)(o:List ak)(i:Int):S:=⟨60,[(0,ey l),(1,.d (.bool b)),(5,.sl 0 0 (J o)),(6,iD i)],[(0,⟨0,Y,fw C o⟩)]⟩
abbrev ndI(l:List au)(b:Bool)(o:List ak)(i k:Int):S:=⟨60,[(0,ey l),(1,.d (.bool b)),(5,.sl 0 0 (J o)),(6,iD i),(7,iD k)],[(0,⟨0,Y,fw C o⟩)]⟩
def VG b:=(1,iF b)
def ZhL k (E:PX×S->Prop) l b o i:=ob (Zv k) (E (AD,AS 60 (iG l::VG b::(5,sg o)::ZQ i::ZR k) (Ej o)))
def ZhJ l i k:=[BC [ZeH l i k,ZeI l i k,ZeJ l i k]]
theorem qhr l b o i k E:(ob (tB i l) (ob (nV l i) (bif Zef k l i then ob (tB i l) (ob (nV l i) (ob (Sl k l i) (ob (Sk l i k) (bif Sj l i k==(0:Int) then ob (tB i l) (ob (nV l i) (ob (Sl k l i) (ob (Sk l i k) (bif RK (xz (nF l i k) 8)==b then ob (tB i l) (ob (nV l i) (ob (Sl k l i) (ob (Sk l i k) (ob (XY o&&aB (dK o+J (ZhJ l i k)) 24) (ob (Zv k) (E (AD,AS 60 (iG l::VG b::(5,IH 0 0 (dK o+J (ZhJ l i k)))::ZQ i::ZR k) [(0,AC 0 Y (Cs (49:I) C (OU o++ZhJ l i k)))]))))))) else ZhL k E l b o i)))) else ZhL k E l b o i)))) else E (DD 2,AS 60 (iG l::VG b::(5,sg o)::Fz i) (Ej o)))))=(aG [] [] 20 6 (ndI l b o i k)) E:=by kernel_rfl
def qqc:S->K (PX×S):=λs E=> ∃l b o i g,AtG l i g/\s=ndI l b o i 0/\(0<=i/\i<J l/\J o+J g.ops<=1000000)/\ ∀A,A=o++uF b g.ops->E (.exit 2,ndH l b A i)
theorem qqd l b o i E:(bif Ju i l then∃G A F B g,AtG G B g/\AS 60 (iG l::VG b::(5,sg o)::ZQ i::xD) (Ej o)=AS 60 (iG G::VG A::(5,sg F)::ZQ B::xD) (Ej F)/\((0:Int)<=B/\B<wg G/\dK F+Dk g<=1000000)/\ ∀H,H=F++uF A (au.ops g)->ob (Zv B) (E (AD,AS 60 (iG G::VG A::(5,sg H)::ZL B) (Ej H))) else E (DD 0,AS 60 [(5,sg o)] (Ej o)))=(aG [] [(6,ah (aV 20 6) qqc)] 20 3 (ndH l b o i)) E:=by kernel_rfl
def gNd:S->K (PX×S):=λs E=> ∃l b,s=ndH l b [] 0/\(J l<=1000000/\cK l<=1000)/\ ∀o,o=x7 b l->E (.exit 0,⟨60,[(5,.sl 0 0 (J o))],[(0,⟨0,Y,fw C o⟩)]⟩)
theorem qs9 l b E:(∃B A,AS 60 (iG l::VG b::UH) Zbv=AS 60 (iG B::VG A::UH) Zbv/\Zfd B/\ ∀o,o=x7 A B->Zbw E o)=(aO [] [(3,ah (aV 20 3) gNd)] 20 [ey l,.d (.bool b)] []) E:=by kernel_rfl
def qqe:bc:=λps R E=> ∃l b,ps=[ey l,.d (.bool b)]/\R=[]/\(J l<=1000000/\cK l<=1000)/\ ∀o,o=x7 b l->E (.sl 0 0 (J o),[(0,⟨0,Y,fw C o⟩)])
theorem qta a b E:(ob (Zgz&&aB (0+oH a) 24) (ob (gr (0+oH a) (J ([]++eM a))&&aB (0+oH a+oH b) 24) (E (IH 0 0 (0+oH a+oH b),[(0,AC 0 Y (Cs (49:I) C (ab (0+oH a) ([]++eM a)++eM b)))]))))=(aO [] [] 19 [cF a,cF b] []) E:=by kernel_rfl
def hJn:bc:=λps R E=> ∃a b,ps=[cF a,cF b]/\R=[]/\(J a<=1000000/\J b<=1000000)/\ ∀o,o=a++b->E (.sl 0 0 (J o),[(0,⟨0,Y,fw C o⟩)])
theorem MK{l v i}(h:i<J l):gZ (l.take (i+1)) v=if l[i].n<=j8 v l[i].s.2 then gZ (l.take i) v++[l[i]] else gZ (l.take i) v:=by unfold gZ;rw[zah h,zcf];grind
theorem PU l v:J (gZ l v)<=J l:=zaQ _ _
section
variable{X:XF}
theorem qkR:LD X 39 3 (ah (aV 39 3) gKn):=LD.idx (.cons Lb .nil) .nil
 (A:=List au×List Int) (B:=List au) (λa o i=>knH a.1 a.2 o i) (λa=>J a.1) (λa i o=>(J a.1<=1000000/\J a.2<=1000000)/\o=gZ (a.1.take i) a.2)
 (λa x=>x=(.exit 0,⟨35,[(5,.sl 0 0 (J (gZ a.1 a.2)))],[(0,⟨0,Y,xR C (gZ a.1 a.2)⟩)]⟩))
 (by
  rintro⟨l,v⟩ o i E h0 dE bB ⟨G,nk⟩ hn ho
  try dsimp only at*
  (rw[<-qho];delta ia Vs Vt Ea Zs su L9 Ma Z9h Zd4 Zz ZA ZL Zw Zy jf iG Z8 Z7 Zv Z9i kH ZJ ZK Zn Zj Zl Zm nV tB Ju)
  have e1:CE (l.map dp) i.toNat=dp l[i.toNat]:=aA _ _ _ bB;have uo:J o<=J l:=by grind [PU]
  have hk:=MK (v:=v) bB;rw[<-nk] at hk;have F:i<(J (l.map dp):Int):=by rw[zaa];exact dE
  rw[e1];generalize l[i.toNat]=g at*
  have H:=mS g;have R:BC [we GE (AM (xz (dp g) 0)),we GE (AM (xz (dp g) 1)),we GE g.n,IR 1 (D.gh (xz (dp g) 3)),we GE (AM (xz (dp g) 4)),we GE (AM (xz (dp g) 5)),IR 18 (D.gh (xz (dp g) 6))]=dp g:=rfl;have Q:AM (xz (dp g) 2)=g.n:=rfl;refine nM (za6 F) (ar ⟨h0,F⟩ (ao H (ar ⟨h0,F⟩ (ao H ⟨v,g.s.2,rfl,rfl,by omega,?_⟩))));rw[Q];refine b8 (λL=>ar ⟨h0,F⟩ (ao H (ao ?_ (ar (by omega) ?_)))) λL=>ar (by omega) ?_
  ·rw[zac];exact⟨by simp,dw (by omega) (by omega)⟩
  ·have:=hn (o++[g]) ⟨G,by rw[hk,zau L]⟩;rw[R,bx];simp only[knH,zaf,zav,zaI,zaE] at this;exact this
  grind)
 (by
  rintro⟨l,v⟩ o i E hi ⟨G,nk⟩ ho
  try dsimp only at*
  (rw[<-qho];delta ia Vs Vt Ea Zs su L9 Ma Z9h Zd4 Zz ZA ZL Zw Zy jf iG Z8 Z7 Zv Z9i kH ZJ ZK Zn Zj Zl Zm nV tB Ju)
  have F: ¬i<(J (l.map dp):Int):=by rw[zaa];omega
  rw[zan] at nk;refine nN (za7 F) (ho _ (λh=>by cases h) ?_);rw[nk])
 (by rintro s E ⟨l,v,rfl,G,hp⟩;refine⟨(l,v),[],rfl,⟨G,rfl⟩,?_⟩;grind)
theorem qtb:FD X 39 hKn:=IS .nil (.cons qkR .nil) (by
 intro ps R E A;obtain⟨l,v,rfl,rfl,F,B⟩:=A
 (rw[<-qs7];delta ia Vs Vt Ea Vp sv Z9o Z9p Z5 Pk ZV UH Zw Zy jf iG)
 grind)
theorem qbL:LD X 15 3 (ah (aV 15 3) qhq):=LD.idx .nil .nil
 (A:=List au) (B:=Int) (λl t i=>qbJ l t i) (λl=>J l) (λl i t=>J l<=1000000/\t=tv (l.take i))
 (λl x=>x=(.exit 0,⟨20,[(3,iD (tv l))],[]⟩))
 (by
  rintro l t i E h0 dE L ⟨G,rfl⟩ R H
  try skip
  (rw[<-qhp];delta Zj Zl ZH Zz ZA Cu Zs ia su jf iG Z8 Z7 Zv nV kH tB Ju)
  have e1:CE (l.map dp) i.toNat=dp l[i.toNat]:=aA _ _ _ L;have hk:=qa0 L;have F:i<(J (l.map dp):Int):=by rw[zaa];exact dE
  rw[e1];have Q:=mS l[i.toNat];refine nM (za6 F) (ar ⟨h0,F⟩ (ao Q (ar (by omega) ?_)));have:=R _ ⟨G,rfl⟩;rw[hk] at this;exact this)
 (by
  rintro l t i E hi ⟨G,ht⟩ H
  try skip
  (rw[<-qhp];delta Zj Zl ZH Zz ZA Cu Zs ia su jf iG Z8 Z7 Zv nV kH tB Ju)
  have F: ¬i<(J (l.map dp):Int):=by rw[zaa];omega
  rw[zan] at ht;refine nN (za7 F) (H _ (λh=>by cases h) ?_);rw[ht])
 (by rintro s E ⟨l,rfl,G,hp⟩;refine⟨l,0,rfl,⟨G,rfl⟩,?_⟩;grind)
theorem qbM:FD X 15 qbK:=IS .nil (.cons qbL .nil) (by
 intro ps R E A;obtain⟨l,rfl,rfl,F,B⟩:=A
 (rw[<-qs8];delta Zj Zl sv Z5 Us ia jf iG ZhI)
 grind)
theorem qtc:FD X 19 hJn:=IS .nil .nil (by
 intro ps R E A;obtain⟨a,b,rfl,rfl,⟨H,G⟩,F⟩:=A
 (rw[<-qta];delta eM oH Zgz)
 have B:ab (J a) (a.map aF)=a.map aF:=zak (by simp);simp only[zbt,zaE,zaa];refine ao ?_ (ao ?_ ?_)
 ·rw[zac];exact⟨by simp,bP (by omega) (by omega)⟩
 ·rw[zac];exact⟨by simp,bP (by omega) (by omega)⟩
 grind)
theorem U0{b l k}(h:k<J l):uF b (l.take (k+1))=if l[k].kind=0/\l[k].dir=b then uF b (l.take k)++[l[k].node] else uF b (l.take k):=by unfold uF;rw[zah h,zcf];grind
theorem U1{b l i}(h:i<J l):x7 b (l.take (i+1))=x7 b (l.take i)++uF b l[i].ops:=by grind [x7,mi]
theorem qfI:LD X 20 6 (ah (aV 20 6) qqc):=LD.idx .nil .nil
 (A:=List au×Bool×List ak×Int×au) (B:=List ak) (λa o k=>ndI a.1 a.2.1 o a.2.2.2.1 k) (λa=>J a.2.2.2.2.ops)
 (λa k o=>((0<=a.2.2.2.1/\a.2.2.2.1<J a.1)/\CE (a.1.map dp) a.2.2.2.1.toNat=dp a.2.2.2.2/\J a.2.2.1+J a.2.2.2.2.ops<=1000000)/\o=a.2.2.1++uF a.2.1 (a.2.2.2.2.ops.take k))
 (λa z=>z=(.exit 2,ndH a.1 a.2.1 (a.2.2.1++uF a.2.1 a.2.2.2.2.ops) a.2.2.2.1))
 (by
  rintro⟨l,b,o0,i,g⟩ o k E h0 C8 eb ⟨⟨hb,G,hl⟩,ho⟩ hn bF
  try dsimp only at*
  (rw[<-qhr];delta eM tj Ej Zj Zl ZQ Fz dK sg Zz ZA ZR iF VG ia jf iG Z8 Z7 Zv ZhL OU Zs su nF ZeJ ZeI ZeH ZhJ oH XY Sj Sk Sl Zef nV kH tB)
  have H:0<=i/\i<(J (l.map dp):Int):=by rw[zaa];exact hb
  have Q:D.gh (xz (dp g) 6)=g.ops.map eX:=rfl;have e1:CE (g.ops.map eX) k.toNat=eX g.ops[k.toNat]:=aA _ _ _ eb;have uN:=U0 (b:=b) eb;have uo:J o<1000000:=by have:=MH b (g.ops.take k.toNat);rw[zaG] at this;rw[ho,zaf];omega
  rw[G,Q,e1];have F:0<=k/\k<(J (g.ops.map eX):Int):=by grind
  generalize g.ops[k.toNat]=y at*
  have L:=mS g;have R:=D3 y;have c0:AM (xz (eX y) 0)=y.kind:=rfl;have c1:RK (xz (eX y) 8)=y.dir:=rfl;have t2:BC [we GE (AM (xz (eX y) 1)),we GE (AM (xz (eX y) 2)),we GE (AM (xz (eX y) 3))]=aF y.node:=rfl;rw[c0,c1,t2,bx];have cD: ¬(y.kind=0/\y.dir=b)->o0++uF b (g.ops.take (k.toNat+1))=o:=λh=>by rw[uN,ho,zat h]
  have BQ:y.kind=0->y.dir=b->o0++uF b (g.ops.take (k.toNat+1))=o++[y.node]:=λh1 h2=>by rw[uN,ho,zau ⟨h1,h2⟩,zaW]
  refine ar H (ao L (dv F.2 (ar H (ao L (ar F (ao R (zp (λhk=>ar H (ao L (ar F (ao R (az (λhx=>ar H (ao L (ar F (ao R ?_)))) λhx=>ar (by omega) (hn o ⟨⟨hb,G,hl⟩,(cD (λhh=>by rw[hh.2] at hx;simp at hx)).symm⟩)))))) λhk=>ar (by omega) (hn o ⟨⟨hb,G,hl⟩,(cD (λhh=>hk hh.1)).symm⟩))))))));have hy:=hn (o++[y.node]) ⟨⟨hb,G,hl⟩,(BQ hk (by grind)).symm⟩;simp only[ndI,zaf] at hy;refine ao (fy rfl (by rw[zaa]) (by omega) (by decide)) (ar (by omega) ?_);exact hy)
 (by
  rintro⟨l,b,o0,i,g⟩ o k E hk ⟨⟨hb,G,hl⟩,ho⟩ bF
  try dsimp only at*
  (rw[<-qhr];delta eM tj Ej Zj Zl ZQ Fz dK sg Zz ZA ZR iF VG ia jf iG Z8 Z7 Zv ZhL OU Zs su nF ZeJ ZeI ZeH ZhJ oH XY Sj Sk Sl Zef nV kH tB)
  have H:0<=i/\i<(J (l.map dp):Int):=by rw[zaa];exact hb
  have Q:D.gh (xz (dp g) 6)=g.ops.map eX:=rfl;rw[G,Q];refine ar H (ao (mS g) (Cj (by rw[zaa];omega) (bF _ (λh=>by cases h) ?_)));rw[ho,zan])
 (by rintro s E ⟨l,b,o,i,g,G,rfl,⟨h1,h2,h3⟩,hp⟩;refine⟨(l,b,o,i,g),o,rfl,⟨⟨⟨h1,h2⟩,G,h3⟩,by simp[uF]⟩,?_⟩;grind)
theorem qkS:LD X 20 3 (ah (aV 20 3) gNd):=LD.idx .nil (.cons qfI .nil)
 (A:=List au×Bool) (B:=List ak) (λa o i=>ndH a.1 a.2 o i) (λa=>J a.1)
 (λa i o=>(J a.1<=1000000/\cK a.1<=1000)/\o=x7 a.2 (a.1.take i))
 (λa z=>z=(.exit 0,⟨60,[(5,.sl 0 0 (J (x7 a.2 a.1)))],[(0,⟨0,Y,fw C (x7 a.2 a.1)⟩)]⟩))
 (by
  rintro⟨l,b⟩ o i E h0 dE bB ⟨F,ho⟩ hn bF
  try dsimp only at*
  have G:=U1 (b:=b) bB;have h2:=iX l (i.toNat+1);have h3:=kc bB;have Q:=wE b (l.take i.toNat);rw[<-ho] at Q;refine dv (by rw[zaa];exact dE) ⟨l,b,o,i,l[i.toNat],aA _ _ _ bB,rfl,⟨h0,dE,by omega⟩,λH L=>ar (by omega) (hn H ⟨F,?_⟩)⟩;rw[L,ho,G])
 (by
  rintro⟨l,b⟩ o i E hi ⟨F,ho⟩ bF
  try skip
  (rw[<-qqd];delta Zz ZA ZL Z8 Z7 Zv Dk dK wg eM tj Ej Z5 xD Zj Zl ZQ sg iF VG ia jf iG kH Ju)
  refine Cj (by rw[zaa];omega) (bF _ (λh=>by cases h) ?_);rw[ho,zan])
 (by rintro s E ⟨l,b,rfl,F,R⟩;refine⟨(l,b),[],rfl,⟨F,rfl⟩,?_⟩;grind)
theorem qqf:FD X 20 qqe:=IS .nil (.cons qkS .nil) (by
 intro ps R E A;obtain⟨l,b,rfl,rfl,hs,B⟩:=A
 (rw[<-qs9];delta eM tj Ej dK sg Zbw sv Zfd xH Zbv Z5 Pk ZV UH iF VG ia jf iG)
 grind)
end
structure OpB(o:bq):Prop where
 tx:J o.text<=2
 el:J o.elems<=3
 ds:J o.cV<=1000
 id:0<=o.elem.2.2/\o.elem.2.2<=1000
structure c7(i:Int)(l:List au):Prop where
 sm: ∀g∈l,((1<=g.s.2/\g.s.2<=3)/\(g.s.1<=i/\g.n<=i)/\J g.ops<=1)/\J g.deps<=1000/\ ∀o∈g.ops,OpB o
 len:(J l:Int)<=i
def uH i v:=gO v=O/\ ∀r,j8 v r<=i
structure Gd(i:Int)(K:List (List Int)):Prop where
 len:J K=3
 vec: ∀v∈K,uH i v
theorem uH.mono{i j v}(h:uH i v)(A:i<=j):uH j v:=⟨h.1,λr=>Int.le_trans (h.2 r) A⟩
theorem uH.merge{i v w}(A:uH i v)(hw:uH i w):uH i (pZ v w):=⟨UR A.1 hw.1,λq=>by
 by_cases B:1<=q
 ·rw[qbi _ _ _ B];have:=A.2 q;have:=hw.2 q;omega
 have:=hw.2 q;rw[Sn (by omega)] at this⊢;exact this⟩
theorem c7.mono{i j l}(h:c7 i l)(B:i<=j):c7 j l:=⟨λg A=>by have:=h.sm g A;exact⟨⟨this.1.1,by omega,this.1.2.2⟩,this.2⟩,by have:=h.len;omega⟩
theorem c7.sub{i l m}(h:c7 i l)(A:m.Sublist l):c7 i m:=⟨λg B=>h.sm g (A.subset B),by have:=h.len;have:=A.length_le;omega⟩
theorem c7.cK{i l}(h:c7 i l):Pi.cK l<=J l:=by
 have A: ∀m:List au,(∀g∈m,J g.ops<=1)->Pi.cK m<=J m:=λm=>by
  induction m with
  |nil=>simp[wa]
  |cons g r ih=>grind [fF]
 exact A l λg B=>(h.sm g B).1.2.2
theorem c7.tv{i l}(h:c7 i l)(hi:0<=i):0<=tv l/\Pi.tv l<=i:=⟨(rT _).1,Pg hi _ λg A=>(h.sm g A).1.2.1.1⟩
theorem c7.runs{i l}(h:c7 i l)(hi:i<=1000) x:dm (cZ l x):=by
 have R:=h.len;have Q:=h.cK;have H:=sB x l;have A: ∀r∈cZ l x,J r.2.2<=2/\0<=r.2.1.2.2/\r.2.1.2.2<=1000:=λr A=>by obtain⟨g,G,o,F,hk,rfl⟩:=MG A;have:=(h.sm g G).2.2 o F;exact⟨this.tx,this.id⟩
 have B: ∀L:List aS,(∀r∈L,J r.2.2<=2)->UM L<=2*J L:=λL=>by
  induction L with
  |nil=>intro _;simp[UM]
  |cons r L ih=>grind [wC,UM,kg]
 refine⟨by omega,?_,λr h=>by have:=A r h;omega⟩;have:=B _ λr h=>(A r h).1;omega
theorem c7.more{i l}(h:c7 i l){g}(L:1<=g.s.2/\g.s.2<=3)(H:g.s.1<=i+1)(G:g.n<=i+1)(F:J g.ops<=1)(B:J g.deps<=1000)(A: ∀o∈g.ops,OpB o):c7 (i+1) (l++[g]):=by
 refine⟨λx hx=> ?_,by have:=h.len;simp;omega⟩;rcases zaK.1 hx with hx |hx
 ·exact(h.mono (by omega:i<=i+1)).sm x hx
 rw[zaN.1 hx];exact⟨⟨L,⟨H,G⟩,F⟩,B,A⟩
theorem Gd.more{i K}(h:Gd i K)(hi:0<=i){v}(A:uH i v){r}(B:1<=r)(G:r<=16) k:Gd (i+1) (K.set k (cc (lh v r (j8 v r+1)))):=by
 have H:=IJ A.1 r;refine⟨by simp[h.len],λu hu=> ?_⟩;rcases List.mem_or_eq_of_mem_set hu with hu |rfl
 ·exact(h.vec u hu).mono (by omega)
 refine⟨qbh A.1 B G (by omega),λq=> ?_⟩;by_cases F:1<=q
 ·rw[qfm B q F];have:=A.2 q;have:=A.2 r;split<;>omega
 rw[Sn (by omega)];omega
structure dn where
 what:Int
 r:Int
 a:Int
 b:Int
 c:Int
 see:Bool
abbrev uE(n:Int):D:= .int .u8 n
def zy(x:dn):D:= .agg [uE x.what,uE x.r,uE x.a,uE x.b,uE x.c,.bool x.see]
structure IP(x:dn):Prop where
 what:0<=x.what/\x.what<=255
 r:0<=x.r/\x.r<=255
 a:0<=x.a/\x.a<=255
 b:0<=x.b/\x.b<=255
 c:0<=x.c/\x.c<=255
def wD(l:List au)(K:List (List Int)):D:= .agg [.sl 7 (l.map dp),.sl 1 (K.map λv=> .sl 1 (bL v))]
def qhs:bc:=λps R E=> ∃l n,ps=[cF l,.d (uE n)]/\R=[]/\(J l<=1000000/\0<=n/\n<=255)/\ ∀y,E (.d (aF y),[])
def ZhZ x o:=te (dn.b x) (nr o)+(1:Int)+te (dn.c x) (3:Int)
def ZhU x:=decide (Z7<=dn.c x/\dn.c x<=Z8)
def ZhY(E:P×List (Nat×En)->Prop):=E (P.cy (Do (BC (Z5::Z5::Z5::Z5::Z5R))::Nb),[])
def Zi0 l y E x:= ∃A B,jf l::gW y=jf A::gW B/\Zn/\(sv A/\cK A<=1000/\dm (cZ A B))/\ ∀o,ll o->bif Z5t y then ZhY E else bif nr o==(0:Int) then ZhY E else ob (decide (Z7<=dn.b x/\dn.b x<=Z8)) (ob (!decide (nr o=(0:Int))) (ob (decide (Z7<=te (dn.b x) (nr o)+(1:Int)/\te (dn.b x) (nr o)+(1:Int)<=Z8)) (ob (ZhU x) (ob (decide (Z7<=ZhZ x o/\ZhZ x o<=Z8)) (ob (decide ((0:Int)<=min (nr o) (ZhZ x o)/\min (nr o) (ZhZ x o)<=nr o)) (ob (decide ((0:Int)<=te (dn.b x) (nr o)/\te (dn.b x) (nr o)<=(↑(dd (min (nr o) (ZhZ x o))):Int))) (E (P.cy (Do (BC [Z4W,fQ y,fP y,gA y,Z5,Z5,Z5,nA,Z2,Uc,Z5,Z5,Z5,Z5,Z5,Z5,nA,IR 3 (ab (dd (min (nr o) (ZhZ x o))-dd (te (dn.b x) (nr o))) (List.drop (dd (te (dn.b x) (nr o))) (eM o)))])::Q0),[]))))))))
def ZhT y:=[Do (IM !Z5t y)]
def ZhV x:=te (dn.c x) (5:Int)+(1:Int)
def ZhW x:=ZhV x+te (dn.c x) (2:Int)
def ZhO A n:=ll A/\(0:Int)<=n/\n<=(255:Int)
def ZhX x l y (E:P×List (Nat×En)->Prop) s:=ob (ZhU x) (∃A F,jf l::gW y=jf A::gW F/\Zn/\(sv A/\cK A<=1000/\dm (cZ A F))/\ ∀o,ll o-> ∃l n,[PC o,Do (we .u8 (dn.b x))]=[gC l,Do (we .u8 n)]/\Zn/\ZhO l n/\ ∀B,ob (decide (Z7<=ZhV x/\ZhV x<=Z8)) (ob (ZhU x) (ob (decide (Z7<=ZhW x/\ZhW x<=Z8)) (ob (decide ((0:Int)<=ZhW x/\ZhW x<=(6:Int))) (ob (decide ((0:Int)<=te (dn.c x) (5:Int)/\te (dn.c x) (5:Int)<=(↑(dd (ZhW x)):Int))) (E (P.cy (Do (BC (we GE (3:Int)::fQ y::fP y::gA y::Z5::Z5::Z5::nA::Z2::Uc::fQ B::fP B::gA B::y5 s::yZ s::Z5::GT (List.drop (dd (te (dn.c x) (5:Int))) (ab (dd (ZhW x)) [(117:UInt8),(118:UInt8),(119:UInt8),(120:UInt8),(121:UInt8),(122:UInt8)]))::Z5F))::ZhT y),[])))))))
def ZhM x:=IntKind.wrap IntKind.u8 (te (dn.b x) (3:Int)+(1:Int))
def ZhQ x:=GT (List.drop (dd (te (dn.b x) (3:Int))) (ab (dd (ZhM x)) [(97:UInt8),(98:UInt8),(99:UInt8)]))
def ZhS y x:=fQ y::fP y::gA y::ZhQ x::Z2::Uc::YB
def ZhP x:=te (dn.what x) (8:Int)
def ZhR o x:=[PC o,Do (we .u8 (dn.a x))]
theorem qtd l s x E:(∃L b,jf l::Q0=[jf L,iF b]/\Zn/\Zfd L/\ ∀o,o=x7 b L-> ∃H b,jf l::Nb=[jf H,iF b]/\Zn/\Zfd H/\ ∀G,G=x7 b H->ob (decide ((0:Int)<=ZhM x/\ZhM x<=(3:Int))) (ob (decide ((0:Int)<=te (dn.b x) (3:Int)/\te (dn.b x) (3:Int)<=(↑(dd (ZhM x)):Int))) (∃FF n,ZhR G x=[gC FF,Do (we .u8 n)]/\Zn/\ZhO FF n/\ ∀y,bif ZhP x==(0:Int) then∃l n,ZhR o x=[gC l,Do (we .u8 n)]/\Zn/\ZhO l n/\ ∀y,E (P.cy (Do (BC (Z5::y5 s::yZ s::Z5::fQ y::fP y::gA y::ZhQ x::IM O::Uc::YB))::Q0),[]) else bif ZhP x==(1:Int) then∃l n,ZhR o x=[gC l,Do (we .u8 n)]/\Zn/\ZhO l n/\ ∀y,E (P.cy (Do (BC (Z5::y5 s::yZ s::Z5::ZhS y x))::Q0),[]) else bif ZhP x==(2:Int) then∃a b,[PC G,PC o]=[gC a,gC b]/\Zn/\(ll a/\ll b)/\ ∀B,B=a++b-> ∃l n,[PC B,Do (we .u8 (dn.c x))]=[gC l,Do (we .u8 n)]/\Zn/\ZhO l n/\ ∀y,∃l n,ZhR o x=[gC l,Do (we .u8 n)]/\Zn/\ZhO l n/\ ∀QP,E (P.cy (Do (BC (Zf::fQ y::fP y::gA y::ZhS QP x))::ZhT y),[]) else bif ZhP x==(3:Int) then∃a b,[PC G,PC o]=[gC a,gC b]/\Zn/\(ll a/\ll b)/\ ∀o,o=a++b-> ∃R n,[PC o,Do (we .u8 (dn.c x))]=[gC R,Do (we .u8 n)]/\Zn/\ZhO R n/\ ∀y,∃F,zx l=zx F/\Zn/\SmW F/\ ∀(_ _ _:List D) (h g:List aT),J h<=30->J g<=30000-> ∃A Q x,qL h::qL g::gW y=qL A::qL Q::gW x/\Zn/\(y8 A/\y8 Q)/\ ∀o,gX o<=J A->E (P.cy (Do (BC (Z4J::fQ y::fP y::gA y::Z5::Z5::Z5::nA::Z2::IR 2 (ab (gX o) (aa bX o))::YB))::ZhT y),[]) else bif ZhP x==(4:Int) then bif ZhP x==(4:Int) then ZhX x l y E s else Zi0 l y E x else bif ZhP x==(5:Int) then ZhX x l y E s else Zi0 l y E x)))=(aO [(20,qqe),(65,qhs),(19,hJn),(28,qg9),(35,qpm),(66,qpt)] [] 41 [ey l,.d (bX s),.d (zy x)] []) E:=by kernel_rfl
def Zi1 l (n:Int) c:=CE (eM l) (dd (te n (c+(1:Int))))
theorem qkT l n E:(ob (decide (Z7<=n/\n<=Z8)) (∀c,c=vK l->ob (Zv c) (ob (!decide (c+(1:Int)=(0:Int))) (bif te n (c+(1:Int))==vK l then E (Do ZgI,[]) else ob (decide ((0:Int)<=te n (c+(1:Int))/\te n (c+(1:Int))<vK l)) (ob (bE PR (49:I) (Zi1 l n c)) (E (Do (BC [we GE (AM (xz (Zi1 l n c) 0)),we GE (AM (xz (Zi1 l n c) 1)),we GE (AM (xz (Zi1 l n c) 2))]),[])))))))=(aO [] [] 65 [cF l,.d (uE n)] []) E:=by kernel_rfl
def qqg:bc:=λps R E=> ∃i l s x,ps=[ey l,.d (bX s),.d (zy x)]/\R=[]/\(c7 i l/\(0<=i/\i<=30)/\IP x)/\ ∀o (b:Bool),OpB o->E (.cy [.d (eX o),.d (.bool b)],[])
abbrev arV(z:Bool)(l:List (List Int)):Obj:= .arr 28 z (l.map λv=> .sl 1 (bL v))
abbrev bxW(l:List au)(K:List (List Int)):Obj:= .box 57 [ey l,.d (.sl 1 (K.map λv=> .sl 1 (bL v)))]
abbrev qkU(x:dn):Obj:= .box 60 [.d (uE x.what),.d (uE x.r),.d (uE x.a),.d (uE x.b),.d (uE x.c),.d (.bool x.see)]
abbrev dn5(l:List au)(K:List (List Int))(x:dn)(r:Int)(v:List Int)(i:Int):S:=⟨120,[(2,.ref 0 0 0),(3,.ref 1 0 0),(4,.ref 2 0 0),(5,iD r),(6,vD v),(7,iD i)],[(0,⟨0,Y,bxW l K⟩),(1,⟨0,Y,qkU x⟩),(2,⟨0,Y,.box 57 [.sl 3 0 0,.sl 4 0 0]⟩),(3,⟨0,Y,xR C []⟩),(4,⟨0,Y,arV C []⟩)]⟩
def JK K:=aa (λv=>IR 1 (bL v)) K
def VH l K:=(0,AC 0 Y (H1 (57:I) [jf l,Do (IR 1 (JK K))]))
def Zi4 l K x:=[VH l K,(1,AC 0 Y (H1 (60:I) [Do (we .u8 (dn.what x)),Do (we .u8 (dn.r x)),Do (we .u8 (dn.a x)),Do (we .u8 (dn.b x)),Do (we .u8 (dn.c x)),Do (IM (dn.see x))])),(2,AC 0 Y (H1 (57:I) [IH 3 0 0,IH 4 0 0])),(3,Z9o),(4,AC 0 Y (Cs (28:I) C []))]
theorem qht l K x r v i E:(bif decide (i<(↑(J (JK K)):Int)) then ob (decide ((0:Int)<=i/\i<(↑(J (JK K)):Int))) (ob (bE PR (28:I) (CE (JK K) (Zs i))) (∃A w,[Zw v,Do (IR 1 (D.gh (CE (JK K) (Zs i))))]=Zw A::ZY w/\Zn/\(nq A/\nq w)/\ob (Zv i) (E (AD,AS 120 (Pr::wO::(4,qh)::zq r::(6,Do (IR 1 (bL (pZ A w))))::ZR i) (Zi4 l K x))))) else E (DD 0,AS 120 [Pr,wO,(4,qh),zq r,(6,Zw v)] (Zi4 l K x)))=(aG [(38,XE)] [] 23 5 (dn5 l K x r v i)) E:=by kernel_rfl
def mgA v (K:List (List Int)):=K.foldl pZ v
def PW v K:=J K<=1000/\uH 9223372036854775807 v/\ ∀w∈K,uH 9223372036854775807 w
def qqh:S->K (PX×S):=λs E=> ∃l K x r v,s=dn5 l K x r v 0/\PW v K/\ ∀w,w=mgA v K->E (.exit 0,⟨120,[(2,.ref 0 0 0),(3,.ref 1 0 0),(4,.ref 2 0 0),(5,iD r),(6,vD w)],[(0,⟨0,Y,bxW l K⟩),(1,⟨0,Y,qkU x⟩),(2,⟨0,Y,.box 57 [.sl 3 0 0,.sl 4 0 0]⟩),(3,⟨0,Y,xR C []⟩),(4,⟨0,Y,arV C []⟩)]⟩)
def Zi5 x:=(1:Int)+te (dn.r x) (3:Int)
def Zi7 x:=dd (Zi5 x-(1:Int))
def U2 A:=[]++JK A
def Zie A:=0+J (JK A)
def Zit K x w:=[IR 1 (ab (Zie K) (vc (U2 K) (Zi7 x) (D.aY (IR 1 (D.gh (CE (U2 K) (Zi7 x)))) [IR 1 (bL w)])))]
def Zis x K:=decide ((0:Int)<=Zi5 x-(1:Int)/\Zi5 x-(1:Int)<(↑(Zie K):Int))
def Zip o:=[Z5,Z5,IR 18 [Jr o]]
def Zio x:=[Do (BC [we .u8 (dn.what x),we .u8 (dn.r x),we .u8 (dn.a x),we .u8 (dn.b x),we .u8 (dn.c x),IM (dn.see x)])]
def Zin A r B:=[IR 1 (ab (Zie A) (vc (U2 A) (Za r) (D.aY (IR 1 (D.gh (CE (U2 A) (Za r)))) [IR 1 (bL B)])))]
def Zim A:=ab (0+kH A) ([]++ia A)
def Zic o A:=CE (ia o) (dd (te (dn.a A) (wg o)))
def Zil o A:=we GE (AM (xz (Zic o A) 0))::we GE (AM (xz (Zic o A) 1))::Zdz
def Zij A:=gr (0+kH A) (J ([]++ia A))
def Zii A:=Zgz&&aB (0+kH A) 88
def Zig r A:=decide ((0:Int)<=r-(1:Int)/\r-(1:Int)<(↑(Zie A):Int))
def Zif A:=Zgz&&aB (Zie A) 24
def Zid v A:=Vp v/\(1:Int)<=A/\A<=(16:Int)
def ML l A:=we GE (j8 l A+(1:Int))
def Zib A o:=decide ((0:Int)<=te (dn.a A) (wg o)/\te (dn.a A) (wg o)<wg o)
def Zia A:=decide (Z7<=dn.a A/\dn.a A<=Z8)
def VI B A:=Do (BC [IR 7 (ia B),IR 1 (JK A)])
def Zi8 l A:=decide (Z7<=j8 l A+(1:Int)/\j8 l A+(1:Int)<=Z8)
def VJ K x:=IR 1 (D.gh (CE (JK K) (Zi7 x)))
def VK x:=we GE (Zi5 x)
def Zi6 x:=decide (Z7<=Zi5 x-(1:Int)/\Zi5 x-(1:Int)<=Z8)
theorem qte l K x E:(ob (decide (Z7<=dn.r x/\dn.r x<=Z8)) (ob (decide (Z7<=Zi5 x/\Zi5 x<=Z8)) (ob (Zi6 x) (ob (decide ((0:Int)<=Zi5 x-(1:Int)/\Zi5 x-(1:Int)<(↑(J (JK K)):Int))) (ob (bE PR (28:I) (CE (JK K) (Zi7 x))) (bif dn.see x then∃B F H r v,AS 120 (Pr::wO::(4,qh)::(5,Do (VK x))::(6,Do (VJ K x))::xD) (Zi4 l K x)=AS 120 (Pr::wO::(4,qh)::zq r::(6,Zw v)::xD) (Zi4 B F H)/\PW v F/\ ∀w,w=mgA v F-> ∃l v,jf B::ZY w=jf l::ZY v/\Zn/\(sv l/\Vp v)/\ ∀o,o=gZ l v-> ∃l A,Zw w::Zm r=Zw l::Zm A/\Zn/\ZK l/\ob (Zi8 l A) (∃G,[Zf3 o]=zx G/\Zn/\sv G/\ ∀t,t=tv G->ob (Zv t) (bif ZhP H==(7:Int) then bif wg o==(0:Int) then E (VI B F,[]) else ob (Zia H) (ob (!decide (wg o=(0:Int))) (ob (Zib H o) (ob (decide (dd (te (dn.a H) (wg o))<kH o)) (ob (bE PR (31:I) (Zic o H)) (∃v L n,[Zw w,Zl r,Do (ML l A)]=Zw v::Zl L::Zm n/\Zn/\Zid v L/\ ∀R,R=cc (lh v L n)->ob (Zif F) (ob (Z9 r) (ob (Zig r F) (ob (decide (Za r<J (U2 F))) (ob (bE PR (28:I) (CE (U2 F) (Za r))) (ob (Zii B) (ob (Zij B&&aB (0+kH B+J [BC (Zz t::Zj r::ML l A::IR 1 (bL w)::Zil o H)]) 88) (E (Do (BC (IR 7 (ab (0+kH B+J [BC (Zz t::Zj r::ML l A::IR 1 (bL w)::Zil o H)]) (Zim B++[BC (Zz t::Zj r::ML l A::IR 1 (bL w)::Zil o H)]))::Zin F r R)),[]))))))))))))) else∃i Q s x,Zf3 o::Do (BC (Zz t::Zk r))::Zio H=jf Q::wQ s::Zio x/\Zn/\(c7 i Q/\((0:Int)<=i/\i<=(30:Int))/\IP x)/\ ∀o b,OpB o->bif !b then E (VI B F,[]) else∃v L n,[Zw w,Zl r,Do (ML l A)]=Zw v::Zl L::Zm n/\Zn/\Zid v L/\ ∀R,R=cc (lh v L n)->ob (Zif F) (ob (Z9 r) (ob (Zig r F) (ob (decide (Za r<J (U2 F))) (ob (bE PR (28:I) (CE (U2 F) (Za r))) (ob (Zii B) (ob (Zij B&&aB (0+kH B+J [BC (Zz t::Zj r::ML l A::IR 1 (bL w)::Zip o)]) 88) (E (Do (BC (IR 7 (ab (0+kH B+J [BC (Zz t::Zj r::ML l A::IR 1 (bL w)::Zip o)]) (Zim B++[BC (Zz t::Zj r::ML l A::IR 1 (bL w)::Zip o)]))::Zin F r R)),[])))))))))) else∃B v,[jf l,Do (VJ K x)]=jf B::ZY v/\Zn/\(sv B/\Vp v)/\ ∀o,o=gZ B v-> ∃G r,[Do (VJ K x),Do (VK x)]=Zw G::Zm r/\Zn/\ZK G/\ob (Zi8 G r) (∃Q,[Zf3 o]=zx Q/\Zn/\sv Q/\ ∀t,t=tv Q->ob (Zv t) (bif ZhP x==(7:Int) then bif wg o==(0:Int) then E (VI l K,[]) else ob (Zia x) (ob (!decide (wg o=(0:Int))) (ob (Zib x o) (ob (decide (dd (te (dn.a x) (wg o))<kH o)) (ob (bE PR (31:I) (Zic o x)) (∃v A n,[Do (VJ K x),Do (VK x),Do (ML G r)]=Zw v::Zl A::Zm n/\Zn/\Zid v A/\ ∀w,w=cc (lh v A n)->ob (Zif K) (ob (Zi6 x) (ob (Zis x K) (ob (decide (Zi7 x<J (U2 K))) (ob (bE PR (28:I) (CE (U2 K) (Zi7 x))) (ob (Zii l) (ob (Zij l&&aB (0+kH l+J [BC (Zz t::VK x::ML G r::VJ K x::Zil o x)]) 88) (E (Do (BC (IR 7 (ab (0+kH l+J [BC (Zz t::VK x::ML G r::VJ K x::Zil o x)]) (Zim l++[BC (Zz t::VK x::ML G r::VJ K x::Zil o x)]))::Zit K x w)),[]))))))))))))) else∃i PV s H,Zf3 o::Do (BC [Zz t,VK x])::Zio x=jf PV::wQ s::Zio H/\Zn/\(c7 i PV/\((0:Int)<=i/\i<=(30:Int))/\IP H)/\ ∀o b,OpB o->bif !b then E (VI l K,[]) else∃v A n,[Do (VJ K x),Do (VK x),Do (ML G r)]=Zw v::Zl A::Zm n/\Zn/\Zid v A/\ ∀w,w=cc (lh v A n)->ob (Zif K) (ob (Zi6 x) (ob (Zis x K) (ob (decide (Zi7 x<J (U2 K))) (ob (bE PR (28:I) (CE (U2 K) (Zi7 x))) (ob (Zii l) (ob (Zij l&&aB (0+kH l+J [BC (Zz t::VK x::ML G r::VJ K x::Zip o)]) 88) (E (Do (BC (IR 7 (ab (0+kH l+J [BC (Zz t::VK x::ML G r::VJ K x::Zip o)]) (Zim l++[BC (Zz t::VK x::ML G r::VJ K x::Zip o)]))::Zit K x w)),[]))))))))))))))))=(aO [(39,hKn),(40,hAt),(42,qaZ),(15,qbK),(41,qqg)] [(5,ah (aV 23 5) qqh)] 23 [.d (wD l K),.d (zy x)] []) E:=by kernel_rfl
def Sy i A B:=c7 (i+1) A/\Gd (i+1) B
def WOk i l K:=c7 i l/\Gd i K/\0<=i/\i<=30
def qbN:bc:=λps R E=> ∃i l K x,ps=[.d (wD l K),.d (zy x)]/\R=[]/\(WOk i l K/\IP x)/\ ∀A B,Sy i A B->E (.d (wD A B),[])
abbrev hi3(m:List dn)(l:List au)(K:List (List Int))(i:Int):S:=⟨25,[(0,.d (.sl 6 (m.map zy))),(3,.ref 0 0 0),(4,iD i)],[(0,⟨0,Y,bxW l K⟩)]⟩
abbrev zl(m:List dn):S:=⟨25,[(0,.d (.sl 6 (m.map zy))),(3,.ref 0 0 0),(4,iD 0)],[(0,⟨0,Y,.box 57 [.d .cd,.sl 1 0 3]⟩),(1,⟨0,Y,arV C [[],[],[]]⟩)]⟩
def Ziw m:=(0,Do (IR 6 (aa zy m)))
def Ziv m i:=CE (aa zy m) (Zs i)
def Ziu m:=(↑(J (aa zy m)):Int)
theorem qhu m l K i E:(bif decide (i<Ziu m) then bif decide (i<(16:Int)) then ob (decide ((0:Int)<=i/\i<Ziu m)) (ob (bE PR (60:I) (Ziv m i)) (∃F G A x,[VI l K,Do (BC [we .u8 (AM (xz (Ziv m i) 0)),we .u8 (AM (xz (Ziv m i) 1)),we .u8 (AM (xz (Ziv m i) 2)),we .u8 (AM (xz (Ziv m i) 3)),we .u8 (AM (xz (Ziv m i) 4)),IM (RK (xz (Ziv m i) 5))])]=VI G A::Zio x/\Zn/\(WOk F G A/\IP x)/\ ∀B H,Sy F B H->ob (Zv i) (E (AD,AS 25 (Ziw m::eN::Cu i) [VH B H])))) else E (DD 0,AS 25 RA [VH l K]) else E (DD 0,AS 25 RA [VH l K]))=(aG [(23,qbN)] [] 9 3 (hi3 m l K i)) E:=by kernel_rfl
def Ziy:=[(0,AC 0 Y (H1 (57:I) [Do D.cd,IH 1 0 3])),(1,AC 0 Y (Cs (28:I) C [TQ,TQ,TQ]))]
def Zix m:=CE (aa zy m) 0
theorem qhv m E:(bif decide ((0:Int)<Ziu m) then ob (decide ((0:Int)<=(0:Int)/\(0:Int)<Ziu m)) (ob (bE PR (60:I) (Zix m)) (∃i l K x,[Do (BC [IR 7 [],IR 1 [TQ,TQ,TQ]]),Do (BC [we .u8 (AM (xz (Zix m) 0)),we .u8 (AM (xz (Zix m) 1)),we .u8 (AM (xz (Zix m) 2)),we .u8 (AM (xz (Zix m) 3)),we .u8 (AM (xz (Zix m) 4)),IM (RK (xz (Zix m) 5))])]=VI l K::Zio x/\Zn/\(WOk i l K/\IP x)/\ ∀A B,Sy i A B->E (AD,AS 25 [Ziw m,eN,(4,Do Zf)] [VH A B]))) else E (DD 0,AS 25 RA Ziy))=(aG [(23,qbN)] [] 9 3 (zl m)) E:=by kernel_rfl
def C0 m:=J m<=9223372036854775807/\ ∀x∈m,IP x
def qqi:S->K (PX×S):=λs E=> ∃m,s=zl m/\C0 m/\E (.exit 0,⟨25,[(3,.ref 0 0 0)],[(0,⟨0,Y,.box 57 [.d .cd,.sl 1 0 3]⟩),(1,⟨0,Y,arV C [[],[],[]]⟩)]⟩)/\ ∀l (K:List (List Int)),c7 16 l->E (.exit 0,⟨25,[(3,.ref 0 0 0)],[(0,⟨0,Y,bxW l K⟩)]⟩)
theorem qqj m E:(∃A,AS 25 (Ziw m::eN::Us) Ziy=AS 25 (Ziw A::eN::Us) Ziy/\C0 A/\E (ZV,Z9p)/\ ∀(l:List au) (_:List (List Int)),c7 (16:Int) l->E (jf l,[]))=(aO [] [(3,ah (aV 9 3) qqi)] 9 [.d (.sl 6 (m.map zy))] []) E:=by kernel_rfl
def qqk:bc:=λps R E=> ∃m,ps=[.d (.sl 6 (m.map zy))]/\R=[]/\C0 m/\E (.sl 0 0 0,[(0,⟨0,Y,xR C []⟩)])/\ ∀g,c7 16 g->E (ey g,[])
theorem wI{a b:Int}(h:0<=a)(A:0<b):0<=a.tmod b/\a.tmod b<b:=⟨Int.tmod_nonneg b h,Int.tmod_lt_of_pos a A⟩
theorem c7.smL{i l}(h:c7 i l)(hi:i<=1000):FI l:=by
 have G:=h.len;refine⟨by omega,λg A=>⟨λo F=> ?_,?_,?_⟩⟩
 ·have B:=(h.sm g A).2.2 o F;have:=B.tx;have:=B.el;have:=B.ds;exact⟨by omega,by omega,by omega⟩
 ·have:=(h.sm g A).1.2.2;omega
 have:=(h.sm g A).2.1;omega
theorem c7.smW{i l}(h:c7 i l)(hi:i<=30):SmW l:=⟨h.smL (by omega),by have:=h.cK;have:=h.len;omega,λg B o A=>((h.sm g B).2.2 o A).ds⟩
theorem qql{q}(h:q=0\/q=1\/q=2):(0<=IntKind.wrap IntKind.u8 (q+1)/\IntKind.wrap IntKind.u8 (q+1)<=((3:Nat):Int))/\(0<=q/\q<=((IntKind.wrap IntKind.u8 (q+1)).toNat:Int)):=by rcases h with rfl |rfl |rfl<;>decide
theorem gB{α:Type}(f:α->D) o:ab (J o) (o.map f)=o.map f:=zak (by simp)
section
variable{X:XF}
theorem qkV:FD X 65 qhs:=IS .nil .nil (by
 intro ps R E F;obtain⟨l,n,rfl,rfl,⟨L,B⟩,A⟩:=F
 (rw[<-qkT];delta eM Zi1 Z5 ZgI Z8 Z7 Zv oH vK)
 refine ar (by omega) λc Q=> ?_;have H:J (l.map aF)=J l:=zaa ..;have G:=wI B.1 (show 0<c+1 by omega);refine ar (by omega) (ao (by rw[za7 (by omega)];rfl) (zp (λ_=>A aJ) λh=>ar (by omega) ?_));generalize n.tmod (c+1)=q at*
 rw[aA aF l q.toNat (by omega)];exact ao (jG _) (A _))
theorem qqm:FD X 41 qqg:=IS
  (.cons qqf (.cons qkV (.cons qtc (.cons qko (.cons qpx (.cons qpz .nil)))))) .nil (by
 intro ps R E hh;obtain⟨i,l,s,x,rfl,rfl,⟨G,hi,hx⟩,A⟩:=hh
 (rw[<-qtd];delta ZT Q0 eM Uc Z2 nA Z5 fO gA gD fP fQ Z4W dK nr ZhZ Z8 Z7 ZhU Nb Z5F YB Z5R ZhY Z5t ll sv Zn fe gW ia jf Zi0 ZhT yZ y5 ZhV ZhW ZhO gC OU PC ZhX Z4J gX y8 uO qL zx Zf ZhM ZhQ ZhS ZhP ZhR Zfd iF)
 have hlen:=G.len;have qbd:=G.cK;have hq:=wI hx.b.1 (show(0:Int)<3 by decide);have DO:=qql (q:=x.b.tmod 3) (by omega);have hk:=wI hx.c.1 (show(0:Int)<5 by decide);have hd:=wI hx.c.1 (show(0:Int)<2 by decide);have hd3:=wI hx.c.1 (show(0:Int)<3 by decide);have hc:=hx.c;have hb:=hx.b;have H:J l<=1000000/\cK l<=1000:=by omega
 refine⟨_,O,rfl,rfl,H,λF hds=>⟨_,C,rfl,rfl,H,λfs L=>ar DO.1 (ar DO.2 ?_)⟩⟩;have h1:=wE O l;have h2:=wE C l;rw[<-hds] at h1;rw[<-L] at h2;have B: ∀(Q:ak->Prop),(∀y,Q y)-> ∃(m:List ak) (n:Int),[Do (IR 3 (ab (J F) (F.map aF))),Do (we .u8 x.a)]=[Do (IR 3 (m.map aF)),Do (we .u8 n)]/\EqR [] []/\(J m<=1000000/\0<=n/\n<=255)/\ ∀y,Q y:=
  λQ h=>⟨F,x.a,by rw[gB],rfl,⟨by omega,hx.a⟩,h⟩
 have z:(0:Int)<=0/\(0:Int)<=1000:=by decide
 refine⟨fs,x.a,by rw[gB],rfl,⟨by omega,hx.a⟩,λf=> ?_⟩;have Da:J l<=1000000/\cK l<=1000/\dm (cZ l f):=⟨H.1,H.2,G.runs (by omega) f⟩
 refine zp (λ_=>B _ λy=>A (MF s y _ O) O ⟨by simp[MF],by simp[MF],by simp[MF],z⟩) λ_=>
  zp (λ_=>B _ λy=>A (MF s y _ C) O ⟨by simp[MF],by simp[MF],by simp[MF],z⟩) λ_=>
  zp (λ_=>⟨fs,F,by rw[gB,gB],rfl,⟨by omega,by omega⟩,λa ha=>⟨a,x.c,by rw[gB],rfl,⟨by rw[ha,zaf];omega,hx.c⟩,λy=>B _ λw=>A (qfo y w _) _ ⟨by simp[qfo],by simp[qfo],by simp[qfo],z⟩⟩⟩) λ_=>
  zp (λ_=>⟨fs,F,by rw[gB,gB],rfl,⟨by omega,by omega⟩,λa ha=>⟨a,x.c,by rw[gB],rfl,⟨by rw[ha,zaf];omega,hx.c⟩,λy=>⟨l,rfl,rfl,G.smW (by omega),λo p w h g hh hg=>⟨h,g,y,rfl,rfl,⟨by omega,by omega⟩,λd k8=> ?_⟩⟩⟩⟩) λ_=> ?_
 ·rw[gB];exact A (qkp y d) _ ⟨by simp[qkp],by simp[qkp],by show J d<=1000;omega,z⟩
 refine zp (λh4=>zp (λ_=> ?_) λh=>absurd h4 h) λ_=>zp (λ_=> ?_) λ_=> ?_
 rotate_left 2
 ·refine⟨_,f,rfl,rfl,Da,λe he=> ?_⟩;have cD:E (P.cy [Do (eX ⟨0,aJ,aJ,[],C,[],aJ,aJ,[],[]⟩),Do (IM C)],[]):=A _ C ⟨by simp,by simp,by simp,z⟩;refine az (λ_=>cD) λ_=>zp (λ_=>cD) λQp=> ?_;have hq2:=wI hx.b.1 (show(0:Int)<(J e:Int) by omega);generalize x.b.tmod (J e:Int)=q at*
  generalize x.c.tmod 3=d at*
  refine ar (by omega) (ao (by rw[za7 (by omega)];rfl) (ar (by omega) (ar (by omega) (ar (by omega) (ar (by omega) (ar (by omega) ?_))))));rw[<-List.map_drop,<-List.map_take];exact A (qfq f _) O ⟨by simp[qfq],by simp only[qfq,zaG,zaX];omega,by simp[qfq],z⟩
 all_goals
  refine ar (by omega) ⟨_,f,rfl,rfl,Da,λe he=>⟨e,x.b,by rw[gB],rfl,⟨he,hx.b⟩,λa=> ?_⟩⟩;generalize x.c.tmod 5=k at*
  generalize x.c.tmod 2=d at*
  refine ar (by omega) (ar (by omega) (ar (by omega) (ar (by omega) (ar (by omega) ?_))));exact A (qfp s f a _) _ ⟨by simp only[qfp,zaX,zaG,zav,zaI];omega,by simp[qfp],by simp[qfp],z⟩)
theorem PY{i}: ∀M v,uH i v->(∀w∈M,uH i w)->uH i (mgA v M)
 | [],_,hv,_=>hv
 |w::M,v,hv,hM=>PY M (pZ v w) (hv.merge (hM w (.head _))) λx hx=>hM x (.tail _ hx)
theorem qfJ v:bE PR 28 (IR 1 (bL v))=O:=by rfl
theorem qfK:LD X 23 5 (ah (aV 23 5) qqh):=LD.idx (.cons XI .nil) .nil
 (A:=List au×List (List Int)×dn×Int×List Int) (B:=List Int) (λa v i=>dn5 a.1 a.2.1 a.2.2.1 a.2.2.2.1 v i) (λa=>J a.2.1)
 (λa i v=>PW a.2.2.2.2 a.2.1/\v=mgA a.2.2.2.2 (a.2.1.take i))
 (λa z=>z=(.exit 0,⟨120,[(2,.ref 0 0 0),(3,.ref 1 0 0),(4,.ref 2 0 0),(5,iD a.2.2.2.1),(6,vD (mgA a.2.2.2.2 a.2.1))],[(0,⟨0,Y,bxW a.1 a.2.1⟩),(1,⟨0,Y,qkU a.2.2.1⟩),(2,⟨0,Y,.box 57 [.sl 3 0 0,.sl 4 0 0]⟩),(3,⟨0,Y,xR C []⟩),(4,⟨0,Y,arV C []⟩)]⟩))
 (by
  rintro⟨l,K,x,r,v0⟩ v i E h0 dE bB ⟨F,hv⟩ hn bF
  try skip
  (rw[<-qht];delta Z9o JK ia jf VH Zi4 Zz ZA ZR Zj Zl zq qh jB wO cp Pr Z8 Z7 Zv Zn Zw ZY Zs)
  have e1:CE (K.map λv=>IR 1 (bL v)) i.toNat=IR 1 (bL K[i.toNat]):=aA _ _ _ bB;have L:0<=i/\i<(J (K.map λv=>IR 1 (bL v)):Int):=by grind
  have H:gO v=O:=by rw[hv];exact(PY (i:=9223372036854775807) _ _ F.2.1 λw hw=>F.2.2 w (zbm hw)).1
  have G:=(F.2.2 _ (zay bB)).1;have Q:mgA v0 (K.take (i.toNat+1))=pZ v K[i.toNat]:=by grind [mgA,mi]
  have R:=sA H;have Db:=sA G;have hK:=F.1;rw[e1];generalize K[i.toNat]=w at*
  refine dv L.2 (ar L (ao (qfJ _) ⟨v,w,rfl,rfl,⟨?_,?_⟩,ar (by omega) (hn _ ⟨F,Q.symm⟩)⟩))
  ·grind
  grind)
 (by
  rintro⟨l,K,x,r,v0⟩ v i E hi ⟨F,hv⟩ bF
  try skip
  (rw[<-qht];delta Z9o JK ia jf VH Zi4 Zz ZA ZR Zj Zl zq qh jB wO cp Pr Z8 Z7 Zv Zn Zw ZY Zs)
  grind)
 (by rintro s E ⟨l,K,x,r,v,rfl,F,hp⟩;refine⟨(l,K,x,r,v),v,rfl,⟨F,rfl⟩,?_⟩;grind)
theorem qkW:FD X 23 qbN:=IS
  (.cons qtb (.cons Lb (.cons qe5 (.cons qbM (.cons qqm .nil))))) (.cons qfK .nil) (by
 intro ps R E hh;obtain⟨i,l,K,x,rfl,rfl,⟨⟨hl,G,h0,hi⟩,hx⟩,hp⟩:=hh
 (rw[<-qte];delta Zi5 Zi7 JK U2 Zie Zit Zis Z5Q DZ D0 D1 Jk LJ Jl LK LL Fs Jm Jn Jo Jp Jq Cf Cg Ch D2 Jr Z5 Zip yZ y5 wQ Zio Zj Zk Za Zin ia kH Zim Zdz wg Zic Zil Zz Zij Zgz Zii Zig Z8 Z7 Z9 Zif Vp Zid ML Zl Zib Zia VI ZhP Zv jf zx Zf3 Zi8 ZJ ZK Zm sv Zn Zw ZY zq Z9o VH Zi4 xD VJ VK qh jB wO cp Pr Zi6)
 have hr:=wI hx.r.1 (show(0:Int)<3 by decide);have hxr:=hx.r;have hxa:=hx.a;have h3:=G.len;have xh:=hl.len;generalize x.r.tmod 3=q at*
 have zB:(1+q-1).toNat=q.toNat:=by omega
 have A:q.toNat<J K:=by omega
 have e1:CE (K.map λv=>IR 1 (bL v)) q.toNat=IR 1 (bL K[q.toNat]):=aA _ _ _ A;have F:=G.vec _ (zay A);simp only[zbt,zaE,zaa,zav,zaI,zB,e1];have u0:D.gh (IR 1 (bL K[q.toNat]))=bL K[q.toNat]:=rfl;rw[u0];have cD:=hp l K ⟨hl.mono (by omega),G.len,λv hv=>(G.vec v hv).mono (by omega)⟩;have hEq: ∀(g:au) (u:List Int) (z:List D),BC [IR 7 ((l++[g]).map dp),IR 1 ((K.set q.toNat u).map λv=>IR 1 (bL v))]=BC [IR 7 (ab (J l+1) (ab (J l) (l.map dp)++[dp g])),IR 1 (ab (J K) ((K.map λv=>IR 1 (bL v)).set q.toNat (D.aY (IR 1 z) [IR 1 (bL u)])))]:=λg u z=>by simp[D.aY,zak]
 refine ar (by omega) (ar (by omega) (ar (by omega) (ar (by omega) (ao (qfJ _) (az (λ_=>⟨l,K,x,1+q,K[q.toNat],rfl,⟨by omega,F.mono (by omega),λw hw=>(G.vec w hw).mono (by omega)⟩,λv hv=> ?a⟩) λ_=> ?b)))))
 case' a=>
  replace F:uH i v:=by rw[hv];exact PY K _ F G.vec
  clear hv
 case' b=>generalize K[q.toNat]=v at*
 all_goals
  have hvl:=sA F.1;have ha:=IJ F.1 (1+q);have hb:=F.2 (1+q);have eb:c7 i (gZ l v):=hl.sub zb6;have hm:=eb.tv h0;have C8:=eb.len;have Q:aB (J K) 24=O:=bP (by omega) (by omega);have L:aB (J l) 88=O:=bP (by omega) (by omega);have H:aB (J l+1) 88=O:=bP (by omega) (by omega);have hMo:=λ(u:aN) (ops:List bq) (h1:J ops<=1) (h2: ∀o∈ops,OpB o)=>hp _ _ ⟨hl.more (g:=⟨(tv (gZ l v)+1,1+q),j8 v (1+q)+1,v,u,ops⟩) (by show 1<=1+q/\1+q<=3;omega) (by show tv (gZ l v)+1<=_;omega) (by show j8 v (1+q)+1<=_;omega) h1 (by show J v<=1000;omega) h2,G.more h0 F (r:=1+q) (by omega) (by omega) q.toNat⟩;refine⟨l,v,rfl,rfl,⟨by omega,by omega⟩,λo B=>⟨v,1+q,rfl,rfl,by omega,ar (by omega) ⟨o,by rw[gB],rfl,by rw[B];omega,λt ht=>ar (by rw[B] at ht;omega) (zp (λh7=> ?_) λh7=> ?_)⟩⟩⟩
  ·refine zp (λ_=>cD) λcU=> ?_;have hq2:=wI hxa.1 (show(0:Int)<(J o:Int) by omega);generalize x.a.tmod (J o:Int)=p at*
   have hpn:p.toNat<J o:=by omega
   rw[aA dp o p.toNat hpn];generalize o[p.toNat]=y;refine ar (by omega) (ao (by rw[za7 (by omega)];rfl) (ar (by omega) (ar hpn (ao (mS _) ⟨v,1+q,_,rfl,rfl,⟨by omega,by omega,by omega⟩,λw hw=>ao (by rw[Q];rfl) (ar (by omega) (ar (by omega) ?_))⟩))))
   try rw[zB,e1]
   refine ar A (ao (qfJ _) (ao (by rw[L];rfl) (ao (by rw[H];simp) ?_)));rw[hw];refine Eq.mp (congrArg (λz=>E (Do z,[])) ?_) (hMo y.s [] (by decide) λ_ h=>by cases h);rw[ht,B];exact hEq _ _ _
  refine⟨i,o,(t+1,1+q),x,by rw[gB],rfl,⟨by rw[B];exact eb,⟨h0,hi⟩,hx⟩,λu b hu=>az (λ_=>cD) λkN=>⟨v,1+q,_,rfl,rfl,⟨by omega,by omega,by omega⟩,λw hw=>ao (by rw[Q];rfl) (ar (by omega) (ar (by omega) ?_))⟩⟩
  try rw[zB,e1]
  refine ar A (ao (qfJ _) (ao (by rw[L];rfl) (ao (by rw[H];simp) ?_)));rw[hw];refine Eq.mp (congrArg (λz=>E (Do z,[])) ?_) (hMo (0,0) [u] (by simp) λo B=>by rw[zaN.1 B];exact hu);rw[ht,B];exact hEq _ _ _)
theorem qqo:Gd 0 [[],[],[]]:=⟨rfl,λv A=>by
 have:v=[]:=by simpa using A
 subst this;exact⟨by decide,λr=>by unfold j8;split<;>simp⟩⟩
theorem qqp x:bE PR 60 (zy x)=O:=by kernel_rfl
def qbO m (b:List au×List (List Int)) i:=if i=0 then zl m else hi3 m b.1 b.2 i
theorem qfL:LD X 9 3 (ah (aV 9 3) qqi):=LD.idx (.cons qkW .nil) .nil
 (A:=List dn) (B:=List au×List (List Int)) qbO (λm=>min (J m) 16)
 (λm i b=>C0 m/\(i=0->b=([],[[],[],[]]))/\WOk i b.1 b.2/\True)
 (λm z=>(z=(.exit 0,⟨25,[(3,.ref 0 0 0)],[(0,⟨0,Y,.box 57 [.d .cd,.sl 1 0 3]⟩),(1,⟨0,Y,arV C [[],[],[]]⟩)]⟩))\/ ∃l K,c7 16 l/\z=(.exit 0,⟨25,[(3,.ref 0 0 0)],[(0,⟨0,Y,bxW l K⟩)]⟩))
 (by
  rintro m ⟨l,K⟩ i E h0 dE bB ⟨R,hb,hw,hz⟩ hn bF
  try dsimp only at*
  have Vc:i<J m:=by omega
  have Q:i.toNat<J m:=by omega
  have e1:CE (m.map zy) i.toNat=zy m[i.toNat]:=aA _ _ _ Q;have hx:=R.2 _ (zay Q);have jN:0<=i/\i<(J (m.map zy):Int):=by rw[zaa];exact⟨h0,Vc⟩
  have Hj: ∀F G,Sy i F G->E (.normal,hi3 m F G (i+1)):=λF G h=>by
   have I4:((i.toNat+1:Nat):Int)=i+1:=by omega
   have:=hn (F,G) ⟨R,λh=>by omega,by rw[I4];exact⟨h.1,h.2,by omega,by omega⟩,trivial⟩;unfold qbO at this;rw[zat (by omega)] at this;exact this
  have H:WOk i l K:=by rw[show((i.toNat:Nat):Int)=i by omega] at hw;exact hw
  unfold qbO;by_cases zl:i=0
  ·rw[zau zl];subst zl;have hb:=hb rfl;cases hb
   (rw[<-qhv];delta TQ Ziy cp eN RA JK ia jf VH Zf Ziw Zn Zio VI Zix Ziu)
   have e2:CE (m.map zy) 0=zy m[dd 0]:=e1;rw[e2];refine dv jN.2 (ar jN (ao (qqp _) ⟨0,[],[[],[],[]],m[dd 0],rfl,rfl,⟨H,hx⟩,λF G h=>Hj F G h⟩))
  rw[zat zl]
  (rw[<-qhu];delta cp eN RA JK ia jf VH Zz ZA Cu Ziw Z8 Z7 Zv Zn Zio VI Zs Ziv Ziu;rw[e1])
  exact dv jN.2 (dv (by omega) (ar jN (ao (qqp _) ⟨i,l,K,m[i.toNat],rfl,rfl,⟨H,hx⟩,λF G h=>ar (by omega) (Hj F G h)⟩))))
 (by
  rintro m ⟨l,K⟩ i E hi ⟨R,hb,hw,hz⟩ bF
  try dsimp only at*
  unfold qbO;by_cases zl:i=0
  ·rw[zau zl]
   (rw[<-qhv];delta TQ Ziy cp eN RA JK ia jf VH Zf Ziw Zn Zio VI Zix Ziu)
   exact Cj (by rw[zaa];omega) (bF _ (λh=>by cases h) (.inl rfl))
  rw[zat zl]
  (rw[<-qhu];delta cp eN RA JK ia jf VH Zz ZA Cu Ziw Z8 Z7 Zv Zn Zio VI Zs Ziv Ziu)
  have hH:c7 16 l:=hw.1.mono (by omega);have L:=bF _ (λh=>by cases h) (.inr ⟨l,K,hH,rfl⟩);exact b8 (λh1=>b8 (λh2=>by rw[zaa] at h1;omega) λ_=>L) λ_=>L)
 (by
  rintro s E ⟨m,rfl,R,h1,h2⟩;refine⟨m,([],[[],[],[]]),by unfold qbO;rw[zau rfl],⟨R,λ_=>rfl,⟨⟨(λ_ h=>by cases h),by decide⟩,qqo,by decide,by decide⟩,trivial⟩,?_⟩;rintro z (rfl | ⟨l,K,h,rfl⟩)
  ·exact h1
  exact h2 l K h)
theorem qqq:FD X 9 qqk:=IS .nil (.cons qfL .nil) (by
 intro ps R E A;obtain⟨m,rfl,rfl,hs,F,B⟩:=A
 (rw[<-qqj];delta ia jf Z9o Z9p ZV TQ Ziy Z5 Us cp eN Ziw)
 exact⟨m,rfl,hs,F,λl _ h=>B l h⟩)
end
theorem qbP{b x l k}(h:k<J l):Ss b x (l.take (k+1))=Ss b x (l.take k)++goO b x l[k]:=by unfold Ss;rw[zah h,zb8];simp
theorem PZ{on x l i}(h:i<J l):ie (l.take (i+1)) on x=ie (l.take i) on x++Ss (decide (l[i].s∈on)) x l[i].ops:=by unfold ie;rw[zah h,zb8];simp
theorem qfM{b x o n}(h:J o.elems<=n):J (goO b x o)<=n:=by
 unfold goO;split
 ·exact h
 exact za4 _
theorem IQ{b x n}: ∀l,(∀o∈l,J o.elems<=n)->J (Ss b x l)<=n*J l
 | [],_=>by simp[Ss]
 |o::l,h=>by
  have F:=qfM (b:=b) (x:=x) (h o (.head _));have B:=IQ (b:=b) (x:=x) l λy A=>h y (.tail _ A);unfold Ss at*
  rw[zbT,zaf,zav,Nat.mul_add,zcF];omega
theorem x8{on x n}: ∀l,(∀g∈l,∀o∈g.ops,J o.elems<=n)->J (ie l on x)<=n*cK l
 | [],_=>by simp[ie]
 |g::l,h=>by
  have F:=IQ (b:=decide (g.s∈on)) (x:=x) g.ops (h g (.head _));have B:=x8 (on:=on) (x:=x) l λy A=>h y (.tail _ A);unfold ie at*
  rw[zbT,zaf,fF,Nat.mul_add];omega
section
variable{X:XF}
theorem MN{l}(hs:dm l):J (uD (ku l))<=1000000:=by
 have A:=CS (l:=l) _ (zag _);have B:=qm (l:=l) _ (zag _);rw[zan] at A B;have:=My A.1 (λe F=>(A.2 e F).1) (J (ku l)+1) [] _ (wx.start A.1);have:=hs.2.1;unfold uD;rw[zaI] at*
 omega
end
def qfN l on x:=n5 (cZ l x) on (ie l on x)
def SmT l:=FI l/\ ∀x,dm (cZ (aC l) x)/\qsX (aC l) (gJ l)/\J (ie (aC l) (gJ l) x)<=1000000
def x9(l:List au)(on:List aN)(x:It):sO:=(x.2.1,x.2.2.1,if x.2.2.1=O then [] else fW (qfN l on x.1))
section
variable{i:Int}{l:List au}(h:n0 i l)(hi:0<=i/\i<=1000)
theorem n0.right{i l}(h:n0 i l):aC l=l:=mT h.chk h.nd
include h hi
theorem n0.time:0<=Pi.tv l/\Pi.tv l<=i:=⟨(rT _).1,Pg hi.1 _ λg A=>(h.sm g A).2.1.1⟩
end
theorem C1: ∀l on x,x∈on->x∈Pf l on
 | [],_,_,h=>h
 |a::r,on,x,h=>by
  refine C1 r (D6 on a) x ?_;unfold D6;split
  ·exact h
  exact zbS _ h
section
variable{T:List Pl}{V V':List ak}
theorem U3:J (mP T V)<=J T:=by rw[yV.length_eq,zaa];exact zaQ _ _
end
theorem Sz: ∀n s p,p∈xP n s->J p<=J s
 |0,s,p,h=>by grind [xP]
 |n+1,[],p,h=>by grind [xP]
 |n+1,a::s,p,h=>by
  unfold xP at h;rcases zao.1 h with rfl |h
  ·skip
   grind
  have:=Sz n _ p h;rw[zaX] at this;omega
theorem qfO{t p}(h:p∈kg t):J p<=J t:=by
 unfold kg at h;split at h
 ·exact Sz _ _ _ h
 cases h
theorem SA: ∀n s p,p∈xP n s->p≠[]
 |0,s,p,h=>by grind [xP]
 |n+1,[],p,h=>by grind [xP]
 |n+1,a::s,p,h=>by
  unfold xP at h;rcases zao.1 h with rfl |h
  ·have:=sj (s:=a::s) (by simp);grind [Nat.sub_add_cancel]
  exact SA n _ p h
theorem qfP{t p}(h:p∈kg t):p≠[]:=by
 unfold kg at h;split at h
 ·exact SA _ _ _ h
 cases h
theorem qbQ{P:List UInt8->Prop}{r o}(A: ∀e∈o,P e.2.2){l}(B: ∀p∈l,P p): ∀i,i<=J l-> ∀e∈CR r o (l.take i),P e.2.2
 |0,_=>by simpa [CR] using A
 |i+1,hi=>by rw[rV (by omega)];have F:=qbQ (r:=r) A B i (by omega);grind [Mv]
theorem P0{P:List UInt8->Prop}{l}(A: ∀r∈l,∀p∈kg r.2.2,P p): ∀i,i<=J l-> ∀e∈ku (l.take i),P e.2.2
 |0,_=>by simp[ku]
 |i+1,hi=>by rw[rW (by omega)];have:=qbQ (r:=l[i]'(by omega)) (P0 A i (by omega)) (l:=kg (l[i]'(by omega)).2.2) (A _ (zay _)) _ (zag _);rw[zan] at this;exact this
theorem C2{all}: ∀n w,(∀e∈w,e∈all)-> ∀e∈uC all n w,e∈all
 |0,_,_,e,h=>by cases h
 |_+1,[],_,e,h=>by cases h
 |n+1,x::w,hw,e,h=>by
  unfold uC at h;rcases zao.1 h with rfl |h
  ·grind
  refine C2 n _ (λy A=> ?_) e h;grind [nc]
theorem MO{n}: ∀l,(∀e∈l,J e.2.2<=n)->J (fW l)<=n*J l
 | [],_=>by simp[fW]
 |e::l,h=>by
  have F:=h e (.head _);have B:=MO l λy A=>h y (.tail _ A);unfold fW at*
  rw[zbT,zaf,zav,Nat.mul_add,zcF];omega
theorem qbR{l on g}(h:dm l):J (n5 l on g)<=1000000/\J (fW (n5 l on g))<=1000000000000/\ ∀e∈n5 l on g,e.2.2≠[]:=by
 have Q:J (n5 l on g)<=1000000:=zaJ (zaQ _ _) (MN h);have h0: ∀e∈n5 l on g,e∈ku l:=λe F=>C2 (all:=ku l) _ _ (λy H=>(nc.1 H).1) e (zce.1 F).1;have L: ∀e∈n5 l on g,J e.2.2<=100000:=λe F=>by have A:=P0 (P:=λp=>J p<=100000) (l:=l) (λr G p B=>zaJ (qfO B) (h.2.2 r G).1) _ (zag _);grind
 have R:=MO _ L;refine⟨Q,by omega,λe F=> ?_⟩;have A:=P0 (P:=λp=>p≠[]) (l:=l) (λr G p B=>qfP B) _ (zag _);grind
abbrev snR(U:List aN)(g:List ak)(c d:Int):List (Nat×En):=[(0,⟨0,Y,.box 100 [.mp 1 0]⟩),(1,⟨0,Y,.map 27 (cM U) c C⟩),(2,⟨0,Y,.box 175 [.mp 3 0]⟩),(3,⟨0,Y,.map 49 (cI g) d C⟩)]
abbrev sn3(l:List aS)(gone:List ak)(on U:List aN)(c i:Int):S:=⟨49,[(0,jI l),(2,cF gone),(8,.ref 0 0 0),(9,.ref 2 0 0),(16,mR on),(17,iD (J on)),(18,iD i)],snR U [] c 0⟩
def ZiD(U:List aN) c:=If 27 (λd=>match d with |BC [we GE a,we GE b]=>if th (a,b) U=0 then Y else Z (iE (↑(th (a,b) U):Int))|_=>Y) c C
def ZiE U c:=(1,AC 0 Y (ZiD U c))
def ZiB:=(2,AC 0 Y (H1 (175:I) [kP]))
def ZiC:=[ZiB,(3,AC 0 Y (If 49 (λd=>match d with |BC [we GE a,we GE b,we GE c]=>if th (a,b,c) []=0 then Y else Z (iE (↑(th (a,b,c) []):Int))|_=>Y) (0:Int) C))]
def ZiA:=(0,AC 0 Y Zhq)
def Ziz:=(8,cp)
theorem qqr l gone on U c i E:(bif Zba i on then ob (Z5Y i on) (ob (H3 on i) (ob (bE PR (3:I) (aK (cM U (BC (LM on i))) Z5)) (ob (decide (Z7<=AM (aK (cM U (BC (LM on i))) Z5)+(1:Int)/\AM (aK (cM U (BC (LM on i))) Z5)+(1:Int)<=Z8)) (ob (Zv i) (E (AD,AS 49 [sT l,Zh9 gone,Ziz,F8,(16,H2 on),(17,Do (we GE (↑(gX on):Int))),(18,ZA i)] (ZiA::(1,AC 0 Y (If 27 (λA=>bif OF (Zd6 on i) A then Z (we GE (AM (aK (cM U (Zd6 on i)) Z5)+(1:Int))) else aW (Zd6 on i) (aK (cM U (Zd6 on i)) Z5) (cM U) A) (bif ir (cM U (BC (LM on i))) then c else c+(1:Int)) C))::ZiC))))))) else E (DD 0,AS 49 [sT l,Zh9 gone,Ziz,F8] (ZiA::ZiE U c::ZiC)))=(bV [] [] [] 52 3 (sn3 l gone on U c i)) E:=by kernel_rfl
def qqs:S->K (PX×S):=λs E=> ∃l gone on,s=⟨49,[(0,jI l),(2,cF gone),(8,.ref 0 0 0),(9,.ref 2 0 0),(16,mR on),(17,iD (J on)),(18,iD 0)],[(0,⟨0,Y,.box 100 [.mp 1 0]⟩),(1,⟨0,Y,.map 27 (λ_=>Y) 0 C⟩),(2,⟨0,Y,.box 175 [.mp 3 0]⟩),(3,⟨0,Y,.map 49 (λ_=>Y) 0 C⟩)]⟩/\J on<=1000000/\ ∀c,E (.exit 0,⟨49,[(0,jI l),(2,cF gone),(8,.ref 0 0 0),(9,.ref 2 0 0)],snR on.reverse [] c 0⟩)
abbrev sn8(l:List aS)(gone g:List ak)(U:List aN)(c d i:Int):S:=⟨49,[(0,jI l),(8,.ref 0 0 0),(9,.ref 2 0 0),(29,cF gone),(30,iD (J gone)),(31,iD i)],snR U g c d⟩
theorem qqt l gone g U c d i E:(bif decide (i<nr gone) then ob (Lo i gone) (ob (yT gone i) (ob (bE PR (3:I) (aK (cI g (vL gone i)) Z5)) (ob (decide (Z7<=AM (aK (cI g (vL gone i)) Z5)+(1:Int)/\AM (aK (cI g (vL gone i)) Z5)+(1:Int)<=Z8)) (ob (Zv i) (E (AD,AS 49 [sT l,Ziz,F8,(29,gC gone),(30,QY gone),(31,ZA i)] [ZiA,ZiE U c,ZiB,(3,AC 0 Y (If 49 (λA=>bif OF (HS gone i) A then Z (we GE (AM (aK (cI g (HS gone i)) Z5)+(1:Int))) else aW (HS gone i) (aK (cI g (HS gone i)) Z5) (cI g) A) (bif ir (cI g (vL gone i)) then d else d+(1:Int)) C))])))))) else E (DD 2,AS 49 [sT l,Ziz,F8] [ZiA,ZiE U c,ZiB,(3,AC 0 Y (If 49 (λd=>match d with |BC [we GE a,we GE b,we GE c]=>if th (a,b,c) g=0 then Y else Z (iE (↑(th (a,b,c) g):Int))|_=>Y) d C))]))=(bV [] [] [] 52 8 (sn8 l gone g U c d i)) E:=by kernel_rfl
def qqu:S->K (PX×S):=λs E=> ∃l gone U c,s=sn8 l gone [] U c 0 0/\J gone<=1000000/\ ∀d,E (.exit 2,⟨49,[(0,jI l),(8,.ref 0 0 0),(9,.ref 2 0 0)],snR U gone.reverse c d⟩)
def ZiF:=[ZiA,(1,Z9K),ZiB,(3,Dd)]
theorem qtf l on gone E:(∃H B A,AS 49 [sT l,Zh9 gone,Ziz,F8,(16,H2 on),(17,Do (we GE (↑(Ab on):Int))),(18,Do Z5)] ZiF=AS 49 [sT H,Zh9 B,Ziz,F8,(16,H2 A),(17,Do (we GE (↑(gX A):Int))),(18,Do Z5)] ZiF/\Iu A/\ ∀c,∃l gone U G,AS 49 [sT H,Ziz,F8,(29,gC B),(30,Do (we GE (vK B))),(31,Do Z5)] (ZiA::(1,AC 0 Y (If 27 (λd=>match d with |BC [we GE a,we GE b]=>if th (a,b) (ue A)=0 then Y else Z (iE (↑(th (a,b) (ue A)):Int))|_=>Y) c C))::ZiC)=AS 49 [sT l,Ziz,F8,(29,gC gone),(30,QY gone),(31,Do Z5)] (ZiA::ZiE U G::ZiC)/\ll gone/\ ∀d,∃F,ZfX l=ZfX F/\Zn/\dm F/\ ∀o,o=uD (ku F)-> ∃m V,ZhG o=ZhG m/\[ZdO o,Zhz,(2,AC 0 (Z 2) (ZiD U G)),ZhA,(4,AC 0 (Z 4) (If 49 (λd=>match d with |BC [we GE a,we GE b,we GE c]=>if th (a,b,c) (ue gone)=0 then Y else Z (iE (↑(th (a,b,c) (ue gone)):Int))|_=>Y) d C))]=[ZdO m,Zhz,(2,AC 0 (Z 2) (If 27 (λd=>match d with |BC [we GE a,we GE b]=>if th (a,b) (ni.U V)=0 then Y else Z (iE (↑(th (a,b) (ni.U V)):Int))|_=>Y) (ni.c V) C)),ZhA,(4,AC 0 (Z 4) (If 49 (λd=>match d with |BC [we GE a,we GE b,we GE c]=>if th (a,b,c) (ni.g V)=0 then Y else Z (iE (↑(th (a,b,c) (ni.g V)):Int))|_=>Y) (ni.d V) C))]/\ZfG m/\ ∀o tl,o=List.filter (qx V) m-> ∃l,[Do (IR 4 (ab (kQ o) (tF o++tl)))]=[Do (IR 4 (tF l))]/\Zn/\UZ l/\E (P.cy [qU l,Do (GT (fW l))],Zhm l))=(fK [(91,hDs)] [(92,qhj),(90,qhm)] [(3,ah (aV 52 3) qqs),(8,ah (aV 52 8) qqu)] 52 [jI l,mR on,cF gone] []) E:=by kernel_rfl
def qbS:bc:=λps R E=> ∃l on gone,ps=[jI l,mR on,cF gone]/\R=[]/\(dm l/\J on<=1000000/\J gone<=1000000)/\ ∀o,o=n5 l on gone->E (.cy [.sl 0 0 (J o),sD (fW o)],[(0,⟨0,Y,fw C (o.map (·.1))⟩)])
theorem U4 on gone c d x:qx ⟨on.reverse,gone.reverse,c,d⟩ x=seT on gone x:=by unfold qx iY seT;grind
theorem Ge{α:Type}{l:List α}{i}(h:i<J l):(l.take (i+1)).reverse=l[i]::(l.take i).reverse:=by rw[zah h,List.reverse_append];rfl
section
variable{X:XF}{w0:World}(hX:b7 PR w0 X.cf)
include hX
theorem qqv:LN w0 52 3 (ah (aV 52 3) qqs):=LN.idx hX (by rfl) .nil .nil .nil
 (A:=List aS×List ak×List aN) (B:=List aN×Int) (λa b i=>sn3 a.1 a.2.1 a.2.2 b.1 b.2 i) (λa=>J a.2.2) (λa i b=>J a.2.2<=1000000/\b.1=(a.2.2.take i).reverse)
 (λa x=> ∃c,x=(.exit 0,⟨49,[(0,jI a.1),(2,cF a.2.1),(8,.ref 0 0 0),(9,.ref 2 0 0)],snR a.2.2.reverse [] c 0⟩))
 (by
  rintro⟨l,gone,on⟩ ⟨U,c⟩ i E h0 dE bB ⟨hs,hU⟩ F bF;dsimp only at*
  (rw[<-qqr];delta ZiD ZiE kP ZiB ZiC k7 Zs Zd6 Zhq ZiA Zz ZA gX H2 qh F8 cp Ziz eM gC Zh9 F6 sT Z8 Z7 Zv Z5 LM H3 Ab Z5Y Zba)
  have e1:CE (on.map bX) i.toNat=bX on[i.toNat]:=aA _ _ _ bB;have L:=Ge bB;rw[<-hU] at L;have Jx:J U<=1000000:=by rw[hU,zcr,zaG];omega
  have F: ∀G,E (.normal,sn3 l gone on (on[i.toNat]::U) G (i+1)):=λG=>F (on[i.toNat]::U,G) ⟨hs,L.symm⟩;rw[e1];generalize on[i.toNat]=x at*
  have Q:U.count x<=J U:=zbu;have c0:BC [we GE (AM (xz (bX x) 0)),we GE (AM (xz (bX x) 1))]=bX x:=rfl;have c1:aK (cM U (bX x)) (we GE 0)=we GE (U.count x:Int):=rU U x;have c2:(λH=>bif OF (bX x) H then Z (we GE ((U.count x:Int)+1)) else aW (bX x) (we GE (U.count x:Int)) (cM U) H)=cM (x::U):=Ih U x _;have d1:AM (we GE (U.count x:Int))=(U.count x:Int):=rfl;rw[c0,c1,d1,c2];have R:(0:Int)<=(U.count x:Int)/\(U.count x:Int)<=1000000:=by omega
  generalize (U.count x:Int)=cn at*
  exact dv dE (ar (by grind) (ao (ph x) (ao (isInt _) (ar (by omega) (ar (by omega) (F _)))))))
 (by rintro⟨l,gone,on⟩ ⟨U,c⟩ i E hi ⟨hs,hU⟩ bF;rw[zan] at hU;subst hU;exact Cj (by omega) (bF _ (λh=>by cases h) ⟨c,rfl⟩))
 (by
  rintro s E ⟨l,gone,on,rfl,hs,hp⟩;refine⟨(l,gone,on),([],0),?_,⟨hs,rfl⟩,?_⟩
  ·show _=sn3 l gone on [] 0 0;rw[sn3,snR,Ig,Po]
  grind)
theorem qqw:LN w0 52 8 (ah (aV 52 8) qqu):=LN.idx hX (by rfl) .nil .nil .nil
 (A:=List aS×List ak×List aN×Int) (B:=List ak×Int) (λa b i=>sn8 a.1 a.2.1 b.1 a.2.2.1 a.2.2.2 b.2 i) (λa=>J a.2.1) (λa i b=>J a.2.1<=1000000/\b.1=(a.2.1.take i).reverse)
 (λa x=> ∃d,x=(.exit 2,⟨49,[(0,jI a.1),(8,.ref 0 0 0),(9,.ref 2 0 0)],snR a.2.2.1 a.2.1.reverse a.2.2.2 d⟩))
 (by
  rintro⟨l,gone,V,c⟩ ⟨U,d⟩ i E h0 dE bB ⟨hs,hU⟩ F bF;dsimp only at*
  (rw[<-qqt];delta k7 Zs eM HR HS kP ZiB ZiD ZiE Zhq ZiA Zz ZA dK nr QY gC qh F8 cp Ziz F6 sT Z8 Z7 Zv Z5 I9 Ja vL yT oH vK Lo)
  have e1:CE (gone.map aF) i.toNat=aF gone[i.toNat]:=aA _ _ _ bB;have L:=Ge bB;rw[<-hU] at L;have Jx:J U<=1000000:=by rw[hU,zcr,zaG];omega
  have F: ∀G,E (.normal,sn8 l gone (gone[i.toNat]::U) V c G (i+1)):=λG=>F (gone[i.toNat]::U,G) ⟨hs,L.symm⟩;rw[e1];generalize gone[i.toNat]=x at*
  have Q:U.count x<=J U:=zbu;have c0:BC [we GE (AM (xz (aF x) 0)),we GE (AM (xz (aF x) 1)),we GE (AM (xz (aF x) 2))]=aF x:=rfl;have c1:aK (cI U (aF x)) (we GE 0)=we GE (U.count x:Int):=Cw U x;have c2:(λH=>bif OF (aF x) H then Z (we GE ((U.count x:Int)+1)) else aW (aF x) (we GE (U.count x:Int)) (cI U) H)=cI (x::U):=Pp U x _;have d1:AM (we GE (U.count x:Int))=(U.count x:Int):=rfl;rw[c0,c1,d1,c2];have R:(0:Int)<=(U.count x:Int)/\(U.count x:Int)<=1000000:=by omega
  generalize (U.count x:Int)=cn at*
  exact dv dE (ar (by grind) (ao (jG x) (ao (isInt _) (ar (by omega) (ar (by omega) (F _)))))))
 (by rintro⟨l,gone,V,c⟩ ⟨U,d⟩ i E hi ⟨hs,hU⟩ bF;rw[zan] at hU;subst hU;exact Cj (by omega) (bF _ (λh=>by cases h) ⟨d,rfl⟩))
 (by rintro s E ⟨l,gone,U,c,rfl,hs,hp⟩;refine⟨(l,gone,U,c),([],0),rfl,⟨hs,rfl⟩,?_⟩;grind)
theorem qkX:ND w0 52 qbS:=ND.mk hX (.cons qs6 .nil) (.cons (qp2 hX) (.cons (qkK hX) .nil)) (Lu.hks (.cons (qqv hX) (.cons (qqw hX) .nil)) (by rfl)) (by
 rintro ps R E ⟨l,on,gone,rfl,rfl,⟨hs,L,H⟩,F⟩
 (rw[<-qtf];delta Zhl Zhm kQ qU tF ZfG ZhA ZiD Zhz ZdO PB jB Zhx ZhG Zn F6 ZfX dK ll ZiE nr QY kP ZiB ZiC Zhq ZiA eM oH vK gC gX Iu M9 Dd Z9K ZiF Z5 Ab H2 qh F8 cp Ziz Zh9 sT)
 refine⟨l,gone,on,by rw[zaa],L,λc=>⟨l,gone,on.reverse,c,by rw[zaa],H,λd=>⟨l,rfl,rfl,hs,λo G=>⟨o,⟨on.reverse,gone.reverse,c,d⟩,rfl,rfl,by rw[G];exact MN hs,λA tl Q=> ?_⟩⟩⟩⟩;have B:A=n5 l on gone:=by grind [n5,List.filter_congr,U4]
 refine⟨A,?_,rfl,by rw[B];exact qbR hs,F A B⟩;rw[zbH (by rw[zaa])])
end
abbrev vwX(z:Bool)(V:bQ):List (Nat×En):=[(0,⟨0,Z 0,.box 74 [.sl 1 0 (J V.gs),.sl 2 0 (J V.os),.mp 3 0,.sl 4 0 (J V.A),.sl 5 0 (J V.P),.mp 6 0,.sl 7 0 (J V.H),.sl 8 0 (J V.L)]⟩),(1,⟨0,Z 1,.arr 31 C V.gs⟩),(2,⟨0,Z 2,.arr 27 z V.os⟩),(3,⟨0,Z 3,.map 27 V.f V.c C⟩),(4,⟨0,Z 4,.arr 49 O V.A⟩),(5,⟨0,Z 5,.arr 108 O V.P⟩),(6,⟨0,Z 6,.map 49 V.d V.n C⟩),(7,⟨0,Z 7,.arr 121 O V.H⟩),(8,⟨0,Z 8,.arr 121 O V.L⟩)]
abbrev txS(z:Bool)(V:bQ)(x:ak)(runs:List aS)(gone:List ak)(i:Int):S:=⟨74,[(0,.ref 0 0 0),(3,.ref 9 0 0),(6,.sl 10 0 (J runs)),(7,.sl 11 0 (J gone)),(17,.sl 1 0 (J V.gs)),(18,iD (J V.gs)),(19,iD i)],vwX z V++[(9,⟨0,Y,sS x⟩),(10,⟨0,Y,.arr 115 C (runs.map qo)⟩),(11,⟨0,Y,fw C gone⟩)]⟩
abbrev tx6(z:Bool)(V:bQ)(x:ak)(runs:List aS)(gone:List ak)(i:Int)(g:au)(k:Int):S:=⟨74,[(0,.ref 0 0 0),(3,.ref 9 0 0),(6,.sl 10 0 (J runs)),(7,.sl 11 0 (J gone)),(9,.ref 12 0 0),(17,.sl 1 0 (J V.gs)),(18,iD (J V.gs)),(19,iD i),(24,.d (.sl 18 (g.ops.map eX))),(25,iD (J (g.ops.map eX))),(26,iD k)],vwX z V++[(9,⟨0,Y,sS x⟩),(10,⟨0,Y,.arr 115 C (runs.map qo)⟩),(11,⟨0,Y,fw C gone⟩),(12,⟨0,Y,qj3 g⟩)]⟩
def ZiN x:=(9,pd x)
def SB z V:=(2,AC 0 (Z 2) (Cs (27:I) z (bQ.os V)))
def ZiR V z x runs gone:=[Cn V,Cm V,SB z V,Cl V,D5 V,D4 V,Ck V,Ms V,Mr V,ZiN x,(10,PK runs),(11,tj gone)]
def ZiK V:=(18,Do (we GE (↑(Ac V):Int)))
def ZiJ V:=(17,IH 1 0 (Ac V))
def ZiG runs:=(6,IH 10 0 (sC runs))
def ZiI:=(9,So 12 0 0)
def ZiL V i g k:=[ZiI,ZiJ V,ZiK V,(19,Zl i),(24,qR g),(25,Do (we GE (zt g))),(26,ZA k)]
def ZiH gone:=(7,IH 11 0 (dK gone))
def ZiQ g k:=[BC [Z8z g k,Z8A g k,Z8B g k,Z8C g k,Z8D g k,Z8E g k,GT (Q3 (xz (lJ g k) 16))]]
def ZiO V z x runs gone g:=[Cn V,Cm V,SB z V,Cl V,D5 V,D4 V,Ck V,Ms V,Mr V,ZiN x,(10,PK runs),(11,tj gone),(12,Cx g)]
def ZiP k (E:PX×S->Prop) runs gone V i g z x:=ob (Zv k) (E (AD,AS 74 (fq::CM::ZiG runs::ZiH gone::ZiL V i g k) (ZiO V z x runs gone g)))
theorem qhw z V (x:ak) runs gone i g k E:(bif Z8o k g then ob (Z4 k g) (ob (bE PR (79:I) (lJ g k)) (bif !(AM (xz (lJ g k) 1)==ba x&&(AM (xz (lJ g k) 2)==gD x&&O)&&(AM (xz (lJ g k) 3)==fO x&&O)) then ZiP k E runs gone V i g z x else bif Aj g k==(3:Int) then ob (gr (sC runs) (J (aa qo runs))&&aB (sC runs+J (ZiQ g k)) 64) (ob (Zv k) (E (AD,AS 74 (fq::CM::(6,IH 10 0 (sC runs+J (ZiQ g k)))::ZiH gone::ZiL V i g k) [Cn V,Cm V,SB z V,Cl V,D5 V,D4 V,Ck V,Ms V,Mr V,ZiN x,(10,AC 0 Y (Cs (115:I) C (Zf7 runs++ZiQ g k))),(11,tj gone),(12,Cx g)]))) else bif Aj g k==(4:Int) then ob (bE PR (103:I) (aK (bQ.f V (LI g)) jh)) (bif ir (bQ.f V (LI g)) then ob (XY gone&&aB (dK gone+J (D.gh (xz (lJ g k) 17))) 24) (ob (Zv k) (E (AD,AS 74 (fq::CM::ZiG runs::(7,IH 11 0 (dK gone+J (D.gh (xz (lJ g k) 17))))::ZiL V i g k) [Cn V,Cm V,SB z V,Cl V,D5 V,D4 V,Ck V,Ms V,Mr V,ZiN x,(10,PK runs),(11,AC 0 Y (Cs (49:I) C (OU gone++D.gh (xz (lJ g k) 17)))),(12,Cx g)]))) else ZiP k E runs gone V i g z x) else ZiP k E runs gone V i g z x)) else E (DD 2,AS 74 [fq,CM,ZiG runs,ZiH gone,ZiJ V,ZiK V,(19,Zl i)] (ZiR V z x runs gone)))=(bV [] [] [] 26 6 (tx6 z V x runs gone i g k)) E:=by kernel_rfl
def qqx:S->K (PX×S):=λs E=> ∃z V x runs gone i g,s=tx6 z V x runs gone i g 0/\ ∃o,CO V.f o/\(J runs<=100000000/\J gone<=100000000/\J g.ops<=1000/\ ∀p∈g.ops,J p.elems<=2000)/\ ∀A B,A=runs++qn x g.ops->B=gone++Ss (decide (g.s∈o)) x g.ops->E (.exit 2,txS z V x A B i)
def ZiS V i:=CE (bQ.gs V) (Zs i)
theorem qqy z V x runs gone i E:(bif decide (i<(↑(Ac V):Int)) then ob (decide ((0:Int)<=i/\i<(↑(Ac V):Int))) (ob (decide (Zs i<Ac V)) (ob (bE PR (31:I) (ZiS V i)) (∃R A F G B Q g,AS 74 [fq,CM,ZiG runs,ZiH gone,ZiI,ZiJ V,ZiK V,(19,Zl i),(24,Do (IR 18 (D.gh (xz (ZiS V i) 6)))),(25,Do (we GE (↑(J (D.gh (xz (ZiS V i) 6))):Int))),(26,Do Z5)] [Cn V,Cm V,SB z V,Cl V,D5 V,D4 V,Ck V,Ms V,Mr V,ZiN x,(10,PK runs),(11,tj gone),(12,AC 0 Y (H1 (31:I) [Do (we GE (AM (xz (ZiS V i) 0))),Do (we GE (AM (xz (ZiS V i) 1))),Do (we GE (AM (xz (ZiS V i) 2))),Do (IR 1 (D.gh (xz (ZiS V i) 3))),Do (we GE (AM (xz (ZiS V i) 4))),Do (we GE (AM (xz (ZiS V i) 5))),Do (IR 18 (D.gh (xz (ZiS V i) 6)))]))]=AS 74 [fq,CM,ZiG G,ZiH B,ZiI,ZiJ A,ZiK A,(19,Zl Q),(24,qR g),(25,Do (we GE (zt g))),(26,Do Z5)] (ZiO A R F G B g)/\ ∃o,CO (bQ.f A) o/\(sC G<=100000000/\dK B<=100000000/\Dk g<=1000/\ZgR g)/\ ∀H L,H=G++qn F (au.ops g)->L=B++Ss (decide (au.s g∈o)) F (au.ops g)->ob (Zv Q) (E (AD,AS 74 [fq,CM,ZiG H,ZiH L,ZiJ A,ZiK A,(19,ZA Q)] (ZiR A R F H L)))))) else E (DD 0,AS 74 [fq,(6,IH 9 0 (sC runs)),(7,IH 10 0 (dK gone))] [Cn V,Cm V,SB z V,Cl V,D5 V,D4 V,Ck V,Ms V,Mr V,(9,PK runs),(10,tj gone)]))=(bV [] [] [(6,ah (aV 26 6) qqx)] 26 3 (txS z V x runs gone i)) E:=by kernel_rfl
abbrev qqz(z:Bool)(V:bQ)(r:List aS)(g:List ak):S:=⟨74,[(0,.ref 0 0 0),(6,.sl 9 0 (J r)),(7,.sl 10 0 (J g))],vwX z V++[(9,⟨0,Y,.arr 115 C (r.map qo)⟩),(10,⟨0,Y,fw C g⟩)]⟩
structure MP(V:bQ)(l:List au)(o:List aN):Prop where
 gs:V.gs=l.map dp
 os:V.os=o.map bX
 on:CO V.f o
 sm:J l<=1000000/\cK l<=1000/\J o<=1000000/\ ∀g∈l,∀p∈g.ops,J p.elems<=2000
def qqA:S->K (PX×S):=λs E=> ∃z V x l o,s=txS z V x [] [] 0/\MP V l o/\ ∀r g,r=cZ l x->g=ie l o x->E (.exit 0,qqz z V r g)
def ZiT A B F:=AS 74 [fq,CM,(6,IH 10 0 0),(7,IH 11 0 0),ZiJ A,ZiK A,(19,Do Z5)] [Cn A,Cm A,SB B A,Cl A,D5 A,D4 A,Ck A,Ms A,Mr A,ZiN F,(10,Zfb),(11,xH)]
theorem qtg z V x E:(∃F A B l o,ZiT V z x=ZiT A F B/\MP A l o/\ ∀r g,r=cZ l B->g=ie l o B-> ∃l on gone,[Do (IR 7 (Zf7 r)),Do (IR 2 (ab (J (bQ.os A)) (bQ.os A))),PC g]=[F6 l,H2 on,gC gone]/\Zn/\(dm l/\Iu on/\ll gone)/\ ∀o,o=n5 l on gone->E (P.cy [IH 9 0 (kQ o),Do (GT (fW o))],[Cn A,Cm A,(2,AC 0 (Z 2) (Cs (27:I) O (bQ.os A))),Cl A,D5 A,D4 A,Ck A,Ms A,Mr A,(9,Zhl o)]))=(fK [] [(52,qbS)] [(3,ah (aV 26 3) qqA)] 26 [.ref 0 0 0,.d (aF x)] (vwX z V)) E:=by kernel_rfl
def qqB:bc:=λps R E=> ∃z V x,ps=[.ref 0 0 0,.d (aF x)]/\R=vwX z V/\ ∃l o,MP V l o/\(dm (cZ l x)/\J (ie l o x)<=1000000)/\ ∀e,e=n5 (cZ l x) o (ie l o x)->E (.cy [.sl 9 0 (J e),sD (fW e)],vwX O V++[(9,⟨0,Y,fw C (e.map (·.1))⟩)])
theorem qqC{f o}(h:CO f o) s:aK (f (BC [we GE s.1,we GE s.2])) (BC [])= .agg []/\(f (BC [we GE s.1,we GE s.2])).isSome=decide (s∈o):=by
 have hs:f (BC [we GE s.1,we GE s.2])=if s∈o then Z (.agg []) else Y:=h s
 rw[hs];by_cases A:s∈o
 ·rw[zau A,za6 A];exact⟨rfl,rfl⟩
 rw[zat A,za7 A];exact⟨rfl,rfl⟩
theorem qth:bE PR 103 (.agg [])=O:=by rfl
section
variable{X:XF}{w0:World}(hX:b7 PR w0 X.cf)
include hX
theorem qqD:LN w0 26 6 (ah (aV 26 6) qqx):=LN.idx hX (by rfl) .nil .nil .nil
 (A:=Bool×bQ×ak×List aS×List ak×Int×au×List aN) (B:=List aS×List ak) (λa b k=>tx6 a.1 a.2.1 a.2.2.1 b.1 b.2 a.2.2.2.2.2.1 a.2.2.2.2.2.2.1 k) (λa=>J a.2.2.2.2.2.2.1.ops)
 (λa k b=>(CO a.2.1.f a.2.2.2.2.2.2.2/\J a.2.2.2.1<=100000000/\J a.2.2.2.2.1<=100000000/\J a.2.2.2.2.2.2.1.ops<=1000/\ ∀p∈a.2.2.2.2.2.2.1.ops,J p.elems<=2000)/\b.1=a.2.2.2.1++qn a.2.2.1 (a.2.2.2.2.2.2.1.ops.take k)/\b.2=a.2.2.2.2.1++Ss (decide (a.2.2.2.2.2.2.1.s∈a.2.2.2.2.2.2.2)) a.2.2.1 (a.2.2.2.2.2.2.1.ops.take k))
 (λa z=>z=(.exit 2,txS a.1 a.2.1 a.2.2.1 (a.2.2.2.1++qn a.2.2.1 a.2.2.2.2.2.2.1.ops) (a.2.2.2.2.1++Ss (decide (a.2.2.2.2.2.2.1.s∈a.2.2.2.2.2.2.2)) a.2.2.1 a.2.2.2.2.2.2.1.ops) a.2.2.2.2.2.1))
 (by
  rintro⟨z,V,x,r0,g0,i,g,o⟩ ⟨runs,gone⟩ k E h0 C8 eb ⟨⟨F,oi,hg0,uo,Gv⟩,hru,oG⟩ hn bF;dsimp only at*
  (rw[<-qhw];delta eM tj PK fO gA gD fP fQ pd ZiN Mr Ms Ft Ck Fu D4 Fv D5 Fw Cl SB Fx Cm kP Ac Vn Cn ZiR Zj Zl ZiK ZiJ dK OU sC ZiG oH XY jh nC oF LI qR qf qg qS uv Cx Zf7 Zz ZA zt ZiI ZiL ZiH CM cp fq Z8 Z7 Zv Zs lJ Z8E Z8D Z8C Z8B Z8A Z8z ZiQ Aj ZiO ZiP Z4 Z8o)
  have e1:CE (g.ops.map eX) k.toNat=eX g.ops[k.toNat]:=aA _ _ _ eb;have FP:=F7 (x:=x) eb;have hgt:=qbP (b:=decide (g.s∈o)) (x:=x) eb;have hrl:J runs<=100001000:=by have:=wB x (g.ops.take k.toNat);rw[zaG] at this;rw[hru,zaf];omega
  have hgl:J gone<=200000000:=by have G:=IQ (b:=decide (g.s∈o)) (x:=x) (g.ops.take k.toNat) λo ho=>Gv o (zbm ho);rw[zaG] at G;rw[oG,zaf];omega
  have hye:=Gv _ (zay eb);have hn: ∀r' g',r'=runs++x6 x g.ops[k.toNat]->g'=gone++goO (decide (g.s∈o)) x g.ops[k.toNat]->E (.normal,tx6 z V x r' g' i g (k+1)):=λr' g' G h2=>hn (r',g') ⟨⟨F,oi,hg0,uo,Gv⟩,by rw[FP,G,hru,zaW],by rw[hgt,h2,oG,zaW]⟩;rw[e1];generalize g.ops[k.toNat]=y at*
  have c0:AM (xz (eX y) 0)=y.kind:=rfl;have c1:(AM (xz (eX y) 1)==x.1&&(AM (xz (eX y) 2)==x.2.1&&O)&&(AM (xz (eX y) 3)==x.2.2&&O))=(y.node==x):=DW y.node x;have c2:D.gh (xz (eX y) 17)=y.elems.map aF:=rfl;have c3:BC [we GE (AM (xz (eX y) 10)),we GE (AM (xz (eX y) 11)),we GE (AM (xz (eX y) 12)),we GE (AM (xz (eX y) 13)),we GE (AM (xz (eX y) 14)),we GE (AM (xz (eX y) 15)),GT (Q3 (xz (eX y) 16))]=qo (y.after,y.elem,y.text):=rfl;obtain⟨f1,f2⟩:=qqC F g.s;rw[c0,c1,c2,c3,f1,f2,bx,gB];have hlm:0<=k/\k<(J (g.ops.map eX):Int):=by grind
  have H:(x6 x y=[]/\goO (decide (g.s∈o)) x y=[])->E (.normal,tx6 z V x runs gone i g (k+1)):=λh=>hn runs gone (by rw[h.1,zaL]) (by rw[h.2,zaL]);refine dv hlm.2 (ar hlm (ao (D3 y) (az (λhx=> ?_) λhx=>zp (λR=> ?_) λR=>zp (λQ=>ao qth (b8 (λhs=> ?_) λhs=> ?_)) λQ=> ?_)))
  ·have cU:y.node≠x:=by grind
   exact ar (by omega) (H ⟨zat λh=>cU h.2,zat λh=>cU h.2.1⟩)
  ·have L:y.node=x:=by grind
   have G:x6 x y=[(y.after,y.elem,y.text)]:=zau ⟨R,L⟩;have h2:goO (decide (g.s∈o)) x y=[]:=zat λh=>by omega
   have:=hn (runs++[(y.after,y.elem,y.text)]) gone (by rw[G]) (by rw[h2,zaL]);simp only[tx6,zaf] at this;refine ao ?_ (ar (by omega) this);rw[zac];exact⟨by simp,bP (by simp;omega) (by simp;omega)⟩
  ·have L:y.node=x:=by grind
   have G:x6 x y=[]:=zat λh=>by omega
   have h2:goO (decide (g.s∈o)) x y=y.elems:=zau ⟨Q,L,za6 hs⟩;have:=hn runs (gone++y.elems) (by rw[G,zaL]) (by rw[h2]);simp only[tx6,fw,zaf,zaC] at this;have EI:J (y.elems.map aF)=J y.elems:=zaa ..;rw[EI];refine ao ?_ (ar (by omega) this);rw[zac];exact⟨by simp,bP (by omega) (by omega)⟩
  ·exact ar (by omega) (H ⟨zat λh=>(by omega),zat λh=>hs (zbF h.2.2)⟩)
  exact ar (by omega) (H ⟨zat λh=>R h.1,zat λh=>Q h.1⟩))
 (by
  rintro⟨z,V,x,r0,g0,i,g,o⟩ ⟨runs,gone⟩ k E hk ⟨hc,hru,oG⟩ bF
  (rw[<-qhw];delta eM tj PK fO gA gD fP fQ pd ZiN Mr Ms Ft Ck Fu D4 Fv D5 Fw Cl SB Fx Cm kP Ac Vn Cn ZiR Zj Zl ZiK ZiJ dK OU sC ZiG oH XY jh nC oF LI qR qf qg qS uv Cx Zf7 Zz ZA zt ZiI ZiL ZiH CM cp fq Z8 Z7 Zv Zs lJ Z8E Z8D Z8C Z8B Z8A Z8z ZiQ Aj ZiO ZiP Z4 Z8o)
  rw[zan] at hru oG;subst hru oG;exact Cj (by rw[zaa];omega) (bF _ (λh=>by cases h) rfl))
 (by rintro s E ⟨z,V,x,r0,g0,i,g,rfl,o,F,⟨G,h2,h3,h4⟩,hp⟩;refine⟨(z,V,x,r0,g0,i,g,o),(r0,g0),rfl,⟨⟨F,G,h2,h3,h4⟩,by simp[qn],by simp[Ss]⟩,?_⟩;grind)
theorem qqE:LN w0 26 3 (ah (aV 26 3) qqA):=LN.idx hX (by rfl) .nil .nil (.cons (qqD hX) .nil)
 (A:=Bool×bQ×ak×List au×List aN) (B:=List aS×List ak) (λa b i=>txS a.1 a.2.1 a.2.2.1 b.1 b.2 i) (λa=>J a.2.2.2.1)
 (λa i b=>MP a.2.1 a.2.2.2.1 a.2.2.2.2/\b.1=cZ (a.2.2.2.1.take i) a.2.2.1/\b.2=ie (a.2.2.2.1.take i) a.2.2.2.2 a.2.2.1)
 (λa z=>z=(.exit 0,qqz a.1 a.2.1 (cZ a.2.2.2.1 a.2.2.1) (ie a.2.2.2.1 a.2.2.2.2 a.2.2.1)))
 (by
  rintro⟨z,V,x,l,o⟩ ⟨runs,gone⟩ i E h0 dE bB ⟨F,hru,oG⟩ hn bF;dsimp only at*
  (rw[<-qqy];delta eM tj PK fO gA gD fP fQ pd ZiN Mr Ms Ft Ck Fu D4 Fv D5 Fw Cl SB Fx Cm kP Ac Vn Cn ZiR Zz ZA Z8 Z7 Zv ZgR Dk dK sC qR qf qg qS uv nC oF Cx ZiO zt Z5 Zj Zl ZiK ZiJ ZiI ZiH ZiG CM cp fq Zs ZiS)
  have e1:CE V.gs i.toNat=dp l[i.toNat]:=by rw[F.gs];exact aA _ _ _ bB
  have G:J V.gs=J l:=by rw[F.gs,zaa]
  obtain⟨s1,s2,s3,H⟩:=F.sm;have h1:=sB x (l.take i.toNat);have h2:=x8 (on:=o) (x:=x) (n:=2000) (l.take i.toNat) λg Q=>H g (zbm Q);have h4:=iX l (i.toNat+1);have h5:=kc bB;rw[<-hru] at h1;rw[<-oG] at h2;rw[e1];refine dv (by omega) (ar (by omega) (ar (by omega) (ao (mS _) ⟨z,V,x,runs,gone,i,l[i.toNat],rfl,o,F.on,⟨by omega,by omega,by omega,H _ (zay bB)⟩,λL g' R Q=>ar (by omega) (hn (L,g') ⟨F,?_,?_⟩)⟩)))
  ·show L=_;rw[CZ bB,R,hru]
  grind [PZ])
 (by
  rintro⟨z,V,x,l,o⟩ ⟨runs,gone⟩ i E hi ⟨F,hru,oG⟩ bF;dsimp only at*
  have G:J V.gs=J l:=by rw[F.gs,zaa]
  rw[zan] at hru oG;subst hru oG;exact Cj (by omega) (bF _ (λh=>by cases h) rfl))
 (by rintro s E ⟨z,V,x,l,o,rfl,F,hp⟩;refine⟨(z,V,x,l,o),([],[]),rfl,⟨F,by rfl,by rfl⟩,?_⟩;grind)
theorem qqF:ND w0 26 qqB:=ND.mk hX .nil (.cons (qkX hX) .nil) (Lu.hks (.cons (qqE hX) .nil) (by rfl)) (by
 rintro ps R E ⟨z,V,x,rfl,rfl,l,o,A,⟨Q,L⟩,G⟩
 (rw[<-qtg];delta Zhl Mr Ms Ft Ck Fu D4 Fv D5 Fw Cl Fx Cm kP Ac Vn Cn kQ dK ll gX Iu Zn eM gC H2 F6 OU PC sC Zf7 xH Zfb fO gA gD fP fQ pd ZiN SB Z5 ZiK ZiJ CM cp fq ZiT)
 refine⟨z,V,x,l,o,rfl,A,λr g B F=>⟨r,o,g,?_,rfl,⟨by rw[B];exact Q,A.sm.2.2.1,by rw[F];exact L⟩,λe H=>G e (by rw[H,B,F])⟩⟩;have e2:ab (J V.os) V.os=o.map bX:=by rw[zan,A.os]
 rw[gB,gB,e2])
end
abbrev qti(z:Bool)(V:bQ)(e:List sO)(x:List It):List (Nat×En):=[(0,⟨0,Y,.box 74 [.sl 1 0 (J V.gs),.sl 2 0 (J V.os),.mp 3 0,.sl 4 0 (J V.A),.sl 5 0 (J V.P),.mp 6 0,.sl 7 0 (J V.H),.sl 8 0 (J V.L)]⟩),(1,⟨0,Y,.arr 31 C V.gs⟩),(2,⟨0,Y,.arr 27 z V.os⟩),(3,⟨0,Y,.map 27 V.f V.c C⟩),(4,⟨0,Y,.arr 49 O V.A⟩),(5,⟨0,Y,.arr 108 O V.P⟩),(6,⟨0,Y,.map 49 V.d V.n C⟩),(7,⟨0,Y,.arr 121 O V.H⟩),(8,⟨0,Y,.arr 121 O V.L⟩),(9,⟨0,Y,UK e⟩),(10,⟨0,Y,.arr 66 C (x.map fV)⟩)]
abbrev enz(z:Bool)(V:bQ)(e:List sO)(x:List It)(i:Int):S:=⟨40,[(3,.ref 0 0 0),(4,.sl 9 0 (J e)),(12,.sl 10 0 (J x)),(13,iD (J x:Int)),(14,iD i)],qti z V e x⟩
def ZiW e:=ab (J e) (aa wP e)
def ZiV x i A:=[BC [GT (Q3 (xz (Zdf x i) 3)),IM (RK (xz (Zdf x i) 4)),GT (fW A)]]
def ZiU A B:=[Cn A,Cm A,SB B A,Cl A,D5 A,D4 A,Ck A,Ms A,Mr A]
theorem qhx z V e x i E:(bif decide (i<(↑(J x):Int)) then ob (decide ((0:Int)<=i/\i<(↑(J x):Int))) (ob (decide (Zs i<J (aa fV x))) (ob (bE PR (66:I) (Zdf x i)) (bif !RK (xz (Zdf x i) 4) then∃G A F,[cp,Do (BC [we GE (AM (xz (Zdf x i) 0)),we GE (AM (xz (Zdf x i) 1)),we GE (AM (xz (Zdf x i) 2))])]=cp::gW F/\ZiU V z=ZiU A G/\ ∃l o,MP A l o/\(dm (cZ l F)/\J (ie l o F)<=1000000)/\ ∀B,B=n5 (cZ l F) o (ie l o F)->ob (gr (J e) (J (aa wP e))&&aB (J e+J (ZiV x i B)) 40) (ob (Zv i) (E (AD,AS 40 (eN::(4,IH 9 0 (J e+J (ZiV x i B)))::Zdi x i) (Zdj A::Zdk A::(2,AC 0 Y (Cs (27:I) O (bQ.os A)))::Zdl A::Zdm A::Zdn A::Zdo A::Zdp A::Zdq A::(9,AC 0 Y (Cs (47:I) C (ZiW e++ZiV x i B)))::Zdr x)))) else ob (gr (J e) (J (aa wP e))&&aB (J e+J (Zdg x i)) 40) (ob (Zv i) (E (AD,AS 40 (eN::(4,IH 9 0 (J e+J (Zdg x i)))::Zdi x i) (Zdj V::Zdk V::(2,AC 0 Y (Cs (27:I) z (bQ.os V)))::Zdl V::Zdm V::Zdn V::Zdo V::Zdp V::Zdq V::(9,AC 0 Y (Cs (47:I) C (ZiW e++Zdg x i)))::Zdr x))))))) else E (DD 0,AS 40 [(4,IH 0 0 (J e))] (Zds e)))=(bV [] [(26,qqB)] [] 11 4 (enz z V e x i)) E:=by kernel_rfl
structure qkY(l:List au)(o:List aN)(x:List It):Prop where
 h: ∀y∈x,dm (cZ l y.1)/\J (ie l o y.1)<=1000000
 n:J x<=1000000
def qqG:S->K (PX×S):=λs E=> ∃V x l o,s=enz C V [] x 0/\MP V l o/\qkY l o x/\ ∀e,e=x.map (x9 l o)->E (.exit 0,⟨40,[(4,.sl 0 0 (J e))],[(0,⟨0,Y,UK e⟩)]⟩)
theorem qkZ l E:(∃B,zx l=zx B/\Zn/\FI B/\ ∀g o f c d n na Q nh R A P H L,g=aC B->o=gJ B->CO f o->CN (pk o g) na Q nh R A P H L->lN d (ql g)-> ∃V l h G,oI=oI/\Zd9 g o na Q nh R f c A P d n H L=[Cn V,Cm V,Z6Q V,Cl V,(4,AC 0 (Z 4) (Cs (49:I) C (bQ.A V))),(5,AC 0 (Z 5) (Cs (108:I) C (bQ.P V))),Ck V,Z6V V,Z6W V]/\Zdu V l h G/\(oK l<=1000/\J h<=1000/\y8 G)/\ ∀x,x=qaR V l h G-> ∃bT F l o,Zdw x V=Zdw F bT/\MP bT l o/\qkY l o F/\ ∀e,e=aa (x9 l o) F->E (Pi.P.sl 0 0 (J e),Zds e))=(fK [(25,qoe)] [(24,qkb)] [(4,ah (aV 11 4) qqG)] 11 [ey l] []) E:=by kernel_rfl
def qbU(d:ak->Option Bool)(x:Pl):=(d x.1).isSome
def qbV(d:ak->Option Bool)(p:Pl):Pl:=(p.1,p.2.1,p.2.2.1,(d p.1).getD C)
def qfQ d (t:Tl):=mP (il (((Ag (tdL t.a t.p)).filter (qbU d)).map (qbV d))) (tg (lvX t.h t.g))
def qbW l:=qfQ (ql (aC l)) (pk (gJ l) (aC l))
def IV l:=(qbW l).map (x9 (aC l) (gJ l))
theorem SC{V d}(h:lN V.d d) t:qaR V (t.a.zip t.p) t.h t.g=qfQ d t:=by
 have B:lr V=qbU d:=by funext x;unfold lr qbU;rw[h x.1,zcC]
 have A:rS V=qbV d:=by funext x;unfold rS qbV qgv;rw[h x.1];cases d x.1<;>rfl
 unfold qaR qfQ tdL;rw[B,A]
theorem MQ{l}(B:cK (aC l)<=1000):J (qbW l)<=1000/\(J (pk (gJ l) (aC l)).a=J (pk (gJ l) (aC l)).p/\J (pk (gJ l) (aC l)).a<=1000/\J (pk (gJ l) (aC l)).h<=1000/\J (pk (gJ l) (aC l)).g<=1000000):=by have A:=YY (on:=gJ l) (l:=aC l) (qj (l:=l)) _ (zag _);obtain⟨b0,b1,R,Q⟩:=A;have L:=Ah (tdL (pk (gJ l) (aC l)).a (pk (gJ l) (aC l)).p);have H:=qej (pk (gJ l) (aC l)).a (pk (gJ l) (aC l)).p;have G:=vR (((Ag (tdL (pk (gJ l) (aC l)).a (pk (gJ l) (aC l)).p)).filter (qbU (ql (aC l)))).map (qbV (ql (aC l))));have F:=U3 (T:=il (((Ag (tdL (pk (gJ l) (aC l)).a (pk (gJ l) (aC l)).p)).filter (qbU (ql (aC l)))).map (qbV (ql (aC l))))) (V:=tg (lvX (pk (gJ l) (aC l)).h (pk (gJ l) (aC l)).g));grind [qbW,qfQ]
def wJ:bc:=λps R E=> ∃l,ps=[ey l]/\R=[]/\SmT l/\ ∀e,e=IV l->E (.sl 0 0 (J e),[(0,⟨0,Y,UK e⟩)])
section
variable{X:XF}{w0:World}(hX:b7 PR w0 X.cf)
include hX
theorem qqH:LN w0 11 4 (ah (aV 11 4) qqG):=LN.idx hX (by rfl) .nil (.cons (qqF hX) .nil) .nil
 (A:=bQ×List It×List au×List aN) (B:=List sO×Bool) (λa b i=>enz b.2 a.1 b.1 a.2.1 i) (λa=>J a.2.1) (λa i b=>(MP a.1 a.2.2.1 a.2.2.2/\qkY a.2.2.1 a.2.2.2 a.2.1)/\b.1=(a.2.1.take i).map (x9 a.2.2.1 a.2.2.2))
 (λa z=>z=(.exit 0,⟨40,[(4,.sl 0 0 (J (a.2.1.map (x9 a.2.2.1 a.2.2.2))))],[(0,⟨0,Y,UK (a.2.1.map (x9 a.2.2.1 a.2.2.2))⟩)]⟩))
 (by
  rintro⟨V,x,l,o⟩ ⟨e,z⟩ i E h0 dE bB ⟨⟨L,H⟩,he⟩ hn bF;dsimp only at*
  (rw[<-qhx];delta Zds nA Zs Zdf Zdg Z81 Zdr ZiW Zdq Zdp Ft Zdo Fu Zdn Fv Zdm Fw Zdl Fx Zdk kP Ac Vn Zdj Zz ZA Zdh Zdi cp eN Z8 Z7 Zv ZiV Mr Ms Ck D4 D5 Cl SB Cm Cn ZiU fO gA gD fP fQ fe gW)
  have e1:CE (x.map fV) i.toNat=fV x[i.toNat]:=aA _ _ _ bB;have y7:(x.take (i.toNat+1)).map (x9 l o)=e++[x9 l o x[i.toNat]]:=by rw[zah bB,zaC,he];rfl
  have Gv:J e=i.toNat:=by rw[he,zaa,zaG];omega
  have jm:=λz'=>hn (_,z') ⟨⟨L,H⟩,y7.symm⟩;have A1:=H.n;have R:=H.h _ (zay bB);rw[e1];generalize x[i.toNat]=y at*
  have c4:RK (xz (fV y) 4)=y.2.2.1:=rfl;have c3:Q3 (xz (fV y) 3)=y.2.1:=rfl;rw[c4,c3];refine dv dE (ar ⟨h0,dE⟩ (ar (by rw[zaa];exact bB) (ao (qoH _) (az (λhd=>⟨z,V,y.1,rfl,rfl,l,o,L,R,λt ht=> ?_⟩) λhd=> ?_))))
  ·have F:x9 l o y=(y.2.1,y.2.2.1,fW t):=by unfold x9;rw[zat (by grind),ht];rfl
   have G:=jm O;rw[F] at G;have Q:BC [GT y.2.1,IM y.2.2.1,GT (fW t)]=wP (y.2.1,y.2.2.1,fW t):=rfl;rw[Q,bx];simp only[enz,zaf] at G;exact ao (fy rfl (by rw[zaa]) (by omega) (by decide)) (ar (by omega) G)
  have F:x9 l o y=(y.2.1,y.2.2.1,[]):=by unfold x9;rw[zau (by grind)]
  have G:=jm z;rw[F] at G;have Q:BC [GT y.2.1,IM y.2.2.1,GT []]=wP (y.2.1,y.2.2.1,[]):=rfl;rw[Q,bx];simp only[enz,zaf] at G;exact ao (fy rfl (by rw[zaa]) (by omega) (by decide)) (ar (by omega) G))
 (by
  rintro⟨V,x,l,o⟩ ⟨e,z⟩ i E hi ⟨hc,he⟩ bF
  (rw[<-qhx];delta Zds nA Zs Zdf Zdg Z81 Zdr ZiW Zdq Zdp Ft Zdo Fu Zdn Fv Zdm Fw Zdl Fx Zdk kP Ac Vn Zdj Zz ZA Zdh Zdi cp eN Z8 Z7 Zv ZiV Mr Ms Ck D4 D5 Cl SB Cm Cn ZiU fO gA gD fP fQ fe gW)
  grind)
 (by rintro s E ⟨V,x,l,o,rfl,L,H,hp⟩;refine⟨(V,x,l,o),([],C),rfl,⟨⟨L,H⟩,rfl⟩,?_⟩;grind)
theorem qk0(h1:FD X 46 Ir)(h2:FD X 50 Iv)(h3:FD X 49 qe):ND w0 11 wJ:=ND.mk hX (.cons (qof h1 h2 h3) .nil) (.cons (qg0 hX) .nil) (Lu.hks (.cons (qqH hX) .nil) (by rfl)) (by
 intro ps R E hh;obtain⟨l,ep,er,hs,hp⟩:=hh
 (rw[ep,er,<-qkZ];delta Zds Z81 Zdr Zdq Zdp Ft Zdo Fu Zdn Fv Zdm Fw Zdl Rv Fx Zdk kP Ac Vn Zdj Z5 Zdh Zdv cp eN Zdw y8 oK uO Vv Ef Zdu Uf Z6W Ug Z6V Ck Cl Z6Q Cm Cn qw xU pr wj py ia pA Zcr Jc gX Iw El Dq Zd9 oI Zn jf zx)
 refine⟨l,rfl,rfl,hs.1,λg o f c d n na np nh nl A P H L hg ho hf ht hd=> ?_⟩;subst hg ho;have B:=hs.2 aJ;obtain⟨b5,b0,b1,b2,b3⟩:=MQ (l:=l) B.2.1.1.2.1;have Q: ∀z:ak,∃b,aK (d (aF z)) (.bool C)= .bool b:=λz=>by
  rw[hd z];cases ql (aC l) z with
  |none=>exact⟨C,rfl⟩
  |some b=>exact⟨b,rfl⟩
 have e1:na=J A:=by rw[ht.na,ht.a,zaa]
 have e2:np=J P:=by rw[ht.np,ht.p,zaa]
 have e3:nh=J H:=by rw[ht.nh,ht.h,zaa]
 have e4:nl=J L:=by rw[ht.nl,ht.l,zaa]
 subst e1 e2 e3 e4;have z1:((pk (gJ l) (aC l)).a.zip (pk (gJ l) (aC l)).p).map (·.1)=(pk (gJ l) (aC l)).a:=List.map_fst_zip (by omega);have z2:((pk (gJ l) (aC l)).a.zip (pk (gJ l) (aC l)).p).map (·.2)=(pk (gJ l) (aC l)).p:=List.map_snd_zip (by omega);refine⟨⟨f,d,c,n,(aC l).map dp,(gJ l).map bX,A,P,H,L,Q⟩,(pk (gJ l) (aC l)).a.zip (pk (gJ l) (aC l)).p,(pk (gJ l) (aC l)).h,(pk (gJ l) (aC l)).g,rfl,?_,⟨by rw[z1];exact ht.a,by rw[z2];exact ht.p,ht.h,ht.l⟩,⟨?_,b2,b3⟩,λy G=>⟨⟨f,d,c,n,(aC l).map dp,(gJ l).map bX,A,P,H,L,Q⟩,y,aC l,gJ l,rfl,⟨rfl,rfl,hf,B.2.1.1.1,B.2.1.1.2.1,B.2.1.1.2.2,B.2.1.2⟩,?_,λe he=>hp e ?_⟩⟩
 ·simp
 ·rw[List.length_zip];omega
 ·have F:y=qbW l:=G.trans (SC hd _);exact⟨λz _=>⟨(hs.2 z.1).1,(hs.2 z.1).2.2⟩,by rw[F];omega⟩
 rw[he,G,SC hd];rfl)
end
end Pi
namespace Pi
open Go Go.Proofs Go.RowKit Go.Proofs.YtdgkdigdflkjhaaGreatDoor
set_option maxRecDepth 100000
abbrev tI:=[("math/bits.deBruijn32tab",Rows.laid_math_bits_deBruijn32tab),("math/bits.deBruijn64tab",Rows.laid_math_bits_deBruijn64tab),("internal/strconv.uint64pow10",Rows.laid_internal_strconv_uint64pow10),("unicode/utf8.acceptRanges",Rows.laid_unicode_utf8_acceptRanges),("unicode/utf8.first",Rows.laid_unicode_utf8_first)]
theorem gP:Tryz.prog.globalNamed "internal/strconv.uint64pow10" =Z 3:=by kernel_rfl
theorem tP:(Tryz.prog.globals[3]?).map (·.type)=Z 367:=by kernel_rfl
theorem MR w (h:laidMetH Tryz.prog tI w):laidMet Tryz.prog tI w:=by
 unfold laidMetH at h;have e:(tI.filter λx=>x.2.handleName?.isSome)=[]:=by kernel_rfl
 rw[e] at h;exact h
theorem qfR w (h:laidMet Tryz.prog tI w):laidMetH Tryz.prog tI w:=by
 unfold laidMetH;have e:(tI.filter λx=>x.2.handleName?.isSome)=[]:=by kernel_rfl
 rw[e];exact h
theorem qqI:(Rows.laid_internal_strconv_uint64pow10:DataW Unit)=Lib.tabData .u64 Lib.pow10Tab:=by kernel_rfl
theorem qqJ:(Rows.laid_unicode_utf8_first:DataW Unit)=Lib.firstData:=by kernel_rfl
theorem qqK:(Rows.laid_unicode_utf8_acceptRanges:DataW Unit)=Lib.acceptData:=by kernel_rfl
def qtj:Go.Shelf.Ren:=⟨λn=>n,λ|5=>5 |119=>297 |138=>299 |139=>300 |n=>n,λ|3=>0 |4=>1 |n=>n⟩
theorem qqL{W}(h:laidMet Tryz.prog tI W):Lib.Utf8Tabs 0 1 W:=
 utf8Tabs_of_readsT (ρ:=qtj) ⟨by kernel_rfl,by kernel_rfl,by kernel_rfl,by kernel_rfl⟩ ⟨by kernel_rfl,by kernel_rfl,by kernel_rfl,by kernel_rfl,by kernel_rfl,by kernel_rfl,by kernel_rfl⟩
  (by rw[<-qqJ];exact Lib.laidMet.reads h (.tail _ (.tail _ (.tail _ (.tail _ (.head _))))))
  (by rw[<-qqK];exact Lib.laidMet.reads h (.tail _ (.tail _ (.tail _ (.head _)))))
theorem qk1{W}(G:laidMetH Tryz.prog tI W)(hs:W.ShapedOpen Tryz.prog):StW W:=by
 have h:=MR W G;have F:=h.tail.tail;have A:Lib.TabIs Tryz.prog W "internal/strconv.uint64pow10" .u64 Lib.pow10Tab:=
  Lib.tabIs_of_head (k:= .u64) (zs:=Lib.pow10Tab) gP tP Tryz.underlying367 Tryz.underlying264 (by kernel_rfl) (by kernel_rfl) (by rw[<-qqI];exact F)
 refine⟨?_,λw hw=> ?_,qqL h⟩
 ·exact cell_of_shapedOpen_int (zero:= #[.int GE 0]) (t:=3) hs (zbL (by kernel_rfl)) (by kernel_rfl) rfl (by kernel_rfl) (by kernel_rfl) Tryz.underlying3
 unfold Lib.TabIs World.var? at A⊢;rw[gP] at A⊢;simp only[zax] at A⊢;by_cases B:3<W.heap.size
 ·rw[hw 3 B];exact A
 rw[zcL (by omega)] at A;cases A
noncomputable def wL os:=World.laidAll Tryz.prog os tI
theorem qk2 os A:laidMet Tryz.prog tI ((wL os).forCall (λ_ _=>0) ⟨#[],A,[]⟩).memory:=
 laidMet_laidAll _ (by kernel_rfl) (by kernel_rfl)
theorem qqM:IV [UL]=[([47,97],O,[])]:=by kernel_rfl
theorem qqN:IV [UL,u1A]=[]:=by kernel_rfl
theorem qqO:gJ [UL,u1A]=[(2,1)]:=by kernel_rfl
theorem qqP:FI [UL]:=⟨by decide,λg B=>by rw[zaN.1 B];exact⟨λo A=>by rw[show o=(⟨0,(1,1,0),(0,0,0),[97],O,[],(0,0,0),(0,0,0),[],[]⟩:bq) from zaN.1 A];exact⟨by decide,by decide,by decide⟩,by decide,by decide⟩⟩
theorem qqQ:FI [UL,u1A]:=⟨by decide,λg B=>by
 rcases zao.1 B with h |h
 ·rw[h];exact qqP.2 _ (zaN.2 rfl)
 rw[zaN.1 h];exact⟨λo A=>(by cases A),by decide,by decide⟩⟩
theorem MS{l}(h:FI l)(F:aC l=l)(h1:J l<=2)(L:cK l<=1000)(R:J (gJ l)<=2)(G: ∀g∈l,∀o∈g.ops,o.kind=0/\o.elems=[]):SmT l:=by
 refine⟨h,λx=> ?_⟩;rw[F];have e1:cZ l x=[]:=zbC.2 λg B=>zbC.2 λo A=>zat λH=>by have:=(G g B o A).1;omega
 have Q:ie l (gJ l) x=[]:=zbC.2 λg B=>zbC.2 λo A=>zat λH=>by have:=(G g B o A).1;omega
 rw[e1,Q];exact⟨⟨by decide,by decide,λr F=>by cases F⟩,⟨⟨by omega,L,by omega⟩,λg B o A=>by rw[(G g B o A).2];decide⟩,by decide⟩
theorem h4A: ∀g∈[UL,u1A],∀o∈g.ops,o.kind=0/\o.elems=[]:=λg B o A=>by
 rcases zao.1 B with h |h
 ·subst h;rw[show o=(⟨0,(1,1,0),(0,0,0),[97],O,[],(0,0,0),(0,0,0),[],[]⟩:bq) from zaN.1 A];exact⟨rfl,rfl⟩
 rw[zaN.1 h] at A;cases A
theorem U5{ps R E}(h:qa2 ps R E):wJ ps R E:=by
 rcases h with⟨rfl,rfl,hp⟩| ⟨rfl,rfl,hp⟩
 ·exact⟨[UL],rfl,rfl,MS qqP (by kernel_rfl) (by decide) (by decide) (by rw[show gJ [UL]=[(1,1)] by kernel_rfl];decide) λg B=>h4A g (zao.2 (.inl (zaN.1 B))),λe A=>by rw[A,qqM];exact hp⟩
 exact⟨[UL,u1A],rfl,rfl,MS qqQ (by kernel_rfl) (by decide) (by decide) (by rw[qqO];decide) h4A,λe A=>by rw[A,qqN];exact hp⟩
theorem qfS{ps R E}(h:qke ps R E):IA ps R E:=by obtain⟨rfl,rfl,A⟩:=h;refine⟨[UL,u1A],rfl,rfl,qqQ,λo B=> ?_⟩;rw[B,qqO];exact A
theorem qbY: ∀{l m:List Td},l.map (·.1)=m.map (·.1)->l.map (·.2)=m.map (·.2)->l=m
 | [],[],_,_=>rfl
 | [],_::_,h,_=>by cases h
 |_::_,[],h,_=>by cases h
 | (a,b)::l,(c,d)::m,B,A=>by simp only[zaS,za9] at B A;obtain⟨rfl,B⟩:=B;obtain⟨rfl,A⟩:=A;rw[qbY B A]
def qqR:D->aT
 | .agg [.int GE a,.int GE b,.int GE c,.int GE d,.int GE e]=>((a,b,c),(d,e))
 |_=>((0,0,0),(0,0))
theorem lV{α β:Type} f (g:β->α)(A: ∀x,g (f x)=x){a b:List α}(h:a.map f=b.map f):a=b:=by have:=congrArg (aa g) h;rw[zbr,zbr] at this;rwa [show(g∘f)=id from funext A,zci,zci] at this
theorem qfT:Det Ir:=by intro ps R y E h F;obtain⟨l,rfl,rfl,H,B⟩:=h;obtain⟨m,e,_,G,A⟩:=F;simp only[za9,P.d.injEq,D.sl.injEq,zcG,zcu] at e;have:l=m:=qbY (lV aF qdA (λ_=>rfl) e.1) (lV bI qjI (λ_=>rfl) e.2);subst this;rw[<-B _ rfl];exact A _ rfl
theorem qfU:Det Iv:=by intro ps R y E h F;obtain⟨l,g,rfl,rfl,L,B⟩:=h;obtain⟨m,k,e,_,H,A⟩:=F;simp only[za9,P.d.injEq,D.sl.injEq,zcG,zcu] at e;have e1:l=m:=lV eK qqR (λ_=>rfl) e.1;have G:g=k:=lV eK qqR (λ_=>rfl) e.2;subst e1 G;rw[<-B _ rfl];exact A _ rfl
theorem U6:Det qe:=by intro ps R y E h F;obtain⟨l,v,rfl,rfl,L,B⟩:=h;obtain⟨m,k,e,_,H,A⟩:=F;simp only[za9,P.d.injEq,D.sl.injEq,zcG,zcu] at e;have e1:l=m:=lV bI qjI (λ_=>rfl) e.1;have G:v=k:=lV aF qdA (λ_=>rfl) e.2;subst e1 G;rw[<-B];exact A
theorem MT{l m}(h:[ey l]=[ey m]):l=m:=by
 have c:l.map dp=m.map dp:=by simpa using h
 exact CK qot c
theorem SD:Det IA:=by intro ps R y E h F;obtain⟨l,rfl,rfl,H,B⟩:=h;obtain⟨m,e,_,G,A⟩:=F;have:=MT e;subst this;rw[<-B _ rfl];exact A _ rfl
theorem MU:Det wJ:=by intro ps R y E h F;obtain⟨l,rfl,rfl,H,B⟩:=h;obtain⟨m,e,_,G,A⟩:=F;have:=MT e;subst this;rw[<-B _ rfl];exact A _ rfl
theorem qfV:Det mY:=by intro ps R y E h A;rw[<-h.2.2];exact A.2.2
theorem qk3 ps R E (h:Ir ps R E): ∃y,Ir ps R (λz=>z=y):=by obtain⟨l,G,F,B,_⟩:=h;exact⟨_,l,G,F,B,λo A=>by rw[A]⟩
theorem qk4 ps R E (h:Iv ps R E): ∃y,Iv ps R (λz=>z=y):=by obtain⟨l,g,G,F,B,_⟩:=h;exact⟨_,l,g,G,F,B,λo A=>by rw[A]⟩
theorem qbZ ps R E (h:qe ps R E): ∃y,qe ps R (λz=>z=y):=by obtain⟨l,v,F,B,A,_⟩:=h;exact⟨_,l,v,F,B,A,rfl⟩
theorem qb0 ps R E (h:IA ps R E): ∃y,IA ps R (λz=>z=y):=by obtain⟨l,G,F,B,_⟩:=h;exact⟨_,l,G,F,B,λo A=>by rw[A]⟩
theorem SE ps R E (h:wJ ps R E): ∃y,wJ ps R (λz=>z=y):=by obtain⟨l,G,F,B,_⟩:=h;exact⟨_,l,G,F,B,λo A=>by rw[A]⟩
theorem qk5 ps R E (h:mY ps R E): ∃y,mY ps R (λz=>z=y):=⟨_,h.1,h.2.1,rfl⟩
noncomputable def xV1:=K5.tell 46 (tC Ir) (by kernel_rfl)
noncomputable def xV2:=xV1.tell 50 (tC Iv) (by kernel_rfl)
noncomputable def xV3:=xV2.tell 49 (tC qe) (by kernel_rfl)
noncomputable def xV4:=xV3.tell 11 (tC wJ) (by kernel_rfl)
noncomputable def xV5:=xV4.tell 13 (tC IA) (by kernel_rfl)
noncomputable def xV6:=xV5.tell 8 (tC mY) (by kernel_rfl)
theorem qk6:FD xV3 46 Ir:=FD.told Tryz.func46 (by kernel_rfl) qfT qk3 λ_ _=>rfl
theorem qk7:FD xV3 50 Iv:=FD.told Tryz.func50 (by kernel_rfl) qfU qk4 λ_ _=>rfl
theorem qb1:FD xV3 49 qe:=FD.told Tryz.func49 (by kernel_rfl) U6 qbZ λ_ _=>rfl
theorem qk8:FD xV5 11 wJ:=FD.told Tryz.func11 (by kernel_rfl) MU SE λ_ _=>rfl
theorem qk9:FD xV6 11 wJ:=FD.told Tryz.func11 (by kernel_rfl) MU SE λ_ _=>rfl
theorem qqS:FD xV5 13 IA:=FD.told Tryz.func13 (by kernel_rfl) SD qb0 λ_ _=>rfl
theorem qqT:FD xV6 13 IA:=FD.told Tryz.func13 (by kernel_rfl) SD qb0 λ_ _=>rfl
theorem qla:FD xV6 8 mY:=FD.told Tryz.func8 (by kernel_rfl) qfV qk5 λ_ _=>rfl
section
variable{w1:World}(hw:StW w1)
include hw
theorem qb2:b7 Tryz.prog {w1 with drawn:=0} xV3.cf:=XF.sx rfl (XF.sx rfl (XF.sx rfl (K3 hw) (zN.ofN (qnR (X:=K5) (K3 hw)) λ_ _ _ h=>ke h)) (zN.ofN (qod (X:=K5) (K3 hw)) λ_ _ _ h=>ke h)) (zN.ofN (qdM (X:=K5) (K3 hw)) λ_ _ _ h=>ke h)
theorem qb3:b7 Tryz.prog {w1 with drawn:=0} xV5.cf:=XF.sx rfl (XF.sx rfl (qb2 hw) (zN.ofN (qk0 (X:=xV3) (qb2 hw) qk6 qk7 qb1) λ_ _ _ h=>ke h)) (zN.ofN (qoG (X:=K5) (K3 hw)) λ_ _ _ h=>ke h)
theorem qlb:b7 Tryz.prog {w1 with drawn:=0} xV6.cf:=XF.sx rfl (qb3 hw) (zN.ofN (qoJ (X:=xV5) (qb3 hw) (λps R E h=>qk8 ps R E (U5 h)) λps R E h=>qqS ps R E (qfS h)) λ_ _ _ h=>ke h)
end
end Pi
namespace Pi
open Go Go.Proofs
set_option maxRecDepth 100000
set_option maxHeartbeats 0
theorem IW{on a x}(h:x∈D6 on a):x∈on\/x=a:=by grind [D6]
theorem Aw: ∀f on x,x∈Pf f on->x∈on\/x∈f
 | [],_,_,h=> .inl h
 |a::r,on,x,h=>by
  rcases Aw r _ x h with h |h
  ·grind [IW]
  grind
theorem qfW a:pq a a=C:=tu.KE a
theorem P1{a b}(h:pq a b=O):a≠b:=λe=>by rw[e,qfW] at h;cases h
theorem SF: ∀f on,f.Pairwise (λa b=>pq b.1 a.1=O)->(∀x∈f,pq x.2 x.1=O)->(∀x∈on,x∉f)-> ∀h∈f,(h∈Pf f on↔ ¬ ∃x∈Pf f on,x.2=h.1)
 | [],_,_,_,_,h,hh=>by cases hh
 |a::r,on,hp,hu,ho,h,hh=>by
  rw[zcv] at hp;have F: ∀x∈D6 on a,x∉r:=by grind [IW,P1]
  rcases zao.1 hh with rfl |hh
  ·have A:(∃x∈Pf r (D6 on h),x.2=h.1)↔(∃x∈on,x.2=h.1):=by
    constructor
    ·rintro⟨x,hx,e⟩;rcases Aw _ _ _ hx with hx |hx
     ·grind [IW,P1]
     have B:=hu x (.tail _ hx);rw[e] at B;exact absurd (tu.tr _ _ _ B (hp.1 _ hx)) (by rw[tu.KE];simp)
    rintro⟨x,hx,e⟩;grind [C1,D6]
   show h∈Pf r (D6 on h)↔ ¬ ∃x∈Pf r (D6 on h),x.2=h.1;rw[A];constructor
   ·rintro G ⟨x,hx,e⟩;have hs:D6 on h=on:=by unfold D6;rw[zau (zcJ.2 ⟨x,hx,by grind⟩)]
    grind [Aw,P1]
   grind [C1,D6]
  exact SF r (D6 on a) hp.2 (λx hx=>hu x (.tail _ hx)) F h hh
theorem C3{l}(A:(l.map (·.1)).Nodup){x}:x∈qJ l↔x∈l:=by unfold qJ;have:=(cm (lt:=ltH) (FA l)).mem_iff (a:=x);rwa [qd6 A] at this⊢
theorem P2{l}:((qJ l).map (·.1)).Nodup:=((cm (lt:=ltH) (FA l)).map (·.1)).nodup_iff.2 (FE l)
theorem U7{l}:(qJ l).Pairwise λa b=>pq a.1 b.1=O:=by
 have F:(qJ l).Pairwise λa b=>ltH b a=C:=lS tu (λa:Hd=>a.1) _;have B:(qJ l).Pairwise λa b=>a.1≠b.1:=za1.1 P2;refine(F.and B).imp λ{a b} h=> ?_;cases A:pq a.1 b.1 with
 |true=>rfl
 |false=>exact absurd (tu.wX _ _ A h.1) h.2
theorem IX{l}(A:(l.map (·.1)).Nodup)(hu: ∀x∈l,pq x.2 x.1=O){s}:s∈Ni l↔(∃h∈l,h.1=s)/\ ∀x∈l,x.2=s->x.1∉Ni l:=by
 have B:(qJ l).reverse.Pairwise λa b=>pq b.1 a.1=O:=List.pairwise_reverse.2 U7;have G: ∀x∈Pf (qJ l).reverse [],x∈l:=by
  intro x hx;rcases Aw _ _ _ hx with hx |hx
  ·cases hx
  grind [C3]
 have F:=SF (qJ l).reverse [] B (λx hx=>hu x ((C3 A).1 (List.mem_reverse.1 hx))) (λx hx=>by cases hx);grind [Pf,qJ,Ni,kG,C3]
theorem C4{g}(h:fu g=O):pq g.je g.s=O:=by have hs:=wA.1 (qbj h).1;grind [As,fu]
theorem sF(l:List au):(l.map k8).map (·.1)=l.map (·.s):=by rw[zbr];rfl
theorem Ax{l:List au}(h: ∀g∈l,fu g=O): ∀x∈l.map k8,pq x.2 x.1=O:=by intro x hx;obtain⟨g,A,rfl⟩:=zal.1 hx;exact C4 (h g A)
theorem qlc{l}(B: ∀g∈l,fu g=O)(A:(l.map (·.s)).Nodup){s}(hs:s∈gJ l): ∃g∈l,g.s=s:=by unfold gJ at hs;rw[mT B A] at hs;obtain⟨x,hx,e⟩:=((IX (by rw[sF];exact A) (Ax B)).1 hs).1;obtain⟨g,F,rfl⟩:=zal.1 hx;exact⟨g,F,e⟩
section
variable{l:List au}(h:n0 16 l)
include h
theorem n0.P3{s}(hs:s∈gJ l):LB s=O/\s.1<=Pi.tv l:=by obtain⟨g,A,rfl⟩:=qlc h.chk h.nd hs;exact⟨(qbj (h.chk g A)).1,(rT l).2 g A⟩
end
section
variable(l U:List au)(hU: ∀g∈U,g.ops=[])
include hU
variable{on on':List aN}(hs: ∀g∈l,g.s∈on↔g.s∈on')
include hs
end
theorem c7.rt{i g}(h:c7 i g):c7 i (aC g):=⟨λy A=>h.sm y (Co A),by have:=h.len;have:=qi g;omega⟩
theorem c7.qiU{i g}(h:c7 i g):n0 i (aC g):=⟨qj,v7 g,λy B=>by have:=h.rt.sm y B;exact⟨this.1.1,this.1.2.1,this.1.2.2,λo A=>⟨(this.2.2 o A).tx,(this.2.2 o A).el⟩⟩,h.rt.len⟩
section
variable{l:List au}(h:n0 16 l){x:aN}(hx:x∈gJ l){t:Int}(ht:tv l<=t/\t<=16)
include h hx ht
end
theorem Gh{α:Type} f (P:D->Prop)(Q:α->Prop)(A: ∀y,P y-> ∃x,y=f x/\Q x): ∀es,(∀y∈es,P y)-> ∃l:List α,es=l.map f/\ ∀x∈l,Q x
 | [],_=>⟨[],rfl,by simp⟩
 |y::es,hy=>by obtain⟨l,rfl,F⟩:=Gh f P Q A es λy h=>hy y (.tail _ h);obtain⟨x,rfl,hx⟩:=A y (hy y (.head _));exact⟨x::l,rfl,λz B=>by grind⟩
theorem Gj{n}(hw:(Lit.int .u8 n).wf=O):0<=n/\n<=255:=by
 have B:IntKind.min .u8=0:=by decide
 have A:IntKind.max .u8=255:=by decide
 replace hw:(decide (IntKind.min .u8<=n)&&decide (n<=IntKind.max .u8))=O:=hw
 rw[B,A,zac,zam,zam] at hw;exact hw
theorem qqV{m x}(h:DP PR (m+1) 5 x): ∃n,x=uE n/\0<=n/\n<=255:=by obtain⟨n,rfl,hw⟩:=Xg Tryz.underlying5 h;exact⟨n,rfl,Gj hw⟩
theorem qqW{m x}(h:DP PR (m+3) 60 x): ∃d,x=zy d/\IP d:=by
 obtain⟨cs,rfl,hl,A⟩:=Ky (k:=6) Tryz.underlying60 (by kernel_rfl) h;obtain⟨a,b,c,d,e,f,rfl⟩: ∃a b c d e f,cs=[a,b,c,d,e,f]:=by
  match cs,hl with
  | [a,b,c,d,e,f],_=>exact⟨a,b,c,d,e,f,rfl⟩
 have R:PR.cellsOf 5=1:=by kernel_rfl
 have Q:PR.cellsOf 4=1:=by kernel_rfl
 have L:=A _ (zbQ ..);have g1:=A _ (zaH _ (zbQ ..));have H:=A _ (zaH _ (zaH _ (zbQ ..)));have G:=A _ (zaH _ (zaH _ (zaH _ (zbQ ..))));have F:=A _ (zaH _ (zaH _ (zaH _ (zaH _ (zbQ ..)))));have B:=A _ (zaH _ (zaH _ (zaH _ (zaH _ (zaH _ (zbQ ..))))));simp only[R,Q,zcT,List.drop_succ_cons,List.take_succ_cons,List.take_zero] at L g1 H G F B;obtain⟨x0,rfl,h0⟩:=vz Tryz.underlying5 L;obtain⟨x1,rfl,h1⟩:=vz Tryz.underlying5 g1;obtain⟨x2,rfl,h2⟩:=vz Tryz.underlying5 H;obtain⟨x3,rfl,h3⟩:=vz Tryz.underlying5 G;obtain⟨x4,rfl,h4⟩:=vz Tryz.underlying5 F;obtain⟨x5,rfl⟩:=Xh Tryz.underlying4 B;exact⟨⟨x0,x1,x2,x3,x4,x5⟩,rfl,Gj h0,Gj h1,Gj h2,Gj h3,Gj h4⟩
theorem qlh{m x}(h:DP PR (m+4) 22 x): ∃l,x= .sl 6 (l.map zy)/\C0 l:=by
 obtain⟨es,rfl,B,A⟩:=On (k:=6) Tryz.underlying22 (by kernel_rfl) h;obtain⟨l,rfl,F⟩:=Gh zy _ IP (λy A=>qqW A) es A;refine⟨l,rfl,?_,F⟩;rw[zaa] at B;have:maxLen<=9223372036854775807:=by decide
 exact zaJ B this
theorem qqX e f:(Q3 (xz (wP e) 0)==Q3 (xz (wP f) 0)&&(RK (xz (wP e) 1)==RK (xz (wP f) 1)&&(Q3 (xz (wP e) 2)==Q3 (xz (wP f) 2)&&O)))=decide (e=f):=by obtain⟨a,b,c⟩:=e;obtain⟨F,B,A⟩:=f;show(a==F&&(b==B&&(c==A&&O)))=_;rw[zbf];simp
section
variable{X:XF}
theorem qli:LD X 10 4 (ah (aV 10 4) gSa):=LD.par .nil .nil
 (A:=List sO×List sO) (B:=Int) (λa k=>saH a.1 a.2 k)
 (λa k=>(J a.1=J a.2/\J a.1<=3000000)/\(0<=k/\k.toNat<=J a.1)/\a.1.take k.toNat=a.2.take k.toNat)
 (λa k=>(J a.1-k).toNat)
 (λa x=>(a.1≠a.2/\x=(.ret,⟨26,[(4,lG C)],[]⟩))\/(a.1=a.2/\x=(.exit 0,⟨26,[],[]⟩)))
 (by
  rintro⟨v,w⟩ k ⟨⟨H,G⟩,⟨h0,R⟩,ht⟩;dsimp only at*
  (rw[<-qp3];delta ZC Zz ZA ZB ZgN Z8 Z7 Zv Z2 Zu Zs ZgM)
  simp only[zaa];refine bj (λh=> ?_) λh=> ?_
  ·have hk:k.toNat<J v:=by omega
   have F:k.toNat<J w:=by omega
   rw[Yt hk,Yt F,qqX];refine bu ⟨h0,by omega⟩ (ao (qmF _) (bu ⟨h0,by omega⟩ (ao (qmF _) (az (λQ=> ?_) λQ=>ao (j9 (by omega) (by omega)) ?_))))
   ·refine .inl ⟨λe=> ?_,rfl⟩;grind
   refine⟨_,?_,k+1,rfl,⟨⟨H,G⟩,⟨by omega,by omega⟩,?_⟩,rfl⟩
   ·omega
   have L:v.getD k.toNat ([],C,[])=w.getD k.toNat ([],C,[]):=by grind
   rw[show(k+1).toNat=k.toNat+1 by omega,zbG,zbG,ht];simp only[zaj,zae hk,zae F,zck] at L;rw[zae hk,zae F,L]
  refine .inr ⟨?_,rfl⟩;rw[zak (by omega),zak (by omega)] at ht;exact ht)
 (by rintro s E ⟨v,w,rfl,⟨H,G⟩,R,Q⟩;refine⟨(v,w),0,rfl,⟨⟨H,G⟩,⟨by decide,by simp⟩,by simp⟩,?_⟩;grind)
theorem qfY:FD X 10 qbG:=IS .nil (.cons qli .nil) (by
 intro ps R E A;obtain⟨v,w,rfl,rfl,F,B⟩:=A
 (rw[<-qsW];delta ZT ZU Z5 ZS ZgN ZgO Z2 Z3 ZgM)
 grind)
end
end Pi
