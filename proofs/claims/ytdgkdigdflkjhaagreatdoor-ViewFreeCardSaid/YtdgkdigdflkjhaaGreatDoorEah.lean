/- The texts VfP Vf1 Vf1H. -/
import Derived.Test.YtdgkdigdflkjhaaGreatDoorEag
open Option renaming some→Z,none→Y
open Bool renaming false→C,true→O
open List renaming length→J
open Go renaming TypeId→I,Value→W,Program→M
open List renaming map→aa,take→ab,replicate→ee,take_succ_eq_append_getElem→i6,count→ss,reverse→th,set→tz
open Prod renaming fst→ba,snd→bo
open Int renaming toNat→bl,tmod→so
open Nat renaming beq→dd,ble→gr,eq_of_beq_eq_true→mi,testBit→mm
open ByteArray renaming mk→gz
open Option renaming isSome→ir,map→i7
open Array renaming replicate→pt,range→te
open Pi.D renaming int→ue,aq→uJ,aj→we,agg→yb,nth→AC,bool→AM,str→BC,sl→GT,dq→IR,cq→IS,c8→NO
open Pi.En renaming mk→uI
open Pi.PX renaming normal→vc,exit→AS,ret→Mo
open Pi.S renaming mk→wM
open Pi.Obj renaming arr→xz,box→DD,map→FS
open Pi.P renaming d→AD,sl→C5,ref→Of
open Go.Op renaming operands→Cs,bytesLess→HH,equalIn→Nm
open Go.IntKind renaming i64→CE
open Pi.K renaming fail→Do
open Pi.KW renaming fail→GE,bind→If,ret→ID,dN→No
open Pi.FD renaming mk→H1
open Pi.Ext renaming refl→IH
open Pi.Names renaming refl→IM
open Pi.Code renaming nv→IN
open Go.Instr renaming sliceBound→IT
namespace Pi
open Go Go.Proofs
set_option maxRecDepth 100000
set_option maxHeartbeats 0
theorem seen_ne{s}(h:rO s=O):s≠[]:=λe=>by subst e;exact absurd h (by decide+kernel)
section
variable{T:List Pl}{live:List ak}
theorem itemsX_lt(A:Rt T):(mP T live).Pairwise λa b=>HH a.2.1 b.2.1=O:=by
 have B:(mP T live).Nodup:=by
  rw[yV.nodup_iff];have:(bM T live).map (lq T live)|>.map (·.1)|>.Nodup:=by
   have e:((bM T live).map (lq T live)).map (·.1)=bn T live:=by simp[bn,lq]
   rw[e];exact kF A.1 live
  exact List.Pairwise.of_map (λa:It=>a.1) (λa b h e=>h (by rw[e])) this
 refine(TX.and B).imp_of_mem ?_;intro a b H G l;cases F:HH a.2.1 b.2.1 with
 |true=>rfl
 |false=>exact absurd (TV A a (yV.mem_iff.1 H) b (yV.mem_iff.1 G) (Lr.wX _ _ F l.1)) l.2
end
section
variable{T:List Pl}{V V':List ak}
theorem joinR_snoc a b:gy (a++[b])=gy a++47::b:=by simp[gy]
end
section
variable{T:List Pl}{V V':List ak}
theorem items_mem{x}:x∈mP T V↔ ∃p∈bM T V,x=lq T V p:=by rw[yV.mem_iff,List.mem_map];exact⟨λ⟨p,l,h⟩=>⟨p,l,h.symm⟩,λ⟨p,l,h⟩=>⟨p,l,h.symm⟩⟩
end
def GoodE(e:List sO):= ∀(i:Nat) (h:i<J e),(0<i->HH (e[i-1]'(by omega)).1 e[i].1=O)/\(e[i].2.1=O->e[i].2.2=[])/\
 ∃q b:List UInt8,e[i].1=q++47::b/\47∉b/\b≠[]/\J q+J b<=1000000/\(q=[]\/ ∃(j:Nat) (l:j<J e),e[j].1=q/\e[j].2.1=O)
theorem items_goodE{T V}(Q:Rt T)(hm:J T<=1000){f}(H: ∀x,(f x).1=x.2.1/\(f x).2.1=x.2.2.1/\(x.2.2.1=O->(f x).2.2=[])):GoodE ((mP T V).map f):=by
 intro i hi;rw[List.length_map] at hi;have U:=H (mP T V)[i];refine⟨λh0=> ?_,?_,?_⟩
 ·have:=List.pairwise_iff_getElem.1 (itemsX_lt (live:=V) Q) (i-1) i (by omega) hi (by omega);rw[List.getElem_map,List.getElem_map,(H _).1,(H _).1];exact this
 ·rw[List.getElem_map,U.2.1];exact U.2.2
 rw[List.getElem_map,U.1];obtain⟨p,hp,he⟩:=items_mem.1 (List.getElem_mem hi);obtain⟨F,pm⟩:=vT hp;obtain⟨w,R,mw⟩:=lT pm;have L:=im Q.1 F;have B:(mP T V)[i].2.1=gy (w.reverse.map (De T V)):=by rw[he];show Q8 T V p.1=_;unfold Q8;rw[B9 R]
 have A:=T3 (V:=V) Q R;have l:rO (De T V p.1)=O:=by unfold De;rw[L];exact X5 (Q.2 p F)
 cases R with
 |top h h0=>
  refine⟨[],De T V p.1,?_,QX l,seen_ne l,?_,.inl rfl⟩
  ·rw[B];simp[gy]
  simp[zn,gy] at A;simp;omega
 | @step _ p' q w' h h0 hq hd zO=>
  rw[L] at h;cases h;have e:((p.1::w').reverse.map (De T V))=w'.reverse.map (De T V)++[De T V p.1]:=by simp
  have hmq:marked T V p.2.1=O:=by obtain⟨r,hr⟩:=zO.hd;exact mw _ (by rw[hr];simp)
  have hqs:=vS hmq hq;have hqx:lq T V q∈mP T V:=items_mem.2 ⟨q,hqs,rfl⟩;have hq1:q.1=p.2.1:=(cw hq).2;have hqp:(lq T V q).2.1=gy (w'.reverse.map (De T V)):=by show Q8 T V q.1=_;unfold Q8;rw[hq1,B9 zO]
  obtain⟨j,hj,G⟩:=List.mem_iff_getElem.1 hqx;refine⟨gy (w'.reverse.map (De T V)),De T V p.1,?_,QX l,seen_ne l,?_,.inr ⟨j,by rw[List.length_map];exact hj,?_,?_⟩⟩
  ·rw[B,e,joinR_snoc]
  ·rw[e] at A;unfold zn at A;rw[joinR_snoc,List.length_append,List.length_cons] at A;omega
  ·rw[List.getElem_map,(H _).1,G,hqp]
  rw[List.getElem_map,(H _).2.1,G];exact hd
theorem entV_good{g}(h:c7 16 g):GoodE (IV g):=by
 have B:=YY (on:=gJ g) (l:=aC g) (qj (l:=g)) _ (Nat.le_refl _);obtain⟨b0,G,b2,b3⟩:=B;have U:=h.rt.cK;have R:=h.rt.len;have Q:=Ah (tdL (pk (gJ g) (aC g)).a (pk (gJ g) (aC g)).p);have L:=qej (pk (gJ g) (aC g)).a (pk (gJ g) (aC g)).p;have F:=vR (((Ag (tdL (pk (gJ g) (aC g)).a (pk (gJ g) (aC g)).p)).filter (qbU (ql (aC g)))).map (qbV (ql (aC g))));unfold IV qbW qfQ;refine items_goodE (OZ _) ?_ λx=>⟨rfl,rfl,λhd=>by unfold x9;rw[if_pos hd]⟩
 have A: ∀(p:Pl->Bool) (l:List Pl),J (l.filter p)<=J l:=λp l=>List.length_filter_le p l;have H:=A (qbU (ql (aC g))) (Ag (tdL (pk (gJ g) (aC g)).a (pk (gJ g) (aC g)).p));rw[List.length_map] at F;rw[List.take_length] at G;omega
theorem slash_at{q b:List UInt8} k (hk:J q<k)(h:k<J (q++47::b)):(q++47::b).getD k 0∈b:=by rw[List.length_append,List.length_cons] at h;rw[List.getD_eq_getElem?_getD,List.getElem?_append_right (by omega),show k-J q=(k-J q-1)+1 by omega,List.getElem?_cons_succ,List.getElem?_eq_getElem (by omega)];exact List.getElem_mem _
abbrev vfE(e:List sO):List (Nat×En):=[(0,⟨0,Y,UK e⟩)]
abbrev vfT(e:List sO) i t:=(3,.d (.bool O))::(4,.sl 0 0 (J e))::(5,iD i)::t
structure PathAt(e:List sO)(i:Int)(q b:List UInt8):Prop where
 lo:0<=i
 hi:i<J e
 eq: ∀h:i.toNat<J e,e[i.toNat].1=q++47::b
 no:47∉b
 len:J q+J b<=1000000
def Fnd(e:List sO) q (k:Int) f:=f=O\/ ∃(j:Nat) (h:j<J e),k<=j/\e[j].1=q/\e[j].2.1=O
abbrev vf12(e:List sO)(i:Int)(u:List UInt8)(k:Int):S:=⟨115,vfT e i [(6,sD u),(7,iD (k+1))],vfE e⟩
theorem vcVf12 e i k u E:(bif decide ((0:Int)<=i/\i<(↑(J e):Int)) then bif decide (bl i<J (aa wP e)) then bif bE PR (47:I) (AC (aa wP e) (bl i)) then bif decide (k+(1:Int)<(↑(J (IS (uJ (AC (aa wP e) (bl i)) 0))):Int)) then bif decide ((0:Int)<=i/\i<(↑(J e):Int)) then bif decide (bl i<J (aa wP e)) then bif bE PR (47:I) (AC (aa wP e) (bl i)) then bif decide ((0:Int)<=k+(1:Int)/\k+(1:Int)<(↑(J (IS (uJ (AC (aa wP e) (bl i)) 0))):Int)) then bif (↑(UInt8.toNat (List.getD (IS (uJ (AC (aa wP e) (bl i)) 0)) (bl (k+(1:Int))) (0:UInt8))):Int)==(47:Int) then bif decide ((0:Int)<=i/\i<(↑(J e):Int)) then bif decide (bl i<J (aa wP e)) then bif bE PR (47:I) (AC (aa wP e) (bl i)) then bif decide ((0:Int)<=k+(1:Int)/\k+(1:Int)<=(↑(J (IS (uJ (AC (aa wP e) (bl i)) 0))):Int)) then bif decide ((-9223372036854775808:Int)<=k+(1:Int)+(1:Int)/\k+(1:Int)+(1:Int)<=(9223372036854775807:Int)) then E (vc,wM 115 [(3,AD (AM O)),(4,C5 0 0 (J e)),(5,AD (ue CE i)),(6,AD (BC (List.drop 0 (ab (bl (k+(1:Int))) (IS (uJ (AC (aa wP e) (bl i)) 0)))))),(7,AD (ue CE (k+(1:Int)+(1:Int))))] [(0,uI 0 Y (xz 47 C (aa wP e)))]) else False else False else False else False else False else bif decide ((-9223372036854775808:Int)<=k+(1:Int)+(1:Int)/\k+(1:Int)+(1:Int)<=(9223372036854775807:Int)) then E (vc,wM 115 [(3,AD (AM O)),(4,C5 0 0 (J e)),(5,AD (ue CE i)),(6,AD (BC u)),(7,AD (ue CE (k+(1:Int)+(1:Int))))] [(0,uI 0 Y (xz 47 C (aa wP e)))]) else False else False else False else False else False else E (AS 2,wM 115 [(3,AD (AM O)),(4,C5 0 0 (J e)),(5,AD (ue CE i)),(6,AD (BC u))] [(0,uI 0 Y (xz 47 C (aa wP e)))]) else False else False else False)=(aG [] [] 6 12 (vf12 e i u k)) E:=by kernel_rfl
def gVf12:S->K (PX×S):=λs E=> ∃e i q b,s=vf12 e i [] 0/\PathAt e i q b/\E (.exit 2,⟨115,vfT e i [(6,sD q)],vfE e⟩)
abbrev vf18(e:List sO)(i:Int)(u:List UInt8)(f:Bool)(k:Int):S:=⟨115,vfT e i [(6,sD u),(8,.d (.bool f)),(9,iD k)],vfE e⟩
theorem vcVf18 e i k u f E:(bif decide (k<(↑(J e):Int)) then bif f then bif decide ((-9223372036854775808:Int)<=k+(1:Int)/\k+(1:Int)<=(9223372036854775807:Int)) then E (vc,wM 115 [(3,AD (AM O)),(4,C5 0 0 (J e)),(5,AD (ue CE i)),(6,AD (BC u)),(8,AD (AM O)),(9,AD (ue CE (k+(1:Int))))] [(0,uI 0 Y (xz 47 C (aa wP e)))]) else False else bif decide ((0:Int)<=k/\k<(↑(J e):Int)) then bif decide (bl k<J (aa wP e)) then bif bE PR (47:I) (AC (aa wP e) (bl k)) then bif IS (uJ (AC (aa wP e) (bl k)) 0)==u then bif decide ((0:Int)<=k/\k<(↑(J e):Int)) then bif decide (bl k<J (aa wP e)) then bif bE PR (47:I) (AC (aa wP e) (bl k)) then bif decide ((-9223372036854775808:Int)<=k+(1:Int)/\k+(1:Int)<=(9223372036854775807:Int)) then E (vc,wM 115 [(3,AD (AM O)),(4,C5 0 0 (J e)),(5,AD (ue CE i)),(6,AD (BC u)),(8,AD (AM (NO (uJ (AC (aa wP e) (bl k)) 1)))),(9,AD (ue CE (k+(1:Int))))] [(0,uI 0 Y (xz 47 C (aa wP e)))]) else False else False else False else False else bif decide ((-9223372036854775808:Int)<=k+(1:Int)/\k+(1:Int)<=(9223372036854775807:Int)) then E (vc,wM 115 [(3,AD (AM O)),(4,C5 0 0 (J e)),(5,AD (ue CE i)),(6,AD (BC u)),(8,AD (AM C)),(9,AD (ue CE (k+(1:Int))))] [(0,uI 0 Y (xz 47 C (aa wP e)))]) else False else False else False else False else E (AS 4,wM 115 [(3,AD (AM O)),(4,C5 0 0 (J e)),(5,AD (ue CE i)),(8,AD (AM f))] [(0,uI 0 Y (xz 47 C (aa wP e)))]))=(aG [] [] 6 18 (vf18 e i u f k)) E:=by kernel_rfl
def gVf18:S->K (PX×S):=λs E=> ∃e i q f,s=vf18 e i q f 0/\(J e<=1000000/\Fnd e q 0 f)/\E (.exit 4,⟨115,vfT e i [(8,.d (.bool O))],vfE e⟩)
theorem vcVf6 e i E:(bif decide (i<(↑(J e):Int)) then bif decide (i>(0:Int)) then bif decide ((-9223372036854775808:Int)<=i-(1:Int)/\i-(1:Int)<=(9223372036854775807:Int)) then bif decide ((0:Int)<=i-(1:Int)/\i-(1:Int)<(↑(J e):Int)) then bif decide (bl (i-(1:Int))<J (aa wP e)) then bif bE PR (47:I) (AC (aa wP e) (bl (i-(1:Int)))) then bif decide ((0:Int)<=i/\i<(↑(J e):Int)) then bif decide (bl i<J (aa wP e)) then bif bE PR (47:I) (AC (aa wP e) (bl i)) then bif !HH (IS (uJ (AC (aa wP e) (bl (i-(1:Int)))) 0)) (IS (uJ (AC (aa wP e) (bl i)) 0)) then E (Mo,wM 115 [(2,AD (AM C)),(3,AD (AM O))] []) else bif decide ((0:Int)<=i/\i<(↑(J e):Int)) then bif decide (bl i<J (aa wP e)) then bif bE PR (47:I) (AC (aa wP e) (bl i)) then bif NO (uJ (AC (aa wP e) (bl i)) 1) then bif decide ((0:Int)<=i/\i<(↑(J e):Int)) then bif decide (bl i<J (aa wP e)) then bif bE PR (47:I) (AC (aa wP e) (bl i)) then bif !IS (uJ (AC (aa wP e) (bl i)) 2)==[] then E (Mo,wM 115 [(2,AD (AM C)),(3,AD (AM O))] []) else bif decide ((0:Int)<=i/\i<(↑(J e):Int)) then bif decide (bl i<J (aa wP e)) then bif bE PR (47:I) (AC (aa wP e) (bl i)) then bif decide ((↑(J (IS (uJ (AC (aa wP e) (bl i)) 0))):Int)<(2:Int)) then E (Mo,wM 115 [(2,AD (AM C)),(3,AD (AM O))] []) else∃h,∃A,∃q,∃b,wM 115 [(3,AD (AM O)),(4,C5 0 0 (J e)),(5,AD (ue CE i)),(6,AD (BC [])),(7,AD (ue CE (1:Int)))] [(0,uI 0 Y (xz 47 C (aa wP e)))]=wM 115 [(3,AD (AM O)),(4,C5 0 0 (J h)),(5,AD (ue CE A)),(6,AD (BC [])),(7,AD (ue CE (1:Int)))] [(0,uI 0 Y (xz 47 C (aa wP h)))]/\PathAt h A q b/\ ∃e,∃i,∃l,∃f,wM 115 [(3,AD (AM O)),(4,C5 0 0 (J h)),(5,AD (ue CE A)),(6,AD (BC q)),(8,AD (AM (q==[]))),(9,AD (ue CE (0:Int)))] [(0,uI 0 Y (xz 47 C (aa wP h)))]=wM 115 [(3,AD (AM O)),(4,C5 0 0 (J e)),(5,AD (ue CE i)),(6,AD (BC l)),(8,AD (AM f)),(9,AD (ue CE (0:Int)))] [(0,uI 0 Y (xz 47 C (aa wP e)))]/\(J e<=1000000/\Fnd e l (0:Int) f)/\bif decide ((-9223372036854775808:Int)<=i+(1:Int)/\i+(1:Int)<=(9223372036854775807:Int)) then E (vc,wM 115 [(3,AD (AM O)),(4,C5 0 0 (J e)),(5,AD (ue CE (i+(1:Int))))] [(0,uI 0 Y (xz 47 C (aa wP e)))]) else False else False else False else False else False else False else False else bif decide ((0:Int)<=i/\i<(↑(J e):Int)) then bif decide (bl i<J (aa wP e)) then bif bE PR (47:I) (AC (aa wP e) (bl i)) then bif decide ((↑(J (IS (uJ (AC (aa wP e) (bl i)) 0))):Int)<(2:Int)) then E (Mo,wM 115 [(2,AD (AM C)),(3,AD (AM O))] []) else∃h,∃A,∃q,∃b,wM 115 [(3,AD (AM O)),(4,C5 0 0 (J e)),(5,AD (ue CE i)),(6,AD (BC [])),(7,AD (ue CE (1:Int)))] [(0,uI 0 Y (xz 47 C (aa wP e)))]=wM 115 [(3,AD (AM O)),(4,C5 0 0 (J h)),(5,AD (ue CE A)),(6,AD (BC [])),(7,AD (ue CE (1:Int)))] [(0,uI 0 Y (xz 47 C (aa wP h)))]/\PathAt h A q b/\ ∃e,∃i,∃l,∃f,wM 115 [(3,AD (AM O)),(4,C5 0 0 (J h)),(5,AD (ue CE A)),(6,AD (BC q)),(8,AD (AM (q==[]))),(9,AD (ue CE (0:Int)))] [(0,uI 0 Y (xz 47 C (aa wP h)))]=wM 115 [(3,AD (AM O)),(4,C5 0 0 (J e)),(5,AD (ue CE i)),(6,AD (BC l)),(8,AD (AM f)),(9,AD (ue CE (0:Int)))] [(0,uI 0 Y (xz 47 C (aa wP e)))]/\(J e<=1000000/\Fnd e l (0:Int) f)/\bif decide ((-9223372036854775808:Int)<=i+(1:Int)/\i+(1:Int)<=(9223372036854775807:Int)) then E (vc,wM 115 [(3,AD (AM O)),(4,C5 0 0 (J e)),(5,AD (ue CE (i+(1:Int))))] [(0,uI 0 Y (xz 47 C (aa wP e)))]) else False else False else False else False else False else False else False else False else False else False else False else False else False else False else bif decide ((0:Int)<=i/\i<(↑(J e):Int)) then bif decide (bl i<J (aa wP e)) then bif bE PR (47:I) (AC (aa wP e) (bl i)) then bif NO (uJ (AC (aa wP e) (bl i)) 1) then bif decide ((0:Int)<=i/\i<(↑(J e):Int)) then bif decide (bl i<J (aa wP e)) then bif bE PR (47:I) (AC (aa wP e) (bl i)) then bif !IS (uJ (AC (aa wP e) (bl i)) 2)==[] then E (Mo,wM 115 [(2,AD (AM C)),(3,AD (AM O))] []) else bif decide ((0:Int)<=i/\i<(↑(J e):Int)) then bif decide (bl i<J (aa wP e)) then bif bE PR (47:I) (AC (aa wP e) (bl i)) then bif decide ((↑(J (IS (uJ (AC (aa wP e) (bl i)) 0))):Int)<(2:Int)) then E (Mo,wM 115 [(2,AD (AM C)),(3,AD (AM O))] []) else∃h,∃A,∃q,∃b,wM 115 [(3,AD (AM O)),(4,C5 0 0 (J e)),(5,AD (ue CE i)),(6,AD (BC [])),(7,AD (ue CE (1:Int)))] [(0,uI 0 Y (xz 47 C (aa wP e)))]=wM 115 [(3,AD (AM O)),(4,C5 0 0 (J h)),(5,AD (ue CE A)),(6,AD (BC [])),(7,AD (ue CE (1:Int)))] [(0,uI 0 Y (xz 47 C (aa wP h)))]/\PathAt h A q b/\ ∃e,∃i,∃l,∃f,wM 115 [(3,AD (AM O)),(4,C5 0 0 (J h)),(5,AD (ue CE A)),(6,AD (BC q)),(8,AD (AM (q==[]))),(9,AD (ue CE (0:Int)))] [(0,uI 0 Y (xz 47 C (aa wP h)))]=wM 115 [(3,AD (AM O)),(4,C5 0 0 (J e)),(5,AD (ue CE i)),(6,AD (BC l)),(8,AD (AM f)),(9,AD (ue CE (0:Int)))] [(0,uI 0 Y (xz 47 C (aa wP e)))]/\(J e<=1000000/\Fnd e l (0:Int) f)/\bif decide ((-9223372036854775808:Int)<=i+(1:Int)/\i+(1:Int)<=(9223372036854775807:Int)) then E (vc,wM 115 [(3,AD (AM O)),(4,C5 0 0 (J e)),(5,AD (ue CE (i+(1:Int))))] [(0,uI 0 Y (xz 47 C (aa wP e)))]) else False else False else False else False else False else False else False else bif decide ((0:Int)<=i/\i<(↑(J e):Int)) then bif decide (bl i<J (aa wP e)) then bif bE PR (47:I) (AC (aa wP e) (bl i)) then bif decide ((↑(J (IS (uJ (AC (aa wP e) (bl i)) 0))):Int)<(2:Int)) then E (Mo,wM 115 [(2,AD (AM C)),(3,AD (AM O))] []) else∃h,∃A,∃q,∃b,wM 115 [(3,AD (AM O)),(4,C5 0 0 (J e)),(5,AD (ue CE i)),(6,AD (BC [])),(7,AD (ue CE (1:Int)))] [(0,uI 0 Y (xz 47 C (aa wP e)))]=wM 115 [(3,AD (AM O)),(4,C5 0 0 (J h)),(5,AD (ue CE A)),(6,AD (BC [])),(7,AD (ue CE (1:Int)))] [(0,uI 0 Y (xz 47 C (aa wP h)))]/\PathAt h A q b/\ ∃e,∃i,∃l,∃f,wM 115 [(3,AD (AM O)),(4,C5 0 0 (J h)),(5,AD (ue CE A)),(6,AD (BC q)),(8,AD (AM (q==[]))),(9,AD (ue CE (0:Int)))] [(0,uI 0 Y (xz 47 C (aa wP h)))]=wM 115 [(3,AD (AM O)),(4,C5 0 0 (J e)),(5,AD (ue CE i)),(6,AD (BC l)),(8,AD (AM f)),(9,AD (ue CE (0:Int)))] [(0,uI 0 Y (xz 47 C (aa wP e)))]/\(J e<=1000000/\Fnd e l (0:Int) f)/\bif decide ((-9223372036854775808:Int)<=i+(1:Int)/\i+(1:Int)<=(9223372036854775807:Int)) then E (vc,wM 115 [(3,AD (AM O)),(4,C5 0 0 (J e)),(5,AD (ue CE (i+(1:Int))))] [(0,uI 0 Y (xz 47 C (aa wP e)))]) else False else False else False else False else False else False else False else E (AS 0,wM 115 [(3,AD (AM O))] []))=(aG [] [(12,ah (aV 6 12) gVf12),(18,ah (aV 6 18) gVf18)] 6 6 ⟨115,vfT e i [],vfE e⟩) E:=by kernel_rfl
def gVf6:S->K (PX×S):=λs E=> ∃e,s=⟨115,vfT e 0 [],vfE e⟩/\(J e<=1000000/\GoodE e)/\E (.exit 0,⟨115,[(3,.d (.bool O))],[]⟩)
theorem vcVf M E:(EqP [] []/\EqR [] []/\ ∃m,[AD (GT 6 (aa zy M))]=[AD (GT 6 (aa zy m))]/\EqR [] []/\C0 m/\(∃l,[AD (GT 7 [])]=[AD (GT 7 (aa dp l))]/\EqR [] []/\SmT l/\ ∀e,e=IV l-> ∃h,wM 115 [(3,AD (AM O)),(4,C5 0 0 (J e)),(5,AD (ue CE (0:Int)))] [(0,uI 0 Y (xz 47 C (aa wP e)))]=wM 115 [(3,AD (AM O)),(4,C5 0 0 (J h)),(5,AD (ue CE (0:Int)))] [(0,uI 0 Y (xz 47 C (aa wP h)))]/\(J h<=1000000/\GoodE h)/\E (AD (AM O),[]))/\ ∀g,c7 (16:Int) g-> ∃l,[AD (GT 7 (aa dp g))]=[AD (GT 7 (aa dp l))]/\EqR [] []/\SmT l/\ ∀e,e=IV l-> ∃h,wM 115 [(3,AD (AM O)),(4,C5 0 0 (J e)),(5,AD (ue CE (0:Int)))] [(0,uI 0 Y (xz 47 C (aa wP e)))]=wM 115 [(3,AD (AM O)),(4,C5 0 0 (J h)),(5,AD (ue CE (0:Int)))] [(0,uI 0 Y (xz 47 C (aa wP h)))]/\(J h<=1000000/\GoodE h)/\E (AD (AM O),[]))=(aO [(8,mY),(9,qqk),(11,wJ)] [(6,ah (aV 6 6) gVf6),(12,ah (aV 6 12) gVf12),(18,ah (aV 6 18) gVf18)] 6 [.d (.sl 6 (M.map zy))] []) E:=by kernel_rfl
theorem isEn e:bE PR 47 (wP e)=O:=rfl
section
variable{X:XF}
theorem loopVf12:LD X 6 12 (ah (aV 6 12) gVf12):=LD.wk .nil .nil
 (A:=List sO×Int×List UInt8×List UInt8) (B:=List UInt8) (λa u k=>vf12 a.1 a.2.1 u k) (λa=>J a.2.2.1+J a.2.2.2)
 (λa k u=>PathAt a.1 a.2.1 a.2.2.1 a.2.2.2/\(a.2.2.1=[]->u=[])/\(J a.2.2.1<k+1->u=a.2.2.1))
 (λa x=>x=(.exit 2,⟨115,vfT a.1 a.2.1 [(6,sD a.2.2.1)],vfE a.1⟩))
 (by
  rintro⟨e,i,q,b⟩ u k E h0 hk ⟨F,hu1,hu2⟩ hn bF;dsimp only at*
  rw[<-vcVf12];have SP:=F.lo;have G:=F.hi;have U:i.toNat<J e:=by omega
  have he:=F.eq U;have e1:AC (e.map wP) i.toNat=wP e[i.toNat]:=aA _ _ _ U;have e2:IS (uJ (wP e[i.toNat]) 0)=q++47::b:=he;have R:i.toNat<J (e.map wP):=by rw[List.length_map];exact U
  have hl:(J (q++47::b):Int)=J q+J b+1:=by simp;omega
  have hb:=F.len;rw[e1,e2,hl];refine ar ⟨SP,G⟩ (ar R (ao (isEn _) (b8 (λh=> ?_) λh=> ?_)))
  ·refine ar ⟨SP,G⟩ (ar R (ao (isEn _) (ar (by omega) (az (λl=> ?_) λl=> ?_))))
   ·refine ar ⟨SP,G⟩ (ar R (ao (isEn _) (ar (by omega) (ar (by omega) (hn _ (by omega) ⟨F,?_,?_⟩)))))
    all_goals
     have L: ¬J q<(k+1).toNat:=λH=>by have:=slash_at (q:=q) (b:=b) (k+1).toNat H (by omega);have l:=beq_iff_eq.1 l;have:(q++47::b).getD (k+1).toNat 0=47:=UInt8.toNat_inj.1 (by show _=47;omega);exact F.no (by rw[<-this];assumption)
    ·intro H;rw[H] at L;simp at L;omega
    intro H;have:(k+1).toNat=J q:=by omega
    rw[this];simp
   exact ar (by omega) (hn u (by omega) ⟨F,hu1,λH=>by
    by_cases Q:J q<k+1
    ·exact hu2 Q
    exfalso;have:(k+1).toNat=J q:=by omega
    rw[this] at l;simp[List.getD_eq_getElem?_getD] at l⟩)
  rw[hu2 (by omega)];exact bF _ _ (λh=>by cases h) rfl)
 (by rintro s E ⟨e,i,q,b,rfl,F,hp⟩;refine⟨(e,i,q,b),[],rfl,⟨F,λ_=>rfl,λh=> ?_⟩,λx y h=>by cases h;exact hp⟩;have h:(J q:Int)<0+1:=h;exact(List.eq_nil_of_length_eq_zero (by omega)).symm)
theorem loopVf18:LD X 6 18 (ah (aV 6 18) gVf18):=LD.wk .nil .nil
 (A:=List sO×Int×List UInt8) (B:=Bool) (λa f k=>vf18 a.1 a.2.1 a.2.2 f k) (λa=>J a.1)
 (λa k f=>J a.1<=1000000/\Fnd a.1 a.2.2 k f)
 (λa x=>x=(.exit 4,⟨115,vfT a.1 a.2.1 [(8,.d (.bool O))],vfE a.1⟩))
 (by
  rintro⟨e,i,q⟩ f k E h0 hk ⟨L,F⟩ hn bF;dsimp only at*
  rw[<-vcVf18];refine b8 (λG=> ?_) λG=> ?_
  ·have bB:k.toNat<J e:=by omega
   have U:k.toNat<J (e.map wP):=by rw[List.length_map];exact bB
   have e1:AC (e.map wP) k.toNat=wP e[k.toNat]:=aA _ _ _ bB;rw[e1];have e2:IS (uJ (wP e[k.toNat]) 0)=e[k.toNat].1:=rfl;have e3:NO (uJ (wP e[k.toNat]) 1)=e[k.toNat].2.1:=rfl;rw[e2,e3];have H: ∀g:Bool,(f=O->g=O)->(e[k.toNat].1=q->e[k.toNat].2.1=O->g=O)->Fnd e q (k+1) g:=λg h1 h2=>by
    rcases F with F | ⟨j,hj,hkj,h3,h4⟩
    ·exact .inl (h1 F)
    by_cases R:j=k.toNat
    ·subst R;exact .inl (h2 h3 h4)
    exact .inr ⟨j,hj,by omega,h3,h4⟩
   refine az (λl=>ar (by omega) (hn _ G ⟨L,.inl rfl⟩)) λl=>ar ⟨h0,G⟩ (ar U (ao (isEn _) (az (λQ=>ar ⟨h0,G⟩ (ar U (ao (isEn _) (ar (by omega) (hn _ G ⟨L,H _ (λh=>by rw[h] at l;cases l) λ_ h=>h⟩))))) λQ=>ar (by omega) (hn _ G ⟨L,H _ (λh=>by rw[h] at l;cases l) λh=>by rw[beq_iff_eq.2 h] at Q;cases Q⟩))))
  rcases F with F | ⟨j,hj,hkj,_⟩
  ·rw[F];exact bF _ _ (λh=>by cases h) rfl
  omega)
 (by rintro s E ⟨e,i,q,f,rfl,⟨L,F⟩,hp⟩;exact⟨(e,i,q),f,rfl,⟨L,F⟩,λx y h=>by cases h;exact hp⟩)
theorem loopVf6:LD X 6 6 (ah (aV 6 6) gVf6):=LD.wk .nil (.cons loopVf12 (.cons loopVf18 .nil))
 (A:=List sO) (B:=Unit) (λe _ k=>⟨115,vfT e k [],vfE e⟩) (λe=>J e)
 (λe _ _=>J e<=1000000/\GoodE e)
 (λ_ x=>x=(.exit 0,⟨115,[(3,.d (.bool O))],[]⟩))
 (by
  rintro e _ i E G hk ⟨L,Q⟩ hn bF;rw[<-vcVf6];refine b8 (λl=> ?_) λ_=>bF _ _ (λh=>by cases h) rfl;have R:i.toNat<J e:=by omega
  have H:i.toNat<J (e.map wP):=by rw[List.length_map];exact R
  have e1:AC (e.map wP) i.toNat=wP e[i.toNat]:=aA _ _ _ R;obtain⟨g1,g2,q,b,g3,g4,g5,g6,g7⟩:=Q _ R;have hP:PathAt e i q b:=⟨G,l,λ_=>g3,g4,g6⟩
  have hF:Fnd e q 0 (q==[]):=by
   rcases g7 with rfl | ⟨j,hj,h1,h2⟩
   ·exact .inl rfl
   exact .inr ⟨j,hj,by omega,h1,h2⟩
  have hb:0<J b:=Nat.pos_of_ne_zero λh=>g5 (List.eq_nil_of_length_eq_zero h);have hlen:J e[i.toNat].1=J q+J b+1:=by rw[g3];simp;omega
  rw[e1];have c0:IS (uJ (wP e[i.toNat]) 0)=e[i.toNat].1:=rfl;have c1:NO (uJ (wP e[i.toNat]) 1)=e[i.toNat].2.1:=rfl;have c2:IS (uJ (wP e[i.toNat]) 2)=e[i.toNat].2.2:=rfl;rw[c0,c1,c2];refine b8 (λU=> ?_) λ_=> ?_
  ·have F:(i-1).toNat<J e:=by omega
   rw[show AC (e.map wP) (i-1).toNat=wP e[(i-1).toNat] from aA _ _ _ F];have d0:IS (uJ (wP e[(i-1).toNat]) 0)=e[(i-1).toNat].1:=rfl;have aZ:HH e[(i-1).toNat].1 e[i.toNat].1=O:=by
    have:=g1 (by omega);have hq:(i-1).toNat=i.toNat-1:=by omega
    simp only[hq];exact this
   rw[d0,aZ];refine ar (by omega) (ar ⟨by omega,by omega⟩ (ar (by rw[List.length_map];exact F) (ao (isEn _) (ar ⟨G,l⟩ (ar H (ao (isEn _) (nN rfl ?_)))))));refine ar ⟨G,l⟩ (ar H (ao (isEn _) (az (λhd=>ar ⟨G,l⟩ (ar H (ao (isEn _) (nN (by rw[g2 hd];rfl) ?_)))) λ_=> ?_)))
   all_goals exact ar ⟨G,l⟩ (ar H (ao (isEn _) (nN (decide_eq_false (by omega)) ⟨e,i,q,b,rfl,hP,e,i,q,_,rfl,⟨L,hF⟩,ar (by omega) (hn () l ⟨L,Q⟩)⟩)))
  refine ar ⟨G,l⟩ (ar H (ao (isEn _) (az (λhd=>ar ⟨G,l⟩ (ar H (ao (isEn _) (nN (by rw[g2 hd];rfl) ?_)))) λ_=> ?_)))
  all_goals exact ar ⟨G,l⟩ (ar H (ao (isEn _) (nN (decide_eq_false (by omega)) ⟨e,i,q,b,rfl,hP,e,i,q,_,rfl,⟨L,hF⟩,ar (by omega) (hn () l ⟨L,Q⟩)⟩))))
 (by rintro s E ⟨e,rfl,⟨L,Q⟩,U⟩;exact⟨e,(),rfl,⟨L,Q⟩,λx y h=>by cases h;exact U⟩)
end
def hVf:bc:=λps R E=> ∃m,ps=[.d (.sl 6 (m.map zy))]/\R=[]/\C0 m/\E (.d (.bool O),[])
theorem okVf:FD xV6 6 hVf:=H1 (.cons qla (.cons qqq (.cons qk9 .nil))) (.cons loopVf6 (.cons loopVf12 (.cons loopVf18 .nil))) (by
 intro ps R E hh;obtain⟨m,rfl,rfl,hd,Q⟩:=hh;rw[<-vcVf];have F: ∀g:List au,c7 16 g->SmT g/\ ∀e,e=IV g->J e<=1000000/\GoodE e:=λg A=>by have L:=IY A (U:=[]) (λu hu=>by cases hu) (by decide) (by rw[List.append_nil,List.append_nil]);rw[List.append_nil] at L;refine⟨L,λe B=>⟨?_,by rw[B];exact entV_good A⟩⟩;have:=(MQ (l:=g) (by have:=A.rt.cK;have:=A.rt.len;omega)).1;rw[B];unfold IV;rw[List.length_map];omega
 refine⟨rfl,rfl,m,rfl,rfl,hd,?_,λg A=> ?_⟩
 ·obtain⟨H,G⟩:=F [] ⟨(λ_ h=>by cases h),by decide⟩;exact⟨[],rfl,rfl,H,λe B=>⟨e,rfl,G e B,Q⟩⟩
 obtain⟨H,G⟩:=F g A;exact⟨g,rfl,rfl,H,λe B=>⟨e,rfl,G e B,Q⟩⟩)
theorem okVfLawX xs (h:ua PR 8 [22] xs): ∃lf k R,eL PR (yP xV6) lf k 6 (xs.map AD) []=Z (.d (.bool O),R):=by obtain⟨x,r,rfl,A,h⟩:=fitAll_cons h;have e:=fitAll_nil h;subst e;obtain⟨l,rfl,F⟩:=qlh A;obtain⟨lf,k,B⟩:=okVf.run (y:=(.d (.bool O),[])) ⟨l,rfl,rfl,F,rfl⟩;exact⟨lf,k,[],B⟩
end Pi
