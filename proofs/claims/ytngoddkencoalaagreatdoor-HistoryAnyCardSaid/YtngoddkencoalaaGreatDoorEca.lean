/- The texts RdH UtP Vw1 Vw1H Vw2 Vw2H Rp RpH Rm RmH Ro RoH W20 Ls TrF LsF LsH. -/
import Derived.Test.YtngoddkencoalaaGreatDoorEbz
import Derived.Lib.LaidTab
import Derived.Lib.LaidU8T
import Derived.Stop.LaidErr
import Derived.Shelf.Vars
import Derived.Lay
import Derived.Deep.DeepHandedRow
import Derived.SevenTiedAt
import Derived.ProofKit
import Derived.Test.YtngoddkencoalaaGreatDoorRows
namespace Pi
open Go Go.Proofs
set_option maxRecDepth 100000
theorem qco (d:cd):cX PR 106 (kM d)=true:=by kernel_rfl
theorem qg0 (y x:cd):(y.1.1==x.1.1&&(y.1.2.1==x.1.2.1&&true)&&(y.1.2.2==x.1.2.2&&true)&&(y.2.1==x.2.1&&(y.2.2==x.2.2&&true)&&true))=(y==x):=by
 rw[Bool.eq_iff_iff]
 obtain⟨⟨a,b,c⟩,d,e⟩:=y
 obtain⟨⟨a',b',c'⟩,d',e'⟩:=x
 simp[and_assoc]
theorem sG {α:Type} [BEq α] [LawfulBEq α] {l:List α} {x:α} {i:Nat} (hi:i<l.length) (ht:(l[i]==x)=true):x∈l:=by
 rw[<-eq_of_beq ht]
 exact List.getElem_mem hi
theorem sH {α:Type} [BEq α] [LawfulBEq α] {l:List α} {x:α} (h: ∀j (hj:j<l.length),(l[j]==x)=false):x∉l:=fun hx=>by
 obtain⟨j,hj,rfl⟩:=List.getElem_of_mem hx
 have:=h j hj
 simp at this
section
variable {X:XF}
theorem Wi:LD X 92 2 (ae (aK 92 2) qck):=LD.find (H:=[]) (hk:=[]) (by kernel_rfl) (by kernel_rfl) .nil .nil
 (A:=List cd×cd) (fun a k=>Wc a.1 a.2 k) (·.1) (fun a _ x=>x==a.2) (fun a=>a.1.length<=1000000) (fun _ _=>(.ret,⟨18,[(4,.d (.bool true))],[]⟩)) (fun _=>(.exit 0,⟨18,[],[]⟩)) (fun _ _ h=>by cases h) (fun _ h=>by cases h)
 (by
  rintro⟨l,x⟩ k post eb hm h0 hk ht hf
  dsimp only at*
  (rw[<-Yj];delta Z9j Zm Zn bQ dG JP Dc Za Z9 Zj ZM E8 Zg AQ Z9f)
  have e1:D.nth (l.map kM) k.toNat=kM l[k.toNat]:=ay _ _ _ eb
  have bc:k.toNat<(l.map kM).length:=by rw[List.length_map];exact eb
  rw[e1]
  have v:=qg0 l[k.toNat] x
  generalize l[k.toNat]=y at*
  rw[<-v] at ht hf
  simp only[Wc,List.length_map] at hf bc⊢
  exact bV hk (ak ⟨h0,hk⟩ (aq (qco _) (aw (fun h=>ht h) fun h=>ak (by omega) (hf h)))))
 (by
  rintro⟨l,x⟩ k post hm hk hp
  dsimp only at*
  (rw[<-Yj];delta Z9j Zm Zn bQ dG JP Dc Za Z9 Zj ZM E8 Zg AQ Z9f)
  exact nv (by first |omega | (simp only[List.length_map];omega)) hp)
 (by
  rintro s post ⟨l,x,rfl,hm,h1,h2⟩
  exact⟨(l,x),rfl,hm,fun _ hi _ ht _=>h1 (sG hi ht),fun h=>h2 (sH h)⟩)
theorem qfa:FD X 92 qcl:=FD.mk (H:=[]) (hk:=[(2,ae (aK 92 2) qck)]) (by kernel_rfl) .nil (.cons Wi .nil) (by
 intro ps R post hh
 obtain⟨l,x,rfl,rfl,hm,hp⟩:=hh
 (rw[<-qgX];delta Z3 Z4 ZM ZN Rj Z9j Z7 ZL bQ dG JP Dc)
 exact⟨l,x,rfl,hm,fun h=>hp _ (by simp[h]),fun h=>hp _ (by simp[h])⟩)
theorem Wj:LD X 42 2 (ae (aK 42 2) qcm):=LD.find (H:=[]) (hk:=[]) (by kernel_rfl) (by kernel_rfl) .nil .nil
 (A:=List ax×ax) (fun a k=>Wd a.1 a.2 k) (·.1) (fun a _ x=>x==a.2) (fun a=>a.1.length<=1000000) (fun a _=>(.ret,⟨18,[(0,fE a.1),(4,.d (.bool true))],[]⟩)) (fun a=>(.exit 0,⟨18,[(0,fE a.1)],[]⟩)) (fun _ _ h=>by cases h) (fun _ h=>by cases h)
 (by
  rintro⟨l,x⟩ k post eb hm h0 hk ht hf
  dsimp only at*
  (rw[<-Yk];delta tG vK EW Zm Zn bQ dG Za Z9 Zj ZM E8 kG LJ Zg FB EE Z9l vG zj I8 Mz)
  have e1:D.nth (l.map aX) k.toNat=aX l[k.toNat]:=ay _ _ _ eb
  have bc:k.toNat<(l.map aX).length:=by rw[List.length_map];exact eb
  rw[e1]
  have v:=Ch l[k.toNat] x
  generalize l[k.toNat]=y at*
  rw[<-v] at ht hf
  simp only[Wd,List.length_map] at hf bc⊢
  exact bV hk (ak ⟨h0,hk⟩ (aq (l7 _) (aw (fun h=>ht h) fun h=>ak (by omega) (hf h)))))
 (by
  rintro⟨l,x⟩ k post hm hk hp
  dsimp only at*
  (rw[<-Yk];delta tG vK EW Zm Zn bQ dG Za Z9 Zj ZM E8 kG LJ Zg FB EE Z9l vG zj I8 Mz)
  exact nv (by first |omega | (simp only[List.length_map];omega)) hp)
 (by
  rintro s post ⟨l,x,rfl,hm,h1,h2⟩
  exact⟨(l,x),rfl,hm,fun _ hi _ ht _=>h1 (sG hi ht),fun h=>h2 (sH h)⟩)
theorem Yn:FD X 42 L3:=FD.mk (H:=[]) (hk:=[(2,ae (aK 42 2) qcm)]) (by kernel_rfl) .nil (.cons Wj .nil) (by
 intro ps R post hh
 obtain⟨l,x,rfl,rfl,hm,hp⟩:=hh
 (rw[<-qgY];delta Z3 Z4 ZM ZN dV nz tG vK EW Z7 ZL bQ dG kG LJ)
 exact⟨l,x,rfl,hm,fun h=>hp _ (by simp[h]),fun h=>hp _ (by simp[h])⟩)
theorem Rs:LD X 42 2 (ae (aK 42 2) Rl):=LD.find (H:=[]) (hk:=[]) (by kernel_rfl) (by kernel_rfl) .nil .nil
 (A:=List ax×ax) (fun a k=>Wf a.1 a.2 k) (·.1) (fun a _ x=>x==a.2) (fun a=>a.1.length<=1000000) (fun a _=>(.ret,⟨18,[(0,.sl 0 0 a.1.length),(4,.d (.bool true))],[(0,⟨0,some 0,nV false a.1⟩)]⟩)) (fun a=>(.exit 0,⟨18,[(0,.sl 0 0 a.1.length)],[(0,⟨0,some 0,nV false a.1⟩)]⟩)) (fun _ _ h=>by cases h) (fun _ h=>by cases h)
 (by
  rintro⟨l,x⟩ k post eb hm h0 hk ht hf
  dsimp only at*
  (rw[<-Rk];delta tG nW Z9n Zm Zn iM ME Za Z9 Zj Jv ZM E8 dV Yl Zg FB EE Z9l vG Sz)
  have e1:D.nth (l.map aX) k.toNat=aX l[k.toNat]:=ay _ _ _ eb
  have bc:k.toNat<(l.map aX).length:=by rw[List.length_map];exact eb
  rw[e1]
  have v:=Ch l[k.toNat] x
  generalize l[k.toNat]=y at*
  rw[<-v] at ht hf
  simp only[Wf,List.length_map] at hf bc⊢
  exact bV hk (ak ⟨h0,hk⟩ (ak bc (aq (l7 _) (aw (fun h=>ht h) fun h=>ak (by omega) (hf h))))))
 (by
  rintro⟨l,x⟩ k post hm hk hp
  dsimp only at*
  (rw[<-Rk];delta tG nW Z9n Zm Zn iM ME Za Z9 Zj Jv ZM E8 dV Yl Zg FB EE Z9l vG Sz)
  exact nv (by first |omega | (simp only[List.length_map];omega)) hp)
 (by
  rintro s post ⟨l,x,rfl,hm,h1,h2⟩
  exact⟨(l,x),rfl,hm,fun _ hi _ ht _=>h1 (sG hi ht),fun h=>h2 (sH h)⟩)
theorem qcp:FD X 42 Rm:=FD.mk (H:=[]) (hk:=[(2,ae (aK 42 2) Rl)]) (by kernel_rfl) .nil (.cons Rs .nil) (by
 intro ps R post hh
 obtain⟨l,x,rfl,rfl,hm,hp⟩:=hh
 (rw[<-qe7];delta Z3 nW Jv ZM dV nz tG Z9n Z7 ZL iM Lq Yl)
 exact⟨l,x,rfl,hm,fun h=>hp _ (by simp[h]),fun h=>hp _ (by simp[h])⟩)
theorem Ru:LD X 91 2 (ae (aK 91 2) Rp):=LD.find (H:=[]) (hk:=[]) (by kernel_rfl) (by kernel_rfl) .nil .nil
 (A:=List aC×aC) (fun a k=>Wg a.1 a.2 k) (·.1) (fun a _ x=>x==a.2) (fun a=>a.1.length<=1000000) (fun a _=>(.ret,⟨18,[(0,.sl 0 0 a.1.length),(4,.d (.bool true))],[(0,⟨0,some 0,rH false a.1⟩)]⟩)) (fun a=>(.exit 0,⟨18,[(0,.sl 0 0 a.1.length)],[(0,⟨0,some 0,rH false a.1⟩)]⟩)) (fun _ _ h=>by cases h) (fun _ h=>by cases h)
 (by
  rintro⟨l,x⟩ k post eb hm h0 hk ht hf
  dsimp only at*
  (rw[<-Ro];delta lD lE yA ML Wh Zm Zn iM ME Za Z9 Zj Rn ZM E8 Ff Zg Ja Jb Jc Z8g Az tB Z9o)
  have e1:D.nth (l.map bH) k.toNat=bH l[k.toNat]:=ay _ _ _ eb
  have bc:k.toNat<(l.map bH).length:=by rw[List.length_map];exact eb
  rw[e1]
  have v:=C5 l[k.toNat] x
  generalize l[k.toNat]=y at*
  rw[<-v] at ht hf
  simp only[Wg,List.length_map] at hf bc⊢
  exact bV hk (ak ⟨h0,hk⟩ (ak bc (aq (rj _) (aw (fun h=>ht h) fun h=>ak (by omega) (hf h))))))
 (by
  rintro⟨l,x⟩ k post hm hk hp
  dsimp only at*
  (rw[<-Ro];delta lD lE yA ML Wh Zm Zn iM ME Za Z9 Zj Rn ZM E8 Ff Zg Ja Jb Jc Z8g Az tB Z9o)
  exact nv (by first |omega | (simp only[List.length_map];omega)) hp)
 (by
  rintro s post ⟨l,x,rfl,hm,h1,h2⟩
  exact⟨(l,x),rfl,hm,fun _ hi _ ht _=>h1 (sG hi ht),fun h=>h2 (sH h)⟩)
theorem qcq:FD X 91 Rq:=FD.mk (H:=[]) (hk:=[(2,ae (aK 91 2) Rp)]) (by kernel_rfl) .nil (.cons Ru .nil) (by
 intro ps R post hh
 obtain⟨l,x,rfl,rfl,hm,hp⟩:=hh
 (rw[<-qe8];delta Z3 Wh Rn ZM uK lD lE yA ML Z7 ZL iM Lq Ff)
 exact⟨l,x,rfl,hm,fun h=>hp _ (by simp[h]),fun h=>hp _ (by simp[h])⟩)
theorem Wk:LD X 57 9 (ae (aK 57 9) qcn):=LD.ins (H:=[(88,kC)]) (hk:=[]) (by kernel_rfl) (by kernel_rfl) (.cons oY .nil) .nil
 (A:=List cd×List cd×Nat×Int) (α:=aC) (fun a o k=>lvI a.1 a.2.1 o a.2.2.1 a.2.2.2 k) Aq (fun a=>a.2.2.1) (fun _=>True) (fun a o=>(.exit 2,⟨72,[(0,rG a.1),(1,rG a.2.1),(5,.sl 0 0 a.2.2.1),(6,iD a.2.2.2)],[(0,⟨0,none,rH false o⟩)]⟩)) (fun _ _ h=>by cases h)
 (by
  rintro⟨h,g,n,i⟩ o k post _ h0 Lz nM hk hz b9 fM
  dsimp only at*
  subst Lz
  (rw[<-qe9];delta SL Zr Zs ZI Zz ZA JP MQ Dc Zc Xx Zg Ja Jb Jc O1 Z9s Zw ZC G6 V0 UC tB AL Za Z9 Zb Az Z9o nN Zq)
  refine bJ (fun hp=> ?_) fun hp=>hz (by omega)
  have gh:k.toNat-1<o.length:=by omega
  have ek:(k-1).toNat=k.toNat-1:=by omega
  have e1:D.nth (o.map bH) k.toNat=bH o[k.toNat]:=ay _ _ _ hk
  have e2:D.nth (o.map bH) (k.toNat-1)=bH o[k.toNat-1]:=ay _ _ _ gh
  have b9:=b9 hp
  have fM:=fM hp
  have CG:=mb bH o k.toNat o[k.toNat] o[k.toNat-1]
  have e3: ∀z,D.nth ((o.map bH).set k.toNat z) (k.toNat-1)=bH o[k.toNat-1]:=fun z=>by
   unfold D.nth
   rw[List.getD_eq_getElem?_getD,List.getElem?_set_ne (by omega)]
   simp[gh]
  rw[ek,e1,e2]
  simp only[e3]
  generalize o[k.toNat]=x at*
  generalize o[k.toNat-1]=y at*
  simp only[List.length_map,List.length_set] at fM⊢
  have CH:0<=k/\k<(o.length:Int):=⟨h0,by omega⟩
  have CI:0<=k-1/\k-1<(o.length:Int):=⟨by omega,by omega⟩
  have hf:(-9223372036854775808:Int)<=k-1/\k-1<=9223372036854775807:=by omega
  refine ak CH (ak hk (aq (rj _) (ak hf (ak CI (ak gh (aq (rj _) ⟨(x).1,(x).2.1,(x).2.2,(y).1,(y).2.1,(y).2.2,rfl,rfl,bJ (fun h=> ?_) fun h=>b9 (by rw[<-Bool.not_eq_true];exact fun h2=>h ((jJ (x) (y)).2 h2))⟩))))))
  have hy:=fM ((jJ (x) (y)).1 h)
  simp only[lvI,rH] at hy
  rw[<-CG] at hy
  refine ak hf (ak hf (ak CI (ak gh (aq (rj _) (ak CH (ak hk (aq (rj _) (ak CH (ak hk (aq (rj _) (ak CI (ak gh (aq (rj _) (ak hf ?_))))))))))))))
  exact hy)
 (by
  rintro s post ⟨h,g,o,x,n,i,k,rfl,⟨hk,hn,ho⟩,hp⟩
  refine⟨(h,g,n,i),o,x,k,rfl,hk,trivial,⟨hn.symm,ho⟩,?_⟩
  have:=hp _ rfl
  rw[lvH,pg,<-hn] at this
  exact this)
theorem Wl {h g:List cd} {i:Nat} (hi:i<h.length):L2 (h.take (i+1)) g=Rh g (L2 (h.take i) g) h[i]:=by
 unfold L2
 rw[List.take_succ_eq_append_getElem hi,List.foldl_append]
 rfl
theorem qcr:LD X 57 3 (ae (aK 57 3) gLv):=LD.idx (H:=[(92,qcl),(91,Rq)]) (hk:=[(9,ae (aK 57 9) qcn)]) (by kernel_rfl) (by kernel_rfl) (.cons qfa (.cons qcq .nil)) (.cons Wk .nil)
 (A:=List cd×List cd) (B:=List aC) (fun a o i=>lvH a.1 a.2 o i) (fun a=>a.1.length) (fun a i o=>(a.1.length<=1000000/\a.2.length<=1000000)/\o=L2 (a.1.take i) a.2)
 (fun a x=>x=(.exit 0,⟨72,[(5,.sl 0 0 (L2 a.1 a.2).length)],[(0,⟨0,none,rH false (L2 a.1 a.2)⟩)]⟩))
 (by
  rintro⟨h,g⟩ o i post h0 bS bc ⟨hm,ho⟩ hn cp
  dsimp only at*
  (rw[<-Ym];delta Zs zq Zz ZA ZI Za Z9 Zg AQ Z9w Z9x tB SL Zm Zy JP MQ Dc Zj uK Wh Rn lD lE uZ kW Ff Z9v Rj Zw Z9f)
  have nM:o.length<=i.toNat:=by
   have:=JL (h.take i.toNat) g
   rw[List.length_take] at this
   rw[ho]
   omega
  have e1:D.nth (h.map kM) i.toNat=kM h[i.toNat]:=ay _ _ _ bc
  have kK:=Wl (g:=g) bc
  rw[<-ho] at kK
  have iS:=fun o' (lW:o'=Rh g o h[i.toNat])=>hn o' ⟨hm,by rw[kK];exact lW⟩
  generalize h[i.toNat]=d at*
  rw[e1]
  simp only[List.length_map]
  have t1:List.take o.length (o.map bH)++[bH d.1]=(o++[d.1]).map bH:=dU bH o d.1
  refine bV bS (ak ⟨h0,bS⟩ (aq (qco _) (ak ⟨h0,bS⟩ (aq (qco _) ⟨g,d,rfl,rfl,hm.2,fun b hb=> ?_⟩))))
  refine aw (fun Cl=>ak (by omega) (iS o ?_)) fun Dd=>⟨o,d.1,rfl,rfl,by omega,fun b2 cu=>aw (fun qfb=>ak (by omega) (iS o ?_)) fun qfc=> ?_⟩
  ·unfold Rh
   rw[hb,decide_eq_true_eq] at Cl
   rw[if_pos (.inl Cl)]
  ·unfold Rh
   rw[cu,decide_eq_true_eq] at qfb
   rw[if_pos (.inr qfb)]
  ·rw[hb,decide_eq_false_iff_not] at Dd
   rw[cu,decide_eq_false_iff_not] at qfc
   have qcs:Rh g o d=dy Aq o d.1:=by
    unfold Rh
    rw[if_neg (fun hh=>hh.elim Dd qfc)]
   simp only[List.length_cons,List.length_nil,Nat.zero_add]
   refine aq ?_ (ak (by omega) ⟨h,g,o,d.1,o.length+1,i,((o.length+1:Nat):Int)-1,congrArg (fun z=>(⟨72,[(0,rG h),(1,rG g),(5,.sl 0 0 (o.length+1)),(6,iD i),(8,iD (((o.length+1:Nat):Int)-1))],[(0,⟨0,none,.arr 50 false z⟩)]⟩:S)) t1,⟨by omega,rfl,by omega⟩,fun o' lW=>ak (by omega) (iS o' (by rw[qcs];exact lW))⟩)
   rw[Bool.and_eq_true]
   exact⟨by simp,cD (by omega) (by omega)⟩
 )
 (by
  rintro⟨h,g⟩ o i post hi ⟨hm,ho⟩ cp
  dsimp only at*
  (rw[<-Ym];delta Zs zq Zz ZA ZI Za Z9 Zg AQ Z9w Z9x tB SL Zm Zy JP MQ Dc Zj uK Wh Rn lD lE uZ kW Ff Z9v Rj Zw Z9f)
  refine nv (by simp only[List.length_map];omega) (cp _ (fun h=>by cases h) ?_)
  rw[ho,List.take_length])
 (by
  rintro s post ⟨h,g,rfl,hs,hp⟩
  refine⟨(h,g),[],rfl,⟨hs,rfl⟩,?_⟩
  rintro x rfl
  exact hp _ rfl)
theorem qct:FD X 57 Rr:=FD.mk (H:=[]) (hk:=[(3,ae (aK 57 3) gLv)]) (by kernel_rfl) .nil (.cons qcr .nil) (by
 intro ps R post hh
 obtain⟨h,g,rfl,rfl,hs,hp⟩:=hh
 (rw[<-qgZ];delta SL Ff Rj SM Z7 CD ZO JP MQ Dc Z9z)
 exact⟨h,g,rfl,hs,fun o ho=>hp o ho⟩)
end
def nB (ns:List Nat):List (Nat×En)->List (Nat×En)
 | []=>[]
 | (k,e)::r=>(k,if gw k ns then⟨e.aU,none,e.obj⟩ else e)::nB ns r
def S.kN (ns:List Nat) (s:S):S:=⟨s.n,s.tm,nB ns s.rg⟩
theorem yl (ns:List Nat) (n:Nat): ∀(R:List (Nat×En)),lk (nB ns R) n=(lk R n).map fun e=>if gw n ns then⟨e.aU,none,e.obj⟩ else e
 | []=>rfl
 | (k,e)::r=>by
  simp only[nB,lk]
  split
  ·rename_i hk
   rw[Nat.eq_of_beq_eq_true hk]
   rfl
  ·exact yl ns n r
theorem jS {ns:List Nat} {R:List (Nat×En)} {n:Nat} {e':En} (h:lk (nB ns R) n=some e'): ∃e,lk R n=some e/\e'.aU=e.aU/\e'.obj=e.obj/\(e'.tag=none\/e'=e):=by
 rw[yl,Option.map_eq_some_iff] at h
 obtain⟨e,he,rfl⟩:=h
 refine⟨e,he,?_⟩
 split
 ·exact⟨rfl,rfl,.inl rfl⟩
 ·exact⟨rfl,rfl,.inr rfl⟩
theorem Fg {ns:List Nat} {R:List (Nat×En)} {n:Nat} {e:En} (h:lk R n=some e): ∃e',lk (nB ns R) n=some e'/\e'.aU=e.aU/\e'.obj=e.obj:=by
 rw[yl,h]
 refine⟨_,rfl,?_⟩
 split<;>exact⟨rfl,rfl⟩
section
variable {Q:Program} {T:Tg} {F:Nat->Prop} {G:Nat->Value} {w:World} {a:Act} {s:S} {ns:List Nat}
theorem AR:Own G (nB ns s.rg)=Own G s.rg:=by
 funext b
 refine propext ⟨?_,?_⟩
 ·rintro⟨n,e',he,hb⟩
  obtain⟨e,h1,_,h3,_⟩:=jS he
  exact⟨n,e,h1,by rw[<-h3];exact hb⟩
 ·rintro⟨n,e,he,hb⟩
  obtain⟨e',h1,_,h3⟩:=Fg (ns:=ns) he
  exact⟨n,e',h1,by rw[h3];exact hb⟩
theorem aB.kN (h:aB Q T F G w a s):aB Q T F G w a (s.kN ns):=by
 have hN:Names G G s.rg (nB ns s.rg):=⟨fun n e he=>by
  obtain⟨e',h1,h2,h3⟩:=Fg (ns:=ns) he
  exact⟨e',h1,by omega,fun _ hl=>by rw[h3] at hl;exact hl⟩,fun _ _ _ _ _ _ _=>rfl⟩
 have hx:Ext (Own G s.rg) (Own G (nB ns s.rg)) F F w w:=by rw[AR];exact Ext.refl _ _ _
 refine⟨h.qV.go hx,h.size,fun t p hp=>cr.mono (fun _ h=>h) (fun _ _=>rfl) hN (h.tm t p hp),fun n e' he=> ?_,fun n m e e' b he cF hb cU=> ?_,fun n e b he hb=> ?_,h.iR,fun n e i he hi hl=> ?_,h.z,h.dr,h.sz⟩
 ·obtain⟨e,h1,_,h3,_⟩:=jS he
  rw[h3]
  exact(h.rg n e h1).mono (fun _ h=>h) (fun _ _=>rfl) hN rfl (fun _ _=>rfl)
 ·obtain⟨x,h1,_,h3,_⟩:=jS he
  obtain⟨x',Mp,_,h3',_⟩:=jS cF
  rw[h3] at hb
  rw[h3'] at cU
  exact h.own n m x x' b h1 Mp hb cU
 ·obtain⟨x,h1,_,h3,_⟩:=jS he
  rw[h3] at hb
  exact h.lr n x b h1 hb
 ·obtain⟨x,h1,_,h3,h4⟩:=jS he
  rcases h4 with h4 |h4
  ·rw[h4] at hi;cases hi
  ·subst h4
   exact h.tag n _ i h1 hi hl
end
theorem TW.kN {Q:Program} {T:Tg} {c:Code} {s:S} {ns:List Nat} {post:PX×S->Prop} (h:TW Q T c (s.kN ns) post):TW Q T c s post:=fun r sN F G w a Q' hs hK=>
 h sN F G w a Q' hs.kN fun e s' a' w' hp hP=>hK e s' a' w' hp (by
  obtain⟨F',G',h1,h2⟩:=hP
  refine⟨F',G',h1,?_⟩
  have e:Own G (s.kN ns).rg=Own G s.rg:=AR
  rw[<-e]
  exact h2)
theorem LN.qg1 {X:XF} {w0:World} (hX:db PR w0 X.cf) (ns:List Nat) {H HN:List (FuncId×bm)} {hk:List (Nat×(S->K (PX×S)))} {f id:Nat} {g:S->K (PX×S)} (hdr:PR.follows .mixedOrders=true) (hu:uniq PR f=true) (hc:bW (pI f) (bt PR f id)=true) (hnr:(bP (bt PR f id)).isEmpty=true) (hH:HD X H) (nJ:Jk w0 HN) (hl:U0 w0 f hk)
  {A B:Type} (hd:A->B->S) (Inv:A->B->Prop) (mu:A->B->Nat) (Out:A->PX×S->Prop)
  (hr: ∀a b,Inv a b->eP H HN hk f id (hd a b) (roundPost (mu a b) (fun m s=> ∃b',s.kN ns=hd a b'/\Inv a b'/\m=mu a b') (Out a)))
  (hg: ∀s post,g s post-> ∃a b,s.kN ns=hd a b/\Inv a b/\ ∀x,Out a x->post x):LN w0 f id (ae (aK f id) g):=by
 intro val lo mk s post hp
 unfold ae at hp
 cases hh:cq (aK f id) s with
 |none=>simp only[hh] at hp
 |some s0=>
  simp only[hh] at hp
  obtain⟨a,b,h0,h1,h2⟩:=hg s0 post hp
  refine TW.mono (TW.loop (keep:=aK f id) (I:=fun m s=> ∃b',s.kN ns=hd a b'/\Inv a b'/\m=mu a b') (O:=Out a) (fun n s hs=> ?_) hh ⟨b,h0,h1,rfl⟩) h2
  obtain⟨b',h4,h3,rfl⟩:=hs
  have:=hr a b' h3
  unfold eP at this
  refine TW.kN (ns:=ns) ?_
  rw[h4]
  refine TW.mono (dQ (kp:=GV X) (T:=⟨val,w0,lo,mk⟩) nJ.get (xR hH) hX hdr (kp1:=aK f) (bt PR f id) hc (fun d hd h hh s post hp=>by
   have:=hl.get _ _ hh val lo mk s post hp
   rwa [s8 hu hd] at this) (fun x hx=>by rw[List.isEmpty_iff.1 hnr] at hx;cases hx) _ _ this) ?_
  rintro⟨e,s1⟩ hx
  cases e with
  |normal=>
   obtain⟨s2,h4,m,h5,h6⟩:=KW.dH (p:=fun s2=>cq (aK f id) s1=some s2) (fun _ h=>h) _ hx
   exact⟨s2,h4,m,h5,h6⟩
  |exit i=>
   obtain⟨s2,h4,h5⟩:=KW.dH (p:=fun s2=>dt (aK f id) s1=some s2) (fun _ h=>h) _ hx
   exact⟨s2,h4,h5⟩
  |ret=>
   obtain⟨s2,h4,h5⟩:=KW.dH (p:=fun s2=>dt (aK f id) s1=some s2) (fun _ h=>h) _ hx
   exact⟨s2,h4,h5⟩
theorem LN.qfd {X:XF} {w0:World} (hX:db PR w0 X.cf) (ns:List Nat) {H HN:List (FuncId×bm)} {hk:List (Nat×(S->K (PX×S)))} {f id:Nat} {g:S->K (PX×S)} (hdr:PR.follows .mixedOrders=true) (hu:uniq PR f=true) (hc:bW (pI f) (bt PR f id)=true) (hnr:(bP (bt PR f id)).isEmpty=true) (hH:HD X H) (nJ:Jk w0 HN) (hl:U0 w0 f hk)
  {A B:Type} (hd:A->B->Int->S) (len:A->Nat) (Inv:A->Nat->B->Prop) (Out:A->PX×S->Prop)
  (hr: ∀a b (k:Int) post,0<=k->k<len a->k.toNat<len a->Inv a k.toNat b->(∀b' s,S.kN ns s=hd a b' (k+1)->Inv a (k.toNat+1) b'->post (.normal,s))->(∀x,x.1≠ .normal->Out a x->post x)->eP H HN hk f id (hd a b k) post)
  (hx: ∀a b (k:Int) post,k=len a->Inv a (len a) b->(∀x,x.1≠ .normal->Out a x->post x)->eP H HN hk f id (hd a b k) post)
  (hg: ∀s post,g s post-> ∃a b,S.kN ns s=hd a b 0/\Inv a 0 b/\ ∀x,Out a x->post x):LN w0 f id (ae (aK f id) g):=
 LN.qg1 hX ns hdr hu hc hnr hH nJ hl (A:=A) (B:=B×Int) (fun a b=>hd a b.1 b.2) (fun a b=>0<=b.2/\b.2.toNat<=len a/\Inv a b.2.toNat b.1) (fun a b=>(len a-b.2).toNat) Out
  (by
   rintro a ⟨b,k⟩ ⟨h1,h2,h3⟩
   dsimp only at*
   have cp: ∀x:PX×S,x.1≠ .normal->Out a x->roundPost ((len a-k).toNat) (fun m s=> ∃b':B×Int,s.kN ns=hd a b'.1 b'.2/\(0<=b'.2/\b'.2.toNat<=len a/\Inv a b'.2.toNat b'.1)/\m=(len a-b'.2).toNat) (Out a) x:=by
    rintro⟨e,s⟩ dz hx
    cases e with
    |normal=>exact absurd rfl dz
    |exit i=>exact hx
    |ret=>exact hx
   by_cases hk:k<len a
   ·refine hr a b k _ h1 hk (by omega) h3 (fun b' s hs hb=> ?_) cp
    exact⟨((len a:Int)-(k+1)).toNat,by omega,(b',k+1),hs,⟨by show 0<=k+1;omega,by show(k+1).toNat<=len a;omega,by show Inv a (k+1).toNat b';rw[show(k+1).toNat=k.toNat+1 by omega];exact hb⟩,rfl⟩
   ·have e:k=len a:=by omega
    refine hx a b k _ e ?_ cp
    have:k.toNat=len a:=by omega
    rwa [this] at h3)
  (by
   intro s post hp
   obtain⟨a,b,h1,h2,h3⟩:=hg s post hp
   exact⟨a,(b,0),h1,⟨Int.le_refl _,by simp,h2⟩,h3⟩)
end Pi
namespace Pi
open Go Go.Proofs
set_option maxRecDepth 100000
set_option maxHeartbeats 0
abbrev onM (f:D->Option D) (c:Int):Obj:= .map 30 f c false
abbrev Wm (f:D->Option D) (c:Int):Obj:= .map 50 f c false
abbrev vwB (ng no na np nh nl:Nat):Obj:= .box 120 [.sl 1 0 ng,.sl 2 0 no,.mp 3 0,.sl 4 0 na,.sl 5 0 np,.mp 6 0,.sl 7 0 nh,.sl 8 0 nl]
abbrev vwR (g:List aj) (o:List ax) (f:D->Option D) (c:Int) (d:D->Option D) (n:Int) (na np nh nl:Nat) (A P H L:List D):List (Nat×En):=[(0,⟨0,some 0,vwB g.length o.length na np nh nl⟩),(1,⟨0,some 1,my false g⟩),(2,⟨0,some 2,nV false o⟩),(3,⟨0,some 3,onM f c⟩),(4,⟨0,none,.arr 50 false A⟩),(5,⟨0,none,.arr 104 false P⟩),(6,⟨0,some 6,Wm d n⟩),(7,⟨0,none,.arr 106 false H⟩),(8,⟨0,none,.arr 106 false L⟩)]
abbrev Rv (x:aj):Obj:= .box 34 [iD x.s.1,iD x.s.2,iD x.n,.d (.sl 1 (bx x.deps)),iD x.bN.1,iD x.bN.2,.d (.sl 18 (x.ops.map gM))]
abbrev qfe (o:a7):Obj:= .box 54 [iD o.kind,iD o.node.1,iD o.node.2.1,iD o.node.2.2,iD o.parent.1,iD o.parent.2.1,iD o.parent.2.2,sD o.name,.d (.bool o.dir),fE o.bT,iD o.after.1,iD o.after.2.1,iD o.after.2.2,iD o.elem.1,iD o.elem.2.1,iD o.elem.2.2,sD o.text,dx o.elems]
abbrev gaH (x:aj) (g:List aj) (o:List ax) (f:D->Option D) (c:Int) (d:D->Option D) (n:Int) (na np nh nl:Nat) (A P H L:List D) (on:Bool) (i:Int):S:=⟨117,[(0,.ref 0 0 0),(3,.ref 9 0 0),(4,.d (.bool on)),(14,.d (.sl 18 (x.ops.map gM))),(15,iD ((x.ops.map gM).length:Int)),(16,iD i)],vwR g o f c d n na np nh nl A P H L++[(9,⟨0,none,Rv x⟩)]⟩
abbrev qcu (x:aj) (y:a7) (g:List aj) (o:List ax) (f:D->Option D) (c:Int) (d:D->Option D) (n:Int) (na np nh nl:Nat) (A P H L:List D) (on:Bool) (i j:Int):S:=⟨117,[(0,.ref 0 0 0),(3,.ref 9 0 0),(4,.d (.bool on)),(6,.ref 10 0 0),(14,.d (.sl 18 (x.ops.map gM))),(15,iD ((x.ops.map gM).length:Int)),(16,iD i),(95,fE y.bT),(96,iD ((y.bT.map aX).length:Int)),(97,iD j)],vwR g o f c d n na np nh nl A P H L++[(9,⟨0,none,Rv x⟩),(10,⟨0,none,qfe y⟩)]⟩
def rI (i:Int):Nat×P:=(16,P.d (Zs i))
def gX (x:aj):Nat×P:=(15,P.d (D.int IntKind.i64 (rn x)))
def gY (x:aj):Nat×P:=(14,nk x)
def gZ (on:Bool):Nat×P:=(4,iz on)
def gT:Nat×P:=(3,P.ref 9 0 0)
def Rw (nh:Nat) (nl:Nat):List P:=[P.mp 6 0,P.sl 7 0 nh,P.sl 8 0 nl]
def AT:P:=P.mp 3 0
def AU (o:List ax):P:=P.sl 2 0 (dV o)
def ft (g:List aj) (o:List ax) (na:Nat) (np:Nat) (nh:Nat) (nl:Nat):Nat×En:=(0,En.mk 0 (some 0) (Obj.box (120:TypeId) (lN g::AU o::AT::P.sl 4 0 na::P.sl 5 0 np::Rw nh nl)))
def SN (y:a7):En:=En.mk 0 none (Obj.box (54:TypeId) (P.d (vF y)::P.d (uC y)::P.d (uB y)::P.d (uA y)::P.d (zi y)::P.d (zh y)::P.d (zf y)::P.d (D.str (a7.name y))::P.d (D.bool (a7.dir y))::P.d (kQ y)::P.d (Ay y)::P.d (Ax y)::P.d (Aw y)::P.d (D.int IntKind.i64 (vE y))::P.d (D.int IntKind.i64 (vC y))::P.d (D.int IntKind.i64 (vB y))::P.d (D.str (a7.text y))::Pa y))
def rP (x:aj) (y:a7):List (Nat×En):=[(9,jz x),(10,SN y)]
def bM (H:List D):En:=En.mk 0 none (Obj.arr (106:TypeId) false H)
def eQ (d:D->Option D) (n:Int):Nat×En:=(6,En.mk 0 (some 6) (Obj.map 50 d n false))
def De (P:List D):En:=En.mk 0 none (Obj.arr (104:TypeId) false P)
def eM (P:List D):Nat×En:=(5,De P)
def Df (A:List D):En:=En.mk 0 none (Obj.arr (50:TypeId) false A)
def eN (A:List D):Nat×En:=(4,Df A)
def dC (f:D->Option D) (c:Int):Nat×En:=(3,En.mk 0 (some 3) (Obj.map 30 f c false))
def dD (o:List ax):Nat×En:=(2,En.mk 0 (some 2) (nW o))
def dE (g:List aj):Nat×En:=(1,En.mk 0 (some 1) (Obj.arr (34:TypeId) false (cK g)))
def rQ:Nat×P:=(6,P.ref 10 0 0)
def Z9J (on:Bool) (x:aj) (i:Int) (y:a7) (j:Int):List (Nat×P):=[eO,gT,gZ on,rQ,gY x,gX x,rI i,(95,P.d (kQ y)),(96,P.d (D.int IntKind.i64 (mv y))),(97,P.d (Zm j))]
def Yo (y:a7) (j:Int):D:=D.nth (List.map aX (a7.bT y)) (Zg j)
def SO (y:a7) (j:Int):List D:=[D.agg [uC y,uB y,uA y,D.int IntKind.i64 (D.ah (D.ao (Yo y j) 0)),D.int IntKind.i64 (D.ah (D.ao (Yo y j) 1))]]
def yn (nl:Nat) (L:List D):Bool:=Nat.ble nl (List.length L)
theorem Rx (x:aj) (y:a7) (g:List aj) (o:List ax) (f:D->Option D) (c:Int) (d:D->Option D) (n:Int) (na np nh nl:Nat) (A P H L:List D) (on:Bool) (i j:Int) (post:PX×S->Prop):(bif decide (j<mv y) then bif decide ((0:Int)<=j/\j<mv y) then bif cX PR (30:TypeId) (Yo y j) then bif on then bif yn nl L&&aT (nl+List.length (SO y j)) 40 then bif Zj j then post (PX.normal,S.mk 117 (Z9J on x i y j) ((0,En.mk 0 (some 0) (Obj.box (120:TypeId) [lN g,AU o,AT,Pi.P.sl 4 0 na,Pi.P.sl 5 0 np,Pi.P.mp 6 0,Pi.P.sl 7 0 nh,Pi.P.sl 8 0 (nl+List.length (SO y j))]))::dE g::dD o::dC f c::eN A::eM P::eQ d n::(7,bM H)::(8,En.mk 0 none (Obj.arr (106:TypeId) false (List.take nl L++SO y j)))::rP x y)) else False else False else bif Zj j then post (PX.normal,S.mk 117 (Z9J on x i y j) (ft g o na np nh nl::dE g::dD o::dC f c::eN A::eM P::eQ d n::(7,bM H)::(8,bM L)::rP x y)) else False else False else False else post (PX.exit 2,S.mk 117 [eO,gT,gZ on,gY x,gX x,rI i] [ft g o na np nh nl,dE g,dD o,dC f c,eN A,eM P,eQ d n,(7,bM H),(8,bM L),(9,jz x)]))=(eP [] [] [] 95 13 (qcu x y g o f c d n na np nh nl A P H L on i j)) post:=by kernel_rfl
def Fh (y:a7):List cd:=y.bT.map fun s=>(y.node,s)
def cH (on:Bool) (y:a7) (_:Nat) (L:List D) (bq:Nat) (L':List D):Prop:=bq=L'.length/\L'=L++(if on=true then(Fh y).map kM else [])
def Ry:S->K (PX×S):=fun s post=> ∃x y g o f c d n na np nh nl A P H L on i,s.kN [4,5,7,8]=qcu x y g o f c d n na np nh nl A P H L on i 0/\(y.bT.length<=200/\nl=L.length/\nl<=100000000000)/\ ∀bq L',cH on y nl L bq L'->post (.exit 2,gaH x g o f c d n na np nh bq A P H L' on i)
def Wn (H:List D) (L:List D):List (Nat×En):=[(7,bM H),(8,bM L)]
def Za2 (x:aj) (i:Int):List D:=[D.agg [Pd x i,Pc x i,Pb x i,gb x,fO x]]
def Za5 (nh:Nat) (x:aj) (i:Int) (nl:Nat):List P:=[P.mp 6 0,P.sl 7 0 (nh+List.length (Za2 x i)),P.sl 8 0 nl]
def Zae (g:List aj) (o:List ax) (na:Nat) (np:Nat) (nh:Nat) (x:aj) (i:Int) (nl:Nat):Nat×En:=(0,En.mk 0 (some 0) (Obj.box (120:TypeId) (lN g::AU o::AT::P.sl 4 0 na::P.sl 5 0 np::Za5 nh x i nl)))
def CW (L:List D) (x:aj) (i:Int):List (Nat×En):=[(8,bM L),(9,jz x),(10,En.mk 0 none (Obj.box (54:TypeId) [P.d (D.int IntKind.i64 (D.ah (D.ao (gR x i) 0))),P.d (Pd x i),P.d (Pc x i),P.d (Pb x i),P.d (UJ x i),P.d (UI x i),P.d (UH x i),P.d (D.str (D.eT (D.ao (gR x i) 7))),P.d (D.bool (D.fI (D.ao (gR x i) 8))),P.d (D.sl 2 (D.ez (D.ao (gR x i) 9))),P.d (D.int IntKind.i64 (D.ah (D.ao (gR x i) 10))),P.d (D.int IntKind.i64 (D.ah (D.ao (gR x i) 11))),P.d (D.int IntKind.i64 (D.ah (D.ao (gR x i) 12))),P.d (D.int IntKind.i64 (D.ah (D.ao (gR x i) 13))),P.d (D.int IntKind.i64 (D.ah (D.ao (gR x i) 14))),P.d (D.int IntKind.i64 (D.ah (D.ao (gR x i) 15))),P.d (D.str (D.eT (D.ao (gR x i) 16))),P.d (D.sl 3 (D.ez (D.ao (gR x i) 17)))]))]
def Wo (x:aj) (i:Int):List D:=[D.agg [Pd x i,Pc x i,Pb x i,UJ x i,UI x i,UH x i,D.str (D.eT (D.ao (gR x i) 7)),D.bool (D.fI (D.ao (gR x i) 8))]]
def Yp (na:Nat) (x:aj) (i:Int):Nat:=na+List.length [D.agg (gb x::fO x::ZC i)]
def SP (g:List aj) (o:List ax) (na:Nat) (x:aj) (i:Int) (np:Nat) (nh:Nat) (nl:Nat):Nat×En:=(0,En.mk 0 (some 0) (Obj.box (120:TypeId) (lN g::AU o::AT::P.sl 4 0 (Yp na x i)::P.sl 5 0 (np+List.length (Wo x i))::Rw nh nl)))
def qM (y:a7) (aR:Nat) (b7:List D):Prop:=List.length (a7.bT y)<=200/\aR=List.length b7/\aR<=100000000000
def SQ (nh:Nat) (H:List D) (x:aj) (i:Int) (L:List D):List (Nat×En):=(7,En.mk 0 none (Obj.arr (106:TypeId) false (List.take nh H++Za2 x i)))::CW L x i
def JQ (x:aj) (i:Int) (d:D->Option D) (n:Int):Nat×En:=(6,En.mk 0 (some 6) (Obj.map 50 (fun(k':D)=>bif D.nD (D.agg [D.int IntKind.i64 (D.ah (D.ao (gR x i) (0+1))),D.int IntKind.i64 (D.ah (D.ao (gR x i) (0+1+1))),D.int IntKind.i64 (D.ah (D.ao (gR x i) Z5z))]) k' then some (D.bool (D.fI (D.ao (gR x i) (Z5z+1+1+1+1+1)))) else d k') (bif Option.isSome (d (D.agg [Pd x i,Pc x i,Pb x i])) then n else n+(1:Int)) false))
def JR (np:Nat) (P:List D) (x:aj) (i:Int):Nat×En:=(5,En.mk 0 none (Obj.arr (104:TypeId) false (List.take np P++Wo x i)))
def JS (na:Nat) (A:List D) (x:aj) (i:Int):Nat×En:=(4,En.mk 0 none (Obj.arr (50:TypeId) false (List.take na A++[D.agg (gb x::fO x::ZC i)])))
def Za6 (g:List aj) (o:List ax) (na:Nat) (x:aj) (i:Int) (np:Nat) (nh:Nat) (nl:Nat):Nat×En:=(0,En.mk 0 (some 0) (Obj.box (120:TypeId) (lN g::AU o::AT::P.sl 4 0 (Yp na x i)::P.sl 5 0 (np+List.length (Wo x i))::Za5 nh x i nl)))
def uM (on:Bool) (x:aj) (i:Int):List (Nat×P):=[eO,gT,gZ on,rQ,gY x,gX x,rI i,(95,P.d (D.sl 2 (D.ez (D.ao (gR x i) 9)))),(96,P.d (D.int IntKind.i64 (↑(List.length (D.ez (D.ao (gR x i) 9))):Int))),(97,P.d Z7)]
def SR (nh:Nat) (H:List D) (x:aj) (i:Int):Bool:=yn nh H&&aT (nh+List.length (Za2 x i)) 40
def SS (x:aj) (i:Int):Bool:=D.ah (D.ao (gR x i) 0) !=(2:Int)
theorem Yq (x:aj) (g:List aj) (o:List ax) (f:D->Option D) (c:Int) (d:D->Option D) (n:Int) (na np nh nl:Nat) (A P H L:List D) (on:Bool) (i:Int) (post:PX×S->Prop):(bif Jd i x then bif Hv i x then bif Hu x i then bif D.ah (D.ao (gR x i) 0)==(0:Int) then bif D.ah (D.ao (gR x i) 0)==(0:Int) then bif yn na A&&aT (Yp na x i) 24 then bif yn np P&&aT (np+List.length (Wo x i)) 72 then bif on then bif SS x i then bif SR nh H x i then∃(aM:aj) (y:a7) (aO:List aj) (aQ:List ax) (dB:D->Option D) (dL:Int) (eD:D->Option D) (cj:Int) (bf:Nat) (bg:Nat) (bh:Nat) (aR:Nat) (cY:List D) (cZ:List D) (c7:List D) (b7:List D) (aI:Bool) (aJ:Int),S.mk 117 (uM on x i) (Za6 g o na x i np nh nl::dE g::dD o::dC f c::JS na A x i::JR np P x i::JQ x i d n::SQ nh H x i L)=S.mk 117 [eO,gT,gZ aI,rQ,gY aM,gX aM,rI aJ,(95,Pi.P.d (kQ y)),(96,Pi.P.d (D.int IntKind.i64 (mv y))),(97,Pi.P.d Z7)] (ft aO aQ bf bg bh aR::dE aO::dD aQ::dC dB dL::eN cY::eM cZ::eQ eD cj::(7,bM c7)::(8,bM b7)::rP aM y)/\qM y aR b7/\ ∀(bq:Nat) (L':List D),cH aI y aR b7 bq L'->bif Zj aJ then post (PX.normal,S.mk 117 [eO,gT,gZ aI,gY aM,gX aM,(16,Pi.P.d (Zm aJ))] [ft aO aQ bf bg bh bq,dE aO,dD aQ,dC dB dL,eN cY,eM cZ,eQ eD cj,(7,bM c7),(8,bM L'),(9,jz aM)]) else False else False else∃(aM:aj) (y:a7) (aO:List aj) (aQ:List ax) (dB:D->Option D) (dL:Int) (eD:D->Option D) (cj:Int) (bf:Nat) (bg:Nat) (bh:Nat) (aR:Nat) (cY:List D) (cZ:List D) (c7:List D) (b7:List D) (aI:Bool) (aJ:Int),S.mk 117 (uM on x i) (SP g o na x i np nh nl::dE g::dD o::dC f c::JS na A x i::JR np P x i::JQ x i d n::(7,bM H)::CW L x i)=S.mk 117 [eO,gT,gZ aI,rQ,gY aM,gX aM,rI aJ,(95,Pi.P.d (kQ y)),(96,Pi.P.d (D.int IntKind.i64 (mv y))),(97,Pi.P.d Z7)] (ft aO aQ bf bg bh aR::dE aO::dD aQ::dC dB dL::eN cY::eM cZ::eQ eD cj::(7,bM c7)::(8,bM b7)::rP aM y)/\qM y aR b7/\ ∀(bq:Nat) (L':List D),cH aI y aR b7 bq L'->bif Zj aJ then post (PX.normal,S.mk 117 [eO,gT,gZ aI,gY aM,gX aM,(16,Pi.P.d (Zm aJ))] [ft aO aQ bf bg bh bq,dE aO,dD aQ,dC dB dL,eN cY,eM cZ,eQ eD cj,(7,bM c7),(8,bM L'),(9,jz aM)]) else False else∃(aM:aj) (y:a7) (aO:List aj) (aQ:List ax) (dB:D->Option D) (dL:Int) (eD:D->Option D) (cj:Int) (bf:Nat) (bg:Nat) (bh:Nat) (aR:Nat) (cY:List D) (cZ:List D) (c7:List D) (b7:List D) (aI:Bool) (aJ:Int),S.mk 117 (uM on x i) (SP g o na x i np nh nl::dE g::dD o::dC f c::JS na A x i::JR np P x i::JQ x i d n::(7,bM H)::CW L x i)=S.mk 117 [eO,gT,gZ aI,rQ,gY aM,gX aM,rI aJ,(95,Pi.P.d (kQ y)),(96,Pi.P.d (D.int IntKind.i64 (mv y))),(97,Pi.P.d Z7)] (ft aO aQ bf bg bh aR::dE aO::dD aQ::dC dB dL::eN cY::eM cZ::eQ eD cj::(7,bM c7)::(8,bM b7)::rP aM y)/\qM y aR b7/\ ∀(bq:Nat) (L':List D),cH aI y aR b7 bq L'->bif Zj aJ then post (PX.normal,S.mk 117 [eO,gT,gZ aI,gY aM,gX aM,(16,Pi.P.d (Zm aJ))] [ft aO aQ bf bg bh bq,dE aO,dD aQ,dC dB dL,eN cY,eM cZ,eQ eD cj,(7,bM c7),(8,bM L'),(9,jz aM)]) else False else False else False else bif D.ah (D.ao (gR x i) 0)==(1:Int) then bif on then bif yn na A&&aT (Yp na x i) 24 then bif yn np P&&aT (np+List.length (Wo x i)) 72 then bif on then bif SS x i then bif SR nh H x i then∃(aM:aj) (y:a7) (aO:List aj) (aQ:List ax) (dB:D->Option D) (dL:Int) (eD:D->Option D) (cj:Int) (bf:Nat) (bg:Nat) (bh:Nat) (aR:Nat) (cY:List D) (cZ:List D) (c7:List D) (b7:List D) (aI:Bool) (aJ:Int),S.mk 117 (uM on x i) (Za6 g o na x i np nh nl::dE g::dD o::dC f c::JS na A x i::JR np P x i::JQ x i d n::SQ nh H x i L)=S.mk 117 [eO,gT,gZ aI,rQ,gY aM,gX aM,rI aJ,(95,Pi.P.d (kQ y)),(96,Pi.P.d (D.int IntKind.i64 (mv y))),(97,Pi.P.d Z7)] (ft aO aQ bf bg bh aR::dE aO::dD aQ::dC dB dL::eN cY::eM cZ::eQ eD cj::(7,bM c7)::(8,bM b7)::rP aM y)/\qM y aR b7/\ ∀(bq:Nat) (L':List D),cH aI y aR b7 bq L'->bif Zj aJ then post (PX.normal,S.mk 117 [eO,gT,gZ aI,gY aM,gX aM,(16,Pi.P.d (Zm aJ))] [ft aO aQ bf bg bh bq,dE aO,dD aQ,dC dB dL,eN cY,eM cZ,eQ eD cj,(7,bM c7),(8,bM L'),(9,jz aM)]) else False else False else∃(aM:aj) (y:a7) (aO:List aj) (aQ:List ax) (dB:D->Option D) (dL:Int) (eD:D->Option D) (cj:Int) (bf:Nat) (bg:Nat) (bh:Nat) (aR:Nat) (cY:List D) (cZ:List D) (c7:List D) (b7:List D) (aI:Bool) (aJ:Int),S.mk 117 (uM on x i) (SP g o na x i np nh nl::dE g::dD o::dC f c::JS na A x i::JR np P x i::JQ x i d n::(7,bM H)::CW L x i)=S.mk 117 [eO,gT,gZ aI,rQ,gY aM,gX aM,rI aJ,(95,Pi.P.d (kQ y)),(96,Pi.P.d (D.int IntKind.i64 (mv y))),(97,Pi.P.d Z7)] (ft aO aQ bf bg bh aR::dE aO::dD aQ::dC dB dL::eN cY::eM cZ::eQ eD cj::(7,bM c7)::(8,bM b7)::rP aM y)/\qM y aR b7/\ ∀(bq:Nat) (L':List D),cH aI y aR b7 bq L'->bif Zj aJ then post (PX.normal,S.mk 117 [eO,gT,gZ aI,gY aM,gX aM,(16,Pi.P.d (Zm aJ))] [ft aO aQ bf bg bh bq,dE aO,dD aQ,dC dB dL,eN cY,eM cZ,eQ eD cj,(7,bM c7),(8,bM L'),(9,jz aM)]) else False else∃(aM:aj) (y:a7) (aO:List aj) (aQ:List ax) (dB:D->Option D) (dL:Int) (eD:D->Option D) (cj:Int) (bf:Nat) (bg:Nat) (bh:Nat) (aR:Nat) (cY:List D) (cZ:List D) (c7:List D) (b7:List D) (aI:Bool) (aJ:Int),S.mk 117 (uM on x i) (SP g o na x i np nh nl::dE g::dD o::dC f c::JS na A x i::JR np P x i::JQ x i d n::(7,bM H)::CW L x i)=S.mk 117 [eO,gT,gZ aI,rQ,gY aM,gX aM,rI aJ,(95,Pi.P.d (kQ y)),(96,Pi.P.d (D.int IntKind.i64 (mv y))),(97,Pi.P.d Z7)] (ft aO aQ bf bg bh aR::dE aO::dD aQ::dC dB dL::eN cY::eM cZ::eQ eD cj::(7,bM c7)::(8,bM b7)::rP aM y)/\qM y aR b7/\ ∀(bq:Nat) (L':List D),cH aI y aR b7 bq L'->bif Zj aJ then post (PX.normal,S.mk 117 [eO,gT,gZ aI,gY aM,gX aM,(16,Pi.P.d (Zm aJ))] [ft aO aQ bf bg bh bq,dE aO,dD aQ,dC dB dL,eN cY,eM cZ,eQ eD cj,(7,bM c7),(8,bM L'),(9,jz aM)]) else False else False else False else bif on then bif SS x i then bif SR nh H x i then∃(aM:aj) (y:a7) (aO:List aj) (aQ:List ax) (dB:D->Option D) (dL:Int) (eD:D->Option D) (cj:Int) (bf:Nat) (bg:Nat) (bh:Nat) (aR:Nat) (cY:List D) (cZ:List D) (c7:List D) (b7:List D) (aI:Bool) (aJ:Int),S.mk 117 (uM on x i) (Zae g o na np nh x i nl::dE g::dD o::dC f c::eN A::eM P::JQ x i d n::SQ nh H x i L)=S.mk 117 [eO,gT,gZ aI,rQ,gY aM,gX aM,rI aJ,(95,Pi.P.d (kQ y)),(96,Pi.P.d (D.int IntKind.i64 (mv y))),(97,Pi.P.d Z7)] (ft aO aQ bf bg bh aR::dE aO::dD aQ::dC dB dL::eN cY::eM cZ::eQ eD cj::(7,bM c7)::(8,bM b7)::rP aM y)/\qM y aR b7/\ ∀(bq:Nat) (L':List D),cH aI y aR b7 bq L'->bif Zj aJ then post (PX.normal,S.mk 117 [eO,gT,gZ aI,gY aM,gX aM,(16,Pi.P.d (Zm aJ))] [ft aO aQ bf bg bh bq,dE aO,dD aQ,dC dB dL,eN cY,eM cZ,eQ eD cj,(7,bM c7),(8,bM L'),(9,jz aM)]) else False else False else∃(aM:aj) (y:a7) (aO:List aj) (aQ:List ax) (dB:D->Option D) (dL:Int) (eD:D->Option D) (cj:Int) (bf:Nat) (bg:Nat) (bh:Nat) (aR:Nat) (cY:List D) (cZ:List D) (c7:List D) (b7:List D) (aI:Bool) (aJ:Int),S.mk 117 (uM on x i) (ft g o na np nh nl::dE g::dD o::dC f c::eN A::eM P::JQ x i d n::(7,bM H)::CW L x i)=S.mk 117 [eO,gT,gZ aI,rQ,gY aM,gX aM,rI aJ,(95,Pi.P.d (kQ y)),(96,Pi.P.d (D.int IntKind.i64 (mv y))),(97,Pi.P.d Z7)] (ft aO aQ bf bg bh aR::dE aO::dD aQ::dC dB dL::eN cY::eM cZ::eQ eD cj::(7,bM c7)::(8,bM b7)::rP aM y)/\qM y aR b7/\ ∀(bq:Nat) (L':List D),cH aI y aR b7 bq L'->bif Zj aJ then post (PX.normal,S.mk 117 [eO,gT,gZ aI,gY aM,gX aM,(16,Pi.P.d (Zm aJ))] [ft aO aQ bf bg bh bq,dE aO,dD aQ,dC dB dL,eN cY,eM cZ,eQ eD cj,(7,bM c7),(8,bM L'),(9,jz aM)]) else False else∃(aM:aj) (y:a7) (aO:List aj) (aQ:List ax) (dB:D->Option D) (dL:Int) (eD:D->Option D) (cj:Int) (bf:Nat) (bg:Nat) (bh:Nat) (aR:Nat) (cY:List D) (cZ:List D) (c7:List D) (b7:List D) (aI:Bool) (aJ:Int),S.mk 117 (uM on x i) (ft g o na np nh nl::dE g::dD o::dC f c::eN A::eM P::JQ x i d n::(7,bM H)::CW L x i)=S.mk 117 [eO,gT,gZ aI,rQ,gY aM,gX aM,rI aJ,(95,Pi.P.d (kQ y)),(96,Pi.P.d (D.int IntKind.i64 (mv y))),(97,Pi.P.d Z7)] (ft aO aQ bf bg bh aR::dE aO::dD aQ::dC dB dL::eN cY::eM cZ::eQ eD cj::(7,bM c7)::(8,bM b7)::rP aM y)/\qM y aR b7/\ ∀(bq:Nat) (L':List D),cH aI y aR b7 bq L'->bif Zj aJ then post (PX.normal,S.mk 117 [eO,gT,gZ aI,gY aM,gX aM,(16,Pi.P.d (Zm aJ))] [ft aO aQ bf bg bh bq,dE aO,dD aQ,dC dB dL,eN cY,eM cZ,eQ eD cj,(7,bM c7),(8,bM L'),(9,jz aM)]) else False else bif on then bif SS x i then bif SR nh H x i then∃(aM:aj) (y:a7) (aO:List aj) (aQ:List ax) (dB:D->Option D) (dL:Int) (eD:D->Option D) (cj:Int) (bf:Nat) (bg:Nat) (bh:Nat) (aR:Nat) (cY:List D) (cZ:List D) (c7:List D) (b7:List D) (aI:Bool) (aJ:Int),S.mk 117 (uM on x i) (Zae g o na np nh x i nl::dE g::dD o::dC f c::eN A::eM P::JQ x i d n::SQ nh H x i L)=S.mk 117 [eO,gT,gZ aI,rQ,gY aM,gX aM,rI aJ,(95,Pi.P.d (kQ y)),(96,Pi.P.d (D.int IntKind.i64 (mv y))),(97,Pi.P.d Z7)] (ft aO aQ bf bg bh aR::dE aO::dD aQ::dC dB dL::eN cY::eM cZ::eQ eD cj::(7,bM c7)::(8,bM b7)::rP aM y)/\qM y aR b7/\ ∀(bq:Nat) (L':List D),cH aI y aR b7 bq L'->bif Zj aJ then post (PX.normal,S.mk 117 [eO,gT,gZ aI,gY aM,gX aM,(16,Pi.P.d (Zm aJ))] [ft aO aQ bf bg bh bq,dE aO,dD aQ,dC dB dL,eN cY,eM cZ,eQ eD cj,(7,bM c7),(8,bM L'),(9,jz aM)]) else False else False else∃(aM:aj) (y:a7) (aO:List aj) (aQ:List ax) (dB:D->Option D) (dL:Int) (eD:D->Option D) (cj:Int) (bf:Nat) (bg:Nat) (bh:Nat) (aR:Nat) (cY:List D) (cZ:List D) (c7:List D) (b7:List D) (aI:Bool) (aJ:Int),S.mk 117 (uM on x i) (ft g o na np nh nl::dE g::dD o::dC f c::eN A::eM P::JQ x i d n::(7,bM H)::CW L x i)=S.mk 117 [eO,gT,gZ aI,rQ,gY aM,gX aM,rI aJ,(95,Pi.P.d (kQ y)),(96,Pi.P.d (D.int IntKind.i64 (mv y))),(97,Pi.P.d Z7)] (ft aO aQ bf bg bh aR::dE aO::dD aQ::dC dB dL::eN cY::eM cZ::eQ eD cj::(7,bM c7)::(8,bM b7)::rP aM y)/\qM y aR b7/\ ∀(bq:Nat) (L':List D),cH aI y aR b7 bq L'->bif Zj aJ then post (PX.normal,S.mk 117 [eO,gT,gZ aI,gY aM,gX aM,(16,Pi.P.d (Zm aJ))] [ft aO aQ bf bg bh bq,dE aO,dD aQ,dC dB dL,eN cY,eM cZ,eQ eD cj,(7,bM c7),(8,bM L'),(9,jz aM)]) else False else∃(aM:aj) (y:a7) (aO:List aj) (aQ:List ax) (dB:D->Option D) (dL:Int) (eD:D->Option D) (cj:Int) (bf:Nat) (bg:Nat) (bh:Nat) (aR:Nat) (cY:List D) (cZ:List D) (c7:List D) (b7:List D) (aI:Bool) (aJ:Int),S.mk 117 (uM on x i) (ft g o na np nh nl::dE g::dD o::dC f c::eN A::eM P::JQ x i d n::(7,bM H)::CW L x i)=S.mk 117 [eO,gT,gZ aI,rQ,gY aM,gX aM,rI aJ,(95,Pi.P.d (kQ y)),(96,Pi.P.d (D.int IntKind.i64 (mv y))),(97,Pi.P.d Z7)] (ft aO aQ bf bg bh aR::dE aO::dD aQ::dC dB dL::eN cY::eM cZ::eQ eD cj::(7,bM c7)::(8,bM b7)::rP aM y)/\qM y aR b7/\ ∀(bq:Nat) (L':List D),cH aI y aR b7 bq L'->bif Zj aJ then post (PX.normal,S.mk 117 [eO,gT,gZ aI,gY aM,gX aM,(16,Pi.P.d (Zm aJ))] [ft aO aQ bf bg bh bq,dE aO,dD aQ,dC dB dL,eN cY,eM cZ,eQ eD cj,(7,bM c7),(8,bM L'),(9,jz aM)]) else False else bif D.ah (D.ao (gR x i) 0)==(0:Int) then bif yn na A&&aT (Yp na x i) 24 then bif yn np P&&aT (np+List.length (Wo x i)) 72 then bif on then bif SS x i then bif SR nh H x i then∃(aM:aj) (y:a7) (aO:List aj) (aQ:List ax) (dB:D->Option D) (dL:Int) (eD:D->Option D) (cj:Int) (bf:Nat) (bg:Nat) (bh:Nat) (aR:Nat) (cY:List D) (cZ:List D) (c7:List D) (b7:List D) (aI:Bool) (aJ:Int),S.mk 117 (uM on x i) (Za6 g o na x i np nh nl::dE g::dD o::dC f c::JS na A x i::JR np P x i::eQ d n::SQ nh H x i L)=S.mk 117 [eO,gT,gZ aI,rQ,gY aM,gX aM,rI aJ,(95,Pi.P.d (kQ y)),(96,Pi.P.d (D.int IntKind.i64 (mv y))),(97,Pi.P.d Z7)] (ft aO aQ bf bg bh aR::dE aO::dD aQ::dC dB dL::eN cY::eM cZ::eQ eD cj::(7,bM c7)::(8,bM b7)::rP aM y)/\qM y aR b7/\ ∀(bq:Nat) (L':List D),cH aI y aR b7 bq L'->bif Zj aJ then post (PX.normal,S.mk 117 [eO,gT,gZ aI,gY aM,gX aM,(16,Pi.P.d (Zm aJ))] [ft aO aQ bf bg bh bq,dE aO,dD aQ,dC dB dL,eN cY,eM cZ,eQ eD cj,(7,bM c7),(8,bM L'),(9,jz aM)]) else False else False else∃(aM:aj) (y:a7) (aO:List aj) (aQ:List ax) (dB:D->Option D) (dL:Int) (eD:D->Option D) (cj:Int) (bf:Nat) (bg:Nat) (bh:Nat) (aR:Nat) (cY:List D) (cZ:List D) (c7:List D) (b7:List D) (aI:Bool) (aJ:Int),S.mk 117 (uM on x i) (SP g o na x i np nh nl::dE g::dD o::dC f c::JS na A x i::JR np P x i::eQ d n::(7,bM H)::CW L x i)=S.mk 117 [eO,gT,gZ aI,rQ,gY aM,gX aM,rI aJ,(95,Pi.P.d (kQ y)),(96,Pi.P.d (D.int IntKind.i64 (mv y))),(97,Pi.P.d Z7)] (ft aO aQ bf bg bh aR::dE aO::dD aQ::dC dB dL::eN cY::eM cZ::eQ eD cj::(7,bM c7)::(8,bM b7)::rP aM y)/\qM y aR b7/\ ∀(bq:Nat) (L':List D),cH aI y aR b7 bq L'->bif Zj aJ then post (PX.normal,S.mk 117 [eO,gT,gZ aI,gY aM,gX aM,(16,Pi.P.d (Zm aJ))] [ft aO aQ bf bg bh bq,dE aO,dD aQ,dC dB dL,eN cY,eM cZ,eQ eD cj,(7,bM c7),(8,bM L'),(9,jz aM)]) else False else∃(aM:aj) (y:a7) (aO:List aj) (aQ:List ax) (dB:D->Option D) (dL:Int) (eD:D->Option D) (cj:Int) (bf:Nat) (bg:Nat) (bh:Nat) (aR:Nat) (cY:List D) (cZ:List D) (c7:List D) (b7:List D) (aI:Bool) (aJ:Int),S.mk 117 (uM on x i) (SP g o na x i np nh nl::dE g::dD o::dC f c::JS na A x i::JR np P x i::eQ d n::(7,bM H)::CW L x i)=S.mk 117 [eO,gT,gZ aI,rQ,gY aM,gX aM,rI aJ,(95,Pi.P.d (kQ y)),(96,Pi.P.d (D.int IntKind.i64 (mv y))),(97,Pi.P.d Z7)] (ft aO aQ bf bg bh aR::dE aO::dD aQ::dC dB dL::eN cY::eM cZ::eQ eD cj::(7,bM c7)::(8,bM b7)::rP aM y)/\qM y aR b7/\ ∀(bq:Nat) (L':List D),cH aI y aR b7 bq L'->bif Zj aJ then post (PX.normal,S.mk 117 [eO,gT,gZ aI,gY aM,gX aM,(16,Pi.P.d (Zm aJ))] [ft aO aQ bf bg bh bq,dE aO,dD aQ,dC dB dL,eN cY,eM cZ,eQ eD cj,(7,bM c7),(8,bM L'),(9,jz aM)]) else False else False else False else bif D.ah (D.ao (gR x i) 0)==(1:Int) then bif on then bif yn na A&&aT (Yp na x i) 24 then bif yn np P&&aT (np+List.length (Wo x i)) 72 then bif on then bif SS x i then bif SR nh H x i then∃(aM:aj) (y:a7) (aO:List aj) (aQ:List ax) (dB:D->Option D) (dL:Int) (eD:D->Option D) (cj:Int) (bf:Nat) (bg:Nat) (bh:Nat) (aR:Nat) (cY:List D) (cZ:List D) (c7:List D) (b7:List D) (aI:Bool) (aJ:Int),S.mk 117 (uM on x i) (Za6 g o na x i np nh nl::dE g::dD o::dC f c::JS na A x i::JR np P x i::eQ d n::SQ nh H x i L)=S.mk 117 [eO,gT,gZ aI,rQ,gY aM,gX aM,rI aJ,(95,Pi.P.d (kQ y)),(96,Pi.P.d (D.int IntKind.i64 (mv y))),(97,Pi.P.d Z7)] (ft aO aQ bf bg bh aR::dE aO::dD aQ::dC dB dL::eN cY::eM cZ::eQ eD cj::(7,bM c7)::(8,bM b7)::rP aM y)/\qM y aR b7/\ ∀(bq:Nat) (L':List D),cH aI y aR b7 bq L'->bif Zj aJ then post (PX.normal,S.mk 117 [eO,gT,gZ aI,gY aM,gX aM,(16,Pi.P.d (Zm aJ))] [ft aO aQ bf bg bh bq,dE aO,dD aQ,dC dB dL,eN cY,eM cZ,eQ eD cj,(7,bM c7),(8,bM L'),(9,jz aM)]) else False else False else∃(aM:aj) (y:a7) (aO:List aj) (aQ:List ax) (dB:D->Option D) (dL:Int) (eD:D->Option D) (cj:Int) (bf:Nat) (bg:Nat) (bh:Nat) (aR:Nat) (cY:List D) (cZ:List D) (c7:List D) (b7:List D) (aI:Bool) (aJ:Int),S.mk 117 (uM on x i) (SP g o na x i np nh nl::dE g::dD o::dC f c::JS na A x i::JR np P x i::eQ d n::(7,bM H)::CW L x i)=S.mk 117 [eO,gT,gZ aI,rQ,gY aM,gX aM,rI aJ,(95,Pi.P.d (kQ y)),(96,Pi.P.d (D.int IntKind.i64 (mv y))),(97,Pi.P.d Z7)] (ft aO aQ bf bg bh aR::dE aO::dD aQ::dC dB dL::eN cY::eM cZ::eQ eD cj::(7,bM c7)::(8,bM b7)::rP aM y)/\qM y aR b7/\ ∀(bq:Nat) (L':List D),cH aI y aR b7 bq L'->bif Zj aJ then post (PX.normal,S.mk 117 [eO,gT,gZ aI,gY aM,gX aM,(16,Pi.P.d (Zm aJ))] [ft aO aQ bf bg bh bq,dE aO,dD aQ,dC dB dL,eN cY,eM cZ,eQ eD cj,(7,bM c7),(8,bM L'),(9,jz aM)]) else False else∃(aM:aj) (y:a7) (aO:List aj) (aQ:List ax) (dB:D->Option D) (dL:Int) (eD:D->Option D) (cj:Int) (bf:Nat) (bg:Nat) (bh:Nat) (aR:Nat) (cY:List D) (cZ:List D) (c7:List D) (b7:List D) (aI:Bool) (aJ:Int),S.mk 117 (uM on x i) (SP g o na x i np nh nl::dE g::dD o::dC f c::JS na A x i::JR np P x i::eQ d n::(7,bM H)::CW L x i)=S.mk 117 [eO,gT,gZ aI,rQ,gY aM,gX aM,rI aJ,(95,Pi.P.d (kQ y)),(96,Pi.P.d (D.int IntKind.i64 (mv y))),(97,Pi.P.d Z7)] (ft aO aQ bf bg bh aR::dE aO::dD aQ::dC dB dL::eN cY::eM cZ::eQ eD cj::(7,bM c7)::(8,bM b7)::rP aM y)/\qM y aR b7/\ ∀(bq:Nat) (L':List D),cH aI y aR b7 bq L'->bif Zj aJ then post (PX.normal,S.mk 117 [eO,gT,gZ aI,gY aM,gX aM,(16,Pi.P.d (Zm aJ))] [ft aO aQ bf bg bh bq,dE aO,dD aQ,dC dB dL,eN cY,eM cZ,eQ eD cj,(7,bM c7),(8,bM L'),(9,jz aM)]) else False else False else False else bif on then bif SS x i then bif SR nh H x i then∃(aM:aj) (y:a7) (aO:List aj) (aQ:List ax) (dB:D->Option D) (dL:Int) (eD:D->Option D) (cj:Int) (bf:Nat) (bg:Nat) (bh:Nat) (aR:Nat) (cY:List D) (cZ:List D) (c7:List D) (b7:List D) (aI:Bool) (aJ:Int),S.mk 117 (uM on x i) (Zae g o na np nh x i nl::dE g::dD o::dC f c::eN A::eM P::eQ d n::SQ nh H x i L)=S.mk 117 [eO,gT,gZ aI,rQ,gY aM,gX aM,rI aJ,(95,Pi.P.d (kQ y)),(96,Pi.P.d (D.int IntKind.i64 (mv y))),(97,Pi.P.d Z7)] (ft aO aQ bf bg bh aR::dE aO::dD aQ::dC dB dL::eN cY::eM cZ::eQ eD cj::(7,bM c7)::(8,bM b7)::rP aM y)/\qM y aR b7/\ ∀(bq:Nat) (L':List D),cH aI y aR b7 bq L'->bif Zj aJ then post (PX.normal,S.mk 117 [eO,gT,gZ aI,gY aM,gX aM,(16,Pi.P.d (Zm aJ))] [ft aO aQ bf bg bh bq,dE aO,dD aQ,dC dB dL,eN cY,eM cZ,eQ eD cj,(7,bM c7),(8,bM L'),(9,jz aM)]) else False else False else∃(aM:aj) (y:a7) (aO:List aj) (aQ:List ax) (dB:D->Option D) (dL:Int) (eD:D->Option D) (cj:Int) (bf:Nat) (bg:Nat) (bh:Nat) (aR:Nat) (cY:List D) (cZ:List D) (c7:List D) (b7:List D) (aI:Bool) (aJ:Int),S.mk 117 (uM on x i) (ft g o na np nh nl::dE g::dD o::dC f c::eN A::eM P::eQ d n::(7,bM H)::CW L x i)=S.mk 117 [eO,gT,gZ aI,rQ,gY aM,gX aM,rI aJ,(95,Pi.P.d (kQ y)),(96,Pi.P.d (D.int IntKind.i64 (mv y))),(97,Pi.P.d Z7)] (ft aO aQ bf bg bh aR::dE aO::dD aQ::dC dB dL::eN cY::eM cZ::eQ eD cj::(7,bM c7)::(8,bM b7)::rP aM y)/\qM y aR b7/\ ∀(bq:Nat) (L':List D),cH aI y aR b7 bq L'->bif Zj aJ then post (PX.normal,S.mk 117 [eO,gT,gZ aI,gY aM,gX aM,(16,Pi.P.d (Zm aJ))] [ft aO aQ bf bg bh bq,dE aO,dD aQ,dC dB dL,eN cY,eM cZ,eQ eD cj,(7,bM c7),(8,bM L'),(9,jz aM)]) else False else∃(aM:aj) (y:a7) (aO:List aj) (aQ:List ax) (dB:D->Option D) (dL:Int) (eD:D->Option D) (cj:Int) (bf:Nat) (bg:Nat) (bh:Nat) (aR:Nat) (cY:List D) (cZ:List D) (c7:List D) (b7:List D) (aI:Bool) (aJ:Int),S.mk 117 (uM on x i) (ft g o na np nh nl::dE g::dD o::dC f c::eN A::eM P::eQ d n::(7,bM H)::CW L x i)=S.mk 117 [eO,gT,gZ aI,rQ,gY aM,gX aM,rI aJ,(95,Pi.P.d (kQ y)),(96,Pi.P.d (D.int IntKind.i64 (mv y))),(97,Pi.P.d Z7)] (ft aO aQ bf bg bh aR::dE aO::dD aQ::dC dB dL::eN cY::eM cZ::eQ eD cj::(7,bM c7)::(8,bM b7)::rP aM y)/\qM y aR b7/\ ∀(bq:Nat) (L':List D),cH aI y aR b7 bq L'->bif Zj aJ then post (PX.normal,S.mk 117 [eO,gT,gZ aI,gY aM,gX aM,(16,Pi.P.d (Zm aJ))] [ft aO aQ bf bg bh bq,dE aO,dD aQ,dC dB dL,eN cY,eM cZ,eQ eD cj,(7,bM c7),(8,bM L'),(9,jz aM)]) else False else bif on then bif SS x i then bif SR nh H x i then∃(aM:aj) (y:a7) (aO:List aj) (aQ:List ax) (dB:D->Option D) (dL:Int) (eD:D->Option D) (cj:Int) (bf:Nat) (bg:Nat) (bh:Nat) (aR:Nat) (cY:List D) (cZ:List D) (c7:List D) (b7:List D) (aI:Bool) (aJ:Int),S.mk 117 (uM on x i) (Zae g o na np nh x i nl::dE g::dD o::dC f c::eN A::eM P::eQ d n::SQ nh H x i L)=S.mk 117 [eO,gT,gZ aI,rQ,gY aM,gX aM,rI aJ,(95,Pi.P.d (kQ y)),(96,Pi.P.d (D.int IntKind.i64 (mv y))),(97,Pi.P.d Z7)] (ft aO aQ bf bg bh aR::dE aO::dD aQ::dC dB dL::eN cY::eM cZ::eQ eD cj::(7,bM c7)::(8,bM b7)::rP aM y)/\qM y aR b7/\ ∀(bq:Nat) (L':List D),cH aI y aR b7 bq L'->bif Zj aJ then post (PX.normal,S.mk 117 [eO,gT,gZ aI,gY aM,gX aM,(16,Pi.P.d (Zm aJ))] [ft aO aQ bf bg bh bq,dE aO,dD aQ,dC dB dL,eN cY,eM cZ,eQ eD cj,(7,bM c7),(8,bM L'),(9,jz aM)]) else False else False else∃(aM:aj) (y:a7) (aO:List aj) (aQ:List ax) (dB:D->Option D) (dL:Int) (eD:D->Option D) (cj:Int) (bf:Nat) (bg:Nat) (bh:Nat) (aR:Nat) (cY:List D) (cZ:List D) (c7:List D) (b7:List D) (aI:Bool) (aJ:Int),S.mk 117 (uM on x i) (ft g o na np nh nl::dE g::dD o::dC f c::eN A::eM P::eQ d n::(7,bM H)::CW L x i)=S.mk 117 [eO,gT,gZ aI,rQ,gY aM,gX aM,rI aJ,(95,Pi.P.d (kQ y)),(96,Pi.P.d (D.int IntKind.i64 (mv y))),(97,Pi.P.d Z7)] (ft aO aQ bf bg bh aR::dE aO::dD aQ::dC dB dL::eN cY::eM cZ::eQ eD cj::(7,bM c7)::(8,bM b7)::rP aM y)/\qM y aR b7/\ ∀(bq:Nat) (L':List D),cH aI y aR b7 bq L'->bif Zj aJ then post (PX.normal,S.mk 117 [eO,gT,gZ aI,gY aM,gX aM,(16,Pi.P.d (Zm aJ))] [ft aO aQ bf bg bh bq,dE aO,dD aQ,dC dB dL,eN cY,eM cZ,eQ eD cj,(7,bM c7),(8,bM L'),(9,jz aM)]) else False else∃(aM:aj) (y:a7) (aO:List aj) (aQ:List ax) (dB:D->Option D) (dL:Int) (eD:D->Option D) (cj:Int) (bf:Nat) (bg:Nat) (bh:Nat) (aR:Nat) (cY:List D) (cZ:List D) (c7:List D) (b7:List D) (aI:Bool) (aJ:Int),S.mk 117 (uM on x i) (ft g o na np nh nl::dE g::dD o::dC f c::eN A::eM P::eQ d n::(7,bM H)::CW L x i)=S.mk 117 [eO,gT,gZ aI,rQ,gY aM,gX aM,rI aJ,(95,Pi.P.d (kQ y)),(96,Pi.P.d (D.int IntKind.i64 (mv y))),(97,Pi.P.d Z7)] (ft aO aQ bf bg bh aR::dE aO::dD aQ::dC dB dL::eN cY::eM cZ::eQ eD cj::(7,bM c7)::(8,bM b7)::rP aM y)/\qM y aR b7/\ ∀(bq:Nat) (L':List D),cH aI y aR b7 bq L'->bif Zj aJ then post (PX.normal,S.mk 117 [eO,gT,gZ aI,gY aM,gX aM,(16,Pi.P.d (Zm aJ))] [ft aO aQ bf bg bh bq,dE aO,dD aQ,dC dB dL,eN cY,eM cZ,eQ eD cj,(7,bM c7),(8,bM L'),(9,jz aM)]) else False else False else False else post (PX.exit 0,S.mk 117 [eO] (ft g o na np nh nl::dE g::dD o::dC f c::eN A::eM P::eQ d n::Wn H L)))=(eP [] [] [(13,ae (aK 95 13) Ry)] 95 3 (gaH x g o f c d n na np nh nl A P H L on i)) post:=by kernel_rfl
def qg (e:aC->Option Bool) (y:a7):aC->Option Bool:=fun z=>if y.kind=0/\y.node=z then some y.dir else e z
def kX (d:D->Option D) (e:aC->Option Bool):Prop:= ∀z:aC,d (bH z)=(e z).map D.bool
structure qN (t:Tl) (na np nh nl:Nat) (A P H L:List D):Prop where
 na:na=t.a.length
 np:np=t.p.length
 nh:nh=t.h.length
 nl:nl=t.g.length
 a:A=t.a.map bH
 p:P=t.p.map bI
 h:H=t.h.map kM
 l:L=t.g.map kM
abbrev gaE (g:List aj) (o:List ax) (f:D->Option D) (c:Int) (d:D->Option D) (n:Int) (na np nh nl:Nat) (A P H L:List D):S:=⟨117,[(0,.ref 0 0 0)],vwR g o f c d n na np nh nl A P H L⟩
def qcv:S->K (PX×S):=fun s post=> ∃x g o f c d n na np nh nl A P H L on t N e,s.kN [4,5,7,8]=gaH x g o f c d n na np nh nl A P H L on 0/\(qN t na np nh nl A P H L/\kX d e/\tJ N t/\N<=300000000/\x.ops.length<=200/\ ∀y∈x.ops,y.bT.length<=200)/\
 ∀d' n' nX nY nZ bq A' P' H' L',qN (FJ on x.s x.ops t) nX nY nZ bq A' P' H' L'->kX d' (x.ops.foldl qg e)->post (.exit 0,gaE g o f c d' n' nX nY nZ bq A' P' H' L')
abbrev qff (g:List aj) (o:List ax) (f:D->Option D) (c:Int) (d:D->Option D) (n:Int) (na np nh nl:Nat) (A P H L:List D):List (Nat×En):=[(0,⟨0,some 0,vwB g.length o.length na np nh nl⟩),(1,⟨0,some 1,my false g⟩),(2,⟨0,some 2,nV false o⟩),(3,⟨0,some 3,onM f c⟩),(4,⟨0,some 4,.arr 50 false A⟩),(5,⟨0,some 5,.arr 104 false P⟩),(6,⟨0,some 6,Wm d n⟩),(7,⟨0,some 7,.arr 106 false H⟩),(8,⟨0,some 8,.arr 106 false L⟩)]
def Zag (x:aj):List (Nat×P):=[gY x,gX x,(16,P.d Z7)]
theorem qg2 (x:aj) (g:List aj) (o:List ax) (f:D->Option D) (c:Int) (d:D->Option D) (n:Int) (na np nh nl:Nat) (A P H L:List D) (post:Pi.P×List (Nat×En)->Prop):(bif cX PR (167:TypeId) (cm (f (D.agg [gb x,fO x])) (D.agg [])) then∃(aM:aj) (aO:List aj) (aQ:List ax) (dB:D->Option D) (dL:Int) (eD:D->Option D) (cj:Int) (bf:Nat) (bg:Nat) (bh:Nat) (aR:Nat) (cY:List D) (cZ:List D) (c7:List D) (b7:List D) (on:Bool) (t:Tl) (N:Nat) (e:aC->Option Bool),S.mk 117 (eO::gT::(4,Pi.P.d (D.bool (Option.isSome (f (D.agg [gb x,fO x])))))::Zag x) [ft g o na np nh nl,dE g,dD o,dC f c,eN A,eM P,eQ d n,(7,bM H),(8,bM L),(9,jz x)]=S.mk 117 (eO::gT::gZ on::Zag aM) [ft aO aQ bf bg bh aR,dE aO,dD aQ,dC dB dL,eN cY,eM cZ,eQ eD cj,(7,bM c7),(8,bM b7),(9,jz aM)]/\(qN t bf bg bh aR cY cZ c7 b7/\kX eD e/\tJ N t/\N<=300000000/\Ss aM/\ ∀(y:a7),y∈aj.ops aM->List.length (a7.bT y)<=200)/\ ∀(d':D->Option D) (n':Int) (nX nY nZ bq:Nat) (A' P' H' L':List D),qN (FJ on (aj.s aM) (aj.ops aM) t) nX nY nZ bq A' P' H' L'->kX d' (List.foldl qg e (aj.ops aM))->post (Pi.P.da [],(0,En.mk 0 (some 0) (Obj.box (120:TypeId) [lN aO,AU aQ,AT,Pi.P.sl 5 0 nX,Pi.P.sl 6 0 nY,Pi.P.mp 4 0,Pi.P.sl 7 0 nZ,Pi.P.sl 8 0 bq]))::dE aO::dD aQ::dC dB dL::(4,En.mk 0 (some 6) (Obj.map 50 d' n' false))::(5,Df A')::(6,De P')::Wn H' L') else False)=(rv [] [] [(3,ae (aK 95 3) qcv)] 95 [.ref 0 0 0,.d (aP x)] (qff g o f c d n na np nh nl A P H L)) post:=by kernel_rfl
end Pi
namespace Pi
open Go Go.Proofs
set_option maxRecDepth 100000
theorem eR {n m b:Nat} {l:List D} {z:D} (h:n=m) (hl:l.length=m) (hb:m<=1000000000000) (hz:b<=100):(Nat.ble n l.length&&aT (n+List.length [z]) b)=true:=by
 rw[Bool.and_eq_true]
 refine⟨by rw[Nat.ble_eq];omega,jF (Nat.le_trans (Nat.mul_le_mul (by simp only[List.length_cons,List.length_nil];omega:n+List.length [z]<=1000000000001) hz) (by omega)) (by simp only[List.length_cons,List.length_nil];omega)⟩
theorem qN.go {t:Tl} {na np nh nl:Nat} {A P H L:List D} (h:qN t na np nh nl A P H L) {on:Bool} {s:ax} {y:a7} {k:Nat} {i:Int} (hi:(k:Int)=i) {bq:Nat} {L':List D} (hg:cH on y nl L bq L'):
  (fA on y=true->fS on y=true->qN (VO on s t y k) (na+1) (np+1) (nh+1) bq (List.take na A++[bH (s.1,s.2,i)]) (List.take np P++[bI (rE y)]) (List.take nh H++[kM (y.node,s)]) L')/\
  (fA on y=true->fS on y=false->qN (VO on s t y k) (na+1) (np+1) nh bq (List.take na A++[bH (s.1,s.2,i)]) (List.take np P++[bI (rE y)]) H L')/\
  (fA on y=false->fS on y=true->qN (VO on s t y k) na np (nh+1) bq A P (List.take nh H++[kM (y.node,s)]) L')/\
  (fA on y=false->fS on y=false->qN (VO on s t y k) na np nh bq A P H L'):=by
 obtain⟨rfl,rfl,rfl,rfl,rfl,rfl,rfl,rfl⟩:=h
 obtain⟨rfl,rfl⟩:=hg
 subst hi
 have hl:t.g.map kM++(if on=true then(Fh y).map kM else [])=(if on=true then t.g++y.bT.map (fun d=>(y.node,d)) else t.g).map kM:=by
  cases on
  ·simp
  ·simp[Fh]
 have t1:List.take t.a.length (t.a.map bH)=t.a.map bH:=List.take_of_length_le (by simp)
 have t2:List.take t.p.length (t.p.map bI)=t.p.map bI:=List.take_of_length_le (by simp)
 have t3:List.take t.h.length (t.h.map kM)=t.h.map kM:=List.take_of_length_le (by simp)
 rw[t1,t2,t3,hl]
 refine⟨fun h1 h2=> ?_,fun h1 h2=> ?_,fun h1 h2=> ?_,fun h1 h2=> ?_⟩<;>(unfold VO;rw[h1,h2];constructor<;>simp)
theorem qcw (a b:aC):D.nD (bH a) (bH b)=(a==b):=by
 rw[Bool.eq_iff_iff,D.gA,beq_iff_eq]
 exact⟨X3,fun h=>by rw[h]⟩
theorem kX.mk {d:D->Option D} {e:aC->Option Bool} (h:kX d e) {y:a7} (hk:y.kind=0):kX (fun k'=>bif D.nD (bH y.node) k' then some (.bool y.dir) else d k') (qg e y):=fun z=>by
 unfold qg
 show(bif D.nD (bH y.node) (bH z) then some (D.bool y.dir) else d (bH z))=_
 rw[qcw,h z]
 by_cases hz:y.node=z
 ·rw[if_pos ⟨hk,hz⟩,show(y.node==z)=true by simpa using hz]
  rfl
 ·rw[if_neg (fun hh=>hz hh.2),show(y.node==z)=false by simpa using hz]
  rfl
theorem kX.no {d:D->Option D} {e:aC->Option Bool} (h:kX d e) {y:a7} (hk: ¬y.kind=0):kX d (qg e y):=fun z=>by
 unfold qg
 rw[h z,if_neg (fun hh=>hk hh.1)]
structure GaP where
 x:aj
 y:a7
 g:List aj
 o:List ax
 f:D->Option D
 c:Int
 d:D->Option D
 n:Int
 na:Nat
 np:Nat
 nh:Nat
 A:List D
 P:List D
 H:List D
 on:Bool
 i:Int
 L:List D
abbrev GaB:=(D->Option D)×Int×Nat×Nat×Nat×Nat×List D×List D×List D×List D
structure GaQ where
 x:aj
 g:List aj
 o:List ax
 f:D->Option D
 c:Int
 on:Bool
 t:Tl
 N:Nat
 e:aC->Option Bool
section
variable {X:XF} {w0:World} (hX:db PR w0 X.cf)
include hX
theorem qcx:LN w0 95 13 (ae (aK 95 13) Ry):=LN.qfd hX [4,5,7,8] (H:=[]) (HN:=[]) (hk:=[]) C7 (by kernel_rfl) (by kernel_rfl) (by kernel_rfl) .nil .nil .nil
 (A:=GaP) (B:=Nat×List D) (fun a b j=>qcu a.x a.y a.g a.o a.f a.c a.d a.n a.na a.np a.nh b.1 a.A a.P a.H b.2 a.on a.i j) (fun a=>a.y.bT.length)
 (fun a k b=>(a.y.bT.length<=200/\a.L.length<=100000000000)/\b.1=b.2.length/\b.2=a.L++(if a.on=true then(a.y.bT.take k).map (fun s=>kM (a.y.node,s)) else []))
 (fun a x=> ∃bq L',cH a.on a.y a.L.length a.L bq L'/\x=(.exit 2,gaH a.x a.g a.o a.f a.c a.d a.n a.na a.np a.nh bq a.A a.P a.H L' a.on a.i))
 (by
  rintro a ⟨nl,L⟩ j post h0 Fv FG ⟨⟨hd,hL⟩,oD,HY⟩ hn ho
  dsimp only at*
  (rw[<-Rx];delta nk ia ib lC ob ic fO ie gb jz Zs rI rn gX gY iz gZ gT bQ eO Rw AT dV AU dm lN ft Pa vB vC vE zb Aw zd Ax Ay kQ ze zf zg zh zi uA uB uC vF SN rP bM eQ De eM Df eN dC nW dD cK dE Zm mv rQ Z9J Za Z9 Zj Zg Yo SO yn)
  have e1:D.nth (a.y.bT.map aX) j.toNat=aX a.y.bT[j.toNat]:=ay _ _ _ FG
  have vM:(a.y.bT.take (j.toNat+1))=a.y.bT.take j.toNat++[a.y.bT[j.toNat]]:=List.take_succ_eq_append_getElem FG
  rw[e1]
  generalize a.y.bT[j.toNat]=z at*
  have hLl:L.length<=a.L.length+200:=by
   rw[HY,List.length_append]
   split
   ·rw[List.length_map,List.length_take];omega
   ·simp
  have IF:j<((a.y.bT.map aX).length:Int):=by rw[List.length_map];exact Fv
  refine bV IF (ak ⟨h0,IF⟩ (aq (l7 _) (aw (fun Lz=>aq (eR oD rfl (by omega) (by decide)) (ak (by omega) (hn (nl+1,List.take nl L++[kM (a.y.node,z)]) _ rfl ⟨⟨hd,hL⟩,?_,?_⟩))) fun qcy=>ak (by omega) (hn (nl,L) _ rfl ⟨⟨hd,hL⟩,oD,?_⟩))))
  ·simp[oD]
  ·rw[Lz,if_pos rfl] at HY⊢
   rw[vM,oD,List.take_length,HY,List.map_append,List.append_assoc]
   rfl
  ·rw[qcy] at HY⊢
   simpa using HY)
 (by
  rintro a ⟨nl,L⟩ j post hj ⟨⟨hd,hL⟩,oD,HY⟩ ho
  dsimp only at*
  (rw[<-Rx];delta nk ia ib lC ob ic fO ie gb jz Zs rI rn gX gY iz gZ gT bQ eO Rw AT dV AU dm lN ft Pa vB vC vE zb Aw zd Ax Ay kQ ze zf zg zh zi uA uB uC vF SN rP bM eQ De eM Df eN dC nW dD cK dE Zm mv rQ Z9J Za Z9 Zj Zg Yo SO yn)
  refine nv (by simp only[List.length_map];omega) (ho _ (fun h=>by cases h) ⟨nl,L,⟨oD,?_⟩,rfl⟩)
  rw[HY,List.take_length]
  cases a.on
  ·rfl
  ·simp[Fh,Function.comp_def])
 (by
  rintro s post ⟨x,y,g,o,f,c,d,n,na,np,nh,nl,A,P,H,L,on,i,hs,⟨h1,h2,h3⟩,hp⟩
  refine⟨⟨x,y,g,o,f,c,d,n,na,np,nh,A,P,H,on,i,L⟩,(nl,L),hs,⟨⟨h1,by rw[<-h2];exact h3⟩,h2,by simp⟩,?_⟩
  rintro z ⟨bq,L',hg,rfl⟩
  exact hp bq L' ⟨hg.1,hg.2⟩)
theorem qfg:LN w0 95 3 (ae (aK 95 3) qcv):=LN.qfd hX [4,5,7,8] (H:=[]) (HN:=[]) (hk:=[(13,ae (aK 95 13) Ry)]) C7 (by kernel_rfl) (by kernel_rfl) (by kernel_rfl) .nil .nil (.cons (qcx hX) .nil)
 (A:=GaQ) (B:=GaB) (fun a b i=>gaH a.x a.g a.o a.f a.c b.1 b.2.1 b.2.2.1 b.2.2.2.1 b.2.2.2.2.1 b.2.2.2.2.2.1 b.2.2.2.2.2.2.1 b.2.2.2.2.2.2.2.1 b.2.2.2.2.2.2.2.2.1 b.2.2.2.2.2.2.2.2.2 a.on i) (fun a=>a.x.ops.length)
 (fun a k b=>(tJ a.N a.t/\a.N<=300000000/\a.x.ops.length<=200/\ ∀y∈a.x.ops,y.bT.length<=200)/\qN (FJ a.on a.x.s (a.x.ops.take k) a.t) b.2.2.1 b.2.2.2.1 b.2.2.2.2.1 b.2.2.2.2.2.1 b.2.2.2.2.2.2.1 b.2.2.2.2.2.2.2.1 b.2.2.2.2.2.2.2.2.1 b.2.2.2.2.2.2.2.2.2/\kX b.1 ((a.x.ops.take k).foldl qg a.e))
 (fun a x=> ∃d' n' nX nY nZ bq A' P' H' L',qN (FJ a.on a.x.s a.x.ops a.t) nX nY nZ bq A' P' H' L'/\kX d' (a.x.ops.foldl qg a.e)/\x=(.exit 0,gaE a.g a.o a.f a.c d' n' nX nY nZ bq A' P' H' L'))
 (by
  rintro⟨x,g,o,f,c,on,t,N,e⟩ ⟨d,n,na,np,nh,nl,A,P,H,L⟩ i post h0 bS bc ⟨hc,hR,hD⟩ hn ho
  dsimp only at*
  (rw[<-Yq];delta bM Wn ic fO ie gb Zg gR Pb Pc Pd Za2 Za5 AT dV AU dm lN Zae UH UI UJ nk ia ib lC ob jz CW Rw Wo Zs ZC Yp SP Zm Za Z9 Zj qM Pa vB vC vE zb Aw zd Ax Ay kQ ze zf zg zh zi uA uB uC vF SN rP eQ De eM Df eN ft Z7 mv rI rn gX gY rQ iz gZ gT bQ eO SQ Z5z JQ JR JS dC nW dD cK dE Za6 uM yn SR SS Hu Hv Jd)
  have jK:=(hc.1.ops (on:=on) (s:=x.s) hc.2.2.2 i.toNat (by omega)).mono (m:=300000200) (by omega)
  have e1:D.nth (x.ops.map gM) i.toNat=gM x.ops[i.toNat]:=ay _ _ _ bc
  have kK:=yg (on:=on) (s:=x.s) (t:=t) bc
  have L4:(x.ops.take (i.toNat+1)).foldl qg e=qg ((x.ops.take i.toNat).foldl qg e) x.ops[i.toNat]:=by rw[List.take_succ_eq_append_getElem bc,List.foldl_append];rfl
  have gQ:=hc.2.2.2 _ (List.getElem_mem bc)
  have Og:((i.toNat:Nat):Int)=i:=by omega
  rw[e1]
  generalize x.ops[i.toNat]=y at kK L4 gQ⊢
  generalize FJ on x.s (x.ops.take i.toNat) t=t1 at kK hR jK
  generalize (x.ops.take i.toNat).foldl qg e=e2 at L4 hD
  have u0:D.ah (D.ao (gM y) 0)=y.kind:=rfl
  have tQ:=Lg y
  simp only[u0]
  have n5:i<((x.ops.map gM).length:Int):=by rw[List.length_map];exact bS
  refine bV n5 (ak ⟨h0,n5⟩ (aq tQ ?_))
  clear e1 tQ
  by_cases fJ:y.kind=0
  ·rw[show(y.kind==0)=true by simp[fJ],show(y.kind==1)=false by simp[fJ],show(y.kind !=2)=true by simp[fJ]]
   cases on with
   |true=>
    simp only[cond_true,cond_false]
    exact aq (eR hR.na (by rw[hR.a,List.length_map]) (by have:=jK.2.1;omega) (by decide)) (aq (eR hR.np (by rw[hR.p,List.length_map]) (by have:=jK.1;have:=jK.2.1;omega) (by decide)) (aq (eR hR.nh (by rw[hR.h,List.length_map]) (by have:=jK.2.2.1;omega) (by decide)) (⟨x,y,g,o,f,c,(fun k'=>bif D.nD (bH y.node) k' then some (.bool y.dir) else d k'),(bif (d (bH y.node)).isSome then n else n+1),na+1,np+1,nh+1,nl,List.take na A++[bH (x.s.1,x.s.2,i)],List.take np P++[bI (rE y)],List.take nh H++[kM (y.node,x.s)],L,true,i,rfl,⟨gQ,hR.nl.trans (by rw[hR.l,List.length_map]),by have:=hR.nl;have:=jK.2.2.2;omega⟩,fun bq L' lL=>ak (by omega) (hn ((fun k'=>bif D.nD (bH y.node) k' then some (.bool y.dir) else d k'),(bif (d (bH y.node)).isSome then n else n+1),na+1,np+1,nh+1,bq,List.take na A++[bH (x.s.1,x.s.2,i)],List.take np P++[bI (rE y)],List.take nh H++[kM (y.node,x.s)],L') _ rfl ⟨hc,by rw[kK];exact(hR.go Og lL).1 (by simp[fA,fJ]) (by simp[fS,fJ]),by rw[L4];exact hD.mk fJ⟩)⟩)))
   |false=>
    simp only[cond_true,cond_false]
    exact aq (eR hR.na (by rw[hR.a,List.length_map]) (by have:=jK.2.1;omega) (by decide)) (aq (eR hR.np (by rw[hR.p,List.length_map]) (by have:=jK.1;have:=jK.2.1;omega) (by decide)) (⟨x,y,g,o,f,c,(fun k'=>bif D.nD (bH y.node) k' then some (.bool y.dir) else d k'),(bif (d (bH y.node)).isSome then n else n+1),na+1,np+1,nh,nl,List.take na A++[bH (x.s.1,x.s.2,i)],List.take np P++[bI (rE y)],H,L,false,i,rfl,⟨gQ,hR.nl.trans (by rw[hR.l,List.length_map]),by have:=hR.nl;have:=jK.2.2.2;omega⟩,fun bq L' lL=>ak (by omega) (hn ((fun k'=>bif D.nD (bH y.node) k' then some (.bool y.dir) else d k'),(bif (d (bH y.node)).isSome then n else n+1),na+1,np+1,nh,bq,List.take na A++[bH (x.s.1,x.s.2,i)],List.take np P++[bI (rE y)],H,L') _ rfl ⟨hc,by rw[kK];exact(hR.go Og lL).2.1 (by simp[fA,fJ]) (by simp[fS,fJ]),by rw[L4];exact hD.mk fJ⟩)⟩))
  ·by_cases gh:y.kind=1
   ·rw[show(y.kind==0)=false by simp[fJ],show(y.kind==1)=true by simp[gh],show(y.kind !=2)=true by simp[gh]]
    cases on with
    |true=>
     simp only[cond_true,cond_false]
     exact aq (eR hR.na (by rw[hR.a,List.length_map]) (by have:=jK.2.1;omega) (by decide)) (aq (eR hR.np (by rw[hR.p,List.length_map]) (by have:=jK.1;have:=jK.2.1;omega) (by decide)) (aq (eR hR.nh (by rw[hR.h,List.length_map]) (by have:=jK.2.2.1;omega) (by decide)) (⟨x,y,g,o,f,c,d,n,na+1,np+1,nh+1,nl,List.take na A++[bH (x.s.1,x.s.2,i)],List.take np P++[bI (rE y)],List.take nh H++[kM (y.node,x.s)],L,true,i,rfl,⟨gQ,hR.nl.trans (by rw[hR.l,List.length_map]),by have:=hR.nl;have:=jK.2.2.2;omega⟩,fun bq L' lL=>ak (by omega) (hn (d,n,na+1,np+1,nh+1,bq,List.take na A++[bH (x.s.1,x.s.2,i)],List.take np P++[bI (rE y)],List.take nh H++[kM (y.node,x.s)],L') _ rfl ⟨hc,by rw[kK];exact(hR.go Og lL).1 (by simp[fA,gh]) (by simp[fS,gh]),by rw[L4];exact hD.no fJ⟩)⟩)))
    |false=>
     simp only[cond_true,cond_false]
     exact⟨x,y,g,o,f,c,d,n,na,np,nh,nl,A,P,H,L,false,i,rfl,⟨gQ,hR.nl.trans (by rw[hR.l,List.length_map]),by have:=hR.nl;have:=jK.2.2.2;omega⟩,fun bq L' lL=>ak (by omega) (hn (d,n,na,np,nh,bq,A,P,H,L') _ rfl ⟨hc,by rw[kK];exact(hR.go Og lL).2.2.2 (by simp[fA,gh]) (by simp[fS,gh]),by rw[L4];exact hD.no fJ⟩)⟩
   ·by_cases qX:y.kind=2
    ·rw[show(y.kind==0)=false by simp[fJ],show(y.kind==1)=false by simp[gh],show(y.kind !=2)=false by simp[qX]]
     cases on with
     |true=>
      simp only[cond_false]
      exact⟨x,y,g,o,f,c,d,n,na,np,nh,nl,A,P,H,L,true,i,rfl,⟨gQ,hR.nl.trans (by rw[hR.l,List.length_map]),by have:=hR.nl;have:=jK.2.2.2;omega⟩,fun bq L' lL=>ak (by omega) (hn (d,n,na,np,nh,bq,A,P,H,L') _ rfl ⟨hc,by rw[kK];exact(hR.go Og lL).2.2.2 (by simp[fA,qX]) (by simp[fS,qX]),by rw[L4];exact hD.no fJ⟩)⟩
     |false=>
      simp only[cond_false]
      exact⟨x,y,g,o,f,c,d,n,na,np,nh,nl,A,P,H,L,false,i,rfl,⟨gQ,hR.nl.trans (by rw[hR.l,List.length_map]),by have:=hR.nl;have:=jK.2.2.2;omega⟩,fun bq L' lL=>ak (by omega) (hn (d,n,na,np,nh,bq,A,P,H,L') _ rfl ⟨hc,by rw[kK];exact(hR.go Og lL).2.2.2 (by simp[fA,qX]) (by simp[fS,qX]),by rw[L4];exact hD.no fJ⟩)⟩
    ·rw[show(y.kind==0)=false by simp[fJ],show(y.kind==1)=false by simp[gh],show(y.kind !=2)=true by simp[qX]]
     cases on with
     |true=>
      simp only[cond_false]
      exact aq (eR hR.nh (by rw[hR.h,List.length_map]) (by have:=jK.2.2.1;omega) (by decide)) (⟨x,y,g,o,f,c,d,n,na,np,nh+1,nl,A,P,List.take nh H++[kM (y.node,x.s)],L,true,i,rfl,⟨gQ,hR.nl.trans (by rw[hR.l,List.length_map]),by have:=hR.nl;have:=jK.2.2.2;omega⟩,fun bq L' lL=>ak (by omega) (hn (d,n,na,np,nh+1,bq,A,P,List.take nh H++[kM (y.node,x.s)],L') _ rfl ⟨hc,by rw[kK];exact(hR.go Og lL).2.2.1 (by simp[fA,fJ,gh]) (by simp[fS,qX]),by rw[L4];exact hD.no fJ⟩)⟩)
     |false=>
      simp only[cond_false]
      exact⟨x,y,g,o,f,c,d,n,na,np,nh,nl,A,P,H,L,false,i,rfl,⟨gQ,hR.nl.trans (by rw[hR.l,List.length_map]),by have:=hR.nl;have:=jK.2.2.2;omega⟩,fun bq L' lL=>ak (by omega) (hn (d,n,na,np,nh,bq,A,P,H,L') _ rfl ⟨hc,by rw[kK];exact(hR.go Og lL).2.2.2 (by simp[fA,fJ]) (by simp[fS]),by rw[L4];exact hD.no fJ⟩)⟩)
 (by
  rintro⟨x,g,o,f,c,on,t,N,e⟩ ⟨d,n,na,np,nh,nl,A,P,H,L⟩ i post hi ⟨hc,hR,hD⟩ ho
  dsimp only at*
  (rw[<-Yq];delta bM Wn ic fO ie gb Zg gR Pb Pc Pd Za2 Za5 AT dV AU dm lN Zae UH UI UJ nk ia ib lC ob jz CW Rw Wo Zs ZC Yp SP Zm Za Z9 Zj qM Pa vB vC vE zb Aw zd Ax Ay kQ ze zf zg zh zi uA uB uC vF SN rP eQ De eM Df eN ft Z7 mv rI rn gX gY rQ iz gZ gT bQ eO SQ Z5z JQ JR JS dC nW dD cK dE Za6 uM yn SR SS Hu Hv Jd)
  rw[List.take_length] at hR hD
  exact nv (by simp only[List.length_map];omega) (ho _ (fun h=>by cases h) ⟨d,n,na,np,nh,nl,A,P,H,L,hR,hD,rfl⟩))
 (by
  rintro s post ⟨x,g,o,f,c,d,n,na,np,nh,nl,A,P,H,L,on,t,N,e,hs,⟨h1,h2,h3⟩,hp⟩
  refine⟨⟨x,g,o,f,c,on,t,N,e⟩,(d,n,na,np,nh,nl,A,P,H,L),hs,⟨h3,h1,h2⟩,?_⟩
  rintro z ⟨d',n',nX,nY,nZ,bq,A',P',H',L',g1,g2,rfl⟩
  exact hp d' n' nX nY nZ bq A' P' H' L' g1 g2)
end
end Pi
namespace Pi
open Go Go.Proofs
set_option maxRecDepth 100000
set_option maxHeartbeats 0
def Fj (f:D->Option D) (o:List ax):Prop:= ∀s:ax,f (aX s)=if s∈o then some (.agg []) else none
abbrev vwG (g:List aj) (o:List ax) (f:D->Option D) (c:Int) (d:D->Option D) (n:Int) (na np nh nl:Nat) (A P H L:List D):List (Nat×En):=[(0,⟨0,some 0,.box 120 [.sl 1 0 g.length,.sl 2 0 o.length,.mp 3 0,.sl 5 0 na,.sl 6 0 np,.mp 4 0,.sl 7 0 nh,.sl 8 0 nl]⟩),(1,⟨0,some 1,my false g⟩),(2,⟨0,some 2,nV false o⟩),(3,⟨0,some 3,onM f c⟩),(4,⟨0,some 6,Wm d n⟩),(5,⟨0,none,.arr 50 false A⟩),(6,⟨0,none,.arr 104 false P⟩),(7,⟨0,none,.arr 106 false H⟩),(8,⟨0,none,.arr 106 false L⟩)]
def qcz:bm:=fun ps R post=> ∃x g o f c d n na np nh nl A P H L t N e,ps=[.ref 0 0 0,.d (aP x)]/\R=qff g o f c d n na np nh nl A P H L/\(Fj f o/\qN t na np nh nl A P H L/\kX d e/\tJ N t/\N<=300000000/\x.ops.length<=200/\ ∀y∈x.ops,y.bT.length<=200)/\
 ∀d' n' nX nY nZ bq A' P' H' L',qN (Yb o t x) nX nY nZ bq A' P' H' L'->kX d' (x.ops.foldl qg e)->post (.da [],vwG g o f c d' n' nX nY nZ bq A' P' H' L')
abbrev vwL (g:List aj) (o:List ax) (f:D->Option D) (c:Int) (d:D->Option D) (n:Int) (na np nh nl:Nat) (A P H L:List D):List (Nat×En):=[(0,⟨0,none,vwB g.length o.length na np nh nl⟩),(1,⟨0,none,my false g⟩),(2,⟨0,none,nV false o⟩),(3,⟨0,none,onM f c⟩),(4,⟨0,none,.arr 50 false A⟩),(5,⟨0,none,.arr 104 false P⟩),(6,⟨0,none,Wm d n⟩),(7,⟨0,none,.arr 106 false H⟩),(8,⟨0,none,.arr 106 false L⟩)]
abbrev Wp:D->Option D:=fun _=>none
abbrev vw0 (g:List aj) (o:List ax) (f:D->Option D) (c:Int):List (Nat×En):=vwL g o f c Wp 0 0 0 0 0 [] [] [] []
abbrev vo5 (l g:List aj) (h:List Hd) (f:D->Option D) (c:Int) (i:Int):S:=⟨98,[(3,.ref 0 0 0),(4,.mp 9 0),(5,.sl 10 0 h.length),(6,.sl 11 0 h.length),(20,bO l),(21,iD ((l.map aP).length:Int)),(22,iD i)],vw0 g [] Wp 0++[(9,⟨0,none,XB f c⟩),(10,⟨0,none,nV false (h.map (·.2))⟩),(11,⟨0,none,nV false (h.map (·.1))⟩)]⟩
abbrev qfh (g:List aj) (h:List Hd):S:=⟨98,[(3,.ref 0 0 0),(5,.sl 9 0 h.length),(6,.sl 10 0 h.length)],vw0 g [] Wp 0++[(9,⟨0,none,nV false (h.map (·.2))⟩),(10,⟨0,none,nV false (h.map (·.1))⟩)]⟩
def Zak:List P:=[AT,P.sl 4 0 0,P.sl 5 0 0,P.mp 6 0,P.sl 7 0 0,P.sl 8 0 0]
def Zal:List P:=P.sl 2 0 0::Zak
def Zai (l:List aj) (i:Int):List (Nat×P):=[(20,fR l),(21,Cu l),(22,P.d (Zm i))]
def Zah:Nat×P:=(4,P.mp 9 0)
def Zav (h:List Hd):List (Nat×En):=[(10,QH h),(11,QJ h)]
def FP:En:=En.mk 0 none (Obj.arr (106:TypeId) false [])
def Rz:Nat×En:=(8,FP)
def RA:Nat×En:=(7,FP)
def RB:Nat×En:=(6,En.mk 0 none (Obj.map 50 (fun(_:D)=>none) (0:Int) false))
def RC:Nat×En:=(5,yC)
def RD:Nat×En:=(4,SM)
def Wq:Nat×En:=(3,Lp)
def zs:Nat×En:=(2,xZ)
def Zam (g:List aj):Nat×En:=(0,En.mk 0 none (Obj.box (120:TypeId) (lN g::Zal)))
def Zaj (h:List Hd) (l:List aj) (i:Int):List (Nat×P):=dG::Zah::(5,P.sl 10 0 (eU h))::(6,P.sl 11 0 (eU h))::Zai l i
theorem Yr (l g:List aj) (h:List Hd) (f:D->Option D) (c:Int) (i:Int) (post:PX×S->Prop):(bif u7 i l then bif pc i l then bif c8 l i then∃(aO:aj),MD l i aO/\Zw/\MA aO/\ ∀(e:Int),U4 e aO->bif e !=(0:Int) then bif Zj i then post (PX.normal,S.mk 98 (Zaj h l i) (Zam g::rD g::zs::Wq::RD::RC::RB::RA::Rz::(9,zm f c)::Zav h)) else False else bif cX PR (3:TypeId) (cm (f (rz l i)) Z7) then bif Z4z f l i then bif cX PR (3:TypeId) (XE l i f) then bif decide (D.ah (XE l i f)>(1:Int)) then bif Zj i then post (PX.normal,S.mk 98 (Zaj h l i) (Zam g::rD g::zs::Wq::RD::RC::RB::RA::Rz::(9,XD l i f c)::Zav h)) else False else bif U3 g l i then bif Nat.ble (eU h) (List.length (ny h))&&aT (Ya h l i) 16 then bif Nat.ble (eU h) (List.length (pP h))&&aT (X9 h l i) 16 then bif Zj i then post (PX.normal,S.mk 98 (dG::Zah::(5,P.sl 10 0 (X9 h l i))::(6,P.sl 11 0 (Ya h l i))::Zai l i) [(0,En.mk 0 none (Obj.box (120:TypeId) (P.sl 1 0 (EP g l i)::Zal))),(1,U2 g l i),zs,Wq,RD,RC,RB,RA,Rz,(9,XD l i f c),(10,Z7H h l i),(11,Z7G h l i)]) else False else False else False else False else False else False else False else False else False else post (PX.exit 0,S.mk 98 [dG,(5,P.sl 9 0 (eU h)),(6,P.sl 10 0 (eU h))] [Zam g,rD g,zs,Wq,RD,RC,RB,RA,Rz,(9,QH h),(10,QJ h)]))=(eP [(51,EH)] [] [] 61 5 (vo5 l g h f c i)) post:=by kernel_rfl
def qcA:S->K (PX×S):=fun s post=> ∃l,s=vo5 l [] [] Wp 0 0/\jc l/\ ∀g h,g=az l->h=g.map eV->post (.exit 0,qfh g h)
abbrev qcB (g:List aj) (o:List ax) (f:D->Option D) (c:Int) (i:Int):S:=⟨98,[(3,.ref 0 0 0),(71,.sl 2 0 o.length),(72,iD (o.length:Int)),(73,iD i)],vw0 g o f c⟩
def Zax:List (Nat×En):=[RD,RC,RB,RA,Rz]
def Zaw (g:List aj) (o:List ax):Nat×En:=(0,En.mk 0 none (Obj.box (120:TypeId) (lN g::AU o::Zak)))
theorem RE (g:List aj) (o:List ax) (f:D->Option D) (c:Int) (i:Int) (post:PX×S->Prop):(bif decide (i<(↑(dV o):Int)) then bif decide ((0:Int)<=i/\i<(↑(dV o):Int)) then bif Sz i o then bif vG o i then bif Zj i then post (PX.normal,S.mk 98 [dG,(71,AU o),(72,P.d (D.int IntKind.i64 (↑(dV o):Int))),(73,P.d (Zm i))] (Zaw g o::rD g::(2,qK o)::(3,En.mk 0 none (Obj.map 30 (fun(k':D)=>bif D.nD (D.agg [D.int IntKind.i64 (EE o i),D.int IntKind.i64 (D.ah (D.ao (D.nth (List.map aX o) (Zg i)) (0+1)))]) k' then some (D.agg []) else f k') (bif Option.isSome (f (D.agg (FE o i))) then c else c+(1:Int)) false))::Zax)) else False else False else False else False else post (PX.exit 2,S.mk 98 [dG] (Zaw g o::rD g::(2,qK o)::(3,zm f c)::Zax)))=(eP [] [] [] 61 15 (qcB g o f c i)) post:=by kernel_rfl
def RG:S->K (PX×S):=fun s post=> ∃g o,s=qcB g o Wp 0 0/\o.length<=1000000/\ ∀f c,Fj f o->post (.exit 2,⟨98,[(3,.ref 0 0 0)],vw0 g o f c⟩)
abbrev qcC (g:List aj) (o:List ax) (f:D->Option D) (c:Int) (d:D->Option D) (n:Int) (na np nh nl:Nat) (A P H L:List D) (i:Int):S:=⟨98,[(3,.ref 0 0 0),(87,.sl 1 0 g.length),(88,iD (g.length:Int)),(89,iD i)],vwL g o f c d n na np nh nl A P H L⟩
def Zaz (aO:List aj) (aQ:List ax) (nX:Nat) (nY:Nat) (nZ:Nat) (bq:Nat) (dB:D->Option D) (dL:Int) (A':List D) (P':List D) (d':D->Option D) (n':Int) (H':List D) (L':List D):List (Nat×En):=(0,En.mk 0 none (Obj.box (120:TypeId) (lN aO::AU aQ::AT::P.sl 4 0 nX::P.sl 5 0 nY::Rw nZ bq)))::rD aO::(2,qK aQ)::(3,zm dB dL)::eN A'::eM P'::(6,En.mk 0 none (Obj.map 50 d' n' false))::Wn H' L'
def Zay (g:List aj) (o:List ax) (na:Nat) (np:Nat) (nh:Nat) (nl:Nat) (f:D->Option D) (c:Int) (A:List D) (P:List D) (d:D->Option D) (n:Int) (H:List D) (L:List D):List (Nat×En):=[ft g o na np nh nl,dE g,dD o,dC f c,(4,En.mk 0 (some 4) (Obj.arr (50:TypeId) false A)),(5,En.mk 0 (some 5) (Obj.arr (104:TypeId) false P)),eQ d n,(7,En.mk 0 (some 7) (Obj.arr (106:TypeId) false H)),(8,En.mk 0 (some 8) (Obj.arr (106:TypeId) false L))]
theorem RH (g:List aj) (o:List ax) (f:D->Option D) (c:Int) (d:D->Option D) (n:Int) (na np nh nl:Nat) (A P H L:List D) (i:Int) (post:PX×S->Prop):(bif vI i g then bif jq i g then bif gS i g then bif c8 g i then∃(x:aj) (aO:List aj) (aQ:List ax) (dB:D->Option D) (dL:Int) (eD:D->Option D) (cj:Int) (bf:Nat) (bg:Nat) (bh:Nat) (aR:Nat) (cY:List D) (cZ:List D) (c7:List D) (b7:List D) (t:Tl) (N:Nat) (e:aC->Option Bool),[bQ,Pi.P.d (D.agg (uE g i))]=bQ::AB x/\Zay g o na np nh nl f c A P d n H L=Zay aO aQ bf bg bh aR dB dL cY cZ eD cj c7 b7/\(Fj dB aQ/\qN t bf bg bh aR cY cZ c7 b7/\kX eD e/\tJ N t/\N<=300000000/\Ss x/\ ∀(y:a7),y∈aj.ops x->List.length (a7.bT y)<=200)/\ ∀(d':D->Option D) (n':Int) (nX nY nZ bq:Nat) (A' P' H' L':List D),qN (Yb aQ t x) nX nY nZ bq A' P' H' L'->kX d' (List.foldl qg e (aj.ops x))->bif Zj i then post (PX.normal,S.mk 98 [dG,(87,lN g),(88,AK g),(89,Pi.P.d (Zm i))] (Zaz aO aQ nX nY nZ bq dB dL A' P' d' n' H' L')) else False else False else False else False else post (PX.exit 4,S.mk 98 [dG] (Zaz g o na np nh nl f c A P d n H L)))=(eP [] [(95,qcz)] [] 61 20 (qcC g o f c d n na np nh nl A P H L i)) post:=by kernel_rfl
def CX (g:List aj):aC->Option Bool:=(g.flatMap (·.ops)).foldl qg (fun _=>none)
def RI:S->K (PX×S):=fun s post=> ∃g o f c,s=qcC g o f c Wp 0 0 0 0 0 [] [] [] [] 0/\(Fj f o/\g.length<=1000000/\ ∀x∈g,cQ x=true)/\ ∀d n na np nh nl A P H L,qN (CO o g) na np nh nl A P H L->kX d (CX g)->post (.exit 4,⟨98,[(3,.ref 0 0 0)],vwL g o f c d n na np nh nl A P H L⟩)
def ZaD (g:List aj):Prop:= ∀(x:aj),x∈g->cQ x=true
def ZaC (aO:List aj) (aQ:List ax) (f:D->Option D) (c:Int):S:=S.mk 98 [dG,(87,lN aO),(88,AK aO),(89,P.d Z7)] (Zaw aO aQ::rD aO::(2,qK aQ)::(3,zm f c)::Zax)
def ZaB (o:List ax) (g:List aj):S:=S.mk 98 [dG,(71,AU o),(72,P.d (D.int IntKind.i64 (↑(dV o):Int))),(73,P.d Z7)] (Zaw g o::rD g::(2,qK o)::Wq::Zax)
def ZaA (l:List aj):S:=S.mk 98 [dG,Zah,(5,P.sl 10 0 0),(6,P.sl 11 0 0),(20,fR l),(21,Cu l),(22,P.d Z7)] [(0,En.mk 0 none (Obj.box (120:TypeId) (yy::Zal))),(1,XG),zs,Wq,RD,RC,RB,RA,Rz,(9,Lp),(10,xZ),(11,xZ)]
theorem qg3 (l:List aj) (post:P×List (Nat×En)->Prop):(∃(ar:List aj),ZaA l=ZaA ar/\jc ar/\ ∀(g:List aj) (h:List Hd),g=az ar->h=List.map eV g-> ∃(l:List Hd),[P.d (D.sl 2 (List.take (eU h) (ny h))),P.d (D.sl 2 (List.take (eU h) (pP h)))]=XQ l/\Zw/\lI l/\ ∀(o:List ax),o=UX l-> ∃(aO:List aj) (aQ:List ax),ZaB o g=ZaB aQ aO/\nz aQ/\ ∀(f:D->Option D) (c:Int),Fj f aQ-> ∃(g:List aj) (o:List ax) (dB:D->Option D) (dL:Int),ZaC aO aQ f c=ZaC g o dB dL/\(Fj dB o/\mA g/\ZaD g)/\ ∀(d:D->Option D) (n:Int) (na np nh nl:Nat) (A P H L:List D),qN (CO o g) na np nh nl A P H L->kX d (CX g)->post (bQ,Zaz g o na np nh nl dB dL A P d n H L))=(rv [] [(94,qbh)] [(5,ae (aK 61 5) qcA),(15,ae (aK 61 15) RG),(20,ae (aK 61 20) RI)] 61 [bO l] []) post:=by kernel_rfl
def qcD:bm:=fun ps R post=> ∃l,ps=[bO l]/\R=[]/\jc l/\ ∀g o f c d n na np nh nl A P H L,g=az l->o=Jj l->Fj f o->qN (CO o g) na np nh nl A P H L->kX d (CX g)->post (.ref 0 0 0,vwL g o f c d n na np nh nl A P H L)
theorem qfi (l:List aj) (post:P×List (Nat×En)->Prop):(∃(ar:List aj),qb l ar/\Zw/\jc ar/\ ∀(g:List aj) (o:List ax) (f:D->Option D) (_:Int) (d:D->Option D) (_:Int) (na np nh nl:Nat) (A P H L:List D),g=az ar->o=Jj ar->Fj f o->qN (CO o g) na np nh nl A P H L->kX d (CX g)->post (Pi.P.sl 0 0 (dV o),XP o))=(rv [] [(61,qcD)] [] 35 [bO l] []) post:=by kernel_rfl
end Pi
namespace Pi
open Go Go.Proofs
set_option maxRecDepth 100000
theorem CY: ∀{l:List aj},(∀g∈l,cQ g=true)->gV l<=200*l.length
 | [],_=>by simp[mg]
 |g::r,h=>by
  have h1:=CY (l:=r) fun x hx=>h x (.tail _ hx)
  have h2:=sC (h g (.head _))
  rw[mh,List.length_cons]
  omega
theorem Fj.none:Fj Wp []:=fun s=>by rw[if_neg (by simp)]
theorem Fj.go {f:D->Option D} {o:List ax} {i:Nat} (hi:i<o.length) (h:Fj f (o.take i)):Fj (fun k'=>bif D.nD (aX o[i]) k' then some (.agg []) else f k') (o.take (i+1)):=fun s=>by
 show(bif D.nD (aX o[i]) (aX s) then some (D.agg []) else f (aX s))=_
 rw[Qs,h s,List.take_succ_eq_append_getElem hi]
 by_cases hs:o[i]=s
 ·subst hs
  rw[show(o[i]==o[i])=true by simp]
  show some (D.agg [])=_
  rw[if_pos (List.mem_append_right _ (.head _))]
 ·rw[show(o[i]==s)=false by simpa using hs]
  show(if s∈o.take i then some (D.agg []) else Option.none)=_
  by_cases hm:s∈o.take i
  ·rw[if_pos hm,if_pos (List.mem_append_left _ hm)]
  ·rw[if_neg hm,if_neg (fun hh=>(List.mem_append.1 hh).elim hm fun h2=>hs (List.mem_singleton.1 h2).symm)]
theorem L5 {g:List aj} {i:Nat} (hi:i<g.length):CX (g.take (i+1))=g[i].ops.foldl qg (CX (g.take i)):=by
 unfold CX
 rw[List.take_succ_eq_append_getElem hi,List.flatMap_append,List.foldl_append]
 simp
theorem isU:cX PR 167 (.agg [])=true:=by kernel_rfl
section
variable {X:XF} {w0:World} (hX:db PR w0 X.cf)
include hX
theorem qfj:ND w0 95 qcz:=ND.mk hX (H:=[]) (HN:=[]) (hk:=[(3,ae (aK 95 3) qcv)]) C7 (by kernel_rfl) (by kernel_rfl) .nil .nil (.loop (by decide) (qfg hX).T .nil) (by
 intro ps R post hh
 obtain⟨x,g,o,f,c,d,n,na,np,nh,nl,A,P,H,L,t,N,e,g1,g2,hc,hp⟩:=hh
 (rw[g1,g2,<-qg2];delta bM Wn De Df AT dV AU dm lN Ss iz gZ nk ia ib lC ob ic fO ie gb jz eQ eM eN dC nW dD cK dE Rw ft Z7 rn gX gY Zag gT bQ eO)
 have hf:f (D.agg [D.int .i64 x.s.1,D.int .i64 x.s.2])=if x.s∈o then some (.agg []) else none:=hc.1 x.s
 rw[hf]
 by_cases hm:x.s∈o
 ·rw[if_pos hm]
  exact aq isU ⟨x,g,o,f,c,d,n,na,np,nh,nl,A,P,H,L,true,t,N,e,rfl,hc.2,fun d' n' nX nY nZ bq A' P' H' L' g1 g2=>hp d' n' nX nY nZ bq A' P' H' L' (by unfold Yb;rw[decide_eq_true hm];exact g1) g2⟩
 ·rw[if_neg hm]
  exact aq isU ⟨x,g,o,f,c,d,n,na,np,nh,nl,A,P,H,L,false,t,N,e,rfl,hc.2,fun d' n' nX nY nZ bq A' P' H' L' g1 g2=>hp d' n' nX nY nZ bq A' P' H' L' (by unfold Yb;rw[decide_eq_false hm];exact g1) g2⟩)
theorem qfk:LN w0 61 5 (ae (aK 61 5) qcA):=LN.idx hX (H:=[(51,EH)]) (HN:=[]) (hk:=[]) C7 (by kernel_rfl) (by kernel_rfl) (by kernel_rfl) (.cons Xz .nil) .nil .nil
 (A:=List aj) (B:=List aj×List ax×Int) (fun l b i=>vo5 l b.1 (b.1.map eV) (cM b.2.1) b.2.2 i) (fun l=>l.length) (fun l i b=>jc l/\b.1=az (l.take i)/\u9 b.2.1 b.1/\b.2.1.length<=i)
 (fun l x=>x=(.exit 0,qfh (az l) ((az l).map eV)))
 (by
  rintro l ⟨o,U,c⟩ i post h0 bS bc ⟨hs,rfl,hU,Lr⟩ hn ho
  dsimp only at*
  (rw[<-Yr];delta ny QJ pP QH Zg cK fQ lG mz rz eU Z7G Sy Z7H uE dm U2 AT Zak Zal EP Zm gO Cu fR Zai Zah bQ dG X9 Ya U3 Z7 XC XD XE Za Z9 Z4z Zav zm FP Rz RA RB yC RC SM RD Lp Wq xZ zs kJ rD lN Zam Zaj Zj U4 Zw ia ib ic fO ie gb l8 AB MD c8 pc u7)
  have e1:D.nth (l.map aP) i.toNat=aP l[i.toNat]:=ay _ _ _ bc
  rw[e1]
  have XK:=hs.2 _ (List.getElem_mem bc)
  have qH:=pd bc
  have nM:=cv (l.take i.toNat)
  rw[List.length_take] at nM
  generalize l[i.toNat]=g at qH XK
  have qp:=hs.1
  have t1:D.agg [D.int .i64 (D.ah (D.ao (aP g) 0)),D.int .i64 (D.ah (D.ao (aP g) 1))]=aX g.s:=rfl
  have v1: ∀n:Int,D.ah (iE n)=n:=fun _=>rfl
  have g0:cm (cM U (aX g.s)) (.int .i64 0)=iE (U.count g.s:Int):=pb U g.s
  have C3:=List.count_le_length (a:=g.s) (l:=U)
  have u2:=fun z=>Ct U g.s z
  have u3:=fun z=>Cr U g.s z
  have g1:cm (cM (g.s::U) (aX g.s)) (.int .i64 0)= .int .i64 ((U.count g.s:Int)+1):=by
   have:=pb (g.s::U) g.s
   rw[List.count_cons_self] at this
   exact this
  have y5:(U.count g.s:Int)=0↔ ¬g.s∈U:=by
   rw[<-List.count_eq_zero]
   omega
  have hcb:0<=(U.count g.s:Int)/\(U.count g.s:Int)<=1000000:=by have:=hs.1;omega
  generalize (U.count g.s:Int)=cn at g0 u2 u3 g1 y5 hcb
  rw[t1,g0]
  simp only[v1]
  have n5:i<((l.map aP).length:Int):=by rw[List.length_map];exact bS
  refine bV n5 (ak ⟨h0,n5⟩ (aq (df _) ⟨g,rfl,rfl,XK,fun e he=>xr (fun h1=>ak (by omega) (hn (az (l.take i.toNat),U,c) ⟨hs,?_,hU,Nat.le_succ_of_le Lr⟩)) fun h1=> ?_⟩))
  ·rw[qH,Cx]
   cases hg:cQ g with
   |false=>rfl
   |true=>rw[hg] at he;exact absurd he h1
  ·have hg:cQ g=true:=by
    cases hg:cQ g with
    |true=>rfl
    |false=>rw[hg,if_neg (by simp)] at he;omega
   refine aq (zn _) (ak (by omega) ?_)
   rw[u2,g1,u3]
   refine aq (zn _) ?_
   have v2: ∀n:Int,D.ah (D.int .i64 n)=n:=fun _=>rfl
   simp only[v2]
   refine bJ (fun h2=>ak (by omega) (hn (az (l.take i.toNat),g.s::U,_) ⟨hs,?_,hU.had ?_,Nat.succ_le_succ Lr⟩)) fun h2=> ?_
   ·have hx:g.s∈U:=Classical.byContradiction fun h=>by have:=y5.2 h;omega
    rw[qH,xU ((hU g.s).1 hx)]
   ·exact Classical.byContradiction fun h=>by have:=y5.2 h;omega
   ·have hx: ¬g.s∈U:=y5.1 (by omega)
    have IQ:((az (l.take i.toNat)).any fun x=>x.s==g.s)=false:=by rw[<-Bool.not_eq_true,<-hU g.s];exact hx
    have hy:=fun c':Int=>hn (az (l.take i.toNat)++[g],g.s::U,c') ⟨hs,by rw[qH,xV hg IQ],hU.new,Nat.succ_le_succ Lr⟩
    generalize az (l.take i.toNat)=r at*
    have p0:List.take r.length (r.map aP)++[aP g]=(r++[g]).map aP:=dU aP r g
    have p1:List.take (r.map eV).length (((r.map eV).map fun x=>x.1).map aX)++[aX g.s]=(((r++[g]).map eV).map fun x=>x.1).map aX:=by
     rw[List.take_of_length_le (by simp)]
     simp[eV]
    have p2:List.take (r.map eV).length (((r.map eV).map fun x=>x.2).map aX)++[aX g.bN]=(((r++[g]).map eV).map fun x=>x.2).map aX:=by
     rw[List.take_of_length_le (by simp)]
     simp[eV]
    have q0:(r++[g]).length=r.length+1:=by simp
    have q1:((r++[g]).map eV).length=(r.map eV).length+1:=by simp
    simp only[vo5,vw0,vwL,vwB,my,nV] at hy
    rw[<-p0,<-p1,<-p2,q0,q1] at hy
    have hrl:(r.map eV).length<=1000000:=by rw[List.length_map];omega
    have rm: ∀{α:Type} (f:α->D) (m:List α) (z:D) (b:Nat),m.length<=1000000->b<=100->(Nat.ble m.length (m.map f).length&&aT (m.length+List.length [z]) b)=true:=fun f m z b hm hb=>eR rfl (by rw[List.length_map]) (by omega) hb
    have rm1:(Nat.ble (r.map eV).length (((r.map eV).map fun x=>x.1).map aX).length&&aT ((r.map eV).length+List.length [aX g.s]) 16)=true:=eR rfl (by simp) (by omega) (by decide)
    have rm2:(Nat.ble (r.map eV).length (((r.map eV).map fun x=>x.2).map aX).length&&aT ((r.map eV).length+List.length [aX g.bN]) 16)=true:=eR rfl (by simp) (by omega) (by decide)
    exact aq (rm aP r _ 88 (by omega) (by decide)) (aq rm1 (aq rm2 (ak (by omega) (hy _)))))
 (by
  rintro l ⟨o,U,c⟩ i post hi ⟨hs,rfl,hU,Lr⟩ ho
  dsimp only at*
  (rw[<-Yr];delta ny QJ pP QH Zg cK fQ lG mz rz eU Z7G Sy Z7H uE dm U2 AT Zak Zal EP Zm gO Cu fR Zai Zah bQ dG X9 Ya U3 Z7 XC XD XE Za Z9 Z4z Zav zm FP Rz RA RB yC RC SM RD Lp Wq xZ zs kJ rD lN Zam Zaj Zj U4 Zw ia ib ic fO ie gb l8 AB MD c8 pc u7)
  refine nv (by rw[List.length_map];omega) (ho _ (fun h=>by cases h) ?_)
  rw[List.take_length]
  rfl)
 (by
  rintro s post ⟨l,rfl,hs,hp⟩
  refine⟨l,([],[],0),by rw[Cq];rfl,⟨hs,rfl,u9.nil,by simp⟩,?_⟩
  rintro x rfl
  exact hp _ _ rfl rfl)
theorem qcE:LN w0 61 15 (ae (aK 61 15) RG):=LN.idx hX (H:=[]) (HN:=[]) (hk:=[]) C7 (by kernel_rfl) (by kernel_rfl) (by kernel_rfl) .nil .nil .nil
 (A:=List aj×List ax) (B:=(D->Option D)×Int) (fun a b i=>qcB a.1 a.2 b.1 b.2 i) (fun a=>a.2.length) (fun a i b=>a.2.length<=1000000/\Fj b.1 (a.2.take i))
 (fun a x=> ∃f c,Fj f a.2/\x=(.exit 2,⟨98,[(3,.ref 0 0 0)],vw0 a.1 a.2 f c⟩))
 (by
  rintro⟨g,o⟩ ⟨f,c⟩ i post h0 bS bc ⟨hm,hO⟩ hn ho
  dsimp only at*
  (rw[<-RE];delta zm FP Rz RA RB yC RC SM RD Zax Zg FB EE FE nW qK cK kJ rD AT Zak dV AU dm lN Zaw Zm bQ dG Za Z9 Zj vG Sz)
  have e1:D.nth (o.map aX) i.toNat=aX o[i.toNat]:=ay _ _ _ bc
  have lL:=hO.go bc
  rw[e1]
  refine bV bS (ak ⟨h0,bS⟩ (ak (by simpa using bc) (aq (l7 _) (ak (by omega) (hn (_,_) ⟨hm,lL⟩))))))
 (by
  rintro⟨g,o⟩ ⟨f,c⟩ i post hi ⟨hm,hO⟩ ho
  dsimp only at*
  (rw[<-RE];delta zm FP Rz RA RB yC RC SM RD Zax Zg FB EE FE nW qK cK kJ rD AT Zak dV AU dm lN Zaw Zm bQ dG Za Z9 Zj vG Sz)
  rw[List.take_length] at hO
  exact nv (by omega) (ho _ (fun h=>by cases h) ⟨f,c,hO,rfl⟩))
 (by
  rintro s post ⟨g,o,rfl,hm,hp⟩
  refine⟨(g,o),(Wp,0),rfl,⟨hm,Fj.none⟩,?_⟩
  rintro x ⟨f,c,h1,rfl⟩
  exact hp f c h1)
theorem qcF:LN w0 61 20 (ae (aK 61 20) RI):=LN.idx hX (H:=[]) (HN:=[(95,qcz)]) (hk:=[]) C7 (by kernel_rfl) (by kernel_rfl) (by kernel_rfl) .nil (.cons (qfj hX) .nil) .nil
 (A:=List aj×List ax×(D->Option D)×Int) (B:=GaB) (fun a b i=>qcC a.1 a.2.1 a.2.2.1 a.2.2.2 b.1 b.2.1 b.2.2.1 b.2.2.2.1 b.2.2.2.2.1 b.2.2.2.2.2.1 b.2.2.2.2.2.2.1 b.2.2.2.2.2.2.2.1 b.2.2.2.2.2.2.2.2.1 b.2.2.2.2.2.2.2.2.2 i) (fun a=>a.1.length)
 (fun a i b=>(Fj a.2.2.1 a.2.1/\a.1.length<=1000000/\ ∀x∈a.1,cQ x=true)/\qN (CO a.2.1 (a.1.take i)) b.2.2.1 b.2.2.2.1 b.2.2.2.2.1 b.2.2.2.2.2.1 b.2.2.2.2.2.2.1 b.2.2.2.2.2.2.2.1 b.2.2.2.2.2.2.2.2.1 b.2.2.2.2.2.2.2.2.2/\kX b.1 (CX (a.1.take i)))
 (fun a x=> ∃d n na np nh nl A P H L,qN (CO a.2.1 a.1) na np nh nl A P H L/\kX d (CX a.1)/\x=(.exit 4,⟨98,[(3,.ref 0 0 0)],vwL a.1 a.2.1 a.2.2.1 a.2.2.2 d n na np nh nl A P H L⟩))
 (by
  rintro⟨g,o,f,c⟩ ⟨d,n,na,np,nh,nl,A,P,H,L⟩ i post h0 bS bc ⟨hc,hR,hD⟩ hn ho
  dsimp only at*
  (rw[<-RH];delta bM Wn De eM Df eN zm nW qK cK kJ rD Rw AT dV AU dm lN Zaz Zm AK bQ dG Za Z9 Zj Ss eQ dC dD dE ft Zay ia ib ic fO ie gb l8 AB Zg fQ lG mz uE c8 gO gS jq vI)
  have hB:=Jz (on:=o) hc.2.2 i.toNat (by omega)
  have hN:gV (g.take i.toNat)<=300000000:=by
   have h1:=AN g i.toNat
   have h2:=CY hc.2.2
   have h3:=hc.2.1
   omega
  have e1:D.nth (g.map aP) i.toNat=aP g[i.toNat]:=ay _ _ _ bc
  have nG:=hc.2.2 _ (List.getElem_mem bc)
  have kK:=yh (on:=o) bc
  have L4:=L5 bc
  rw[e1]
  generalize g[i.toNat]=x at nG kK L4⊢
  refine bV bS (ak ⟨h0,bS⟩ (ak (by simpa using bc) (aq (df _) ⟨x,g,o,f,c,d,n,na,np,nh,nl,A,P,H,L,_,_,_,rfl,rfl,⟨hc.1,hR,hD,hB,hN,sC nG,yj nG⟩,fun d' n' nX nY nZ bq A' P' H' L' g1 g2=>ak (by omega) (hn (d',n',nX,nY,nZ,bq,A',P',H',L') ⟨hc,by rw[kK];exact g1,by rw[L4];exact g2⟩)⟩))))
 (by
  rintro⟨g,o,f,c⟩ ⟨d,n,na,np,nh,nl,A,P,H,L⟩ i post hi ⟨hc,hR,hD⟩ ho
  dsimp only at*
  (rw[<-RH];delta bM Wn De eM Df eN zm nW qK cK kJ rD Rw AT dV AU dm lN Zaz Zm AK bQ dG Za Z9 Zj Ss eQ dC dD dE ft Zay ia ib ic fO ie gb l8 AB Zg fQ lG mz uE c8 gO gS jq vI)
  rw[List.take_length] at hR hD
  exact nv (by omega) (ho _ (fun h=>by cases h) ⟨d,n,na,np,nh,nl,A,P,H,L,hR,hD,rfl⟩))
 (by
  rintro s post ⟨g,o,f,c,rfl,hc,hp⟩
  refine⟨(g,o,f,c),(Wp,0,0,0,0,0,[],[],[],[]),rfl,⟨hc,⟨rfl,rfl,rfl,rfl,rfl,rfl,rfl,rfl⟩,fun z=>rfl⟩,?_⟩
  rintro x ⟨d,n,na,np,nh,nl,A,P,H,L,g1,g2,rfl⟩
  exact hp d n na np nh nl A P H L g1 g2)
theorem qfl:ND w0 61 qcD:=ND.mk hX (H:=[]) (HN:=[(94,qbh)]) (hk:=[(5,ae (aK 61 5) qcA),(15,ae (aK 61 15) RG),(20,ae (aK 61 20) RI)]) C7 (by kernel_rfl) (by kernel_rfl) .nil (.cons (qgu hX) .nil) (.loop (by decide) (qfk hX).T (.loop (by decide) (qcE hX).T (.loop (by decide) (qcF hX).T .nil))) (by
 intro ps R post hh
 obtain⟨l,rfl,rfl,hs,hp⟩:=hh
 (rw[<-qg3];delta bM Wn De eM Df eN zm nW qK cK kJ rD Rw AT dV AU dm lN Zaz bQ ZaD mA FP Rz RA RB yC RC SM RD Zax Zak Zaw Z7 AK dG ZaC nz Lp Wq ZaB eU lI Zw pP ny XQ xZ zs XG Zal yy gO Cu fR Zah ZaA)
 have hl:=hs.1
 have h1:=pS l
 have h2:=cv l
 refine⟨l,rfl,hs,fun g h hg hh=> ?_⟩
 have tk1:List.take h.length ((h.map fun x=>x.1).map aX)=(h.map fun x=>x.1).map aX:=List.take_of_length_le (by simp)
 have tk2:List.take h.length ((h.map fun x=>x.2).map aX)=(h.map fun x=>x.2).map aX:=List.take_of_length_le (by simp)
 rw[tk1,tk2]
 refine⟨h,rfl,rfl,by rw[hh,List.length_map,hg];omega,fun o ho=> ?_⟩
 have lW:o=Jj l:=by rw[ho,hh,hg];rfl
 exact⟨g,o,rfl,by rw[lW];omega,fun f c hf=>⟨g,o,f,c,rfl,⟨hf,by rw[hg];omega,by rw[hg];exact rq⟩,fun d n na np nh nl A P H L g1 g2=>hp g o f c d n na np nh nl A P H L hg lW hf g1 g2⟩⟩)
theorem Ys:ND w0 35 HL:=ND.mk hX (H:=[]) (HN:=[(61,qcD)]) (hk:=[]) C7 (by kernel_rfl) (by kernel_rfl) .nil (.cons (qfl hX) .nil) .nil (by
 intro ps R post hh
 obtain⟨l,rfl,rfl,hs,hp⟩:=hh
 (rw[<-qfi];delta nW qK XP dV Zw cK fR qb)
 exact⟨l,rfl,rfl,hs,fun g o f c d n na np nh nl A P H L _ ho _ _ _=>hp o ho⟩)
end
end Pi
namespace Pi
open Go Go.Proofs
set_option maxRecDepth 100000
set_option maxHeartbeats 0
def mB (x:Td):D:= .agg [iE x.1.1,iE x.1.2.1,iE x.1.2.2,iE x.2.1.1,iE x.2.1.2.1,iE x.2.1.2.2,iE x.2.2.1.1,iE x.2.2.1.2.1,iE x.2.2.1.2.2,.str x.2.2.2.1,.bool x.2.2.2.2]
abbrev qh (z:Bool) (l:List Td):Obj:= .arr 155 z (l.map mB)
abbrev rsA (a:List aC) (l:List Pl) (s:List Td) (i:Int):S:=⟨93,[(0,dx a),(1,ey l),(5,.sl 0 0 s.length),(6,iD i)],[(0,⟨0,none,qh false s⟩)]⟩
abbrev rsB (a:List aC) (l:List Pl) (s:List Td) (i:Int) (h:Bool) (k:Int):S:=⟨93,[(0,dx a),(1,ey l),(5,.sl 0 0 s.length),(6,iD i),(7,.d (.bool h)),(8,iD k)],[(0,⟨0,none,qh false s⟩)]⟩
abbrev rsC (a:List aC) (l:List Pl) (s:List Td) (n:Nat) (i k:Int):S:=⟨93,[(0,dx a),(1,ey l),(5,.sl 0 0 n),(6,iD i),(9,iD k)],[(0,⟨0,none,qh false s⟩)]⟩
def rJ (s:List Td) (k:Int):D:=D.nth (List.map mB s) (Zg k)
def SU (k:Int) (s:List Td):Bool:=decide (Zg k<List.length (List.map mB s))
def Dg (s:List Td):Nat×En:=(0,En.mk 0 none (Obj.arr (155:TypeId) false (List.map mB s)))
def SV (s:List Td):List (Nat×En):=[Dg s]
def HZ (s:List Td):Nat×P:=(5,P.sl 0 0 (List.length s))
def Dh (l:List Pl):Nat×P:=(1,kS l)
theorem Yt (a:List aC) (l:List Pl) (s:List Td) (i:Int) (h:Bool) (k:Int) (post:PX×S->Prop):(bif decide (k<(↑(List.length s):Int)) then bif h then bif Zj k then post (PX.normal,S.mk 93 (CQ a::Dh l::HZ s::ZI i::(7,ZM)::rC k) (SV s)) else False else bif decide ((0:Int)<=k/\k<(↑(List.length s):Int)) then bif SU k s then bif cX PR (155:TypeId) (rJ s k) then bif Lf i a then bif Az a i then bif Zj k then post (PX.normal,S.mk 93 (CQ a::Dh l::HZ s::ZI i::(7,P.d (D.bool (D.ah (D.ao (rJ s k) 0)==Jc a i&&(D.ah (D.ao (rJ s k) 1)==Jb a i&&true)&&(D.ah (D.ao (rJ s k) 2)==Ja a i&&true))))::rC k) (SV s)) else False else False else False else False else False else False else post (PX.exit 2,S.mk 93 [CQ a,Dh l,HZ s,ZI i,pQ h] (SV s)))=(aF [] [] 85 7 (rsB a l s i h k)) post:=by kernel_rfl
def qcG:S->K (PX×S):=fun s post=> ∃(a:List aC) (l:List Pl) (t:List Td) (i:Int) (hi:i.toNat<a.length),s=rsB a l t i false 0/\(t.length<=1000000/\0<=i/\i<a.length)/\ ∀b,b=(t.any fun x=>x.1==a[i.toNat])->post (.exit 2,⟨93,[(0,dx a),(1,ey l),(5,.sl 0 0 t.length),(6,iD i),(7,.d (.bool b))],[(0,⟨0,none,qh false t⟩)]⟩)
def ZaQ (s:List Td) (k:Int):D:=D.int IntKind.i64 (D.ah (D.ao (rJ s k) 8))
def ZaP (s:List Td) (k:Int):D:=D.int IntKind.i64 (D.ah (D.ao (rJ s k) 7))
def ZaO (s:List Td) (k:Int):D:=D.int IntKind.i64 (D.ah (D.ao (rJ s k) 6))
def ZaN (s:List Td) (k:Int):D:=D.int IntKind.i64 (D.ah (D.ao (rJ s k) 5))
def ZaM (s:List Td) (k:Int):D:=D.int IntKind.i64 (D.ah (D.ao (rJ s k) 4))
def ZaL (s:List Td) (k:Int):D:=D.int IntKind.i64 (D.ah (D.ao (rJ s k) 3))
def ZaR (s:List Td) (k:Int):List D:=[ZaL s k,ZaM s k,ZaN s k,ZaO s k,ZaP s k,ZaQ s k,D.str (D.eT (D.ao (rJ s k) 9)),D.bool (D.fI (D.ao (rJ s k) 10))]
def ZaS (s:List Td) (k:Int):List D:=D.int IntKind.i64 (D.ah (D.ao (rJ s k) 0))::D.int IntKind.i64 (D.ah (D.ao (rJ s k) 1))::D.int IntKind.i64 (D.ah (D.ao (rJ s k) 2))::ZaR s k
def Fk (s:List Td) (k:Int):D:=D.nth (List.map mB s) (Zc k)
def ZaT (s:List Td) (k:Int):List D:=List.set (List.map mB s) (Zg k) (D.aY (D.agg (ZaS s k)) [D.int IntKind.i64 (D.ah (D.ao (Fk s k) 0)),D.int IntKind.i64 (D.ah (D.ao (Fk s k) 1)),D.int IntKind.i64 (D.ah (D.ao (Fk s k) 2)),D.int IntKind.i64 (D.ah (D.ao (Fk s k) 3)),D.int IntKind.i64 (D.ah (D.ao (Fk s k) 4)),D.int IntKind.i64 (D.ah (D.ao (Fk s k) 5)),D.int IntKind.i64 (D.ah (D.ao (Fk s k) 6)),D.int IntKind.i64 (D.ah (D.ao (Fk s k) 7)),D.int IntKind.i64 (D.ah (D.ao (Fk s k) 8)),D.str (D.eT (D.ao (Fk s k) 9)),D.bool (D.fI (D.ao (Fk s k) 10))])
def L6 (s:List Td) (k:Int):D:=D.nth (ZaT s k) (Zc k)
theorem qfm (a:List aC) (l:List Pl) (s:List Td) (n:Nat) (i k:Int) (post:PX×S->Prop):(bif Zq k then bif nN k n then bif SU k s then bif cX PR (155:TypeId) (rJ s k) then bif Zb k then bif AL k n then bif decide (Zc k<List.length (List.map mB s)) then bif cX PR (155:TypeId) (Fk s k) then∃(t:Int) (r:Int) (aJ:Int) (t':Int) (r':Int) (i':Int),[P.d (D.agg [D.int IntKind.i64 (D.ah (D.ao (rJ s k) 0)),D.int IntKind.i64 (D.ah (D.ao (rJ s k) 1)),D.int IntKind.i64 (D.ah (D.ao (rJ s k) 2))]),P.d (D.agg [D.int IntKind.i64 (D.ah (D.ao (Fk s k) 0)),D.int IntKind.i64 (D.ah (D.ao (Fk s k) 1)),D.int IntKind.i64 (D.ah (D.ao (Fk s k) 2))])]=V0 t r aJ t' r' i'/\Zw/\bif decide (qB t r aJ t' r' i'<(0:Int)) then bif Zb k then bif Zb k then bif AL k n then bif decide (Zc k<List.length (List.map mB s)) then bif cX PR (155:TypeId) (Fk s k) then bif nN k n then bif SU k s then bif cX PR (155:TypeId) (rJ s k) then bif nN k n then bif SU k s then bif cX PR (155:TypeId) (rJ s k) then bif AL k n then bif decide (Zc k<List.length (ZaT s k)) then bif cX PR (155:TypeId) (L6 s k) then bif Zb k then post (PX.normal,S.mk 93 (CQ a::Dh l::ZA n::ZI i::Vl k) [(0,En.mk 0 none (Obj.arr (155:TypeId) false (List.set (ZaT s k) (Zc k) (D.aY (D.agg [D.int IntKind.i64 (D.ah (D.ao (L6 s k) 0)),D.int IntKind.i64 (D.ah (D.ao (L6 s k) 1)),D.int IntKind.i64 (D.ah (D.ao (L6 s k) 2)),D.int IntKind.i64 (D.ah (D.ao (L6 s k) 3)),D.int IntKind.i64 (D.ah (D.ao (L6 s k) 4)),D.int IntKind.i64 (D.ah (D.ao (L6 s k) 5)),D.int IntKind.i64 (D.ah (D.ao (L6 s k) 6)),D.int IntKind.i64 (D.ah (D.ao (L6 s k) 7)),D.int IntKind.i64 (D.ah (D.ao (L6 s k) 8)),D.str (D.eT (D.ao (L6 s k) 9)),D.bool (D.fI (D.ao (L6 s k) 10))]) (ZaS s k)))))]) else False else False else False else False else False else False else False else False else False else False else False else False else False else False else False else post (PX.exit 4,S.mk 93 [CQ a,Dh l,ZA n,ZI i] (SV s)) else False else False else False else False else False else False else False else post (PX.exit 4,S.mk 93 [CQ a,Dh l,ZA n,ZI i] (SV s)))=(aF [(88,kC)] [] 85 13 (rsC a l s n i k)) post:=by kernel_rfl
def qcH:S->K (PX×S):=fun s post=> ∃a l t x n i k,s=rsC a l (t++[x]) n i k/\(k=(t.length:Int)/\n=t.length+1/\t.length<=1000000)/\ ∀t',t'=dy ltT t x->post (.exit 4,rsA a l t' i)
theorem Yu (a:List aC) (l:List Pl) (s:List Td) (i:Int) (post:PX×S->Prop):(bif decide (i<(↑(List.length (List.map bH a)):Int)) then bif decide (i<(↑(List.length (List.map bI l)):Int)) then∃(nC:List aC),∃(ar:List Pl),∃(t:List Td),∃(aJ:Int),∃(hi:Int.toNat aJ<List.length nC),S.mk 93 [(0,P.d (D.sl 3 (List.map bH a))),(1,P.d (D.sl 8 (List.map bI l))),(5,P.sl 0 0 (List.length s)),(6,P.d (D.int IntKind.i64 i)),(7,P.d (D.bool false)),(8,P.d (D.int IntKind.i64 (0:Int)))] [(0,En.mk 0 none (Obj.arr 155 false (List.map mB s)))]=S.mk 93 [(0,P.d (D.sl 3 (List.map bH nC))),(1,P.d (D.sl 8 (List.map bI ar))),(5,P.sl 0 0 (List.length t)),(6,P.d (D.int IntKind.i64 aJ)),(7,P.d (D.bool false)),(8,P.d (D.int IntKind.i64 (0:Int)))] [(0,En.mk 0 none (Obj.arr 155 false (List.map mB t)))]/\(List.length t<=1000000/\(0:Int)<=aJ/\aJ<(↑(List.length nC):Int))/\ ∀(b:Bool),(b=List.any t fun(x:Td)=>Prod.fst x==nC[Int.toNat aJ])->bif b then bif decide ((-9223372036854775808:Int)<=aJ+(1:Int)/\aJ+(1:Int)<=(9223372036854775807:Int)) then post (PX.normal,S.mk 93 [(0,P.d (D.sl 3 (List.map bH nC))),(1,P.d (D.sl 8 (List.map bI ar))),(5,P.sl 0 0 (List.length t)),(6,P.d (D.int IntKind.i64 (aJ+(1:Int))))] [(0,En.mk 0 none (Obj.arr 155 false (List.map mB t)))]) else False else bif decide ((0:Int)<=aJ/\aJ<(↑(List.length (List.map bH nC)):Int)) then bif cX PR 50 (D.nth (List.map bH nC) (Int.toNat aJ)) then bif decide ((0:Int)<=aJ/\aJ<(↑(List.length (List.map bI ar)):Int)) then bif cX PR 104 (D.nth (List.map bI ar) (Int.toNat aJ)) then bif Nat.ble (List.length t) (List.length (List.map mB t))&&aT (List.length t+List.length [D.agg [D.int IntKind.i64 (D.ah (D.ao (D.nth (List.map bH nC) (Int.toNat aJ)) 0)),D.int IntKind.i64 (D.ah (D.ao (D.nth (List.map bH nC) (Int.toNat aJ)) 1)),D.int IntKind.i64 (D.ah (D.ao (D.nth (List.map bH nC) (Int.toNat aJ)) 2)),D.int IntKind.i64 (D.ah (D.ao (D.nth (List.map bI ar) (Int.toNat aJ)) 0)),D.int IntKind.i64 (D.ah (D.ao (D.nth (List.map bI ar) (Int.toNat aJ)) 1)),D.int IntKind.i64 (D.ah (D.ao (D.nth (List.map bI ar) (Int.toNat aJ)) 2)),D.int IntKind.i64 (D.ah (D.ao (D.nth (List.map bI ar) (Int.toNat aJ)) 3)),D.int IntKind.i64 (D.ah (D.ao (D.nth (List.map bI ar) (Int.toNat aJ)) 4)),D.int IntKind.i64 (D.ah (D.ao (D.nth (List.map bI ar) (Int.toNat aJ)) 5)),D.str (D.eT (D.ao (D.nth (List.map bI ar) (Int.toNat aJ)) 6)),D.bool (D.fI (D.ao (D.nth (List.map bI ar) (Int.toNat aJ)) 7))]]) 96 then bif decide ((-9223372036854775808:Int)<=(↑(List.length t+List.length [D.agg [D.int IntKind.i64 (D.ah (D.ao (D.nth (List.map bH nC) (Int.toNat aJ)) 0)),D.int IntKind.i64 (D.ah (D.ao (D.nth (List.map bH nC) (Int.toNat aJ)) 1)),D.int IntKind.i64 (D.ah (D.ao (D.nth (List.map bH nC) (Int.toNat aJ)) 2)),D.int IntKind.i64 (D.ah (D.ao (D.nth (List.map bI ar) (Int.toNat aJ)) 0)),D.int IntKind.i64 (D.ah (D.ao (D.nth (List.map bI ar) (Int.toNat aJ)) 1)),D.int IntKind.i64 (D.ah (D.ao (D.nth (List.map bI ar) (Int.toNat aJ)) 2)),D.int IntKind.i64 (D.ah (D.ao (D.nth (List.map bI ar) (Int.toNat aJ)) 3)),D.int IntKind.i64 (D.ah (D.ao (D.nth (List.map bI ar) (Int.toNat aJ)) 4)),D.int IntKind.i64 (D.ah (D.ao (D.nth (List.map bI ar) (Int.toNat aJ)) 5)),D.str (D.eT (D.ao (D.nth (List.map bI ar) (Int.toNat aJ)) 6)),D.bool (D.fI (D.ao (D.nth (List.map bI ar) (Int.toNat aJ)) 7))]]):Int)-(1:Int)/\(↑(List.length t+List.length [D.agg [D.int IntKind.i64 (D.ah (D.ao (D.nth (List.map bH nC) (Int.toNat aJ)) 0)),D.int IntKind.i64 (D.ah (D.ao (D.nth (List.map bH nC) (Int.toNat aJ)) 1)),D.int IntKind.i64 (D.ah (D.ao (D.nth (List.map bH nC) (Int.toNat aJ)) 2)),D.int IntKind.i64 (D.ah (D.ao (D.nth (List.map bI ar) (Int.toNat aJ)) 0)),D.int IntKind.i64 (D.ah (D.ao (D.nth (List.map bI ar) (Int.toNat aJ)) 1)),D.int IntKind.i64 (D.ah (D.ao (D.nth (List.map bI ar) (Int.toNat aJ)) 2)),D.int IntKind.i64 (D.ah (D.ao (D.nth (List.map bI ar) (Int.toNat aJ)) 3)),D.int IntKind.i64 (D.ah (D.ao (D.nth (List.map bI ar) (Int.toNat aJ)) 4)),D.int IntKind.i64 (D.ah (D.ao (D.nth (List.map bI ar) (Int.toNat aJ)) 5)),D.str (D.eT (D.ao (D.nth (List.map bI ar) (Int.toNat aJ)) 6)),D.bool (D.fI (D.ao (D.nth (List.map bI ar) (Int.toNat aJ)) 7))]]):Int)-(1:Int)<=(9223372036854775807:Int)) then∃(a:List aC),∃(l:List Pl),∃(oU:List Td),∃(x:Td),∃(n:Nat),∃(i:Int),∃(k:Int),S.mk 93 [(0,P.d (D.sl 3 (List.map bH nC))),(1,P.d (D.sl 8 (List.map bI ar))),(5,P.sl 0 0 (List.length t+List.length [D.agg [D.int IntKind.i64 (D.ah (D.ao (D.nth (List.map bH nC) (Int.toNat aJ)) 0)),D.int IntKind.i64 (D.ah (D.ao (D.nth (List.map bH nC) (Int.toNat aJ)) 1)),D.int IntKind.i64 (D.ah (D.ao (D.nth (List.map bH nC) (Int.toNat aJ)) 2)),D.int IntKind.i64 (D.ah (D.ao (D.nth (List.map bI ar) (Int.toNat aJ)) 0)),D.int IntKind.i64 (D.ah (D.ao (D.nth (List.map bI ar) (Int.toNat aJ)) 1)),D.int IntKind.i64 (D.ah (D.ao (D.nth (List.map bI ar) (Int.toNat aJ)) 2)),D.int IntKind.i64 (D.ah (D.ao (D.nth (List.map bI ar) (Int.toNat aJ)) 3)),D.int IntKind.i64 (D.ah (D.ao (D.nth (List.map bI ar) (Int.toNat aJ)) 4)),D.int IntKind.i64 (D.ah (D.ao (D.nth (List.map bI ar) (Int.toNat aJ)) 5)),D.str (D.eT (D.ao (D.nth (List.map bI ar) (Int.toNat aJ)) 6)),D.bool (D.fI (D.ao (D.nth (List.map bI ar) (Int.toNat aJ)) 7))]])),(6,P.d (D.int IntKind.i64 aJ)),(9,P.d (D.int IntKind.i64 ((↑(List.length t+List.length [D.agg [D.int IntKind.i64 (D.ah (D.ao (D.nth (List.map bH nC) (Int.toNat aJ)) 0)),D.int IntKind.i64 (D.ah (D.ao (D.nth (List.map bH nC) (Int.toNat aJ)) 1)),D.int IntKind.i64 (D.ah (D.ao (D.nth (List.map bH nC) (Int.toNat aJ)) 2)),D.int IntKind.i64 (D.ah (D.ao (D.nth (List.map bI ar) (Int.toNat aJ)) 0)),D.int IntKind.i64 (D.ah (D.ao (D.nth (List.map bI ar) (Int.toNat aJ)) 1)),D.int IntKind.i64 (D.ah (D.ao (D.nth (List.map bI ar) (Int.toNat aJ)) 2)),D.int IntKind.i64 (D.ah (D.ao (D.nth (List.map bI ar) (Int.toNat aJ)) 3)),D.int IntKind.i64 (D.ah (D.ao (D.nth (List.map bI ar) (Int.toNat aJ)) 4)),D.int IntKind.i64 (D.ah (D.ao (D.nth (List.map bI ar) (Int.toNat aJ)) 5)),D.str (D.eT (D.ao (D.nth (List.map bI ar) (Int.toNat aJ)) 6)),D.bool (D.fI (D.ao (D.nth (List.map bI ar) (Int.toNat aJ)) 7))]]):Int)-(1:Int))))] [(0,En.mk 0 none (Obj.arr 155 false (List.take (List.length t) (List.map mB t)++[D.agg [D.int IntKind.i64 (D.ah (D.ao (D.nth (List.map bH nC) (Int.toNat aJ)) 0)),D.int IntKind.i64 (D.ah (D.ao (D.nth (List.map bH nC) (Int.toNat aJ)) 1)),D.int IntKind.i64 (D.ah (D.ao (D.nth (List.map bH nC) (Int.toNat aJ)) 2)),D.int IntKind.i64 (D.ah (D.ao (D.nth (List.map bI ar) (Int.toNat aJ)) 0)),D.int IntKind.i64 (D.ah (D.ao (D.nth (List.map bI ar) (Int.toNat aJ)) 1)),D.int IntKind.i64 (D.ah (D.ao (D.nth (List.map bI ar) (Int.toNat aJ)) 2)),D.int IntKind.i64 (D.ah (D.ao (D.nth (List.map bI ar) (Int.toNat aJ)) 3)),D.int IntKind.i64 (D.ah (D.ao (D.nth (List.map bI ar) (Int.toNat aJ)) 4)),D.int IntKind.i64 (D.ah (D.ao (D.nth (List.map bI ar) (Int.toNat aJ)) 5)),D.str (D.eT (D.ao (D.nth (List.map bI ar) (Int.toNat aJ)) 6)),D.bool (D.fI (D.ao (D.nth (List.map bI ar) (Int.toNat aJ)) 7))]])))]=S.mk 93 [(0,P.d (D.sl 3 (List.map bH a))),(1,P.d (D.sl 8 (List.map bI l))),(5,P.sl 0 0 n),(6,P.d (D.int IntKind.i64 i)),(9,P.d (D.int IntKind.i64 k))] [(0,En.mk 0 none (Obj.arr 155 false (List.map mB (oU++[x]))))]/\(k=(↑(List.length oU):Int)/\n=List.length oU+1/\List.length oU<=1000000)/\ ∀(t':List Td),t'=dy ltT oU x->bif decide ((-9223372036854775808:Int)<=i+(1:Int)/\i+(1:Int)<=(9223372036854775807:Int)) then post (PX.normal,S.mk 93 [(0,P.d (D.sl 3 (List.map bH a))),(1,P.d (D.sl 8 (List.map bI l))),(5,P.sl 0 0 (List.length t')),(6,P.d (D.int IntKind.i64 (i+(1:Int))))] [(0,En.mk 0 none (Obj.arr 155 false (List.map mB t')))]) else False else False else False else False else False else False else False else post (PX.exit 0,S.mk 93 [(5,P.sl 0 0 (List.length s))] [(0,En.mk 0 none (Obj.arr 155 false (List.map mB s)))]) else post (PX.exit 0,S.mk 93 [(5,P.sl 0 0 (List.length s))] [(0,En.mk 0 none (Obj.arr 155 false (List.map mB s)))]))=(aF [] [(7,ae (aK 85 7) qcG),(13,ae (aK 85 13) qcH)] 85 3 (rsA a l s i)) post:=by kernel_rfl
def qcI:S->K (PX×S):=fun s post=> ∃a l,s=rsA a l [] 0/\(a.length<=1000000/\l.length=a.length)/\ ∀t,t=HX a l->post (.exit 0,⟨93,[(5,.sl 0 0 t.length)],[(0,⟨0,none,qh false t⟩)]⟩)
def ZaV (a:List aC) (l:List Pl):S:=S.mk 93 (CQ a::Dh l::(5,ZO)::CD) [(0,En.mk 0 none (Obj.arr (155:TypeId) false []))]
theorem qfn (a:List aC) (l:List Pl) (post:P×List (Nat×En)->Prop):(∃(nC:List aC) (ar:List Pl),ZaV a l=ZaV nC ar/\(uK nC/\js ar=List.length nC)/\ ∀(t:List Td),t=HX nC ar->post (P.sl 0 0 (List.length t),SV t))=(aH [] [(3,ae (aK 85 3) qcI)] 85 [dx a,ey l] []) post:=by kernel_rfl
def qcJ:bm:=fun ps R post=> ∃a l,ps=[dx a,ey l]/\R=[]/\(a.length<=1000000/\l.length=a.length)/\ ∀t,t=HX a l->post (.sl 0 0 t.length,[(0,⟨0,none,qh false t⟩)])
def qcK:bm:=fun ps R post=> ∃l x y,ps=[.sl 0 0 l.length,.d (bH x),.d (bH y)]/\R=AP false l/\l.length<=1000000/\ ∀b,b=within l x y->post (.d (.bool b),AP false l)
abbrev rpA (t:List Td) (o:List Pl) (i:Int):S:=⟨96,[(5,.sl 0 0 t.length),(6,.sl 1 0 o.length),(7,iD i)],[(0,⟨0,none,qh false t⟩),(1,⟨0,none,po false o⟩)]⟩
abbrev rpB (t:List Td) (o:List Pl) (m:Nat) (i k:Int):S:=⟨96,[(5,.sl 0 0 t.length),(6,.sl 1 0 m),(7,iD i),(10,iD k)],[(0,⟨0,none,qh false t⟩),(1,⟨0,none,po false o⟩)]⟩
def ZaZ (post:PX×S->Prop) (t:List Td) (m:Nat) (i:Int) (o:List Pl):Prop:=post (PX.exit 2,S.mk 96 [HZ t,V2 m,tI i] (Dg t::Fc o))
def JT (o:List Pl) (k:Int):D:=D.nth (gW o) (Zc k)
def ZaX (o:List Pl) (k:Int):List D:=List.set (gW o) (Zg k) (D.aY (D.agg (VU o k)) [D.int IntKind.i64 (D.ah (D.ao (JT o k) 0)),D.int IntKind.i64 (D.ah (D.ao (JT o k) 1)),D.int IntKind.i64 (D.ah (D.ao (JT o k) 2)),D.int IntKind.i64 (D.ah (D.ao (JT o k) 3)),D.int IntKind.i64 (D.ah (D.ao (JT o k) 4)),D.int IntKind.i64 (D.ah (D.ao (JT o k) 5)),D.str (D.eT (D.ao (JT o k) 6)),D.bool (D.fI (D.ao (JT o k) 7))])
def SX (o:List Pl) (k:Int):D:=D.nth (ZaX o k) (Zc k)
theorem qfo (t:List Td) (o:List Pl) (m:Nat) (i k:Int) (post:PX×S->Prop):(bif Zq k then bif nN k m then bif FK k o then bif qe o k then bif Zb k then bif AL k m then bif decide (Zc k<rO o) then bif cX PR (104:TypeId) (JT o k) then∃(oU:Int) (r:Int) (aJ:Int) (t':Int) (r':Int) (i':Int),[HU o k,P.d (D.agg [D.int IntKind.i64 (D.ah (D.ao (JT o k) 0)),D.int IntKind.i64 (D.ah (D.ao (JT o k) 1)),D.int IntKind.i64 (D.ah (D.ao (JT o k) 2))])]=V0 oU r aJ t' r' i'/\Zw/\bif decide (qB oU r aJ t' r' i'<(0:Int)) then bif Zb k then bif Zb k then bif AL k m then bif decide (Zc k<rO o) then bif cX PR (104:TypeId) (JT o k) then bif nN k m then bif FK k o then bif qe o k then bif nN k m then bif FK k o then bif qe o k then bif AL k m then bif decide (Zc k<List.length (ZaX o k)) then bif cX PR (104:TypeId) (SX o k) then bif Zb k then post (PX.normal,S.mk 96 (HZ t::V2 m::tI i::Z6l k) [Dg t,(1,En.mk 0 none (Obj.arr (104:TypeId) false (List.set (ZaX o k) (Zc k) (D.aY (D.agg [D.int IntKind.i64 (D.ah (D.ao (SX o k) 0)),D.int IntKind.i64 (D.ah (D.ao (SX o k) 1)),D.int IntKind.i64 (D.ah (D.ao (SX o k) 2)),D.int IntKind.i64 (D.ah (D.ao (SX o k) 3)),D.int IntKind.i64 (D.ah (D.ao (SX o k) 4)),D.int IntKind.i64 (D.ah (D.ao (SX o k) 5)),D.str (D.eT (D.ao (SX o k) 6)),D.bool (D.fI (D.ao (SX o k) 7))]) (VU o k)))))]) else False else False else False else False else False else False else False else False else False else False else False else False else False else False else False else ZaZ post t m i o else False else False else False else False else False else False else False else ZaZ post t m i o)=(aF [(88,kC)] [] 55 14 (rpB t o m i k)) post:=by kernel_rfl
def qcL:S->K (PX×S):=fun s post=> ∃t o x m i k,s=rpB t (o++[x]) m i k/\(k=(o.length:Int)/\m=o.length+1/\o.length<=1000000)/\ ∀o',o'=dy ltN o x->post (.exit 2,rpA t o' i)
def Zb2 (o:List Pl) (t:List Td) (i:Int):Nat:=js o+List.length [D.agg (ZaR t i)]
def Zb1 (t:List Td) (i:Int):List P:=[P.d (D.agg [ZaL t i,ZaM t i,ZaN t i])]
def Zb0 (t:List Td) (o:List Pl) (i:Int):List (Nat×P):=HZ t::(6,P.sl 1 0 (js o))::ZJ i
theorem Yv (t:List Td) (o:List Pl) (i:Int) (post:PX×S->Prop):(bif decide (i<(↑(List.length t):Int)) then bif decide ((0:Int)<=i/\i<(↑(List.length t):Int)) then bif SU i t then bif cX PR (155:TypeId) (rJ t i) then bif D.ah (D.ao (rJ t i) 3)==(0:Int)&&(D.ah (D.ao (rJ t i) 4)==(0:Int)&&true)&&(D.ah (D.ao (rJ t i) 5)==(0:Int)&&true) then bif Zj i then post (PX.normal,S.mk 96 (Zb0 t o i) (Dg t::Fc o)) else False else∃(l:List Pl) (x:aC) (y:aC),sE o::P.d (D.agg [ZaO t i,ZaP t i,ZaQ t i])::Zb1 t i=sE l::uZ x::kW y/\VW o=VW l/\nA l/\ ∀(b:Bool),b=within l x y->bif b then bif Zj i then post (PX.normal,S.mk 96 (Zb0 t o i) (Dg t::Fc l)) else False else∃(ar:List Pl) (x:aC),sE o::Zb1 t i=sE ar::kW x/\VW l=VW ar/\nA ar/\bif decide (eC ar x>=(0:Int)) then bif decide ((0:Int)<=eC ar x/\eC ar x<(↑(js o):Int)) then bif Z8t ar x then bif cX PR (104:TypeId) (Da ar x) then bif decide ((0:Int)<=eC ar x/\eC ar x<(↑(js o):Int)) then bif Z8t ar x then bif cX PR (104:TypeId) (Da ar x) then bif Zj i then post (PX.normal,S.mk 96 (Zb0 t o i) [Dg t,(1,En.mk 0 none (Obj.arr (104:TypeId) false (List.set (gW ar) (Int.toNat (eC ar x)) (D.aY (D.agg [D.int IntKind.i64 (D.ah (D.ao (Da ar x) 0)),D.int IntKind.i64 (D.ah (D.ao (Da ar x) 1)),D.int IntKind.i64 (D.ah (D.ao (Da ar x) 2)),D.int IntKind.i64 (D.ah (D.ao (Da ar x) 3)),D.int IntKind.i64 (D.ah (D.ao (Da ar x) 4)),D.int IntKind.i64 (D.ah (D.ao (Da ar x) 5)),D.str (D.eT (D.ao (Da ar x) 6)),D.bool (D.fI (D.ao (Da ar x) 7))]) [ZaL t i,ZaM t i,ZaN t i,ZaO t i,ZaP t i,ZaQ t i,D.str (D.eT (D.ao (rJ t i) 9)),D.bool (D.fI (D.ao (Da ar x) 7))]))))]) else False else False else False else False else False else False else False else bif Nat.ble (js o) (rO ar)&&aT (Zb2 o t i) 72 then bif decide (Z9<=(↑(Zb2 o t i):Int)-(1:Int)/\(↑(Zb2 o t i):Int)-(1:Int)<=Za) then∃(oU:List Td) (aQ:List Pl) (x:Pl) (m:Nat) (aJ:Int) (k:Int),S.mk 96 [HZ t,(6,P.sl 1 0 (Zb2 o t i)),tI i,(10,P.d (D.int IntKind.i64 ((↑(Zb2 o t i):Int)-(1:Int))))] [Dg t,(1,En.mk 0 none (Obj.arr (104:TypeId) false (List.take (js o) (gW ar)++[D.agg (ZaR t i)])))]=S.mk 96 [HZ oU,V2 m,tI aJ,(10,P.d (Zs k))] [Dg oU,(1,En.mk 0 none (Obj.arr (104:TypeId) false (List.map bI (aQ++[x]))))]/\(k=(↑(js aQ):Int)/\m=js aQ+1/\nA aQ)/\ ∀(o':List Pl),o'=dy ltN aQ x->bif Zj aJ then post (PX.normal,S.mk 96 (Zb0 oU o' aJ) (Dg oU::Fc o')) else False else False else False else False else False else False else post (PX.exit 0,S.mk 96 [(6,sE o)] (FL o)))=(aF [(86,qcK),(87,Fa)] [(14,ae (aK 55 14) qcL)] 55 4 (rpA t o i)) post:=by kernel_rfl
def qcM:S->K (PX×S):=fun s post=> ∃t,s=rpA t [] 0/\t.length<=1000000/\ ∀o,o=L1 t->post (.exit 0,⟨96,[(6,.sl 0 0 o.length)],[(0,⟨0,none,po false o⟩)]⟩)
def Zb3 (t:List Td):S:=S.mk 96 (HZ t::Z9d) [Dg t,(1,yC)]
theorem qg4 (a:List aC) (l:List Pl) (post:P×List (Nat×En)->Prop):(∃(nC:List aC) (ar:List Pl),[nr a,kS l]=[nr nC,kS ar]/\Zw/\(uK nC/\js ar=List.length nC)/\ ∀(t:List Td),t=HX nC ar-> ∃(oU:List Td),Zb3 t=Zb3 oU/\List.length oU<=1000000/\ ∀(o:List Pl),o=L1 oU->post (sE o,FL o))=(aH [(85,qcJ)] [(4,ae (aK 55 4) qcM)] 55 [dx a,ey l] []) post:=by kernel_rfl
def qcN:bm:=fun ps R post=> ∃a l,ps=[dx a,ey l]/\R=[]/\(a.length<=1000000/\l.length=a.length)/\ ∀o,o=L1 (HX a l)->post (.sl 0 0 o.length,[(0,⟨0,none,po false o⟩)])
end Pi
namespace Pi
open Go Go.Proofs
set_option maxRecDepth 100000
theorem Fl (x:Td):cX PR 155 (mB x)=true:=by kernel_rfl
section
variable {X:XF}
theorem qfp:FD X 86 qcK:=Yh.weaken fun ps R post h=>by
 obtain⟨l,x,y,rfl,rfl,hm,hp⟩:=h
 exact⟨false,l,x,y,rfl,rfl,hm,hp⟩
theorem Wr:LD X 85 7 (ae (aK 85 7) qcG):=LD.idx (H:=[]) (hk:=[]) (by kernel_rfl) (by kernel_rfl) .nil .nil
 (A:=List aC×List Pl×List Td×Int×aC) (B:=Bool) (fun a b k=>rsB a.1 a.2.1 a.2.2.1 a.2.2.2.1 b k) (fun a=>a.2.2.1.length) (fun a k b=>(a.2.2.1.length<=1000000/\0<=a.2.2.2.1/\a.2.2.2.1<a.1.length/\D.nth (a.1.map bH) a.2.2.2.1.toNat=bH a.2.2.2.2)/\b=((a.2.2.1.take k).any fun x=>x.1==a.2.2.2.2))
 (fun a x=>x=(.exit 2,⟨93,[(0,dx a.1),(1,ey a.2.1),(5,.sl 0 0 a.2.2.1.length),(6,iD a.2.2.2.1),(7,.d (.bool (a.2.2.1.any fun x=>x.1==a.2.2.2.2)))],[(0,⟨0,none,qh false a.2.2.1⟩)]⟩))
 (by
  rintro⟨a,l,t,i,y⟩ b k post h0 zX eb ⟨⟨hm,sX,bS,hy⟩,hb⟩ hn ho
  try dsimp only at*
  (rw[<-Yt];delta iz pQ Zg Ja Jb Jc Az tB Lf rJ SU Dg SV Zm rC ZM Zs ZI HZ gW kS Dh nr CQ Za Z9 Zj)
  have e1:D.nth (t.map mB) k.toNat=mB t[k.toNat]:=ay _ _ _ eb
  have vM:(t.take (k.toNat+1)).any (fun x=>x.1==y)=(b ||t[k.toNat].1==y):=by
   rw[List.take_succ_eq_append_getElem eb,List.any_append,hb]
   simp
  rw[e1,hy]
  generalize t[k.toNat]=z at*
  simp only[List.length_map]
  refine bV zX ?_
  have v:(D.ah (D.ao (mB z) 0)==D.ah (D.ao (bH y) 0)&&(D.ah (D.ao (mB z) 1)==D.ah (D.ao (bH y) 1)&&true)&&(D.ah (D.ao (mB z) 2)==D.ah (D.ao (bH y) 2)&&true))=(z.1==y):=C5 z.1 y
  rw[v]
  refine aw (fun Cl=>ak (by omega) (hn true ⟨⟨hm,sX,bS,hy⟩,by rw[vM,Cl,Bool.true_or]⟩)) fun Dd=>ak ⟨h0,zX⟩ (ak (by first |exact eb |simpa using eb) (aq (Fl _) (ak ⟨sX,bS⟩ (aq (rj _) (ak (by omega) (hn _ ⟨⟨hm,sX,bS,hy⟩,by rw[vM,Dd,Bool.false_or]⟩)))))))
 (by
  rintro⟨a,l,t,i,y⟩ b k post hk ⟨⟨hm,sX,bS,hy⟩,hb⟩ ho
  try dsimp only at*
  (rw[<-Yt];delta iz pQ Zg Ja Jb Jc Az tB Lf rJ SU Dg SV Zm rC ZM Zs ZI HZ gW kS Dh nr CQ Za Z9 Zj)
  refine nv (by omega) (ho _ (fun h=>by cases h) ?_)
  rw[hb,List.take_length])
 (by
  rintro s post ⟨a,l,t,i,hi,rfl,⟨h1,h2,h3⟩,hp⟩
  refine⟨(a,l,t,i,a[i.toNat]),false,rfl,⟨⟨h1,h2,h3,ay _ _ _ hi⟩,by simp⟩,?_⟩
  rintro x rfl
  exact hp _ rfl)
theorem Ws:LD X 85 13 (ae (aK 85 13) qcH):=LD.ins (H:=[(88,kC)]) (hk:=[]) (by kernel_rfl) (by kernel_rfl) (.cons oY .nil) .nil
 (A:=List aC×List Pl×Nat×Int) (α:=Td) (fun a o k=>rsC a.1 a.2.1 o a.2.2.1 a.2.2.2 k) ltT (fun a=>a.2.2.1) (fun _=>True) (fun a o=>(.exit 4,⟨93,[(0,dx a.1),(1,ey a.2.1),(5,.sl 0 0 a.2.2.1),(6,iD a.2.2.2)],[(0,⟨0,none,qh false o⟩)]⟩)) (fun _ _ h=>by cases h)
 (by
  rintro⟨a,l,n,i⟩ o k post _ h0 Lz nM hk hz b9 fM
  try dsimp only at*
  subst Lz
  (rw[<-qfm];delta Dg SV Zg rJ ZaQ ZaP ZaO ZaN ZaM ZaL ZaR ZaS Zr Vl Zs ZI Zz ZA gW kS Dh nr CQ Zc Fk ZaT L6 Zw ZC G6 V0 AL Za Z9 Zb SU nN Zq)
  refine bJ (fun hp=> ?_) fun hp=>hz (by omega)
  have gh:k.toNat-1<o.length:=by omega
  have ek:(k-1).toNat=k.toNat-1:=by omega
  have e1:D.nth (o.map mB) k.toNat=mB o[k.toNat]:=ay _ _ _ hk
  have e2:D.nth (o.map mB) (k.toNat-1)=mB o[k.toNat-1]:=ay _ _ _ gh
  have b9:=b9 hp
  have fM:=fM hp
  have CG:=mb mB o k.toNat o[k.toNat] o[k.toNat-1]
  have e3: ∀z,D.nth ((o.map mB).set k.toNat z) (k.toNat-1)=mB o[k.toNat-1]:=fun z=>by
   unfold D.nth
   rw[List.getD_eq_getElem?_getD,List.getElem?_set_ne (by omega)]
   simp[gh]
  rw[ek,e1,e2]
  simp only[e3]
  generalize o[k.toNat]=x at*
  generalize o[k.toNat-1]=y at*
  simp only[List.length_map,List.length_set] at fM⊢
  have CH:0<=k/\k<(o.length:Int):=⟨h0,by omega⟩
  have CI:0<=k-1/\k-1<(o.length:Int):=⟨by omega,by omega⟩
  have hf:(-9223372036854775808:Int)<=k-1/\k-1<=9223372036854775807:=by omega
  refine ak CH (ak hk (aq (Fl _) (ak hf (ak CI (ak gh (aq (Fl _) ⟨(x.1).1,(x.1).2.1,(x.1).2.2,(y.1).1,(y.1).2.1,(y.1).2.2,rfl,rfl,bJ (fun h=> ?_) fun h=>b9 (by rw[<-Bool.not_eq_true];exact fun h2=>h ((jJ (x.1) (y.1)).2 h2))⟩))))))
  have hy:=fM ((jJ (x.1) (y.1)).1 h)
  simp only[rsC,qh] at hy
  rw[<-CG] at hy
  refine ak hf (ak hf (ak CI (ak gh (aq (Fl _) (ak CH (ak hk (aq (Fl _) (ak CH (ak hk (aq (Fl _) (ak CI (ak gh (aq (Fl _) (ak hf ?_))))))))))))))
  exact hy)
 (by
  rintro s post ⟨a,l,o,x,n,i,k,rfl,⟨hk,hn,ho⟩,hp⟩
  refine⟨(a,l,n,i),o,x,k,rfl,hk,trivial,⟨hn.symm,ho⟩,?_⟩
  have:=hp _ rfl
  rw[rsA,pg,<-hn] at this
  exact this)
theorem Wt {a:List aC} {l:List Pl} {i:Nat} (h:i<a.length) (h2:i<l.length):HX (a.take (i+1)) (l.take (i+1))=SK (HX (a.take i) (l.take i)) (a[i],l[i]):=by
 unfold HX
 rw[List.take_succ_eq_append_getElem h,List.take_succ_eq_append_getElem h2,List.zip_append (by rw[List.length_take,List.length_take];omega),List.foldl_append]
 rfl
theorem Wu:LD X 85 3 (ae (aK 85 3) qcI):=LD.idx (H:=[]) (hk:=[(7,ae (aK 85 7) qcG),(13,ae (aK 85 13) qcH)]) (by kernel_rfl) (by kernel_rfl) .nil (.cons Wr (.cons Ws .nil))
 (A:=List aC×List Pl) (B:=List Td) (fun a t i=>rsA a.1 a.2 t i) (fun a=>a.1.length) (fun a i t=>(a.1.length<=1000000/\a.2.length=a.1.length)/\t=HX (a.1.take i) (a.2.take i))
 (fun a x=>x=(.exit 0,⟨93,[(5,.sl 0 0 (HX a.1 a.2).length)],[(0,⟨0,none,qh false (HX a.1 a.2)⟩)]⟩))
 (by
  rintro⟨a,l⟩ t i post h0 bS bc ⟨hm,ht⟩ hn ho
  try dsimp only at*
  rw[<-Yu]
  have qfq:i.toNat<l.length:=by omega
  have htl:t.length<=i.toNat:=by
   have:=vQ (a.take i.toNat) (l.take i.toNat)
   rw[List.length_take] at this
   rw[ht]
   omega
  have e1:D.nth (a.map bH) i.toNat=bH a[i.toNat]:=ay _ _ _ bc
  have e2:D.nth (l.map bI) i.toNat=bI l[i.toNat]:=ay _ _ _ qfq
  have kK:=Wt bc qfq
  rw[<-ht] at kK
  have iS:=fun t' (h:t'=SK t (a[i.toNat],l[i.toNat]))=>hn t' ⟨hm,by rw[kK];exact h⟩
  simp only[List.length_map]
  refine bV bS (bV (by omega) ⟨a,l,t,i,bc,rfl,⟨by omega,h0,bS⟩,fun b hb=> ?_⟩)
  rw[e1,e2]
  generalize a[i.toNat]=x at*
  generalize l[i.toNat]=p at*
  refine aw (fun Cl=>ak (by omega) (iS t ?_)) fun Dd=> ?_
  ·unfold SK
   rw[if_pos (by rw[<-hb];exact Cl)]
  ·have qcs:SK t (x,p)=dy ltT t (x,p):=by
    unfold SK
    rw[if_neg (by rw[<-hb,Dd];simp)]
   have t1:List.take t.length (t.map mB)++[mB (x,p)]=(t++[(x,p)]).map mB:=dU mB t (x,p)
   simp only[List.length_cons,List.length_nil,Nat.zero_add]
   refine ak ⟨h0,bS⟩ (aq (rj _) (ak ⟨h0,by omega⟩ (aq (gL _) (aq ?_ (ak (by omega) ⟨a,l,t,(x,p),t.length+1,i,((t.length+1:Nat):Int)-1,congrArg (fun z=>(⟨93,[(0,dx a),(1,ey l),(5,.sl 0 0 (t.length+1)),(6,iD i),(9,iD (((t.length+1:Nat):Int)-1))],[(0,⟨0,none,.arr 155 false z⟩)]⟩:S)) t1,⟨by omega,rfl,by omega⟩,fun t' ht'=>ak (by omega) (iS t' (by rw[qcs];exact ht'))⟩)))))
   rw[Bool.and_eq_true]
   exact⟨by simp,cD (by omega) (by omega)⟩)
 (by
  rintro⟨a,l⟩ t i post hi ⟨hm,ht⟩ ho
  try dsimp only at*
  rw[<-Yu]
  refine nv (by simp only[List.length_map];omega) (ho _ (fun h=>by cases h) ?_)
  rw[ht,List.take_length,<-hm.2,List.take_length])
 (by
  rintro s post ⟨a,l,rfl,hm,hp⟩
  refine⟨(a,l),[],rfl,⟨hm,rfl⟩,?_⟩
  rintro x rfl
  exact hp _ rfl)
theorem qfr:FD X 85 qcJ:=FD.mk (H:=[]) (hk:=[(3,ae (aK 85 3) qcI)]) (by kernel_rfl) .nil (.cons Wu .nil) (by
 intro ps R post hh
 obtain⟨a,l,rfl,rfl,hm,hp⟩:=hh
 (rw[<-qfn];delta Dg SV js uK Z7 CD ZO gW kS Dh nr CQ ZaV)
 exact⟨a,l,rfl,hm,fun t ht=>hp t ht⟩)
theorem Wv:LD X 55 14 (ae (aK 55 14) qcL):=LD.ins (H:=[(88,kC)]) (hk:=[]) (by kernel_rfl) (by kernel_rfl) (.cons oY .nil) .nil
 (A:=List Td×Nat×Int) (α:=Pl) (fun a o k=>rpB a.1 o a.2.1 a.2.2 k) ltN (fun a=>a.2.1) (fun _=>True) (fun a o=>(.exit 2,⟨96,[(5,.sl 0 0 a.1.length),(6,.sl 1 0 a.2.1),(7,iD a.2.2)],[(0,⟨0,none,qh false a.1⟩),(1,⟨0,none,po false o⟩)]⟩)) (fun _ _ h=>by cases h)
 (by
  rintro⟨t,m,i⟩ o k post _ h0 Lz nM hk hz b9 fM
  try dsimp only at*
  subst Lz
  (rw[<-qfo];delta gW MN Fc Dg Zs tI V2 HZ ZaZ Zg nO LU LV LW VU Zr Z6l Zc JT ZaX SX Zw ZC G6 V0 HU rO AL Za Z9 Zb qe FK nN Zq)
  refine bJ (fun hp=> ?_) fun hp=>hz (by omega)
  have gh:k.toNat-1<o.length:=by omega
  have ek:(k-1).toNat=k.toNat-1:=by omega
  have e1:D.nth (o.map bI) k.toNat=bI o[k.toNat]:=ay _ _ _ hk
  have e2:D.nth (o.map bI) (k.toNat-1)=bI o[k.toNat-1]:=ay _ _ _ gh
  have b9:=b9 hp
  have fM:=fM hp
  have CG:=mb bI o k.toNat o[k.toNat] o[k.toNat-1]
  have e3: ∀z,D.nth ((o.map bI).set k.toNat z) (k.toNat-1)=bI o[k.toNat-1]:=fun z=>by
   unfold D.nth
   rw[List.getD_eq_getElem?_getD,List.getElem?_set_ne (by omega)]
   simp[gh]
  rw[ek,e1,e2]
  simp only[e3]
  generalize o[k.toNat]=x at*
  generalize o[k.toNat-1]=y at*
  simp only[List.length_map,List.length_set] at fM⊢
  have CH:0<=k/\k<(o.length:Int):=⟨h0,by omega⟩
  have CI:0<=k-1/\k-1<(o.length:Int):=⟨by omega,by omega⟩
  have hf:(-9223372036854775808:Int)<=k-1/\k-1<=9223372036854775807:=by omega
  refine ak CH (ak hk (aq (gL _) (ak hf (ak CI (ak gh (aq (gL _) ⟨(x.1).1,(x.1).2.1,(x.1).2.2,(y.1).1,(y.1).2.1,(y.1).2.2,rfl,rfl,bJ (fun h=> ?_) fun h=>b9 (by rw[<-Bool.not_eq_true];exact fun h2=>h ((jJ (x.1) (y.1)).2 h2))⟩))))))
  have hy:=fM ((jJ (x.1) (y.1)).1 h)
  simp only[rpB,po,qh] at hy
  rw[<-CG] at hy
  refine ak hf (ak hf (ak CI (ak gh (aq (gL _) (ak CH (ak hk (aq (gL _) (ak CH (ak hk (aq (gL _) (ak CI (ak gh (aq (gL _) (ak hf ?_))))))))))))))
  exact hy)
 (by
  rintro s post ⟨t,o,x,m,i,k,rfl,⟨hk,hn,ho⟩,hp⟩
  refine⟨(t,m,i),o,x,k,rfl,hk,trivial,⟨hn.symm,ho⟩,?_⟩
  have:=hp _ rfl
  rw[rpA,pg,<-hn] at this
  exact this)
theorem Ww {t:List Td} {i:Nat} (h:i<t.length):L1 (t.take (i+1))=Rg (L1 (t.take i)) t[i]:=by
 unfold L1
 rw[List.take_succ_eq_append_getElem h,List.foldl_append]
 rfl
theorem Wx:LD X 55 4 (ae (aK 55 4) qcM):=LD.idx (H:=[(86,qcK),(87,Fa)]) (hk:=[(14,ae (aK 55 14) qcL)]) (by kernel_rfl) (by kernel_rfl) (.cons qfp (.cons Q9 .nil)) (.cons Wv .nil)
 (A:=List Td) (B:=List Pl) (fun t o i=>rpA t o i) (fun t=>t.length) (fun t i o=>t.length<=1000000/\o=L1 (t.take i))
 (fun t x=>x=(.exit 0,⟨96,[(6,.sl 0 0 (L1 t).length)],[(0,⟨0,none,po false (L1 t)⟩)]⟩))
 (by
  rintro t o i post h0 bS bc ⟨hm,ho⟩ hn cp
  (rw[<-Yv];delta gW MN FL Zs V2 Zg rJ ZaQ ZaP ZaO ZaN ZaM ZaL ZaR tI HZ Za Z9 js Zb2 rO Da Z8t nA VW lD lE uZ kW Zb1 sE Fc Dg Zm ZJ Zb0 Zj SU)
  have nM:o.length<=i.toNat:=by
   have:=CU (t.take i.toNat)
   rw[List.length_take] at this
   rw[ho]
   omega
  have e1:D.nth (t.map mB) i.toNat=mB t[i.toNat]:=ay _ _ _ bc
  have kK:=Ww bc
  rw[<-ho] at kK
  have iS:=fun o' (h:o'=Rg o t[i.toNat])=>hn o' ⟨hm,by rw[kK];exact h⟩
  rw[e1]
  generalize t[i.toNat]=y at*
  have v:(D.ah (D.ao (mB y) 3)==0&&(D.ah (D.ao (mB y) 4)==0&&true)&&(D.ah (D.ao (mB y) 5)==0&&true))=(y.2.1==aS):=C5 y.2.1 aS
  have qg5:i.toNat<(t.map mB).length:=by rw[List.length_map];exact bc
  rw[v]
  simp only[List.length_cons,List.length_nil,Nat.zero_add]
  refine bV bS (ak ⟨h0,bS⟩ (ak qg5 (aq (Fl _) ?_)))
  refine aw (fun hr=>ak (by omega) (iS o ?_)) fun hr=>⟨o,y.2.2.1,y.2.1,rfl,rfl,by omega,fun b hb=>aw (fun Cl=>ak (by omega) (iS o ?_)) fun Dd=>⟨o,y.2.1,rfl,rfl,by omega,bJ (fun DA=> ?_) fun DA=> ?_⟩⟩
  ·unfold Rg
   rw[if_pos (.inl (by simpa using hr))]
  ·unfold Rg
   rw[if_pos (.inr (by rw[<-hb];exact Cl))]
  ·have b9: ¬(y.2.1=aS\/within o y.2.2.1 y.2.1=true):=fun hh=>hh.elim (fun e=>by rw[e] at hr;simp at hr) (fun e=>by rw[<-hb,Dd] at e;cases e)
   have FG:(eC o y.2.1).toNat<o.length:=by
    rcases rF (fun p:Pl=>p.1==y.2.1) o with⟨k,p,h2,h3,h4⟩| ⟨h2,h3⟩
    ·have hk:k<o.length:=(List.getElem?_eq_some_iff.1 h2).1
     have e:eC o y.2.1=(k:Int):=h4
     omega
    ·have e:eC o y.2.1= -1:=h2
     omega
   have C2:(eC o y.2.1).toNat<(o.map bI).length:=by rw[List.length_map];exact FG
   have hy:=iS (o.set (eC o y.2.1).toNat (y.2.1,y.2.2.1,y.2.2.2.1,(o.getD (eC o y.2.1).toNat su).2.2.2)) (by unfold Rg;rw[if_neg b9,if_pos DA])
   rw[iy FG]
   generalize o.getD (eC o y.2.1).toNat su=q at*
   simp only[rpA,po,qh,List.map_set,List.length_set] at hy
   refine ak ⟨DA,by omega⟩ (ak C2 (aq (gL _) (ak ⟨DA,by omega⟩ (ak C2 (aq (gL _) (ak (by omega) ?_))))))
   exact hy
  ·have b9: ¬(y.2.1=aS\/within o y.2.2.1 y.2.1=true):=fun hh=>hh.elim (fun e=>by rw[e] at hr;simp at hr) (fun e=>by rw[<-hb,Dd] at e;cases e)
   have t1:List.take o.length (o.map bI)++[bI y.2]=(o++[y.2]).map bI:=dU bI o y.2
   refine aq ?_ (ak (by omega) ⟨t,o,y.2,o.length+1,i,((o.length+1:Nat):Int)-1,congrArg (fun z=>(⟨96,[(5,.sl 0 0 t.length),(6,.sl 1 0 (o.length+1)),(7,iD i),(10,iD (((o.length+1:Nat):Int)-1))],[(0,⟨0,none,qh false t⟩),(1,⟨0,none,.arr 104 false z⟩)]⟩:S)) t1,⟨by omega,rfl,by omega⟩,fun o' lW=>ak (by omega) (iS o' (by unfold Rg;rw[if_neg b9,if_neg DA];exact lW))⟩)
   rw[Bool.and_eq_true]
   exact⟨by simp,cD (by omega) (by omega)⟩)
 (by
  rintro t o i post hi ⟨hm,ho⟩ cp
  (rw[<-Yv];delta gW MN FL Zs V2 Zg rJ ZaQ ZaP ZaO ZaN ZaM ZaL ZaR tI HZ Za Z9 js Zb2 rO Da Z8t nA VW lD lE uZ kW Zb1 sE Fc Dg Zm ZJ Zb0 Zj SU)
  refine nv (by first |omega | (simp only[List.length_map];omega)) (cp _ (fun h=>by cases h) ?_)
  rw[ho,List.take_length])
 (by
  rintro s post ⟨t,rfl,hm,hp⟩
  refine⟨t,[],rfl,⟨hm,rfl⟩,?_⟩
  rintro x rfl
  exact hp _ rfl)
theorem qfs:FD X 55 qcN:=FD.mk (H:=[(85,qcJ)]) (hk:=[(4,ae (aK 55 4) qcM)]) (by kernel_rfl) (.cons qfr .nil) (.cons Wx .nil) (by
 intro ps R post hh
 obtain⟨a,l,rfl,rfl,hm,hp⟩:=hh
 (rw[<-qg4];delta gW MN FL js sE yC Dg Z7 ZZ yy Z9d HZ Zb3 uK Zw kS nr)
 have:=vQ a l
 exact⟨a,l,rfl,rfl,hm,fun t ht=>⟨t,rfl,by rw[ht];omega,fun o ho=>hp o (by rw[ho,ht])⟩⟩)
end
end Pi
namespace Pi
open Go Go.Proofs
set_option maxRecDepth 100000
set_option maxHeartbeats 0
abbrev md3 (l:List aj) (p o:List Pl) (i:Int):S:=⟨78,[(0,bO l),(1,ey p),(5,.sl 0 0 o.length),(6,iD i)],[(0,⟨0,none,po false o⟩)]⟩
abbrev md6 (l:List aj) (p o:List Pl) (i j:Int):S:=⟨78,[(0,bO l),(1,ey p),(5,.sl 0 0 o.length),(6,iD i),(7,iD j)],[(0,⟨0,none,po false o⟩)]⟩
abbrev md9 (l:List aj) (p o:List Pl) (i j k:Int):S:=⟨78,[(0,bO l),(1,ey p),(5,.sl 0 0 o.length),(6,iD i),(7,iD j),(8,iD k)],[(0,⟨0,none,po false o⟩)]⟩
def Zb8 (k:Int) (post:PX×S->Prop) (l:List aj) (p:List Pl) (o:List Pl) (i:Int) (j:Int):Prop:=bif Zj k then post (PX.normal,S.mk 78 (lH l::Dh p::(5,sE o)::ZI i::tI j::rC k) (FL o)) else False
def mC (l:List aj) (j:Int) (k:Int):D:=D.nth (D.ez (D.ao (fQ l j) 6)) (Zg k)
def Zb7 (p:List Pl) (i:Int) (l:List aj) (j:Int) (k:Int):List D:=[D.agg [LW p i,LV p i,LU p i,D.int IntKind.i64 (D.ah (D.ao (nO p i) 3)),D.int IntKind.i64 (D.ah (D.ao (nO p i) 4)),D.int IntKind.i64 (D.ah (D.ao (nO p i) 5)),D.str (D.eT (D.ao (nO p i) 6)),D.bool (D.fI (D.ao (mC l j k) 8))]]
def SY (l:List aj) (j:Int):Int:=(↑(List.length (D.ez (D.ao (fQ l j) 6))):Int)
def Yw (k:Int) (l:List aj) (j:Int):Bool:=decide ((0:Int)<=k/\k<SY l j)
theorem Yx (l:List aj) (p o:List Pl) (i j k:Int) (post:PX×S->Prop):(bif pc j l then bif c8 l j then bif decide (k<SY l j) then bif pc j l then bif c8 l j then bif Yw k l j then bif cX PR (54:TypeId) (mC l j k) then bif D.ah (D.ao (mC l j k) 0)==(0:Int) then bif pc j l then bif c8 l j then bif Yw k l j then bif cX PR (54:TypeId) (mC l j k) then bif E7 i p then bif qe p i then bif D.ah (D.ao (mC l j k) 1)==D.ah (D.ao (nO p i) 0)&&(D.ah (D.ao (mC l j k) 2)==D.ah (D.ao (nO p i) 1)&&true)&&(D.ah (D.ao (mC l j k) 3)==D.ah (D.ao (nO p i) 2)&&true) then bif E7 i p then bif qe p i then bif pc j l then bif c8 l j then bif Yw k l j then bif cX PR (54:TypeId) (mC l j k) then bif Nat.ble (js o) (rO o)&&aT (js o+List.length (Zb7 p i l j k)) 72 then bif Zj k then post (PX.normal,S.mk 78 (lH l::Dh p::(5,P.sl 0 0 (js o+List.length (Zb7 p i l j k)))::ZI i::tI j::rC k) [(0,En.mk 0 none (Obj.arr (104:TypeId) false (List.take (js o) (gW o)++Zb7 p i l j k)))]) else False else False else False else False else False else False else False else False else Zb8 k post l p o i j else False else False else False else False else False else False else Zb8 k post l p o i j else False else False else False else False else post (PX.exit 4,S.mk 78 [lH l,Dh p,(5,sE o),ZI i,tI j] (FL o)) else False else False)=(aF [] [] 54 9 (md9 l p o i j k)) post:=by kernel_rfl
def qcO:S->K (PX×S):=fun s post=> ∃(l:List aj) (p o:List Pl) (i j:Int) (hi:i.toNat<p.length) (hj:j.toNat<l.length),s=md9 l p o i j 0/\((0<=i/\0<=j/\p.length<=1000)/\l.length<=1000000/\o.length<=1000/\l[j.toNat].ops.length<=200)/\ ∀o',o'=o++mdG p[i.toNat] l[j.toNat]->post (.exit 4,md6 l p o' i j)
theorem Yy (l:List aj) (p o:List Pl) (i j:Int) (post:PX×S->Prop):(bif decide (j<(↑(List.length (List.map aP l)):Int)) then∃(ar:List aj),∃(sF:List Pl),∃(aQ:List Pl),∃(aJ:Int),∃(Yz:Int),∃(hi:Int.toNat aJ<List.length sF),∃(hj:Int.toNat Yz<List.length ar),S.mk 78 [(0,P.d (D.sl 7 (List.map aP l))),(1,P.d (D.sl 8 (List.map bI p))),(5,P.sl 0 0 (List.length o)),(6,P.d (D.int IntKind.i64 i)),(7,P.d (D.int IntKind.i64 j)),(8,P.d (D.int IntKind.i64 (0:Int)))] [(0,En.mk 0 none (Obj.arr 104 false (List.map bI o)))]=S.mk 78 [(0,P.d (D.sl 7 (List.map aP ar))),(1,P.d (D.sl 8 (List.map bI sF))),(5,P.sl 0 0 (List.length aQ)),(6,P.d (D.int IntKind.i64 aJ)),(7,P.d (D.int IntKind.i64 Yz)),(8,P.d (D.int IntKind.i64 (0:Int)))] [(0,En.mk 0 none (Obj.arr 104 false (List.map bI aQ)))]/\(((0:Int)<=aJ/\(0:Int)<=Yz/\List.length sF<=1000)/\List.length ar<=1000000/\List.length aQ<=1000/\List.length (aj.ops ar[Int.toNat Yz])<=200)/\ ∀(o':List Pl),o'=aQ++mdG sF[Int.toNat aJ] ar[Int.toNat Yz]->bif decide ((-9223372036854775808:Int)<=Yz+(1:Int)/\Yz+(1:Int)<=(9223372036854775807:Int)) then post (PX.normal,S.mk 78 [(0,P.d (D.sl 7 (List.map aP ar))),(1,P.d (D.sl 8 (List.map bI sF))),(5,P.sl 0 0 (List.length o')),(6,P.d (D.int IntKind.i64 aJ)),(7,P.d (D.int IntKind.i64 (Yz+(1:Int))))] [(0,En.mk 0 none (Obj.arr 104 false (List.map bI o')))]) else False else post (PX.exit 2,S.mk 78 [(0,P.d (D.sl 7 (List.map aP l))),(1,P.d (D.sl 8 (List.map bI p))),(5,P.sl 0 0 (List.length o)),(6,P.d (D.int IntKind.i64 i))] [(0,En.mk 0 none (Obj.arr 104 false (List.map bI o)))]))=(aF [] [(9,ae (aK 54 9) qcO)] 54 6 (md6 l p o i j)) post:=by kernel_rfl
def qcP:S->K (PX×S):=fun s post=> ∃(l:List aj) (p o:List Pl) (i:Int) (hi:i.toNat<p.length),s=md6 l p o i 0/\((0<=i/\p.length<=1000)/\l.length<=1000000/\o.length<=999/\(∀g∈l,cQ g=true)/\(l.map (·.s)).Nodup)/\ ∀o',o'=o++Db l p[i.toNat]->post (.exit 2,md3 l p o' i)
theorem YA (l:List aj) (p o:List Pl) (i:Int) (post:PX×S->Prop):(bif decide (i<(↑(List.length (List.map bI p)):Int)) then∃(ar:List aj),∃(sF:List Pl),∃(aQ:List Pl),∃(aJ:Int),∃(hi:Int.toNat aJ<List.length sF),S.mk 78 [(0,P.d (D.sl 7 (List.map aP l))),(1,P.d (D.sl 8 (List.map bI p))),(5,P.sl 0 0 (List.length o)),(6,P.d (D.int IntKind.i64 i)),(7,P.d (D.int IntKind.i64 (0:Int)))] [(0,En.mk 0 none (Obj.arr 104 false (List.map bI o)))]=S.mk 78 [(0,P.d (D.sl 7 (List.map aP ar))),(1,P.d (D.sl 8 (List.map bI sF))),(5,P.sl 0 0 (List.length aQ)),(6,P.d (D.int IntKind.i64 aJ)),(7,P.d (D.int IntKind.i64 (0:Int)))] [(0,En.mk 0 none (Obj.arr 104 false (List.map bI aQ)))]/\(((0:Int)<=aJ/\List.length sF<=1000)/\List.length ar<=1000000/\List.length aQ<=999/\(∀(g:aj),g∈ar->cQ g=true)/\List.Nodup (List.map (fun(x:aj)=>aj.s x) ar))/\ ∀(o':List Pl),o'=aQ++Db ar sF[Int.toNat aJ]->bif decide ((-9223372036854775808:Int)<=aJ+(1:Int)/\aJ+(1:Int)<=(9223372036854775807:Int)) then post (PX.normal,S.mk 78 [(0,P.d (D.sl 7 (List.map aP ar))),(1,P.d (D.sl 8 (List.map bI sF))),(5,P.sl 0 0 (List.length o')),(6,P.d (D.int IntKind.i64 (aJ+(1:Int))))] [(0,En.mk 0 none (Obj.arr 104 false (List.map bI o')))]) else False else post (PX.exit 0,S.mk 78 [(5,P.sl 0 0 (List.length o))] [(0,En.mk 0 none (Obj.arr 104 false (List.map bI o)))]))=(aF [] [(6,ae (aK 54 6) qcP)] 54 3 (md3 l p o i)) post:=by kernel_rfl
def qcQ:S->K (PX×S):=fun s post=> ∃(l:List aj) (p:List Pl),s=md3 l p [] 0/\(p.length<=1000/\l.length<=1000000/\(∀g∈l,cQ g=true)/\(l.map (·.s)).Nodup)/\ ∀o,o=FO l p->post (.exit 0,⟨78,[(5,.sl 0 0 o.length)],[(0,⟨0,none,po false o⟩)]⟩)
def Zba (sF:List Pl) (ar:List aj):Prop:=js sF<=1000/\mA ar/\ZaD ar/\List.Nodup (List.map (fun(x:aj)=>aj.s x) ar)
def Zb9 (l:List aj) (p:List Pl):S:=S.mk 78 (lH l::Dh p::(5,ZO)::CD) [(0,yC)]
theorem qg6 (l:List aj) (p:List Pl) (post:P×List (Nat×En)->Prop):(∃(ar:List aj) (sF:List Pl),Zb9 l p=Zb9 ar sF/\Zba sF ar/\ ∀(o:List Pl),o=FO ar sF->post (sE o,FL o))=(aH [] [(3,ae (aK 54 3) qcQ)] 54 [bO l,ey p] []) post:=by kernel_rfl
def RJ:bm:=fun ps R post=> ∃l p,ps=[bO l,ey p]/\R=[]/\(p.length<=1000/\l.length<=1000000/\(∀g∈l,cQ g=true)/\(l.map (·.s)).Nodup)/\ ∀o,o=FO l p->post (.sl 0 0 o.length,[(0,⟨0,none,po false o⟩)])
abbrev ofR (m:List aj) (o:List ax) (nh nl:Nat) (A P H L:List D):List (Nat×En):=[(0,⟨0,none,my true m⟩),(1,⟨0,none,.box 69 [.sl 2 0 0,.sl 3 0 0,.sl 4 0 0,.sl 5 0 0,.sl 6 0 0]⟩),(2,⟨0,none,nV false []⟩),(3,⟨0,none,po false []⟩),(4,⟨0,none,qe6 false []⟩),(5,⟨0,none,qe6 false []⟩),(6,⟨0,none,.arr 72 false []⟩),(7,⟨0,none,.box 69 [.sl 8 0 o.length,.sl 9 0 0,.sl 10 0 nh,.sl 11 0 nl,.sl 12 0 0]⟩),(8,⟨0,none,nV false o⟩),(9,⟨0,none,po false []⟩),(10,⟨0,none,.arr 106 false H⟩),(11,⟨0,none,.arr 106 false L⟩),(12,⟨0,none,.arr 72 false []⟩),(13,⟨0,none,.arr 50 false A⟩),(14,⟨0,none,.arr 104 false P⟩)]
abbrev of7 (m:List aj) (o:List ax) (na np nh nl:Nat) (A P H L:List D) (i:Int):S:=⟨140,[(0,.sl 0 0 m.length),(2,.ref 1 0 0),(3,.ref 7 0 0),(4,.sl 13 0 na),(5,.sl 14 0 np),(6,iD i)],ofR m o nh nl A P H L⟩
abbrev RL (m:List aj) (o:List ax) (na np nh nl:Nat) (A P H L:List D) (i:Int) (on:Bool) (k:Int):S:=⟨140,[(0,.sl 0 0 m.length),(2,.ref 1 0 0),(3,.ref 7 0 0),(4,.sl 13 0 na),(5,.sl 14 0 np),(6,iD i),(7,.d (.bool on)),(8,iD k)],ofR m o nh nl A P H L⟩
abbrev qcR (m:List aj) (o:List ax) (y:a7) (na np nh nl:Nat) (A P H L:List D) (i:Int) (on:Bool) (k j:Int):S:=⟨140,[(0,.sl 0 0 m.length),(2,.ref 1 0 0),(3,.ref 7 0 0),(4,.sl 13 0 na),(5,.sl 14 0 np),(6,iD i),(7,.d (.bool on)),(8,iD k),(9,.ref 15 0 0),(10,iD j)],ofR m o nh nl A P H L++[(15,⟨0,none,qfe y⟩)]⟩
def RM:Nat×En:=(12,SJ)
def Wy (H:List D):Nat×En:=(10,bM H)
def L7:Nat×En:=(9,yC)
def L8 (o:List ax):Nat×En:=(8,qK o)
def Wz:List P:=[P.sl 12 0 0]
def WA:P:=P.sl 9 0 0
def YB (o:List ax) (nh:Nat) (nl:Nat):Nat×En:=(7,En.mk 0 none (Obj.box (69:TypeId) (P.sl 8 0 (dV o)::WA::P.sl 10 0 nh::P.sl 11 0 nl::Wz)))
def L9:Nat×En:=(6,SJ)
def Ma:Nat×En:=(5,FP)
def Mb:Nat×En:=(4,FP)
def Mc:Nat×En:=(3,yC)
def Md:Nat×En:=(1,En.mk 0 none (Obj.box (69:TypeId) [P.sl 2 0 0,P.sl 3 0 0,P.sl 4 0 0,P.sl 5 0 0,P.sl 6 0 0]))
def Me (m:List aj):Nat×En:=(0,En.mk 0 none (Obj.arr (34:TypeId) true (cK m)))
def RN (m:List aj) (o:List ax) (nh:Nat) (nl:Nat) (H:List D) (L:List D) (A:List D) (P:List D):List (Nat×En):=[Me m,Md,zs,Mc,Mb,Ma,L9,YB o nh nl,L8 o,L7,Wy H,(11,bM L),RM,(13,Df A),(14,De P)]
def Zbr (A:List D) (P:List D) (y:a7):List (Nat×En):=[RM,(13,Df A),(14,De P),(15,SN y)]
def Mf (np:Nat):Nat×P:=(5,P.sl 14 0 np)
def Mg (na:Nat):Nat×P:=(4,P.sl 13 0 na)
def FQ:Nat×P:=(3,P.ref 7 0 0)
def FR:Nat×P:=(2,iM)
theorem RO (m:List aj) (o:List ax) (y:a7) (na np nh nl:Nat) (A P H L:List D) (i:Int) (on:Bool) (k j:Int) (post:PX×S->Prop):(bif decide (j<mv y) then bif on then bif decide ((0:Int)<=j/\j<mv y) then bif cX PR (30:TypeId) (Yo y j) then bif yn nl L&&aT (nl+List.length (SO y j)) 40 then bif Zj j then post (PX.normal,S.mk 140 [kR m,FR,FQ,Mg na,Mf np,ZI i,pQ on,zq k,(9,Pi.P.ref 15 0 0),(10,Pi.P.d (Zm j))] (Me m::Md::zs::Mc::Mb::Ma::L9::(7,En.mk 0 none (Obj.box (69:TypeId) (Pi.P.sl 8 0 (dV o)::WA::Pi.P.sl 10 0 nh::Pi.P.sl 11 0 (nl+List.length (SO y j))::Wz)))::L8 o::L7::Wy H::(11,En.mk 0 none (Obj.arr (106:TypeId) false (List.take nl L++SO y j)))::Zbr A P y)) else False else False else False else False else post (PX.exit 4,S.mk 140 [kR m,FR,FQ,Mg na,Mf np,ZI i,pQ on,zq k] (RN m o nh nl H L A P)) else post (PX.exit 4,S.mk 140 [kR m,FR,FQ,Mg na,Mf np,ZI i,pQ on,zq k] (RN m o nh nl H L A P)))=(aF [] [] 32 20 (qcR m o y na np nh nl A P H L i on k j)) post:=by kernel_rfl
def RP:S->K (PX×S):=fun s post=> ∃m o y na np nh nl A P H L i on k,s=qcR m o y na np nh nl A P H L i on k 0/\(y.bT.length<=200/\nl=L.length/\nl<=100000000000)/\ ∀bq L',cH on y nl L bq L'->post (.exit 4,RL m o na np nh bq A P H L' i on k)
def Zbz (i:Int) (on:Bool) (k:Int):List (Nat×P):=[ZI i,pQ on,zq k,(9,P.ref 15 0 0),(10,P.d Z7)]
def ZbF (bL:List aj) (bf:Nat) (bg:Nat) (aJ:Int) (aI:Bool) (ca:Int):List (Nat×P):=kR bL::FR::FQ::Mg bf::Mf bg::Zbz aJ aI ca
def ZbG (bL:List aj) (bf:Nat) (bg:Nat) (aJ:Int) (aI:Bool) (ca:Int) (aQ:List ax) (bh:Nat) (aR:Nat) (c7:List D) (b7:List D) (cY:List D) (cZ:List D) (y:a7):S:=S.mk 140 (ZbF bL bf bg aJ aI ca) (Me bL::Md::zs::Mc::Mb::Ma::L9::YB aQ bh aR::L8 aQ::L7::Wy c7::(11,bM b7)::Zbr cY cZ y)
def Zbw (m:List aj) (i:Int) (k:Int):D:=D.int IntKind.i64 (D.ah (D.ao (mC m i k) 3))
def Zbv (m:List aj) (i:Int) (k:Int):D:=D.int IntKind.i64 (D.ah (D.ao (mC m i k) 2))
def Zbu (m:List aj) (i:Int) (k:Int):D:=D.int IntKind.i64 (D.ah (D.ao (mC m i k) 1))
def ZbD (m:List aj) (i:Int) (k:Int):List (Nat×En):=[(15,En.mk 0 none (Obj.box (54:TypeId) [P.d (D.int IntKind.i64 (D.ah (D.ao (mC m i k) 0))),P.d (Zbu m i k),P.d (Zbv m i k),P.d (Zbw m i k),P.d (D.int IntKind.i64 (D.ah (D.ao (mC m i k) 4))),P.d (D.int IntKind.i64 (D.ah (D.ao (mC m i k) 5))),P.d (D.int IntKind.i64 (D.ah (D.ao (mC m i k) 6))),P.d (D.str (D.eT (D.ao (mC m i k) 7))),P.d (D.bool (D.fI (D.ao (mC m i k) 8))),P.d (D.sl 2 (D.ez (D.ao (mC m i k) 9))),P.d (D.int IntKind.i64 (D.ah (D.ao (mC m i k) 10))),P.d (D.int IntKind.i64 (D.ah (D.ao (mC m i k) 11))),P.d (D.int IntKind.i64 (D.ah (D.ao (mC m i k) 12))),P.d (D.int IntKind.i64 (D.ah (D.ao (mC m i k) 13))),P.d (D.int IntKind.i64 (D.ah (D.ao (mC m i k) 14))),P.d (D.int IntKind.i64 (D.ah (D.ao (mC m i k) 15))),P.d (D.str (D.eT (D.ao (mC m i k) 16))),P.d (D.sl 3 (D.ez (D.ao (mC m i k) 17)))]))]
def ZbJ (m:List aj) (na:Nat) (np:Nat) (i:Int) (on:Bool) (k:Int) (o:List ax) (nh:Nat) (nl:Nat) (H:List D) (L:List D) (A:List D) (P:List D) (post:PX×S->Prop):Prop:= ∃(bL:List aj) (aQ:List ax) (y:a7) (bf:Nat) (bg:Nat) (bh:Nat) (aR:Nat) (cY:List D) (cZ:List D) (c7:List D) (b7:List D) (aJ:Int) (aI:Bool) (ca:Int),S.mk 140 (ZbF m na np i on k) (Me m::Md::zs::Mc::Mb::Ma::L9::YB o nh nl::L8 o::L7::Wy H::(11,bM L)::RM::(13,Df A)::(14,De P)::ZbD m i k)=ZbG bL bf bg aJ aI ca aQ bh aR c7 b7 cY cZ y/\qM y aR b7/\ ∀(bq:Nat) (L':List D),cH aI y aR b7 bq L'->bif Zj ca then post (PX.normal,S.mk 140 (kR bL::FR::FQ::Mg bf::Mf bg::ZI aJ::pQ aI::rC ca) (RN bL aQ bh bq c7 L' cY cZ)) else False
def Zby (m:List aj) (i:Int) (k:Int):List D:=[D.agg [Zbu m i k,Zbv m i k,Zbw m i k,mz m i,lG m i]]
def ZbC (nh:Nat) (H:List D) (m:List aj) (i:Int) (k:Int):Nat×En:=(10,En.mk 0 none (Obj.arr (106:TypeId) false (List.take nh H++Zby m i k)))
def ZbB (o:List ax) (nh:Nat) (m:List aj) (i:Int) (k:Int) (nl:Nat):Nat×En:=(7,En.mk 0 none (Obj.box (69:TypeId) (P.sl 8 0 (dV o)::WA::P.sl 10 0 (nh+List.length (Zby m i k))::P.sl 11 0 nl::Wz)))
noncomputable def ZbK (on:Bool) (m:List aj) (i:Int) (k:Int) (nh:Nat) (H:List D) (na:Nat) (np:Nat) (o:List ax) (nl:Nat) (L:List D) (A:List D) (P:List D) (post:PX×S->Prop):Prop:=bif on then bif D.ah (D.ao (mC m i k) 0) !=(2:Int) then bif jq i m then bif gS i m then bif c8 m i then bif yn nh H&&aT (nh+List.length (Zby m i k)) 40 then∃(bL:List aj) (aQ:List ax) (y:a7) (bf:Nat) (bg:Nat) (bh:Nat) (aR:Nat) (cY:List D) (cZ:List D) (c7:List D) (b7:List D) (aJ:Int) (aI:Bool) (ca:Int),S.mk 140 (ZbF m na np i on k) (Me m::Md::zs::Mc::Mb::Ma::L9::ZbB o nh m i k nl::L8 o::L7::ZbC nh H m i k::(11,bM L)::RM::(13,Df A)::(14,De P)::ZbD m i k)=ZbG bL bf bg aJ aI ca aQ bh aR c7 b7 cY cZ y/\qM y aR b7/\ ∀(bq:Nat) (L':List D),cH aI y aR b7 bq L'->bif Zj ca then post (PX.normal,S.mk 140 (kR bL::FR::FQ::Mg bf::Mf bg::ZI aJ::pQ aI::rC ca) (RN bL aQ bh bq c7 L' cY cZ)) else False else False else False else False else False else ZbJ m na np i on k o nh nl H L A P post else ZbJ m na np i on k o nh nl H L A P post
def Zbx (m:List aj) (i:Int) (k:Int):List D:=[D.agg [Zbu m i k,Zbv m i k,Zbw m i k,D.int IntKind.i64 (D.ah (D.ao (mC m i k) 4)),D.int IntKind.i64 (D.ah (D.ao (mC m i k) 5)),D.int IntKind.i64 (D.ah (D.ao (mC m i k) 6)),D.str (D.eT (D.ao (mC m i k) 7)),D.bool (D.fI (D.ao (mC m i k) 8))]]
def ZbE (L:List D) (na:Nat) (A:List D) (m:List aj) (i:Int) (k:Int) (np:Nat) (P:List D):List (Nat×En):=(11,bM L)::RM::(13,En.mk 0 none (Obj.arr (50:TypeId) false (List.take na A++[D.agg (mz m i::lG m i::ZC k)])))::(14,En.mk 0 none (Obj.arr (104:TypeId) false (List.take np P++Zbx m i k)))::ZbD m i k
def ZbA (m:List aj) (na:Nat) (i:Int) (k:Int) (np:Nat) (on:Bool):List (Nat×P):=kR m::FR::FQ::(4,P.sl 13 0 (na+List.length [D.agg (mz m i::lG m i::ZC k)]))::(5,P.sl 14 0 (np+List.length (Zbx m i k)))::Zbz i on k
def ZbH (m:List aj) (na:Nat) (i:Int) (k:Int) (np:Nat) (on:Bool) (o:List ax) (nh:Nat) (nl:Nat) (H:List D) (L:List D) (A:List D) (P:List D) (post:PX×S->Prop):Prop:= ∃(bL:List aj) (aQ:List ax) (y:a7) (bf:Nat) (bg:Nat) (bh:Nat) (aR:Nat) (cY:List D) (cZ:List D) (c7:List D) (b7:List D) (aJ:Int) (aI:Bool) (ca:Int),S.mk 140 (ZbA m na i k np on) (Me m::Md::zs::Mc::Mb::Ma::L9::YB o nh nl::L8 o::L7::Wy H::ZbE L na A m i k np P)=ZbG bL bf bg aJ aI ca aQ bh aR c7 b7 cY cZ y/\qM y aR b7/\ ∀(bq:Nat) (L':List D),cH aI y aR b7 bq L'->bif Zj ca then post (PX.normal,S.mk 140 (kR bL::FR::FQ::Mg bf::Mf bg::ZI aJ::pQ aI::rC ca) (RN bL aQ bh bq c7 L' cY cZ)) else False
noncomputable def ZbI (i:Int) (m:List aj) (na:Nat) (A:List D) (k:Int) (np:Nat) (P:List D) (on:Bool) (nh:Nat) (H:List D) (o:List ax) (nl:Nat) (L:List D) (post:PX×S->Prop):Prop:=bif jq i m then bif gS i m then bif c8 m i then bif yn na A&&aT (na+List.length [D.agg (mz m i::lG m i::ZC k)]) 24 then bif yn np P&&aT (np+List.length (Zbx m i k)) 72 then bif on then bif D.ah (D.ao (mC m i k) 0) !=(2:Int) then bif jq i m then bif gS i m then bif c8 m i then bif yn nh H&&aT (nh+List.length (Zby m i k)) 40 then∃(bL:List aj) (aQ:List ax) (y:a7) (bf:Nat) (bg:Nat) (bh:Nat) (aR:Nat) (cY:List D) (cZ:List D) (c7:List D) (b7:List D) (aJ:Int) (aI:Bool) (ca:Int),S.mk 140 (ZbA m na i k np on) (Me m::Md::zs::Mc::Mb::Ma::L9::ZbB o nh m i k nl::L8 o::L7::ZbC nh H m i k::ZbE L na A m i k np P)=ZbG bL bf bg aJ aI ca aQ bh aR c7 b7 cY cZ y/\qM y aR b7/\ ∀(bq:Nat) (L':List D),cH aI y aR b7 bq L'->bif Zj ca then post (PX.normal,S.mk 140 (kR bL::FR::FQ::Mg bf::Mf bg::ZI aJ::pQ aI::rC ca) (RN bL aQ bh bq c7 L' cY cZ)) else False else False else False else False else False else ZbH m na i k np on o nh nl H L A P post else ZbH m na i k np on o nh nl H L A P post else False else False else False else False else False
theorem RQ (m:List aj) (o:List ax) (na np nh nl:Nat) (A P H L:List D) (i:Int) (on:Bool) (k:Int) (post:PX×S->Prop):(bif jq i m then bif gS i m then bif c8 m i then bif decide (k<SY m i) then bif jq i m then bif gS i m then bif c8 m i then bif Yw k m i then bif cX PR (54:TypeId) (mC m i k) then bif D.ah (D.ao (mC m i k) 0)==(0:Int) then ZbI i m na A k np P on nh H o nl L post else bif D.ah (D.ao (mC m i k) 0)==(1:Int) then bif on then ZbI i m na A k np P on nh H o nl L post else ZbK on m i k nh H na np o nl L A P post else ZbK on m i k nh H na np o nl L A P post else False else False else False else False else False else post (PX.exit 2,S.mk 140 [kR m,FR,FQ,Mg na,Mf np,ZI i] (RN m o nh nl H L A P)) else False else False else False)=(aF [] [(20,ae (aK 32 20) RP)] 32 11 (RL m o na np nh nl A P H L i on k)) post:=by kernel_rfl
def RR:S->K (PX×S):=fun s post=> ∃(m:List aj) (o:List ax) (na np nh nl:Nat) (A P H L:List D) (i:Int) (on:Bool) (t:Tl) (N:Nat) (hi:i.toNat<m.length),s=RL m o na np nh nl A P H L i on 0/\(qN t na np nh nl A P H L/\tJ N t/\N<=300000000/\(0<=i/\m[i.toNat].ops.length<=200/\ ∀y∈m[i.toNat].ops,y.bT.length<=200))/\
 ∀nX nY nZ bq A' P' H' L',qN (FJ on m[i.toNat].s m[i.toNat].ops t) nX nY nZ bq A' P' H' L'->post (.exit 2,of7 m o nX nY nZ bq A' P' H' L' i)
theorem YC (m:List aj) (o:List ax) (na np nh nl:Nat) (A P H L:List D) (i:Int) (post:PX×S->Prop):(bif decide (i<(↑(List.length m):Int)) then bif decide ((0:Int)<=i/\i<(↑(List.length m):Int)) then bif decide (Int.toNat i<List.length (List.map aP m)) then bif cX PR (34:TypeId) (D.nth (List.map aP m) (Int.toNat i)) then∃(l:List ax),∃(x:ax),[Pi.P.sl 0 0 (List.length o),Pi.P.d (D.agg [D.int IntKind.i64 (D.ah (D.ao (D.nth (List.map aP m) (Int.toNat i)) 0)),D.int IntKind.i64 (D.ah (D.ao (D.nth (List.map aP m) (Int.toNat i)) 1))])]=[Pi.P.sl 0 0 (List.length l),Pi.P.d (D.agg [D.int IntKind.i64 (Prod.fst x),D.int IntKind.i64 (Prod.snd x)])]/\[(0,En.mk 0 (some 0) (Obj.arr 30 false (List.map aX o)))]=[(0,En.mk 0 (some 0) (Obj.arr 30 false (List.map aX l)))]/\List.length l<=1000000/\ ∀(b:Bool),b=decide (x∈l)-> ∃(bL:List aj),∃(aQ:List ax),∃(bf:Nat),∃(bg:Nat),∃(bh:Nat),∃(aR:Nat),∃(cY:List D),∃(cZ:List D),∃(c7:List D),∃(b7:List D),∃(aJ:Int),∃(on:Bool),∃(t:Tl),∃(N:Nat),∃(hi:Int.toNat aJ<List.length bL),S.mk 140 [(0,Pi.P.sl 0 0 (List.length m)),(2,Pi.P.ref 1 0 0),(3,Pi.P.ref 7 0 0),(4,Pi.P.sl 13 0 na),(5,Pi.P.sl 14 0 np),(6,Pi.P.d (D.int IntKind.i64 i)),(7,Pi.P.d (D.bool b)),(8,Pi.P.d (D.int IntKind.i64 (0:Int)))] [(0,En.mk 0 none (Obj.arr 34 true (List.map aP m))),(1,En.mk 0 none (Obj.box 69 [Pi.P.sl 2 0 0,Pi.P.sl 3 0 0,Pi.P.sl 4 0 0,Pi.P.sl 5 0 0,Pi.P.sl 6 0 0])),(2,En.mk 0 none (Obj.arr 30 false [])),(3,En.mk 0 none (Obj.arr 104 false [])),(4,En.mk 0 none (Obj.arr 106 false [])),(5,En.mk 0 none (Obj.arr 106 false [])),(6,En.mk 0 none (Obj.arr 72 false [])),(7,En.mk 0 none (Obj.box 69 [Pi.P.sl 8 0 (List.length o),Pi.P.sl 9 0 0,Pi.P.sl 10 0 nh,Pi.P.sl 11 0 nl,Pi.P.sl 12 0 0])),(8,En.mk 0 none (Obj.arr 30 false (List.map aX l))),(9,En.mk 0 none (Obj.arr 104 false [])),(10,En.mk 0 none (Obj.arr 106 false H)),(11,En.mk 0 none (Obj.arr 106 false L)),(12,En.mk 0 none (Obj.arr 72 false [])),(13,En.mk 0 none (Obj.arr 50 false A)),(14,En.mk 0 none (Obj.arr 104 false P))]=S.mk 140 [(0,Pi.P.sl 0 0 (List.length bL)),(2,Pi.P.ref 1 0 0),(3,Pi.P.ref 7 0 0),(4,Pi.P.sl 13 0 bf),(5,Pi.P.sl 14 0 bg),(6,Pi.P.d (D.int IntKind.i64 aJ)),(7,Pi.P.d (D.bool on)),(8,Pi.P.d (D.int IntKind.i64 (0:Int)))] [(0,En.mk 0 none (Obj.arr 34 true (List.map aP bL))),(1,En.mk 0 none (Obj.box 69 [Pi.P.sl 2 0 0,Pi.P.sl 3 0 0,Pi.P.sl 4 0 0,Pi.P.sl 5 0 0,Pi.P.sl 6 0 0])),(2,En.mk 0 none (Obj.arr 30 false [])),(3,En.mk 0 none (Obj.arr 104 false [])),(4,En.mk 0 none (Obj.arr 106 false [])),(5,En.mk 0 none (Obj.arr 106 false [])),(6,En.mk 0 none (Obj.arr 72 false [])),(7,En.mk 0 none (Obj.box 69 [Pi.P.sl 8 0 (List.length aQ),Pi.P.sl 9 0 0,Pi.P.sl 10 0 bh,Pi.P.sl 11 0 aR,Pi.P.sl 12 0 0])),(8,En.mk 0 none (Obj.arr 30 false (List.map aX aQ))),(9,En.mk 0 none (Obj.arr 104 false [])),(10,En.mk 0 none (Obj.arr 106 false c7)),(11,En.mk 0 none (Obj.arr 106 false b7)),(12,En.mk 0 none (Obj.arr 72 false [])),(13,En.mk 0 none (Obj.arr 50 false cY)),(14,En.mk 0 none (Obj.arr 104 false cZ))]/\(qN t bf bg bh aR cY cZ c7 b7/\tJ N t/\N<=300000000/\(0:Int)<=aJ/\List.length (aj.ops bL[Int.toNat aJ])<=200/\ ∀(y:a7),y∈aj.ops bL[Int.toNat aJ]->List.length (a7.bT y)<=200)/\ ∀(nX nY nZ bq:Nat) (A' P' H' L':List D),qN (FJ on (aj.s bL[Int.toNat aJ]) (aj.ops bL[Int.toNat aJ]) t) nX nY nZ bq A' P' H' L'->bif decide ((-9223372036854775808:Int)<=aJ+(1:Int)/\aJ+(1:Int)<=(9223372036854775807:Int)) then post (PX.normal,S.mk 140 [(0,Pi.P.sl 0 0 (List.length bL)),(2,Pi.P.ref 1 0 0),(3,Pi.P.ref 7 0 0),(4,Pi.P.sl 13 0 nX),(5,Pi.P.sl 14 0 nY),(6,Pi.P.d (D.int IntKind.i64 (aJ+(1:Int))))] [(0,En.mk 0 none (Obj.arr 34 true (List.map aP bL))),(1,En.mk 0 none (Obj.box 69 [Pi.P.sl 2 0 0,Pi.P.sl 3 0 0,Pi.P.sl 4 0 0,Pi.P.sl 5 0 0,Pi.P.sl 6 0 0])),(2,En.mk 0 none (Obj.arr 30 false [])),(3,En.mk 0 none (Obj.arr 104 false [])),(4,En.mk 0 none (Obj.arr 106 false [])),(5,En.mk 0 none (Obj.arr 106 false [])),(6,En.mk 0 none (Obj.arr 72 false [])),(7,En.mk 0 none (Obj.box 69 [Pi.P.sl 8 0 (List.length aQ),Pi.P.sl 9 0 0,Pi.P.sl 10 0 nZ,Pi.P.sl 11 0 bq,Pi.P.sl 12 0 0])),(8,En.mk 0 none (Obj.arr 30 false (List.map aX aQ))),(9,En.mk 0 none (Obj.arr 104 false [])),(10,En.mk 0 none (Obj.arr 106 false H')),(11,En.mk 0 none (Obj.arr 106 false L')),(12,En.mk 0 none (Obj.arr 72 false [])),(13,En.mk 0 none (Obj.arr 50 false A')),(14,En.mk 0 none (Obj.arr 104 false P'))]) else False else False else False else False else post (PX.exit 0,S.mk 140 [(0,Pi.P.sl 0 0 (List.length m)),(2,Pi.P.ref 1 0 0),(3,Pi.P.ref 7 0 0),(4,Pi.P.sl 13 0 na),(5,Pi.P.sl 14 0 np)] [(0,En.mk 0 none (Obj.arr 34 true (List.map aP m))),(1,En.mk 0 none (Obj.box 69 [Pi.P.sl 2 0 0,Pi.P.sl 3 0 0,Pi.P.sl 4 0 0,Pi.P.sl 5 0 0,Pi.P.sl 6 0 0])),(2,En.mk 0 none (Obj.arr 30 false [])),(3,En.mk 0 none (Obj.arr 104 false [])),(4,En.mk 0 none (Obj.arr 106 false [])),(5,En.mk 0 none (Obj.arr 106 false [])),(6,En.mk 0 none (Obj.arr 72 false [])),(7,En.mk 0 none (Obj.box 69 [Pi.P.sl 8 0 (List.length o),Pi.P.sl 9 0 0,Pi.P.sl 10 0 nh,Pi.P.sl 11 0 nl,Pi.P.sl 12 0 0])),(8,En.mk 0 none (Obj.arr 30 false (List.map aX o))),(9,En.mk 0 none (Obj.arr 104 false [])),(10,En.mk 0 none (Obj.arr 106 false H)),(11,En.mk 0 none (Obj.arr 106 false L)),(12,En.mk 0 none (Obj.arr 72 false [])),(13,En.mk 0 none (Obj.arr 50 false A)),(14,En.mk 0 none (Obj.arr 104 false P))]))=(aF [(42,Rm)] [(11,ae (aK 32 11) RR)] 32 7 (of7 m o na np nh nl A P H L i)) post:=by kernel_rfl
end Pi
namespace Pi
open Go Go.Proofs
set_option maxRecDepth 100000
abbrev OfB:=Nat×Nat×Nat×Nat×List D×List D×List D×List D
structure OfP where
 m:List aj
 o:List ax
 y:a7
 na:Nat
 np:Nat
 nh:Nat
 A:List D
 P:List D
 H:List D
 i:Int
 on:Bool
 k:Int
 L:List D
structure OfQ where
 m:List aj
 o:List ax
 g:aj
 i:Int
 on:Bool
 t:Tl
 N:Nat
theorem RS {x:Pl} {g:aj} {k:Nat} (h:k<g.ops.length):(g.ops.take (k+1)).flatMap (zr x)=(g.ops.take k).flatMap (zr x)++zr x g.ops[k]:=by
 rw[List.take_succ_eq_append_getElem h,List.flatMap_append]
 simp
theorem RT {x:Pl} {l:List aj} {j:Nat} (h:j<l.length):Db (l.take (j+1)) x=Db (l.take j) x++mdG x l[j]:=by
 unfold Db
 rw[List.take_succ_eq_append_getElem h,List.flatMap_append]
 simp
theorem RU {l:List aj} {p:List Pl} {i:Nat} (h:i<p.length):FO l (p.take (i+1))=FO l (p.take i)++Db l p[i]:=by
 unfold FO
 rw[List.take_succ_eq_append_getElem h,List.flatMap_append]
 simp
theorem JU (x:Pl): ∀l:List a7,(l.flatMap (zr x)).length<=l.length
 | []=>by simp
 |a::r=>by
  have h1:=JU x r
  have h2:=JM x a
  rw[List.flatMap_cons,List.length_append,List.length_cons]
  omega
section
variable {X:XF}
theorem WB:LD X 54 9 (ae (aK 54 9) qcO):=LD.idx (H:=[]) (hk:=[]) (by kernel_rfl) (by kernel_rfl) .nil .nil
 (A:=List aj×List Pl×List Pl×Int×Int×Pl×aj) (B:=List Pl) (fun a o k=>md9 a.1 a.2.1 o a.2.2.2.1 a.2.2.2.2.1 k) (fun a=>a.2.2.2.2.2.2.ops.length)
 (fun a k o=>((0<=a.2.2.2.1/\a.2.2.2.1<a.2.1.length/\0<=a.2.2.2.2.1/\a.2.2.2.2.1<a.1.length)/\D.nth (a.2.1.map bI) a.2.2.2.1.toNat=bI a.2.2.2.2.2.1/\D.nth (a.1.map aP) a.2.2.2.2.1.toNat=aP a.2.2.2.2.2.2/\a.2.2.1.length<=1000/\a.2.2.2.2.2.2.ops.length<=200)/\o=a.2.2.1++(a.2.2.2.2.2.2.ops.take k).flatMap (zr a.2.2.2.2.2.1))
 (fun a z=>z=(.exit 4,md6 a.1 a.2.1 (a.2.2.1++mdG a.2.2.2.2.2.1 a.2.2.2.2.2.2) a.2.2.2.1 a.2.2.2.2.1))
 (by
  rintro⟨l,p,o0,i,j,x,g⟩ o k post h0 zX eb ⟨⟨hb,hx,hg,nM,Mh⟩,ho⟩ hn cp
  dsimp only at*
  (rw[<-Yx];delta gW MN FL js sE Zm rC Zs tI ZI kS Dh cK fR lH Za Z9 Zj Zb8 Zg fQ mC nO LU LV LW Zb7 rO qe E7 SY Yw c8 gO pc)
  rw[hx,hg]
  have u6:D.ez (D.ao (aP g) 6)=g.ops.map gM:=rfl
  have e1:D.nth (g.ops.map gM) k.toNat=gM g.ops[k.toNat]:=ay _ _ _ eb
  have vM:=RS (x:=x) eb
  have hlen:=JU x (g.ops.take k.toNat)
  rw[List.length_take] at hlen
  have qhj:o.length<=1200:=by rw[ho,List.length_append];omega
  rw[u6,e1]
  generalize g.ops[k.toNat]=y at*
  have u0:D.ah (D.ao (gM y) 0)=y.kind:=rfl
  have v:(D.ah (D.ao (gM y) 1)==D.ah (D.ao (bI x) 0)&&(D.ah (D.ao (gM y) 2)==D.ah (D.ao (bI x) 1)&&true)&&(D.ah (D.ao (gM y) 3)==D.ah (D.ao (bI x) 2)&&true))=(y.node==x.1):=C5 y.node x.1
  have IF:0<=j/\j<((l.map aP).length:Int):=by rw[List.length_map];exact⟨hb.2.2.1,hb.2.2.2⟩
  have n5:0<=i/\i<((p.map bI).length:Int):=by rw[List.length_map];exact⟨hb.1,hb.2.1⟩
  have hkm:0<=k/\k<((g.ops.map gM).length:Int):=by rw[List.length_map];exact⟨h0,zX⟩
  have pB:=df g
  have Se:=gL x
  have tQ:=Lg y
  rw[u0,v]
  refine ak IF (aq pB (bV hkm.2 (ak IF (aq pB (ak hkm (aq tQ ?_))))))
  have b9: ¬(y.kind=0/\y.node=x.1)->o0++(g.ops.take (k.toNat+1)).flatMap (zr x)=o:=fun h=>by
   rw[vM,ho]
   have:zr x y=[]:=by unfold zr;rw[if_neg h]
   rw[this,List.append_nil]
  refine aw (fun hk=>ak IF (aq pB (ak hkm (aq tQ (ak n5 (aq Se (aw (fun IQ=> ?_) fun IQ=>ak (by omega) (hn o ⟨⟨hb,hx,hg,nM,Mh⟩,(b9 (fun hh=>by rw[hh.2] at IQ;simp at IQ)).symm⟩)))))))) fun hk=>ak (by omega) (hn o ⟨⟨hb,hx,hg,nM,Mh⟩,(b9 (fun hh=>by rw[hh.1] at hk;simp at hk)).symm⟩)
  have fM:o0++(g.ops.take (k.toNat+1)).flatMap (zr x)=o++[(x.1,x.2.1,x.2.2.1,y.dir)]:=by
   rw[vM,ho,List.append_assoc]
   have:zr x y=[(x.1,x.2.1,x.2.2.1,y.dir)]:=by unfold zr;rw[if_pos ⟨by simpa using hk,by simpa using IQ⟩]
   rw[this]
  have t1:List.take o.length (o.map bI)++[bI (x.1,x.2.1,x.2.2.1,y.dir)]=(o++[(x.1,x.2.1,x.2.2.1,y.dir)]).map bI:=dU bI o _
  have hy:=hn (o++[(x.1,x.2.1,x.2.2.1,y.dir)]) ⟨⟨hb,hx,hg,nM,Mh⟩,fM.symm⟩
  simp only[md9,po,List.length_append] at hy
  rw[<-t1] at hy
  refine ak n5 (aq Se (ak IF (aq pB (ak hkm (aq tQ (aq (eR rfl (by rw[List.length_map]) (by omega) (by decide)) (ak (by omega) ?_)))))))
  exact hy)
 (by
  rintro⟨l,p,o0,i,j,x,g⟩ o k post hk ⟨⟨hb,hx,hg,nM,Mh⟩,ho⟩ cp
  dsimp only at*
  (rw[<-Yx];delta gW MN FL js sE Zm rC Zs tI ZI kS Dh cK fR lH Za Z9 Zj Zb8 Zg fQ mC nO LU LV LW Zb7 rO qe E7 SY Yw c8 gO pc)
  rw[hx,hg]
  have u6:D.ez (D.ao (aP g) 6)=g.ops.map gM:=rfl
  rw[u6]
  have IF:0<=j/\j<((l.map aP).length:Int):=by rw[List.length_map];exact⟨hb.2.2.1,hb.2.2.2⟩
  refine ak IF (aq (df g) (nv (by rw[List.length_map];omega) (cp _ (fun h=>by cases h) ?_)))
  rw[ho,List.take_length]
  rfl)
 (by
  rintro s post ⟨l,p,o,i,j,hi,hj,rfl,⟨h1,h2,h3,h4⟩,hp⟩
  refine⟨(l,p,o,i,j,p[i.toNat],l[j.toNat]),o,rfl,⟨⟨⟨h1.1,by show i<(p.length:Int);omega,h1.2.1,by show j<(l.length:Int);omega⟩,ay _ _ _ hi,ay _ _ _ hj,h3,h4⟩,by simp⟩,?_⟩
  rintro z rfl
  exact hp _ rfl)
theorem WC:LD X 54 6 (ae (aK 54 6) qcP):=LD.idx (H:=[]) (hk:=[(9,ae (aK 54 9) qcO)]) (by kernel_rfl) (by kernel_rfl) .nil (.cons WB .nil)
 (A:=List aj×List Pl×List Pl×Int×Pl) (B:=List Pl) (fun a o j=>md6 a.1 a.2.1 o a.2.2.2.1 j) (fun a=>a.1.length)
 (fun a j o=>((0<=a.2.2.2.1/\a.2.1.length<=1000)/\(∃hi:a.2.2.2.1.toNat<a.2.1.length,a.2.1[a.2.2.2.1.toNat]=a.2.2.2.2)/\a.1.length<=1000000/\a.2.2.1.length<=999/\(∀g∈a.1,cQ g=true)/\(a.1.map (·.s)).Nodup)/\o=a.2.2.1++Db (a.1.take j) a.2.2.2.2)
 (fun a z=>z=(.exit 2,md3 a.1 a.2.1 (a.2.2.1++Db a.1 a.2.2.2.2) a.2.2.2.1))
 (by
  rintro⟨l,p,o0,i,x⟩ o j post h0 Fv FG ⟨⟨h1,⟨hi,hx⟩,h3,h4,h5,h6⟩,ho⟩ hn cp
  dsimp only at*
  rw[<-Yy]
  have vM:=RT (x:=x) FG
  have h7:(Db (l.take j.toNat) x).length<=1:=(JO x (fun g hg=>h5 g (List.mem_of_mem_take hg)) (h6.sublist ((List.take_sublist _ _).map _))).1
  have nM:o.length<=1000:=by rw[ho,List.length_append];omega
  refine bV (by rw[List.length_map];exact Fv) ⟨l,p,o,i,j,hi,FG,rfl,⟨⟨h1.1,h0,h1.2⟩,h3,nM,sC (h5 _ (List.getElem_mem FG))⟩,fun o' lW=>ak (by omega) (hn o' ⟨⟨h1,⟨hi,hx⟩,h3,h4,h5,h6⟩,?_⟩)⟩
  rw[lW,ho,vM,hx,List.append_assoc])
 (by
  rintro⟨l,p,o0,i,x⟩ o j post hj ⟨hc,ho⟩ cp
  dsimp only at*
  rw[<-Yy]
  refine nv (by rw[List.length_map];omega) (cp _ (fun h=>by cases h) ?_)
  rw[ho,List.take_length])
 (by
  rintro s post ⟨l,p,o,i,hi,rfl,⟨h1,h2,h3,h4,h5⟩,hp⟩
  refine⟨(l,p,o,i,p[i.toNat]),o,rfl,⟨⟨h1,⟨hi,rfl⟩,h2,h3,h4,h5⟩,by simp[Db]⟩,?_⟩
  rintro z rfl
  exact hp _ rfl)
theorem WD:LD X 54 3 (ae (aK 54 3) qcQ):=LD.idx (H:=[]) (hk:=[(6,ae (aK 54 6) qcP)]) (by kernel_rfl) (by kernel_rfl) .nil (.cons WC .nil)
 (A:=List aj×List Pl) (B:=List Pl) (fun a o i=>md3 a.1 a.2 o i) (fun a=>a.2.length)
 (fun a i o=>(a.2.length<=1000/\a.1.length<=1000000/\(∀g∈a.1,cQ g=true)/\(a.1.map (·.s)).Nodup)/\o=FO a.1 (a.2.take i))
 (fun a z=>z=(.exit 0,⟨78,[(5,.sl 0 0 (FO a.1 a.2).length)],[(0,⟨0,none,po false (FO a.1 a.2)⟩)]⟩))
 (by
  rintro⟨l,p⟩ o i post h0 bS bc ⟨⟨h1,h2,h3,h4⟩,ho⟩ hn cp
  dsimp only at*
  rw[<-YA]
  have vM:=RU (l:=l) bc
  have h7:=CV h3 h4 (p.take i.toNat)
  rw[List.length_take,<-ho] at h7
  refine bV (by rw[List.length_map];exact bS) ⟨l,p,o,i,bc,rfl,⟨⟨h0,h1⟩,h2,by omega,h3,h4⟩,fun o' lW=>ak (by omega) (hn o' ⟨⟨h1,h2,h3,h4⟩,?_⟩)⟩
  rw[lW,ho,vM])
 (by
  rintro⟨l,p⟩ o i post hi ⟨hc,ho⟩ cp
  dsimp only at*
  rw[<-YA]
  refine nv (by rw[List.length_map];omega) (cp _ (fun h=>by cases h) ?_)
  rw[ho,List.take_length])
 (by
  rintro s post ⟨l,p,rfl,hc,hp⟩
  refine⟨(l,p),[],rfl,⟨hc,by simp[FO]⟩,?_⟩
  rintro z rfl
  exact hp _ rfl)
theorem qcS:FD X 54 RJ:=FD.mk (H:=[]) (hk:=[(3,ae (aK 54 3) qcQ)]) (by kernel_rfl) .nil (.cons WD .nil) (by
 intro ps R post hh
 obtain⟨l,p,rfl,rfl,hc,hp⟩:=hh
 (rw[<-qg6];delta gW MN FL js sE ZaD dm mA Zba yC Z7 CD ZO kS Dh cK fR lH Zb9)
 exact⟨l,p,rfl,hc,fun o ho=>hp o ho⟩)
theorem RV:LD X 32 20 (ae (aK 32 20) RP):=LD.idx (H:=[]) (hk:=[]) (by kernel_rfl) (by kernel_rfl) .nil .nil
 (A:=OfP) (B:=Nat×List D) (fun a b j=>qcR a.m a.o a.y a.na a.np a.nh b.1 a.A a.P a.H b.2 a.i a.on a.k j) (fun a=>a.y.bT.length)
 (fun a j b=>(a.y.bT.length<=200/\a.L.length<=100000000000)/\b.1=b.2.length/\b.2=a.L++(if a.on=true then(a.y.bT.take j).map (fun s=>kM (a.y.node,s)) else []))
 (fun a x=> ∃bq L',cH a.on a.y a.L.length a.L bq L'/\x=(.exit 4,RL a.m a.o a.na a.np a.nh bq a.A a.P a.H L' a.i a.on a.k))
 (by
  rintro a ⟨nl,L⟩ j post h0 Fv FG ⟨⟨hd,hL⟩,oD,HY⟩ hn ho
  dsimp only at*
  (rw[<-RO];delta De Df SJ RM bM Wy yC L7 nW qK L8 Wz WA dV YB L9 FP Ma Mb Mc xZ zs Md cK Me RN Pa vB vC vE zb Aw zd Ax Ay kQ ze zf zg zh zi uA uB uC vF SN Zbr Zm Zs zq iz pQ ZI Mf Mg FQ iM FR dm lM kR Za Z9 Zj Zg Yo SO yn mv)
  have e1:D.nth (a.y.bT.map aX) j.toNat=aX a.y.bT[j.toNat]:=ay _ _ _ FG
  have vM:(a.y.bT.take (j.toNat+1))=a.y.bT.take j.toNat++[a.y.bT[j.toNat]]:=List.take_succ_eq_append_getElem FG
  rw[e1]
  generalize a.y.bT[j.toNat]=z at*
  have hLl:L.length<=a.L.length+200:=by
   rw[HY,List.length_append]
   split
   ·rw[List.length_map,List.length_take];omega
   ·simp
  have IF:j<((a.y.bT.map aX).length:Int):=by rw[List.length_map];exact Fv
  refine bV IF (aw (fun Lz=>ak ⟨h0,IF⟩ (aq (l7 _) (aq (eR oD rfl (by omega) (by decide)) (ak (by omega) (hn (nl+1,List.take nl L++[kM (a.y.node,z)]) ⟨⟨hd,hL⟩,?_,?_⟩))))) fun qcy=>ho _ (fun h=>by cases h) ⟨nl,L,⟨oD,?_⟩,rfl⟩)
  ·simp[oD]
  ·rw[Lz,if_pos rfl] at HY⊢
   rw[vM,oD,List.take_length,HY,List.map_append,List.append_assoc]
   rfl
  ·rw[qcy] at HY⊢
   simpa using HY)
 (by
  rintro a ⟨nl,L⟩ j post hj ⟨⟨hd,hL⟩,oD,HY⟩ ho
  dsimp only at*
  (rw[<-RO];delta De Df SJ RM bM Wy yC L7 nW qK L8 Wz WA dV YB L9 FP Ma Mb Mc xZ zs Md cK Me RN Pa vB vC vE zb Aw zd Ax Ay kQ ze zf zg zh zi uA uB uC vF SN Zbr Zm Zs zq iz pQ ZI Mf Mg FQ iM FR dm lM kR Za Z9 Zj Zg Yo SO yn mv)
  refine nv (by rw[List.length_map];omega) (ho _ (fun h=>by cases h) ⟨nl,L,⟨oD,?_⟩,rfl⟩)
  rw[HY,List.take_length]
  cases a.on
  ·rfl
  ·simp[Fh,Function.comp_def])
 (by
  rintro s post ⟨m,o,y,na,np,nh,nl,A,P,H,L,i,on,k,rfl,⟨h1,h2,h3⟩,hp⟩
  refine⟨⟨m,o,y,na,np,nh,A,P,H,i,on,k,L⟩,(nl,L),rfl,⟨⟨h1,by rw[<-h2];exact h3⟩,h2,by simp⟩,?_⟩
  rintro z ⟨bq,L',hg,rfl⟩
  exact hp bq L' ⟨hg.1,hg.2⟩)
theorem RW:LD X 32 11 (ae (aK 32 11) RR):=LD.idx (H:=[]) (hk:=[(20,ae (aK 32 20) RP)]) (by kernel_rfl) (by kernel_rfl) .nil (.cons RV .nil)
 (A:=OfQ) (B:=OfB) (fun a b k=>RL a.m a.o b.1 b.2.1 b.2.2.1 b.2.2.2.1 b.2.2.2.2.1 b.2.2.2.2.2.1 b.2.2.2.2.2.2.1 b.2.2.2.2.2.2.2 a.i a.on k) (fun a=>a.g.ops.length)
 (fun a k b=>(tJ a.N a.t/\a.N<=300000000/\(0<=a.i/\a.i<a.m.length/\D.nth (a.m.map aP) a.i.toNat=aP a.g)/\a.g.ops.length<=200/\ ∀y∈a.g.ops,y.bT.length<=200)/\qN (FJ a.on a.g.s (a.g.ops.take k) a.t) b.1 b.2.1 b.2.2.1 b.2.2.2.1 b.2.2.2.2.1 b.2.2.2.2.2.1 b.2.2.2.2.2.2.1 b.2.2.2.2.2.2.2)
 (fun a x=> ∃nX nY nZ bq A' P' H' L',qN (FJ a.on a.g.s a.g.ops a.t) nX nY nZ bq A' P' H' L'/\x=(.exit 2,of7 a.m a.o nX nY nZ bq A' P' H' L' a.i))
 (by
  rintro⟨m,o,g,i,on,t,N⟩ ⟨na,np,nh,nl,A,P,H,L⟩ k post h0 zX eb ⟨hc,hR⟩ hn ho
  dsimp only at*
  (rw[<-RQ];delta De Df SJ RM bM Wy yC L7 nW qK L8 Wz WA dV YB L9 FP Ma Mb Mc xZ zs Md cK Me RN Zs ZI Mf Mg FQ iM FR dm lM kR Zm rC iz pQ Za Z9 Zj qM Pa vB vC vE zb Aw zd Ax Ay kQ ze zf zg zh zi uA uB uC vF SN Zbr Z7 zq Zbz ZbF ZbG Zg fQ mC Zbw Zbv Zbu ZbD ZbJ lG mz Zby ZbC ZbB yn c8 gO gS jq ZbK Zbx ZC ZbE ZbA ZbH ZbI SY Yw)
  have jK:=(hc.1.ops (on:=on) (s:=g.s) hc.2.2.2.2 k.toNat (by omega)).mono (m:=300000200) (by have:=hc.2.1;have:=hc.2.2.2.1;omega)
  rw[hc.2.2.1.2.2]
  have u6:D.ez (D.ao (aP g) 6)=g.ops.map gM:=rfl
  have e1:D.nth (g.ops.map gM) k.toNat=gM g.ops[k.toNat]:=ay _ _ _ eb
  have kK:=yg (on:=on) (s:=g.s) (t:=t) eb
  have gQ:=hc.2.2.2.2 _ (List.getElem_mem eb)
  have qX:((k.toNat:Nat):Int)=k:=by omega
  rw[u6,e1]
  generalize g.ops[k.toNat]=y at kK gQ⊢
  generalize FJ on g.s (g.ops.take k.toNat) t=t1 at kK hR jK
  have u0:D.ah (D.ao (gM y) 0)=y.kind:=rfl
  have tQ:=Lg y
  have pB:=df g
  have n5:0<=i/\i<(m.length:Int):=⟨hc.2.2.1.1,hc.2.2.1.2.1⟩
  have uL:i.toNat<(m.map aP).length:=by rw[List.length_map];omega
  have hkm:0<=k/\k<((g.ops.map gM).length:Int):=by rw[List.length_map];exact⟨h0,zX⟩
  simp only[u0]
  refine ak n5 (ak uL (aq pB (bV hkm.2 (ak n5 (ak uL (aq pB (ak hkm (aq tQ ?_))))))))
  by_cases fJ:y.kind=0
  ·rw[show(y.kind==0)=true by simp[fJ],show(y.kind !=2)=true by simp[fJ]]
   cases on with
   |true=>
    simp only[cond_true]
    exact ak n5 (ak uL (aq pB (aq (eR hR.na (by rw[hR.a,List.length_map]) (by have:=jK.2.1;omega) (by decide)) (aq (eR hR.np (by rw[hR.p,List.length_map]) (by have:=jK.1;have:=jK.2.1;omega) (by decide)) (ak n5 (ak uL (aq pB (aq (eR hR.nh (by rw[hR.h,List.length_map]) (by have:=jK.2.2.1;omega) (by decide)) (⟨m,o,y,na+1,np+1,nh+1,nl,List.take na A++[bH (g.s.1,g.s.2,k)],List.take np P++[bI (rE y)],List.take nh H++[kM (y.node,g.s)],L,i,true,k,rfl,⟨gQ,hR.nl.trans (by rw[hR.l,List.length_map]),by have:=hR.nl;have:=jK.2.2.2;omega⟩,fun bq L' lL=>ak (by omega) (hn (na+1,np+1,nh+1,bq,List.take na A++[bH (g.s.1,g.s.2,k)],List.take np P++[bI (rE y)],List.take nh H++[kM (y.node,g.s)],L') ⟨hc,by rw[kK];exact(hR.go qX lL).1 (by simp[fA,fJ]) (by simp[fS,fJ])⟩)⟩)))))))))
   |false=>
    simp only[cond_true]
    exact ak n5 (ak uL (aq pB (aq (eR hR.na (by rw[hR.a,List.length_map]) (by have:=jK.2.1;omega) (by decide)) (aq (eR hR.np (by rw[hR.p,List.length_map]) (by have:=jK.1;have:=jK.2.1;omega) (by decide)) (⟨m,o,y,na+1,np+1,nh,nl,List.take na A++[bH (g.s.1,g.s.2,k)],List.take np P++[bI (rE y)],H,L,i,false,k,rfl,⟨gQ,hR.nl.trans (by rw[hR.l,List.length_map]),by have:=hR.nl;have:=jK.2.2.2;omega⟩,fun bq L' lL=>ak (by omega) (hn (na+1,np+1,nh,bq,List.take na A++[bH (g.s.1,g.s.2,k)],List.take np P++[bI (rE y)],H,L') ⟨hc,by rw[kK];exact(hR.go qX lL).2.1 (by simp[fA,fJ]) (by simp[fS,fJ])⟩)⟩)))))
  ·by_cases gh:y.kind=1
   ·rw[show(y.kind==0)=false by simp[fJ],show(y.kind==1)=true by simp[gh],show(y.kind !=2)=true by simp[gh]]
    cases on with
    |true=>
     simp only[cond_true,cond_false]
     exact ak n5 (ak uL (aq pB (aq (eR hR.na (by rw[hR.a,List.length_map]) (by have:=jK.2.1;omega) (by decide)) (aq (eR hR.np (by rw[hR.p,List.length_map]) (by have:=jK.1;have:=jK.2.1;omega) (by decide)) (ak n5 (ak uL (aq pB (aq (eR hR.nh (by rw[hR.h,List.length_map]) (by have:=jK.2.2.1;omega) (by decide)) (⟨m,o,y,na+1,np+1,nh+1,nl,List.take na A++[bH (g.s.1,g.s.2,k)],List.take np P++[bI (rE y)],List.take nh H++[kM (y.node,g.s)],L,i,true,k,rfl,⟨gQ,hR.nl.trans (by rw[hR.l,List.length_map]),by have:=hR.nl;have:=jK.2.2.2;omega⟩,fun bq L' lL=>ak (by omega) (hn (na+1,np+1,nh+1,bq,List.take na A++[bH (g.s.1,g.s.2,k)],List.take np P++[bI (rE y)],List.take nh H++[kM (y.node,g.s)],L') ⟨hc,by rw[kK];exact(hR.go qX lL).1 (by simp[fA,gh]) (by simp[fS,gh])⟩)⟩)))))))))
    |false=>
     simp only[cond_true,cond_false]
     exact⟨m,o,y,na,np,nh,nl,A,P,H,L,i,false,k,rfl,⟨gQ,hR.nl.trans (by rw[hR.l,List.length_map]),by have:=hR.nl;have:=jK.2.2.2;omega⟩,fun bq L' lL=>ak (by omega) (hn (na,np,nh,bq,A,P,H,L') ⟨hc,by rw[kK];exact(hR.go qX lL).2.2.2 (by simp[fA,gh]) (by simp[fS,gh])⟩)⟩
   ·by_cases H0:y.kind=2
    ·rw[show(y.kind==0)=false by simp[fJ],show(y.kind==1)=false by simp[gh],show(y.kind !=2)=false by simp[H0]]
     cases on with
     |true=>
      simp only[cond_false]
      exact⟨m,o,y,na,np,nh,nl,A,P,H,L,i,true,k,rfl,⟨gQ,hR.nl.trans (by rw[hR.l,List.length_map]),by have:=hR.nl;have:=jK.2.2.2;omega⟩,fun bq L' lL=>ak (by omega) (hn (na,np,nh,bq,A,P,H,L') ⟨hc,by rw[kK];exact(hR.go qX lL).2.2.2 (by simp[fA,H0]) (by simp[fS,H0])⟩)⟩
     |false=>
      simp only[cond_false]
      exact⟨m,o,y,na,np,nh,nl,A,P,H,L,i,false,k,rfl,⟨gQ,hR.nl.trans (by rw[hR.l,List.length_map]),by have:=hR.nl;have:=jK.2.2.2;omega⟩,fun bq L' lL=>ak (by omega) (hn (na,np,nh,bq,A,P,H,L') ⟨hc,by rw[kK];exact(hR.go qX lL).2.2.2 (by simp[fA,H0]) (by simp[fS,H0])⟩)⟩
    ·rw[show(y.kind==0)=false by simp[fJ],show(y.kind==1)=false by simp[gh],show(y.kind !=2)=true by simp[H0]]
     cases on with
     |true=>
      simp only[cond_false]
      exact ak n5 (ak uL (aq pB (aq (eR hR.nh (by rw[hR.h,List.length_map]) (by have:=jK.2.2.1;omega) (by decide)) (⟨m,o,y,na,np,nh+1,nl,A,P,List.take nh H++[kM (y.node,g.s)],L,i,true,k,rfl,⟨gQ,hR.nl.trans (by rw[hR.l,List.length_map]),by have:=hR.nl;have:=jK.2.2.2;omega⟩,fun bq L' lL=>ak (by omega) (hn (na,np,nh+1,bq,A,P,List.take nh H++[kM (y.node,g.s)],L') ⟨hc,by rw[kK];exact(hR.go qX lL).2.2.1 (by simp[fA,fJ,gh]) (by simp[fS,H0])⟩)⟩))))
     |false=>
      simp only[cond_false]
      exact⟨m,o,y,na,np,nh,nl,A,P,H,L,i,false,k,rfl,⟨gQ,hR.nl.trans (by rw[hR.l,List.length_map]),by have:=hR.nl;have:=jK.2.2.2;omega⟩,fun bq L' lL=>ak (by omega) (hn (na,np,nh,bq,A,P,H,L') ⟨hc,by rw[kK];exact(hR.go qX lL).2.2.2 (by simp[fA,fJ]) (by simp[fS])⟩)⟩)
 (by
  rintro⟨m,o,g,i,on,t,N⟩ ⟨na,np,nh,nl,A,P,H,L⟩ k post hk ⟨hc,hR⟩ ho
  dsimp only at*
  (rw[<-RQ];delta De Df SJ RM bM Wy yC L7 nW qK L8 Wz WA dV YB L9 FP Ma Mb Mc xZ zs Md cK Me RN Zs ZI Mf Mg FQ iM FR dm lM kR Zm rC iz pQ Za Z9 Zj qM Pa vB vC vE zb Aw zd Ax Ay kQ ze zf zg zh zi uA uB uC vF SN Zbr Z7 zq Zbz ZbF ZbG Zg fQ mC Zbw Zbv Zbu ZbD ZbJ lG mz Zby ZbC ZbB yn c8 gO gS jq ZbK Zbx ZC ZbE ZbA ZbH ZbI SY Yw)
  rw[hc.2.2.1.2.2]
  have u6:D.ez (D.ao (aP g) 6)=g.ops.map gM:=rfl
  rw[u6]
  rw[List.take_length] at hR
  have n5:0<=i/\i<(m.length:Int):=⟨hc.2.2.1.1,hc.2.2.1.2.1⟩
  have uL:i.toNat<(m.map aP).length:=by rw[List.length_map];omega
  exact ak n5 (ak uL (aq (df g) (nv (by rw[List.length_map];omega) (ho _ (fun h=>by cases h) ⟨na,np,nh,nl,A,P,H,L,hR,rfl⟩)))))
 (by
  rintro s post ⟨m,o,na,np,nh,nl,A,P,H,L,i,on,t,N,hi,rfl,⟨h1,h2,h3,h4⟩,hp⟩
  refine⟨⟨m,o,m[i.toNat],i,on,t,N⟩,(na,np,nh,nl,A,P,H,L),rfl,⟨⟨h2,h3,⟨h4.1,by show i<(m.length:Int);omega,ay _ _ _ hi⟩,h4.2.1,h4.2.2⟩,h1⟩,?_⟩
  rintro z ⟨nX,nY,nZ,bq,A',P',H',L',g1,rfl⟩
  exact hp nX nY nZ bq A' P' H' L' g1)
end
end Pi
namespace Pi
open Go Go.Proofs
set_option maxRecDepth 100000
set_option maxHeartbeats 0
def qcT:S->K (PX×S):=fun s post=> ∃m o,s=of7 m o 0 0 0 0 [] [] [] [] 0/\(m.length<=1000000/\o.length<=1000000/\ ∀g∈m,cQ g=true)/\ ∀na np nh nl A P H L,qN (CO o m) na np nh nl A P H L->post (.exit 0,⟨140,[(0,.sl 0 0 m.length),(2,.ref 1 0 0),(3,.ref 7 0 0),(4,.sl 13 0 na),(5,.sl 14 0 np)],ofR m o nh nl A P H L⟩)
def ZbM (m:List aj) (o:List ax):S:=S.mk 140 (kR m::FR::FQ::(4,P.sl 13 0 0)::(5,P.sl 14 0 0)::CD) [Me m,Md,zs,Mc,Mb,Ma,L9,(7,En.mk 0 none (Obj.box (69:TypeId) (P.sl 8 0 (dV o)::WA::P.sl 10 0 0::P.sl 11 0 0::Wz))),L8 o,L7,(10,FP),(11,FP),RM,(13,SM),(14,yC)]
def ZbL (m:List aj) (l:List aj):Prop:=[P.d (D.sl 7 (List.take (dm m) (cK m)))]=[fR l]
theorem qg7 (l:List aj) (post:P×List (Nat×En)->Prop):(∃(ar:List aj),qb l ar/\Zw/\jc ar/\ ∀(m:List aj),m=az ar-> ∃(l:List aj),ZbL m l/\Zw/\mA l/\ ∀(o:List Hd),o=List.map eV l-> ∃(l:List Hd),[P.d (D.sl 4 (Cz o))]=Z6e l/\Zw/\lI l/\ ∀(o:List ax),o=UX l-> ∃(bL:List aj) (aQ:List ax),ZbM m o=ZbM bL aQ/\(mA bL/\nz aQ/\ZaD bL)/\ ∀(na np nh nl:Nat) (A P H L:List D),qN (CO aQ bL) na np nh nl A P H L-> ∃(a:List aC) (l:List Pl),[Pi.P.d (D.sl 3 (List.take na A)),Pi.P.d (D.sl 8 (List.take np P))]=[nr a,kS l]/\Zw/\(uK a/\js l=List.length a)/\ ∀(o:List Pl),o=L1 (HX a l)-> ∃(l:List aj) (p:List Pl),[Pi.P.d (D.sl 7 (List.take (dm bL) (cK bL))),Pi.P.d (D.sl 8 (List.take (js o) (gW o)))]=[fR l,kS p]/\Zw/\Zba p l/\ ∀(o:List Pl),o=FO l p-> ∃(h:List cd) (g:List cd),[Pi.P.d (D.sl 5 (List.take nh H)),Pi.P.d (D.sl 5 (List.take nl L))]=[JP h,JP g]/\Zw/\(Rj h/\Rj g)/\ ∀(Mi:List aC),Mi=L2 h g-> ∃(l:List Pl) (v:List aC),[Pi.P.d (D.sl 8 (List.take (js o) (gW o))),Pi.P.d (D.sl 3 (List.take (List.length Mi) (List.map bH Mi)))]=[kS l,nr v]/\Zw/\(js l<=1000/\uK v)/\post (Pi.P.d (D.agg [D.sl 2 (List.take (dV aQ) (List.map aX aQ)),D.sl 8 (List.take (js o) (gW o)),D.sl 5 (List.take nh H),D.sl 5 (List.take nl L),D.sl 6 (List.take (List.length (jr (oa l) v)) (List.map fg (jr (oa l) v)))]),[]))=(aH [(40,ma),(44,Lx),(53,qbo),(55,qcN),(54,RJ),(57,Rr),(56,CS)] [(7,ae (aK 32 7) qcT)] 32 [bO l] []) post:=by kernel_rfl
def Mj (l:List aj) (t:Tl):List Pl:=FO l (L1 (HX t.a t.p))
def qcU (l:List aj) (t:Tl):List It:=jr (oa (Mj l t)) (L2 t.h t.g)
def qft (o:List ax) (p:List Pl) (h g:List cd) (x:List It):P:= .d (.agg [.sl 2 (o.map aX),.sl 8 (p.map bI),.sl 5 (h.map kM),.sl 5 (g.map kM),.sl 6 (x.map fg)])
def WE (l:List aj):Prop:=jc l/\SmV l
def Fm:bm:=fun ps R post=> ∃l,ps=[bO l]/\R=[]/\WE l/\ ∀o t p x,o=Jj l->t=CO o (az l)->p=Mj (az l) t->x=qcU (az l) t->post (qft o p t.h t.g x,[])
abbrev ru (o:List ax) (m:List aj) (i:Int):S:=⟨44,[(4,.ref 0 0 0),(6,fE o),(7,.sl 1 0 m.length),(8,iD i)],[(0,⟨0,none,qf (0,0)⟩),(1,⟨0,none,my false m⟩)]⟩
def ZbN (m:List aj):List (Nat×En):=[pj,rD m]
def ZbO (i:Int) (post:PX×S->Prop) (o:List ax) (m:List aj):Prop:=bif Zb i then post (PX.normal,S.mk 44 [jR,(6,kG o),(7,lN m),(8,Zr i)] (ZbN m)) else False
theorem qg8 (o:List ax) (m:List aj) (i:Int) (post:PX×S->Prop):(bif Z2 i then bif jq i m then bif gS i m then bif c8 m i then bif FI m i then bif jq i m then bif gS i m then bif c8 m i then∃(l:List ax) (x:ax),kG o::Cw m i=kG l::nq x/\Zw/\nz l/\ ∀(b:Bool),LM b l x->bif b then bif jq i m then bif gS i m then bif c8 m i then post (PX.ret,S.mk 44 (jR::ZL) [LL m i]) else False else False else False else ZbO i post o m else False else False else False else ZbO i post o m else False else False else False else post (PX.exit 0,S.mk 44 [jR] LB))=(aF [(42,L3)] [] 24 4 (ru o m i)) post:=by kernel_rfl
def qcV:S->K (PX×S):=fun s post=> ∃o m i,s=ru o m i/\(i=(m.length:Int)-1/\m.length<=1000000/\o.length<=1000000)/\(∀x,bZ o m.reverse=some x->post (.ret,⟨44,[(4,.ref 0 0 0),(5,iD 0)],[(0,⟨0,none,qf x⟩)]⟩))/\(bZ o m.reverse=none->post (.exit 0,⟨44,[(4,.ref 0 0 0)],[(0,⟨0,none,qf (0,0)⟩)]⟩))
def SZ (aQ:List aj):Int:=(↑(dm aQ):Int)-(1:Int)
theorem qfu (l:List aj) (r:Int) (post:P×List (Nat×En)->Prop):(∃(ar:List aj),qb l ar/\Zw/\WE ar/\ ∀(o:List ax) (t:Tl) (p:List Pl) (x:List It),o=Jj ar->t=CO o (az ar)->p=Mj (az ar) t->x=qcU (az ar) t-> ∃(gq:List aj) (cA:Int),E3 l r gq cA/\Zw/\jc gq/\ ∀(aQ:List aj),aQ=qc (az gq) cA->bif decide (Z9<=SZ aQ/\SZ aQ<=Za) then∃(Mi:List ax) (m:List aj) (i:Int),S.mk 44 [jR,(6,kG o),(7,lN aQ),(8,P.d (D.int IntKind.i64 (SZ aQ)))] (ZbN aQ)=S.mk 44 [jR,(6,kG Mi),(7,lN m),zq i] (ZbN m)/\(i=SZ m/\mA m/\nz Mi)/\(∀(x:ax),bZ Mi (List.reverse m)=some x->X7 post x)/\(bZ Mi (List.reverse m)=none->VK post) else False)=(aH [(32,Fm),(41,hRo)] [(4,ae (aK 24 4) qcV)] 24 [bO l,iD r] []) post:=by kernel_rfl
abbrev re (z:Bool) (o:List ax) (r m:List aj) (i:Int):S:=⟨70,[(4,.ref 0 0 0),(6,.sl 1 0 r.length),(7,fE o),(8,.sl 2 0 m.length),(9,iD i)],[(0,⟨0,none,qf (0,0)⟩),(1,⟨0,none,my z r⟩),(2,⟨0,none,my false m⟩)]⟩
def ZbS (post:PX×S->Prop):Prop:=post (PX.exit 0,S.mk 70 [jR] LB)
def ZbQ (m:List aj):Nat×P:=(8,P.sl 2 0 (dm m))
def YD (i:Int) (post:PX×S->Prop) (r:List aj) (o:List ax) (m:List aj):Prop:=bif Zb i then post (PX.normal,S.mk 70 (jR::(6,lN r)::(7,kG o)::ZbQ m::Vl i) [pj,(1,En.mk 0 none (Obj.arr (34:TypeId) true (cK r))),(2,kJ m)]) else False
theorem qfv (o:List ax) (r m:List aj) (i:Int) (post:PX×S->Prop):(bif Z2 i then bif jq i m then bif gS i m then bif c8 m i then bif !FI m i then∃(l:List aj),ZbL r l/\Zw/\mA l/\ ∀(aQ:List Hd),aQ=List.map eV l->bif jq i m then bif gS i m then bif c8 m i then∃(l:List Hd) (x:ax),P.d (D.sl 4 (Cz aQ))::Cw m i=P.d (D.sl 4 (List.map bB l))::nq x/\Zw/\lI l/\ ∀(e:Int) (cA:ax) (ev:Bool),fP l x=(e,cA,ev)->bif e==(0:Int) then bif !ev then bif jq i m then bif gS i m then bif c8 m i then∃(l:List ax) (x:ax),kG o::Cw m i=kG l::nq x/\Zw/\nz l/\ ∀(b:Bool),LM b l x->bif b then bif jq i m then bif gS i m then bif c8 m i then post (PX.ret,S.mk 70 (jR::ZL) [LL m i]) else False else False else False else YD i post r o m else False else False else False else YD i post r o m else YD i post r o m else False else False else False else ZbS post else False else False else False else ZbS post)=(aF [(44,Lx),(43,hRr),(42,L3)] [] 25 5 (re false o r m i)) post:=by kernel_rfl
theorem qfw (o:List ax) (r m:List aj) (i:Int) (post:PX×S->Prop):(bif Z2 i then bif jq i m then bif gS i m then bif c8 m i then bif !FI m i then∃(l:List aj),ZbL r l/\Zw/\mA l/\ ∀(aQ:List Hd),aQ=List.map eV l->bif jq i m then bif gS i m then bif c8 m i then∃(l:List Hd) (x:ax),P.d (D.sl 4 (Cz aQ))::Cw m i=P.d (D.sl 4 (List.map bB l))::nq x/\Zw/\lI l/\ ∀(e:Int) (cA:ax) (ev:Bool),fP l x=(e,cA,ev)->bif e==(0:Int) then bif !ev then bif jq i m then bif gS i m then bif c8 m i then∃(l:List ax) (x:ax),kG o::Cw m i=kG l::nq x/\Zw/\nz l/\ ∀(b:Bool),LM b l x->bif b then bif jq i m then bif gS i m then bif c8 m i then post (PX.ret,S.mk 70 (jR::ZL) [LL m i]) else False else False else False else YD i post r o m else False else False else False else YD i post r o m else YD i post r o m else False else False else False else ZbS post else False else False else False else ZbS post)=(aF [(44,Lx),(43,hRr),(42,L3)] [] 25 5 (re true o r m i)) post:=by kernel_rfl
def gRe:S->K (PX×S):=fun s post=> ∃o r m i,s=re false o r m i/\(i=(m.length:Int)-1/\m.length<=1000000/\o.length<=1000000/\r.length<=1000000)/\(∀x,bn (r.map eV) o m.reverse=some x->post (.ret,⟨70,[(4,.ref 0 0 0),(5,iD 0)],[(0,⟨0,none,qf x⟩)]⟩))/\(bn (r.map eV) o m.reverse=none->post (.exit 0,⟨70,[(4,.ref 0 0 0)],[(0,⟨0,none,qf (0,0)⟩)]⟩))
theorem qfx (l:List aj) (r:Int) (post:P×List (Nat×En)->Prop):(∃(ar:List aj),qb l ar/\Zw/\jc ar/\ ∀(m:List aj),m=az ar-> ∃(gq:List aj),qb l gq/\Zw/\WE gq/\ ∀(o:List ax) (t:Tl) (p:List Pl) (x:List It),o=Jj gq->t=CO o (az gq)->p=Mj (az gq) t->x=qcU (az gq) t-> ∃(vf:List aj) (cA:Int),E3 l r vf cA/\Zw/\jc vf/\ ∀(aQ:List aj),aQ=qc (az vf) cA->bif decide (Z9<=SZ aQ/\SZ aQ<=Za) then∃(Mi:List ax) (r:List aj) (bL:List aj) (i:Int),S.mk 70 [jR,(6,lN m),(7,kG o),ZbQ aQ,(9,P.d (D.int IntKind.i64 (SZ aQ)))] [pj,rD m,(2,kJ aQ)]=S.mk 70 [jR,(6,lN r),(7,kG Mi),ZbQ bL,Ly i] [pj,rD r,(2,kJ bL)]/\(i=SZ bL/\mA bL/\nz Mi/\mA r)/\(∀(x:ax),bn (List.map eV r) Mi (List.reverse bL)=some x->X7 post x)/\(bn (List.map eV r) Mi (List.reverse bL)=none->VK post) else False)=(aH [(40,ma),(32,Fm),(41,hRo)] [(5,ae (aK 25 5) gRe)] 25 [bO l,iD r] []) post:=by kernel_rfl
end Pi
namespace Pi
open Go Go.Proofs
set_option maxRecDepth 100000
theorem Fo {m:List aj} {i:Nat} (h:i<m.length):(m.take (i+1)).reverse=m[i]::(m.take i).reverse:=by
 rw[List.take_succ_eq_append_getElem h,List.reverse_append]
 rfl
theorem RX {l:List aj} {t:Tl} (hc: ∀g∈l,cQ g=true) (hn:(l.map (·.s)).Nodup):(Mj l t).length<=t.a.length:=
 Nat.le_trans (CV hc hn _) (Nat.le_trans (CU _) (vQ _ _))
def H2:bm:=fun ps R post=> ∃l r,ps=[bO l,iD r]/\R=[]/\WE l/\ ∀a,a=qG l r->post (stO a,[])
def H3:bm:=fun ps R post=> ∃l r,ps=[bO l,iD r]/\R=[]/\WE l/\ ∀a,a=o9 l r->post (stO a,[])
section
variable {X:XF}
theorem WG:LD X 32 7 (ae (aK 32 7) qcT):=LD.idx (H:=[(42,Rm)]) (hk:=[(11,ae (aK 32 11) RR)]) (by kernel_rfl) (by kernel_rfl) (.cons qcp .nil) (.cons RW .nil)
 (A:=List aj×List ax) (B:=OfB) (fun a b i=>of7 a.1 a.2 b.1 b.2.1 b.2.2.1 b.2.2.2.1 b.2.2.2.2.1 b.2.2.2.2.2.1 b.2.2.2.2.2.2.1 b.2.2.2.2.2.2.2 i) (fun a=>a.1.length)
 (fun a i b=>(a.1.length<=1000000/\a.2.length<=1000000/\ ∀g∈a.1,cQ g=true)/\qN (CO a.2 (a.1.take i)) b.1 b.2.1 b.2.2.1 b.2.2.2.1 b.2.2.2.2.1 b.2.2.2.2.2.1 b.2.2.2.2.2.2.1 b.2.2.2.2.2.2.2)
 (fun a x=> ∃na np nh nl A P H L,qN (CO a.2 a.1) na np nh nl A P H L/\x=(.exit 0,⟨140,[(0,.sl 0 0 a.1.length),(2,.ref 1 0 0),(3,.ref 7 0 0),(4,.sl 13 0 na),(5,.sl 14 0 np)],ofR a.1 a.2 nh nl A P H L⟩))
 (by
  rintro⟨m,o⟩ ⟨na,np,nh,nl,A,P,H,L⟩ i post h0 bS bc ⟨hc,hR⟩ hn ho
  try dsimp only at*
  rw[<-YC]
  have hB:=Jz (on:=o) hc.2.2 i.toNat (by omega)
  have hN:gV (m.take i.toNat)<=300000000:=by
   have h1:=AN m i.toNat
   have h2:=CY hc.2.2
   have h3:=hc.1
   omega
  have e1:D.nth (m.map aP) i.toNat=aP m[i.toNat]:=ay _ _ _ bc
  have nG:=hc.2.2 _ (List.getElem_mem bc)
  have kK:=yh (on:=o) bc
  rw[e1]
  refine bV bS (ak ⟨h0,bS⟩ (ak (by rw[List.length_map];exact bc) (aq (df _) ⟨o,m[i.toNat].s,rfl,rfl,hc.2.1,fun b hb=>⟨m,o,na,np,nh,nl,A,P,H,L,i,b,_,_,bc,rfl,⟨hR,hB,hN,h0,sC nG,yj nG⟩,fun nX nY nZ bq A' P' H' L' g1=>ak (by omega) (hn (nX,nY,nZ,bq,A',P',H',L') ⟨hc,by rw[kK];unfold Yb;rw[<-hb];exact g1⟩)⟩⟩))))
 (by
  rintro⟨m,o⟩ ⟨na,np,nh,nl,A,P,H,L⟩ i post hi ⟨hc,hR⟩ ho
  try dsimp only at*
  rw[<-YC]
  rw[List.take_length] at hR
  exact nv (by omega) (ho _ (fun h=>by cases h) ⟨na,np,nh,nl,A,P,H,L,hR,rfl⟩))
 (by
  rintro s post ⟨m,o,rfl,hc,hp⟩
  refine⟨(m,o),(0,0,0,0,[],[],[],[]),rfl,⟨hc,⟨rfl,rfl,rfl,rfl,rfl,rfl,rfl,rfl⟩⟩,?_⟩
  rintro x ⟨na,np,nh,nl,A,P,H,L,g1,rfl⟩
  exact hp na np nh nl A P H L g1)
theorem RY:FD X 32 Fm:=FD.mk (H:=[(40,ma),(44,Lx),(53,qbo),(55,qcN),(54,RJ),(57,Rr),(56,CS)]) (hk:=[(7,ae (aK 32 7) qcT)]) (by kernel_rfl) (.cons pe (.cons XR (.cons qep (.cons qfs (.cons qcS (.cons qct (.cons Rf .nil))))))) (.cons WG .nil) (by
 intro ps R post hh
 obtain⟨l,rfl,rfl,hs,hp⟩:=hh
 (rw[<-qg7];delta dV Rj JP ZaD dm mA js Zba cK fR gW uK kS nr nz yC SM SJ RM FP L7 nW qK L8 Wz WA L9 Ma Mb Mc xZ zs Md Me Z7 CD FQ iM FR lM kR ZbM eU lI Z6e Cz ZbL Zw qb)
 have hl:=hs.1.1
 have h1:=pS l
 have h2:=cv l
 have nG: ∀g∈az l,cQ g=true:=rq
 have lx:=gN l
 have Mh:gV (az l)<=1000:=Nat.le_trans (HR l) hs.2
 refine⟨l,rfl,rfl,hs.1,fun m hm=> ?_⟩
 have tm:List.take m.length (m.map aP)=m.map aP:=List.take_of_length_le (by simp)
 rw[tm]
 refine⟨m,rfl,rfl,by rw[hm];omega,fun h hh=> ?_⟩
 have th:List.take h.length (h.map bB)=h.map bB:=List.take_of_length_le (by simp)
 rw[th]
 refine⟨h,rfl,rfl,by rw[hh,List.length_map,hm];omega,fun o ho=> ?_⟩
 have lW:o=Jj l:=by rw[ho,hh,hm];rfl
 refine⟨m,o,rfl,⟨by rw[hm];omega,by rw[lW];omega,by rw[hm];exact nG⟩,fun na np nh nl A P H L hR=> ?_⟩
 have hB:=Jz (on:=o) (l:=m) (by rw[hm];exact nG) m.length (Nat.le_refl _)
 rw[List.take_length,hm] at hB
 have jK:=hB.mono Mh
 rw[hm] at hR
 obtain⟨t,ht⟩: ∃t,t=CO o (az l):=⟨_,rfl⟩
 rw[<-ht] at hR jK
 obtain⟨rfl,rfl,rfl,rfl,rfl,rfl,rfl,rfl⟩:=hR
 have ta:List.take t.a.length (t.a.map bH)=t.a.map bH:=List.take_of_length_le (by simp)
 have tp:List.take t.p.length (t.p.map bI)=t.p.map bI:=List.take_of_length_le (by simp)
 have thh:List.take t.h.length (t.h.map kM)=t.h.map kM:=List.take_of_length_le (by simp)
 have tg:List.take t.g.length (t.g.map kM)=t.g.map kM:=List.take_of_length_le (by simp)
 have tn:List.take o.length (o.map aX)=o.map aX:=List.take_of_length_le (by simp)
 have tk: ∀{α:Type} (f:α->D) (l:List α),List.take l.length (l.map f)=l.map f:=fun f l=>List.take_of_length_le (by simp)
 have b1:=jK.1
 have b2:=jK.2.1
 have b3:=jK.2.2.1
 have b4:=jK.2.2.2
 rw[ta,tp,thh,tg,tn,tm]
 refine⟨t.a,t.p,rfl,rfl,⟨by omega,b1.symm⟩,fun q hq=> ?_⟩
 rw[tk bI q]
 have hql:q.length<=t.a.length:=by rw[hq];exact Nat.le_trans (CU _) (vQ _ _)
 refine⟨m,q,rfl,rfl,⟨by omega,by rw[hm];omega,by rw[hm];exact nG,by rw[hm];exact lx⟩,fun p Ns=>⟨t.h,t.g,rfl,rfl,⟨by omega,by omega⟩,fun v hv=> ?_⟩⟩
 rw[tk bI p,tk bH v]
 have hpp:p=Mj (az l) t:=by rw[Ns,hq,hm];rfl
 have Se:p.length<=t.a.length:=by rw[hpp];exact RX nG lx
 have Sf:v.length<=t.h.length:=by rw[hv];exact JL _ _
 refine⟨p,v,rfl,rfl,⟨by omega,by omega⟩,?_⟩
 rw[tk fg]
 exact hp o t p (jr (oa p) v) lW ht hpp (by rw[hpp,hv];rfl))
theorem WH:LD X 24 4 (ae (aK 24 4) qcV):=LD.par (H:=[(42,L3)]) (hk:=[]) (by kernel_rfl) (by kernel_rfl) (.cons Yn .nil) .nil
 (A:=List ax×List aj) (B:=Int) (fun a i=>ru a.1 a.2 i) (fun a i=>(a.2.length<=1000000/\a.1.length<=1000000)/\ -1<=i/\i<a.2.length/\bZ a.1 a.2.reverse=bZ a.1 (a.2.take (i+1).toNat).reverse) (fun _ i=>(i+1).toNat)
 (fun a x=>(∃s,bZ a.1 a.2.reverse=some s/\x=(.ret,⟨44,[(4,.ref 0 0 0),(5,iD 0)],[(0,⟨0,none,qf s⟩)]⟩))\/(bZ a.1 a.2.reverse=none/\x=(.exit 0,⟨44,[(4,.ref 0 0 0)],[(0,⟨0,none,qf (0,0)⟩)]⟩)))
 (by
  rintro⟨o,m⟩ i ⟨hm,h1,h2,hu⟩
  try dsimp only at*
  (rw[<-qg8];delta Z7 ZY p9 pj LB cK kJ rD ZbN Zr dm lN kG bQ jR Za Z9 Zb ZbO Zg fQ lG mz LL ZL LM dV nz Zw mr nq rz Cw FI c8 gO gS jq Z2)
  refine bJ (fun hp=> ?_) fun hp=> .inr ⟨?_,rfl⟩
  ·have bc:i.toNat<m.length:=by omega
   have e1:D.nth (m.map aP) i.toNat=aP m[i.toNat]:=ay _ _ _ bc
   rw[show(i+1).toNat=i.toNat+1 by omega,Fo bc] at hu
   have uL:i.toNat<(m.map aP).length:=by rw[List.length_map];exact bc
   rw[e1]
   generalize m[i.toNat]=g at hu⊢
   have pB:=df g
   have key:bZ o m.reverse=if g.bN=(0,0)/\g.s∈o then some g.s else bZ o (m.take i.toNat).reverse:=hu
   have v:(D.ah (D.ao (aP g) 4)==0&&(D.ah (D.ao (aP g) 5)==0&&true))=(g.bN==(0,0)):=Ch g.bN (0,0)
   rw[v]
   have nx: ¬(g.bN=(0,0)/\g.s∈o)->roundPost (i.toNat+1) (fun k s=> ∃b',s=ru o m b'/\((m.length<=1000000/\o.length<=1000000)/\ -1<=b'/\b'<m.length/\bZ o m.reverse=bZ o (m.take (b'+1).toNat).reverse)/\k=(b'+1).toNat) (fun x=>(∃s,bZ o m.reverse=some s/\x=(.ret,⟨44,[(4,.ref 0 0 0),(5,iD 0)],[(0,⟨0,none,qf s⟩)]⟩))\/(bZ o m.reverse=none/\x=(.exit 0,⟨44,[(4,.ref 0 0 0)],[(0,⟨0,none,qf (0,0)⟩)]⟩))) (.normal,ru o m (i-1)):=fun b9=>
    ⟨i.toNat,by omega,i-1,rfl,⟨hm,by omega,by omega,by rw[key,if_neg b9,show(i-1+1).toNat=i.toNat by omega]⟩,by omega⟩
   rw[show(i+1).toNat=i.toNat+1 by omega]
   refine ak ⟨hp,h2⟩ (ak uL (aq pB (aw (fun hz=>ak ⟨hp,h2⟩ (ak uL (aq pB ⟨o,g.s,rfl,rfl,hm.2,fun b hb=>aw (fun Cl=>ak ⟨hp,h2⟩ (ak uL (aq pB ?_))) fun Dd=>ak (by omega) (nx ?_)⟩))) fun hz=>ak (by omega) (nx ?_))))
   ·have cu:g.s∈o:=by rw[hb,decide_eq_true_eq] at Cl;exact Cl
    exact .inl ⟨g.s,by rw[key,if_pos ⟨by simpa using hz,cu⟩],rfl⟩
   ·intro hh
    rw[hb,decide_eq_false_iff_not] at Dd
    exact Dd hh.2
   ·intro hh
    rw[hh.1] at hz
    simp at hz
  ·rw[hu,show(i+1).toNat=0 by omega]
   rfl)
 (by
  rintro s post ⟨o,m,i,rfl,⟨hi,hm,ho⟩,sO,My⟩
  refine⟨(o,m),i,rfl,⟨⟨hm,ho⟩,by omega,by show i<(m.length:Int);omega,?_⟩,?_⟩
  ·show bZ o m.reverse=bZ o (m.take (i+1).toNat).reverse
   rw[List.take_of_length_le (by omega)]
  ·rintro x (⟨s,h,rfl⟩| ⟨h,rfl⟩)
   ·exact sO s h
   ·exact My h)
theorem qcW:LD X 25 5 (ae (aK 25 5) gRe):=LD.par (H:=[(44,Lx),(43,hRr),(42,L3)]) (hk:=[]) (by kernel_rfl) (by kernel_rfl) (.cons XR (.cons qgx (.cons Yn .nil))) .nil
 (A:=List ax×List aj×List aj) (B:=Bool×Int) (fun a b=>re b.1 a.1 a.2.1 a.2.2 b.2) (fun a b=>(a.2.2.length<=1000000/\a.1.length<=1000000/\a.2.1.length<=1000000)/\ -1<=b.2/\b.2<a.2.2.length/\bn (a.2.1.map eV) a.1 a.2.2.reverse=bn (a.2.1.map eV) a.1 (a.2.2.take (b.2+1).toNat).reverse) (fun _ b=>(b.2+1).toNat)
 (fun a x=>(∃s,bn (a.2.1.map eV) a.1 a.2.2.reverse=some s/\x=(.ret,⟨70,[(4,.ref 0 0 0),(5,iD 0)],[(0,⟨0,none,qf s⟩)]⟩))\/(bn (a.2.1.map eV) a.1 a.2.2.reverse=none/\x=(.exit 0,⟨70,[(4,.ref 0 0 0)],[(0,⟨0,none,qf (0,0)⟩)]⟩)))
 (by
  rintro⟨o,r,m⟩ ⟨z,i⟩ ⟨hm,h1,h2,hu⟩
  try dsimp only at*
  have tr:List.take r.length (r.map aP)=r.map aP:=List.take_of_length_le (by simp)
  have th: ∀h:List Hd,List.take h.length (h.map bB)=h.map bB:=fun h=>List.take_of_length_le (by simp)
  have core: ∀(hp:i>=0),∃(g:aj),D.nth (m.map aP) i.toNat=aP g/\bn (r.map eV) o m.reverse=if g.bN=(0,0) then none else if tF (r.map eV) g.s=true/\g.s∈o then some g.s else bn (r.map eV) o (m.take i.toNat).reverse:=fun hp=>by
   have bc:i.toNat<m.length:=by omega
   rw[show(i+1).toNat=i.toNat+1 by omega,Fo bc] at hu
   exact⟨m[i.toNat],ay _ _ _ bc,hu⟩
  have y8: ¬i>=0->bn (r.map eV) o m.reverse=none:=fun hp=>by
   rw[hu,show(i+1).toNat=0 by omega]
   rfl
  have nx:i>=0-> ∀z',bn (r.map eV) o m.reverse=bn (r.map eV) o (m.take i.toNat).reverse->roundPost (i+1).toNat (fun k s=> ∃b':Bool×Int,s=re b'.1 o r m b'.2/\((m.length<=1000000/\o.length<=1000000/\r.length<=1000000)/\ -1<=b'.2/\b'.2<m.length/\bn (r.map eV) o m.reverse=bn (r.map eV) o (m.take (b'.2+1).toNat).reverse)/\k=(b'.2+1).toNat) (fun x=>(∃s,bn (r.map eV) o m.reverse=some s/\x=(.ret,⟨70,[(4,.ref 0 0 0),(5,iD 0)],[(0,⟨0,none,qf s⟩)]⟩))\/(bn (r.map eV) o m.reverse=none/\x=(.exit 0,⟨70,[(4,.ref 0 0 0)],[(0,⟨0,none,qf (0,0)⟩)]⟩))) (.normal,re z' o r m (i-1)):=fun hp z' hk=>
   ⟨i.toNat,by omega,(z',i-1),rfl,⟨hm,by show-1<=i-1;omega,by show i-1<_;omega,by show _=bn (r.map eV) o (m.take (i-1+1).toNat).reverse;rw[hk,show(i-1+1).toNat=i.toNat by omega]⟩,by show i.toNat=(i-1+1).toNat;omega⟩
  cases z with
  |false=>
   (rw[<-qfv];delta Z7 ZY p9 pj LB bQ jR ZbS cK kJ Zr Vl dm ZbQ kG lN Za Z9 Zb YD Zg fQ lG mz LL ZL LM dV nz eU lI mr nq rz Cw Cz mA Zw fR ZbL FI c8 gO gS jq Z2)
   refine bJ (fun hp=> ?_) fun hp=> .inr ⟨y8 hp,rfl⟩
   obtain⟨g,e1,key⟩:=core hp
   rw[e1,tr]
   have uL:i.toNat<(m.map aP).length:=by rw[List.length_map];omega
   have pB:=df g
   have v:(D.ah (D.ao (aP g) 4)==0&&(D.ah (D.ao (aP g) 5)==0&&true))=(g.bN==(0,0)):=Ch g.bN (0,0)
   rw[v]
   refine ak ⟨hp,h2⟩ (ak uL (aq pB (aw (fun hb=>⟨r,rfl,rfl,hm.2.2,fun h hh=>ak ⟨hp,h2⟩ (ak uL (aq pB ⟨h,g.s,by rw[th];rfl,rfl,by rw[hh,List.length_map];exact hm.2.2,fun e r1 ev hr=> ?_⟩))⟩) fun hb=> .inr ⟨?_,rfl⟩)))
   ·have hz: ¬g.bN=(0,0):=fun hz=>by rw[hz] at hb;simp at hb
    have CN:tF (r.map eV) g.s=(e==0&& !ev):=by unfold tF;rw[<-hh,hr]
    rw[if_neg hz,CN] at key
    refine U6 (fun he=>aw (fun hv=>ak ⟨hp,h2⟩ (ak uL (aq pB ⟨o,g.s,rfl,rfl,hm.2.1,fun b cu=>aw (fun Cl=>ak ⟨hp,h2⟩ (ak uL (aq pB ?_))) fun Dd=>ak (by omega) ?_⟩))) fun hv=>ak (by omega) ?_) fun he=>ak (by omega) ?_
    ·have ho:(e==0&& !ev)=true:=by rw[hv];simp[he]
     have iL:g.s∈o:=by rw[cu,decide_eq_true_eq] at Cl;exact Cl
     exact .inl ⟨g.s,by rw[key,if_pos ⟨ho,iL⟩],rfl⟩
    ·refine nx hp true ?_
     have iL: ¬g.s∈o:=by rw[cu,decide_eq_false_iff_not] at Dd;exact Dd
     rw[key,if_neg (fun hh=>iL hh.2)]
    ·refine nx hp true ?_
     rw[key,if_neg (fun hh=>by rw[hv,Bool.and_false] at hh;cases hh.1)]
    ·refine nx hp true ?_
     rw[key,if_neg (fun hh=>he (by have:=hh.1;rw[Bool.and_eq_true] at this;simpa using this.1))]
   ·have hz:g.bN=(0,0):=by simpa using hb
    rw[key,if_pos hz]
  |true=>
   (rw[<-qfw];delta Z7 ZY p9 pj LB bQ jR ZbS cK kJ Zr Vl dm ZbQ kG lN Za Z9 Zb YD Zg fQ lG mz LL ZL LM dV nz eU lI mr nq rz Cw Cz mA Zw fR ZbL FI c8 gO gS jq Z2)
   refine bJ (fun hp=> ?_) fun hp=> .inr ⟨y8 hp,rfl⟩
   obtain⟨g,e1,key⟩:=core hp
   rw[e1,tr]
   have uL:i.toNat<(m.map aP).length:=by rw[List.length_map];omega
   have pB:=df g
   have v:(D.ah (D.ao (aP g) 4)==0&&(D.ah (D.ao (aP g) 5)==0&&true))=(g.bN==(0,0)):=Ch g.bN (0,0)
   rw[v]
   refine ak ⟨hp,h2⟩ (ak uL (aq pB (aw (fun hb=>⟨r,rfl,rfl,hm.2.2,fun h hh=>ak ⟨hp,h2⟩ (ak uL (aq pB ⟨h,g.s,by rw[th];rfl,rfl,by rw[hh,List.length_map];exact hm.2.2,fun e r1 ev hr=> ?_⟩))⟩) fun hb=> .inr ⟨?_,rfl⟩)))
   ·have hz: ¬g.bN=(0,0):=fun hz=>by rw[hz] at hb;simp at hb
    have CN:tF (r.map eV) g.s=(e==0&& !ev):=by unfold tF;rw[<-hh,hr]
    rw[if_neg hz,CN] at key
    refine U6 (fun he=>aw (fun hv=>ak ⟨hp,h2⟩ (ak uL (aq pB ⟨o,g.s,rfl,rfl,hm.2.1,fun b cu=>aw (fun Cl=>ak ⟨hp,h2⟩ (ak uL (aq pB ?_))) fun Dd=>ak (by omega) ?_⟩))) fun hv=>ak (by omega) ?_) fun he=>ak (by omega) ?_
    ·have ho:(e==0&& !ev)=true:=by rw[hv];simp[he]
     have iL:g.s∈o:=by rw[cu,decide_eq_true_eq] at Cl;exact Cl
     exact .inl ⟨g.s,by rw[key,if_pos ⟨ho,iL⟩],rfl⟩
    ·refine nx hp true ?_
     have iL: ¬g.s∈o:=by rw[cu,decide_eq_false_iff_not] at Dd;exact Dd
     rw[key,if_neg (fun hh=>iL hh.2)]
    ·refine nx hp true ?_
     rw[key,if_neg (fun hh=>by rw[hv,Bool.and_false] at hh;cases hh.1)]
    ·refine nx hp true ?_
     rw[key,if_neg (fun hh=>he (by have:=hh.1;rw[Bool.and_eq_true] at this;simpa using this.1))]
   ·have hz:g.bN=(0,0):=by simpa using hb
    rw[key,if_pos hz])
 (by
  rintro s post ⟨o,r,m,i,rfl,⟨hi,hm,ho,hr⟩,sO,My⟩
  refine⟨(o,r,m),(false,i),rfl,⟨⟨hm,ho,hr⟩,by show-1<=i;omega,by show i<(m.length:Int);omega,?_⟩,?_⟩
  ·show bn (r.map eV) o m.reverse=bn (r.map eV) o (m.take (i+1).toNat).reverse
   rw[List.take_of_length_le (by omega)]
  ·rintro x (⟨s,h,rfl⟩| ⟨h,rfl⟩)
   ·exact sO s h
   ·exact My h)
theorem qfy:FD X 24 H2:=FD.mk (H:=[(32,Fm),(41,hRo)]) (hk:=[(4,ae (aK 24 4) qcV)]) (by kernel_rfl) (.cons RY (.cons qez .nil)) (.cons WH .nil) (by
 intro ps R post hh
 obtain⟨l,r,rfl,rfl,hs,hp⟩:=hh
 (rw[<-qfu];delta Z7 VK ZY mr X7 dV nz dm mA Zs zq cK kJ rD p9 pj ZbN lN kG bQ jR Za SZ Z9 Zu fR E3 Zw qb)
 have hl:=hs.1.1
 have h1:=pS l
 have h2:=cv l
 have h3:(qc (az l) r).length<=(az l).length:=by unfold qc;rw[(cW _).length_eq];exact List.length_filter_le _ _
 have hr:=E0 (r:=r) (gN l)
 refine⟨l,rfl,rfl,hs,fun o t p x ho _ _ _=>⟨l,r,rfl,rfl,hs.1,fun m hm=>ak (by rw[hm];omega) ⟨o,m,_,rfl,⟨rfl,by rw[hm];omega,by rw[ho];omega⟩,fun s hx=> ?_,fun hx=> ?_⟩⟩⟩
 ·exact hp (s,0) (by unfold qG;rw[<-hr,<-hm,<-ho,hx];rfl)
 ·exact hp ((0,0),200) (by unfold qG;rw[<-hr,<-hm,<-ho,hx];rfl))
theorem qfz:FD X 25 H3:=FD.mk (H:=[(40,ma),(32,Fm),(41,hRo)]) (hk:=[(5,ae (aK 25 5) gRe)]) (by kernel_rfl) (.cons pe (.cons RY (.cons qez .nil))) (.cons qcW .nil) (by
 intro ps R post hh
 obtain⟨l,r,rfl,rfl,hs,hp⟩:=hh
 (rw[<-qfx];delta Z7 VK ZY mr X7 dV nz dm mA Zs Ly cK kJ rD p9 pj ZbQ kG lN bQ jR Za SZ Z9 Zu fR E3 Zw qb)
 have hl:=hs.1.1
 have h1:=pS l
 have h2:=cv l
 have h3:(qc (az l) r).length<=(az l).length:=by unfold qc;rw[(cW _).length_eq];exact List.length_filter_le _ _
 have hr:=E0 (r:=r) (gN l)
 refine⟨l,rfl,rfl,hs.1,fun q hq=>⟨l,rfl,rfl,hs,fun o t p x ho _ _ _=>⟨l,r,rfl,rfl,hs.1,fun m hm=>ak (by rw[hm];omega) ⟨o,q,m,_,rfl,⟨rfl,by rw[hm];omega,by rw[ho];omega,by rw[hq];omega⟩,fun s hx=> ?_,fun hx=> ?_⟩⟩⟩⟩
 ·exact hp (s,0) (by unfold o9;rw[<-hr,<-hm,<-ho,show nu l=q.map eV by rw[hq];rfl,hx];rfl)
 ·exact hp ((0,0),200) (by unfold o9;rw[<-hr,<-hm,<-ho,show nu l=q.map eV by rw[hq];rfl,hx];rfl))
end
end Pi
namespace Pi
open Go Go.Proofs Go.RowKit Go.Proofs.YtngoddkencoalaaGreatDoor
set_option maxRecDepth 100000
abbrev qO:List (String×DataW Unit):=[("unicode/utf8.acceptRanges",Rows.laid_unicode_utf8_acceptRanges),("unicode/utf8.first",Rows.laid_unicode_utf8_first)]
theorem Fp (w:World) (h:laidMetH Tryz.prog qO w):laidMet Tryz.prog qO w:=by
 unfold laidMetH at h
 have e:(qO.filter fun x=>x.2.handleName?.isSome)=[]:=by kernel_rfl
 rw[e] at h
 exact h
theorem WI (w:World) (h:laidMet Tryz.prog qO w):laidMetH Tryz.prog qO w:=by
 unfold laidMetH
 have e:(qO.filter fun x=>x.2.handleName?.isSome)=[]:=by kernel_rfl
 rw[e]
 exact h
theorem qfA:(Rows.laid_unicode_utf8_first:DataW Unit)=Lib.firstData:=by kernel_rfl
theorem qfB:(Rows.laid_unicode_utf8_acceptRanges:DataW Unit)=Lib.acceptData:=by kernel_rfl
def qg9:Go.Shelf.Ren:=⟨fun n=>n,fun |5=>5 |119=>242 |138=>244 |139=>245 |n=>n,fun |3=>0 |4=>1 |n=>n⟩
theorem qfC {W:World} (h:laidMet Tryz.prog qO W):Lib.Utf8Tabs 0 1 W:=
 utf8Tabs_of_readsT (ρ:=qg9) ⟨by kernel_rfl,by kernel_rfl,by kernel_rfl,by kernel_rfl⟩ ⟨by kernel_rfl,by kernel_rfl,by kernel_rfl,by kernel_rfl,by kernel_rfl,by kernel_rfl,by kernel_rfl⟩
  (by rw[<-qfA];exact Lib.laidMet.reads h (.tail _ (.head _)))
  (by rw[<-qfB];exact Lib.laidMet.reads h (.head _))
theorem qcX {W:World} (h0:laidMetH Tryz.prog qO W) (hs:W.ShapedOpen Tryz.prog):StW W:=by
 have h:=Fp W h0
 refine⟨?_,qfC h⟩
 exact cell_of_shapedOpen_int (zero:= #[.int .i64 0]) (t:=3) hs (Nat.le_of_ble_eq_true (by kernel_rfl)) (by kernel_rfl) rfl (by kernel_rfl) (by kernel_rfl) Tryz.underlying3
noncomputable def wL (os:Os):World:=World.laidAll Tryz.prog os qO
theorem qcY (os:Os) (args:Array Value):laidMet Tryz.prog qO ((wL os).forCall (fun _ _=>0) ⟨#[],args,[]⟩).memory:=
 laidMet_laidAll _ (by kernel_rfl) (by kernel_rfl)
open Classical in
noncomputable def sI:TF:=fun ps R=>if h: ∃a:List aj×Int,ps=[bO a.1,iD a.2]/\R=[]/\jc a.1 then some (stO (qG h.choose.1 h.choose.2),[]) else none
open Classical in
noncomputable def sJ:TF:=fun ps R=>if h: ∃a:List aj×Int,ps=[bO a.1,iD a.2]/\R=[]/\jc a.1 then some (stO (o9 h.choose.1 h.choose.2),[]) else none
theorem H4 {ps:List P} {R:List (Nat×En)} {y:P×List (Nat×En)} (h:sI ps R=some y):uH ps R (fun z=>z=y):=by
 unfold sI at h
 split at h
 ·rename_i e
  obtain⟨h1,h2,h3⟩:=e.choose_spec
  exact⟨e.choose.1,e.choose.2,h1,h2,h3,fun a ha=>by rw[ha];exact Option.some.inj h⟩
 ·cases h
theorem H5 {ps:List P} {R:List (Nat×En)} {y:P×List (Nat×En)} (h:sJ ps R=some y):uJ ps R (fun z=>z=y):=by
 unfold sJ at h
 split at h
 ·rename_i e
  obtain⟨h1,h2,h3⟩:=e.choose_spec
  exact⟨e.choose.1,e.choose.2,h1,h2,h3,fun a ha=>by rw[ha];exact Option.some.inj h⟩
 ·cases h
theorem JV {l m:List aj} {r s:Int} (h:[bO l,iD r]=[bO m,iD s]):l=m/\r=s:=by
 have c:l.map aP=m.map aP/\r=s:=by simpa using h
 exact⟨yd X4 c.1,c.2⟩
theorem H6 {ps:List P} {R:List (Nat×En)} {post:P×List (Nat×En)->Prop} (h:uH ps R post): ∃x,sI ps R=some x/\post x:=by
 obtain⟨l,r,h1,h2,h3,hp⟩:=h
 have e: ∃a:List aj×Int,ps=[bO a.1,iD a.2]/\R=[]/\jc a.1:=⟨(l,r),h1,h2,h3⟩
 obtain⟨c1,_,_⟩:=e.choose_spec
 obtain⟨e1,e2⟩:=JV (h1.symm.trans c1)
 refine⟨_,?_,hp _ rfl⟩
 unfold sI
 rw[dif_pos e,<-e1,<-e2]
theorem H7 {ps:List P} {R:List (Nat×En)} {post:P×List (Nat×En)->Prop} (h:uJ ps R post): ∃x,sJ ps R=some x/\post x:=by
 obtain⟨l,r,h1,h2,h3,hp⟩:=h
 have e: ∃a:List aj×Int,ps=[bO a.1,iD a.2]/\R=[]/\jc a.1:=⟨(l,r),h1,h2,h3⟩
 obtain⟨c1,_,_⟩:=e.choose_spec
 obtain⟨e1,e2⟩:=JV (h1.symm.trans c1)
 refine⟨_,?_,hp _ rfl⟩
 unfold sJ
 rw[dif_pos e,<-e1,<-e2]
structure XT (X:XF):Prop where
 bN: ∀ps R,X.cf 19 ps R=sI ps R
 qha: ∀ps R,X.cf 17 ps R=sJ ps R
theorem JW {X:XF} (hX:XT X):FD X 19 uH:=Ms.TI Tryz.func19 (by kernel_rfl) fun ps R post h=>by
 obtain⟨x,h1,h2⟩:=H6 h
 exact⟨x,by rw[<-h1];exact hX.bN ps R,h2⟩
theorem JX {X:XF} (hX:XT X):FD X 17 uJ:=Ms.TI Tryz.func17 (by kernel_rfl) fun ps R post h=>by
 obtain⟨x,h1,h2⟩:=H7 h
 exact⟨x,by rw[<-h1];exact hX.qha ps R,h2⟩
noncomputable def JY:XF:=⟨xOf ((19,sI)::(17,sJ)::xL),fun f hf ps R=>by
 show(if Nat.beq 19 f then sI ps R else if Nat.beq 17 f then sJ ps R else xB f ps R)=_
 split
 ·rename_i he
  have:=Nat.eq_of_beq_eq_true he
  subst this
  have h0:gw 19 xsB=false:=by kernel_rfl
  rw[h0] at hf
  cases hf
 ·split
  ·rename_i he
   have:=Nat.eq_of_beq_eq_true he
   subst this
   have h0:gw 17 xsB=false:=by kernel_rfl
   rw[h0] at hf
   cases hf
  ·rfl⟩
theorem WJ:XT JY:=⟨fun _ _=>rfl,fun _ _=>rfl⟩
theorem RZ {w1:World} (Xe:StW w1):db Tryz.prog {w1 with drawn:=0} JY.cf:=by
 have h0:=qdA Xe
 have hU:KQ Tryz.prog {w1 with drawn:=0} 19 sI:=KQ.ofN (qbQ (X:=IU) h0 (Ys (X:=IU) h0)) fun ps R y h=>H4 h
 have hR:KQ Tryz.prog {w1 with drawn:=0} 17 sJ:=KQ.ofN (qbV (X:=IU) h0 (Ys (X:=IU) h0)) fun ps R y h=>H5 h
 intro f ps R p R1 h'
 have h':(if Nat.beq 19 f then sI ps R else if Nat.beq 17 f then sJ ps R else xB f ps R)=some (p,R1):=h'
 split at h'
 ·rename_i hf
  have hf:=Nat.eq_of_beq_eq_true hf
  subst hf
  exact hU rfl ps R p R1 h'
 ·split at h'
  ·rename_i hf
   have hf:=Nat.eq_of_beq_eq_true hf
   subst hf
   exact hR rfl ps R p R1 h'
  ·exact h0 f ps R p R1 h'
end Pi
namespace Pi
open Go Go.Proofs
set_option maxRecDepth 100000
set_option maxHeartbeats 0
abbrev fwH (g:aj) (i:Int):S:=⟨59,[(1,.ref 0 0 0),(3,iD i)],[(0,⟨0,none,Rv g⟩)]⟩
def ZbW (post:PX×S->Prop):Prop:=post (PX.exit 0,S.mk 59 [] [])
def ZbU (post:PX×S->Prop):Prop:=post (PX.ret,S.mk 59 ZH [])
def ZbV (g:aj) (i:Int) (post:PX×S->Prop):Prop:=bif decide ((↑(List.length (D.eT (D.ao (gR g i) 7))):Int)>(1000:Int)) then ZbU post else bif Zj i then post (PX.normal,S.mk 59 ((1,bQ)::ZK i) (xM g)) else False
theorem YE (g:aj) (i:Int) (post:PX×S->Prop):(bif Jd i g then bif decide (i<=(200:Int)) then bif Hv i g then bif Hu g i then bif decide ((↑(List.length (D.eT (D.ao (gR g i) 16))):Int)>(3000:Int)) then ZbU post else bif decide ((↑(List.length (D.ez (D.ao (gR g i) 17))):Int)>(100:Int)) then bif decide ((↑(List.length (D.ez (D.ao (gR g i) 17))):Int)<=(2000:Int)) then ZbU post else ZbV g i post else ZbV g i post else False else False else ZbW post else ZbW post)=(aF [] [] 20 4 (fwH g i)) post:=by kernel_rfl
def gFw:S->K (PX×S):=fun s post=> ∃g,s=fwH g 0/\post (.ret,⟨59,[(2,.d (.bool false))],[]⟩)/\((g.ops.length<=200-> ∀o∈g.ops,o.text.length<=3000)->post (.exit 0,⟨59,[],[]⟩))
def ZbX (g:aj) (post:P×List (Nat×En)->Prop):Prop:=bif decide ((↑(List.length (bx (aj.deps g))):Int)>(60:Int)) then Z4 post else∃(aO:aj),S.mk 59 ((1,bQ)::OG) (xM g)=S.mk 59 ((1,bQ)::OG) (xM aO)/\Z4 post/\((Ss aO-> ∀(o:a7),o∈aj.ops aO->List.length (a7.text o)<=3000)->ZN post)
theorem qhb (g:aj) (post:P×List (Nat×En)->Prop):(bif decide (rn g>(60:Int)) then bif decide (rn g<=(200:Int)) then Z4 post else ZbX g post else ZbX g post)=(aH [] [(4,ae (aK 20 4) gFw)] 20 [.d (aP g)] []) post:=by kernel_rfl
def WK (g:aj):Prop:=g.deps.length<=60/\(g.ops.length<=200-> ∀o∈g.ops,o.text.length<=3000)
def R4:bm:=fun ps R post=> ∃g,ps=[.d (aP g)]/\R=[]/\ ∀b:Bool,(b=true->WK g)->post (.d (.bool b),[])
abbrev flH (l:List aj) (i:Int):S:=⟨32,[(0,bO l),(3,iD i)],[]⟩
def ZbY (post:PX×S->Prop) (l:List aj):Prop:=post (PX.exit 0,S.mk 32 [lH l] [])
theorem YF (l:List aj) (i:Int) (post:PX×S->Prop):(bif u7 i l then bif decide (i<=(12:Int)) then bif pc i l then bif c8 l i then∃(g:aj),MD l i g/\Zw/\ ∀(b:Bool),(b=true->WK g)->bif !b then post (PX.ret,S.mk 32 (lH l::ZH) []) else bif pc i l then bif c8 l i then bif decide (SY l i>(12:Int)) then post (PX.ret,S.mk 32 (lH l::ZH) []) else bif Zj i then post (PX.normal,S.mk 32 (lH l::ZK i) []) else False else False else False else False else False else ZbY post l else ZbY post l)=(aF [(20,R4)] [] 8 2 (flH l i)) post:=by kernel_rfl
def uN (l:List aj):Prop:= ∀g∈l,WK g/\g.ops.length<=12
def gFl:S->K (PX×S):=fun s post=> ∃l,s=flH l 0/\post (.ret,⟨32,[(0,bO l),(2,.d (.bool false))],[]⟩)/\((l.length<=12->uN l)->post (.exit 0,⟨32,[(0,bO l)],[]⟩))
theorem qhc (l:List aj) (post:P×List (Nat×En)->Prop):(∃(ar:List aj),S.mk 32 (lH l::OG) []=S.mk 32 (lH ar::OG) []/\Z4 post/\((dm ar<=12->uN ar)->post (P.d (D.bool (decide ((↑(gO ar):Int)<=(12:Int)))),[])))=(aH [] [(2,ae (aK 8 2) gFl)] 8 [bO l] []) post:=by kernel_rfl
def R5:bm:=fun ps R post=> ∃l,ps=[bO l]/\R=[]/\ ∀b:Bool,(b=true->l.length<=12/\uN l)->post (.d (.bool b),[])
abbrev sgH (a b:aj) (i:Int):S:=⟨61,[(2,.ref 0 0 0),(3,.ref 1 0 0),(5,iD i)],[(0,⟨0,none,Rv a⟩),(1,⟨0,none,Rv b⟩)]⟩
def hNo:bm:=fun _ _ _=>False
theorem qfD (a b:aj) (i:Int) (post:PX×S->Prop):(bif Jd i a then bif Hv i a then bif Hu a i then bif Hv i b then bif Hu b i then False else False else False else False else False else post (PX.exit 0,S.mk 61 [] []))=(aF [(39,hNo)] [] 22 4 (sgH a b i)) post:=by kernel_rfl
def gSg:S->K (PX×S):=fun s post=> ∃a b,s=sgH a b 0/\a.ops=[]/\post (.exit 0,⟨61,[],[]⟩)
def ZbZ (a:aj) (b:aj):S:=S.mk 61 ((2,bQ)::Lq) [(0,jz a),(1,jz b)]
theorem qhd (a b:aj) (post:P×List (Nat×En)->Prop):(bif !(ie a==ie b&&(ic a==ic b&&true)) then Z4 post else bif aj.n a !=aj.n b then Z4 post else∃(v:List Int) (w:List Int),[lC a,lC b]=Zk v::ZU w/\Zw/\mq v/\bif !decide (v=w) then Z4 post else bif !(Prod.fst (aj.bN a)==Prod.fst (aj.bN b)&&(Prod.snd (aj.bN a)==Prod.snd (aj.bN b)&&true)) then Z4 post else bif rn a !=rn b then Z4 post else∃(nC:aj) (b_1:aj),ZbZ a b=ZbZ nC b_1/\aj.ops nC=[]/\ZN post)=(aH [(26,xt)] [(4,ae (aK 22 4) gSg)] 22 [.d (aP a),.d (aP b)] []) post:=by kernel_rfl
def hSg:bm:=fun ps R post=> ∃a b:aj,ps=[.d (aP a),.d (aP b)]/\R=[]/\(a.ops=[]/\b.ops=[]/\mq a.deps)/\ ∀c:Bool,(c=true↔a=b)->post (.d (.bool c),[])
def tK:aj:=⟨(1,1),1,[],(0,0),[⟨0,(1,1,0),aS,[97],true,[],aS,aS,[],[]⟩]⟩
def Zc0:D:=D.agg [ZP,ZP,ZP,D.sl 1 [],Z7,Z7,D.sl 18 [D.agg (Z7::ZP::ZP::Z7::Z7::Z7::Z7::D.str [(97:UInt8)]::D.bool true::Z2E)]]
theorem qcZ (post:P×List (Nat×En)->Prop):(post (P.d Zc0,[]))=(aH [] [] 21 [] []) post:=by kernel_rfl
def R6:bm:=fun ps R post=>ps=[]/\R=[]/\post (.d (aP tK),[])
def Zc3 (S0:aj) (b:aj):Prop:=aj.ops S0=[]/\aj.ops b=[]/\mq (aj.deps S0)
def Zc2 (l:List aj) (r:Int):Prop:=P.d (D.sl 7 [Zc0])::ZV=fR l::Zu r
def Zc1:Prop:=EqP [] []
theorem qc0 (post:P×List (Nat×En)->Prop):(Zc1/\Zw/\ ∃(l:List aj) (r:Int),Zc2 l r/\Zw/\jc l/\ ∀(g:aj) (e:Int),g=kI (az l) r->e=qF (az l) r-> ∃(l:List aj) (r:Int),Zc2 l r/\Zw/\jc l/\ ∀(a:ax×Int),a=qG l r-> ∃(l:List aj) (r:Int),Zc2 l r/\Zw/\jc l/\ ∀(WL:ax×Int),WL=o9 l r->bif e==(0:Int) then∃(S0:aj) (b:aj),[l8 g,P.d (D.agg (D.int IntKind.i64 (2:Int)::ZP::D.int IntKind.i64 (2:Int)::D.sl 1 [ZP]::Z6K))]=l8 S0::AB b/\Zw/\Zc3 S0 b/\ ∀(c:Bool),(c=true↔S0=b)->bif c then bif Prod.snd a==(0:Int) then bif Prod.fst (Prod.fst a)==D.ah (D.ao (D.nth [Zc0] 0) 0)&&(Prod.snd (Prod.fst a)==D.ah (D.ao (D.nth [Zc0] 0) 1)&&true) then post (P.d (D.bool (Prod.snd WL==(200:Int))),[]) else Z4 post else Z4 post else Z4 post else Z4 post)=(aH [(21,R6),(12,XY),(19,uH),(17,uJ),(22,hSg)] [] 9 [] []) post:=by kernel_rfl
def yo:bm:=fun ps R post=>ps=[]/\R=[]/\post (.d (.bool true),[])
def Zc4 (a:ax×Int) (WL:ax×Int):Bool:=Prod.fst (Prod.fst a)==Prod.fst (Prod.fst WL)&&(Prod.snd (Prod.fst a)==Prod.snd (Prod.fst WL)&&true)
theorem R7 (l:List aj) (r:Int) (post:P×List (Nat×En)->Prop):(∃(ar:List aj) (cA:Int),E3 l r ar cA/\Zw/\jc ar/\ ∀(g:aj) (e:Int),g=kI (az ar) cA->e=qF (az ar) cA-> ∃(gq:List aj) (Xt:Int),E3 l r gq Xt/\Zw/\jc gq/\ ∀(aO:aj) (e_1:Int),aO=kI (az gq) Xt->e_1=qF (az gq) Xt-> ∃(vf:List aj) (r_3:Int),E3 l r vf r_3/\Zw/\jc vf/\ ∀(a:ax×Int),a=qG vf r_3-> ∃(l_4:List aj) (r_4:Int),E3 l r l_4 r_4/\Zw/\WE l_4/\ ∀(WL:ax×Int),WL=qG l_4 r_4-> ∃(l_5:List aj) (r_5:Int),E3 l r l_5 r_5/\Zw/\jc l_5/\ ∀(S0:ax×Int),S0=o9 l_5 r_5-> ∃(l_6:List aj) (r_6:Int),E3 l r l_6 r_6/\Zw/\WE l_6/\ ∀(a_6:ax×Int),a_6=o9 l_6 r_6-> ∃(a_8:aj) (b:aj),l8 g::AB aO=l8 a_8::AB b/\Zw/\Zc3 a_8 b/\ ∀(c:Bool),(c=true↔a_8=b)->bif c then bif e==e_1 then bif Zc4 a WL then bif Prod.snd a==Prod.snd WL then bif Zc4 S0 a_6 then bif Prod.snd S0==Prod.snd a_6 then∃(l_7:List aj),qb l l_7/\Zw/\jc l_7/\ ∀(v:List Int),v=iA (az l_7)-> ∃(l_8:List aj),qb l l_8/\Zw/\jc l_8/\(∀(cV:List Int),cV=iA (az l_8)-> ∃(B0:List Int) (w:List Int),Zk v::ZU cV=Zk B0::ZU w/\Z12 B0 post w)/\(iA (az l_8)=[]-> ∃(cV:List Int) (w:List Int),[Zk v,XZ]=Zk cV::ZU w/\Z12 cV post w) else Z4 post else Z4 post else Z4 post else Z4 post else Z4 post else Z4 post)=(aH [(12,XY),(23,XY),(19,uH),(24,H2),(17,uJ),(25,H3),(22,hSg),(27,hHv),(28,Qv),(26,xt)] [] 10 [bO l,iD r] []) post:=by kernel_rfl
def CZ:bm:=fun ps R post=> ∃l r,ps=[bO l,iD r]/\R=[]/\WE l/\post (.d (.bool true),[])
theorem qfE (l:List aj) (r:Int) (post:P×List (Nat×En)->Prop):(∃(ar:List aj),qb l ar/\Zw/\ ∀(b:Bool),(b=true->dm ar<=12/\uN ar)->bif !b then Zc1/\Zw/\ZN post else Zc1/\Zw/\ ∃(gq:List aj) (cA:Int),E3 l r gq cA/\Zw/\WE gq/\ZN post)=(aH [(8,R5),(9,yo),(10,CZ)] [] 3 [bO l,iD r] []) post:=by kernel_rfl
end Pi
namespace Pi
open Go Go.Proofs
set_option maxRecDepth 100000
theorem C0 {m:Nat} {a b c:D} (h:Fit PR (m+3) 50 [a,b,c]): ∃x:aC,a= .int .i64 x.1/\b= .int .i64 x.2.1/\c= .int .i64 x.2.2:=by
 obtain⟨t,r,i,he,_⟩:=Xj (m:=m) (x:= .agg [a,b,c]) ⟨h,.inl ⟨by kernel_rfl,_,rfl⟩⟩
 simp only[GW,D.agg.injEq,List.cons.injEq,and_true] at he
 exact⟨(t,r,i),he.1,he.2.1,he.2.2⟩
theorem sK {α:Type} (f:α->D) (P:D->Prop) (h1: ∀y,P y-> ∃x,y=f x): ∀es:List D,(∀y∈es,P y)-> ∃l:List α,es=l.map f
 | [],_=>⟨[],rfl⟩
 |y::es,hy=>by
  obtain⟨l,rfl⟩:=sK f P h1 es fun y h=>hy y (.tail _ h)
  obtain⟨x,rfl⟩:=h1 y (hy y (.head _))
  exact⟨x::l,rfl⟩
theorem YG {m:Nat} {x:D} (h:tc PR (m+2) 30 x): ∃s:ax,x=aX s:=by
 obtain⟨cs,rfl,hl,hf⟩:=la (k:=2) Tryz.underlying30 (by kernel_rfl) h
 obtain⟨a,b,rfl⟩: ∃a b,cs=[a,b]:=by
  match cs,hl with
  | [a,b],_=>exact⟨a,b,rfl⟩
 have c1:PR.cellsOf 3=1:=by kernel_rfl
 have g1:=hf _ (List.mem_cons_self ..)
 have g2:=hf _ (List.mem_cons_of_mem _ (List.mem_cons_self ..))
 simp only[c1,List.drop_zero,List.drop_succ_cons,List.take_succ_cons,List.take_zero] at g1 g2
 obtain⟨x1,rfl,_⟩:=mW Tryz.underlying3 g1
 obtain⟨x2,rfl,_⟩:=mW Tryz.underlying3 g2
 exact⟨(x1,x2),rfl⟩
theorem R8 {m:Nat} {a b:D} (h:Fit PR (m+2) 30 [a,b]): ∃x:ax,a= .int .i64 x.1/\b= .int .i64 x.2:=by
 obtain⟨s,he⟩:=YG (m:=m) (x:= .agg [a,b]) ⟨h,.inl ⟨by kernel_rfl,_,rfl⟩⟩
 simp only[aX,D.agg.injEq,List.cons.injEq,and_true] at he
 exact⟨s,he.1,he.2⟩
theorem qfF {m:Nat} {x:D} (h:tc PR (m+5) 54 x): ∃o:a7,x=gM o/\o.bT.length<=maxLen/\o.elems.length<=maxLen:=by
 obtain⟨cs,rfl,hl,hf⟩:=la (k:=18) Tryz.underlying54 (by kernel_rfl) h
 obtain⟨i,a1,a2,a3,b1,b2,b3,nm,dr,ds,c1,c2,c3,d1,d2,d3,tx,es,rfl⟩: ∃i a1 a2 a3 b1 b2 b3 nm dr ds c1 c2 c3 d1 d2 d3 tx es,cs=[i,a1,a2,a3,b1,b2,b3,nm,dr,ds,c1,c2,c3,d1,d2,d3,tx,es]:=by
  match cs,hl with
  | [i,a1,a2,a3,b1,b2,b3,nm,dr,ds,c1,c2,c3,d1,d2,d3,tx,es],_=>exact⟨i,a1,a2,a3,b1,b2,b3,nm,dr,ds,c1,c2,c3,d1,d2,d3,tx,es,rfl⟩
 have z0:PR.cellsOf 3=1:=by kernel_rfl
 have z1:PR.cellsOf 50=3:=by kernel_rfl
 have z2:PR.cellsOf 9=1:=by kernel_rfl
 have z3:PR.cellsOf 4=1:=by kernel_rfl
 have z4:PR.cellsOf 51=1:=by kernel_rfl
 have z5:PR.cellsOf 52=1:=by kernel_rfl
 have g0:=hf _ (List.mem_cons_self ..)
 have g1:=hf _ (List.mem_cons_of_mem _ (List.mem_cons_self ..))
 have g2:=hf _ (List.mem_cons_of_mem _ (List.mem_cons_of_mem _ (List.mem_cons_self ..)))
 have g3:=hf _ (List.mem_cons_of_mem _ (List.mem_cons_of_mem _ (List.mem_cons_of_mem _ (List.mem_cons_self ..))))
 have g4:=hf _ (List.mem_cons_of_mem _ (List.mem_cons_of_mem _ (List.mem_cons_of_mem _ (List.mem_cons_of_mem _ (List.mem_cons_self ..)))))
 have g5:=hf _ (List.mem_cons_of_mem _ (List.mem_cons_of_mem _ (List.mem_cons_of_mem _ (List.mem_cons_of_mem _ (List.mem_cons_of_mem _ (List.mem_cons_self ..))))))
 have g6:=hf _ (List.mem_cons_of_mem _ (List.mem_cons_of_mem _ (List.mem_cons_of_mem _ (List.mem_cons_of_mem _ (List.mem_cons_of_mem _ (List.mem_cons_of_mem _ (List.mem_cons_self ..)))))))
 have g7:=hf _ (List.mem_cons_of_mem _ (List.mem_cons_of_mem _ (List.mem_cons_of_mem _ (List.mem_cons_of_mem _ (List.mem_cons_of_mem _ (List.mem_cons_of_mem _ (List.mem_cons_of_mem _ (List.mem_cons_self ..))))))))
 have g8:=hf _ (List.mem_cons_of_mem _ (List.mem_cons_of_mem _ (List.mem_cons_of_mem _ (List.mem_cons_of_mem _ (List.mem_cons_of_mem _ (List.mem_cons_of_mem _ (List.mem_cons_of_mem _ (List.mem_cons_of_mem _ (List.mem_cons_self ..)))))))))
 have g9:=hf _ (List.mem_cons_of_mem _ (List.mem_cons_of_mem _ (List.mem_cons_of_mem _ (List.mem_cons_of_mem _ (List.mem_cons_of_mem _ (List.mem_cons_of_mem _ (List.mem_cons_of_mem _ (List.mem_cons_of_mem _ (List.mem_cons_of_mem _ (List.mem_cons_self ..))))))))))
 simp only[z0,z1,z2,z3,z4,z5,List.drop_zero,List.drop_succ_cons,List.take_succ_cons,List.take_zero] at g0 g1 g2 g3 g4 g5 g6 g7 g8 g9
 obtain⟨x0,rfl,_⟩:=mW Tryz.underlying3 g0
 obtain⟨x1,rfl,rfl,rfl⟩:=C0 g1
 obtain⟨x2,rfl,rfl,rfl⟩:=C0 g2
 obtain⟨x3,rfl,_⟩:=IA Tryz.underlying9 g3
 obtain⟨x4,rfl⟩:=Oj Tryz.underlying4 g4
 obtain⟨x5,rfl,hds,hd⟩:=pG (k:=2) Tryz.underlying51 (by kernel_rfl) g5
 obtain⟨l5,rfl⟩:=sK aX _ (fun y hy=>YG hy) x5 hd
 obtain⟨x6,rfl,rfl,rfl⟩:=C0 g6
 obtain⟨x7,rfl,rfl,rfl⟩:=C0 g7
 obtain⟨x8,rfl,_⟩:=IA Tryz.underlying9 g8
 obtain⟨x9,rfl,hes,he⟩:=pG (k:=3) Tryz.underlying52 (by kernel_rfl) g9
 obtain⟨l9,rfl⟩:=sK bH _ (fun y hy=>by
  obtain⟨t,r,i,rfl,_⟩:=Xj hy
  exact⟨(t,r,i),rfl⟩) x9 he
 rw[List.length_map] at hds hes
 exact⟨⟨x0,x1,x2,x3,x4,l5,x6,x7,x8,l9⟩,rfl,hds,hes⟩
def FtG (g:aj):Prop:=g.ops.length<=maxLen/\ ∀o∈g.ops,o.bT.length<=maxLen/\o.elems.length<=maxLen
theorem tL {α:Type} (f:α->D) (P:D->Prop) (Q:α->Prop) (h1: ∀y,P y-> ∃x,y=f x/\Q x): ∀es:List D,(∀y∈es,P y)-> ∃l:List α,es=l.map f/\ ∀x∈l,Q x
 | [],_=>⟨[],rfl,by simp⟩
 |y::es,hy=>by
  obtain⟨l,rfl,hl⟩:=tL f P Q h1 es fun y h=>hy y (.tail _ h)
  obtain⟨x,rfl,hx⟩:=h1 y (hy y (.head _))
  exact⟨x::l,rfl,fun z hz=>by rcases List.mem_cons.1 hz with rfl |hz;exact hx;exact hl z hz⟩
theorem qfG {m:Nat} {x:D} (h:tc PR (m+7) 34 x): ∃g:aj,x=aP g/\FtG g:=by
 obtain⟨cs,rfl,hl,hf⟩:=la (k:=7) Tryz.underlying34 (by kernel_rfl) h
 obtain⟨s1,s2,n,ds,u1,u2,os,rfl⟩: ∃s1 s2 n ds u1 u2 os,cs=[s1,s2,n,ds,u1,u2,os]:=by
  match cs,hl with
  | [s1,s2,n,ds,u1,u2,os],_=>exact⟨s1,s2,n,ds,u1,u2,os,rfl⟩
 have z0:PR.cellsOf 3=1:=by kernel_rfl
 have z1:PR.cellsOf 30=2:=by kernel_rfl
 have z2:PR.cellsOf 31=1:=by kernel_rfl
 have z3:PR.cellsOf 32=1:=by kernel_rfl
 have g0:=hf _ (List.mem_cons_self ..)
 have g1:=hf _ (List.mem_cons_of_mem _ (List.mem_cons_self ..))
 have g2:=hf _ (List.mem_cons_of_mem _ (List.mem_cons_of_mem _ (List.mem_cons_self ..)))
 have g3:=hf _ (List.mem_cons_of_mem _ (List.mem_cons_of_mem _ (List.mem_cons_of_mem _ (List.mem_cons_self ..))))
 have g4:=hf _ (List.mem_cons_of_mem _ (List.mem_cons_of_mem _ (List.mem_cons_of_mem _ (List.mem_cons_of_mem _ (List.mem_cons_self ..)))))
 simp only[z0,z1,z2,z3,List.drop_zero,List.drop_succ_cons,List.take_succ_cons,List.take_zero] at g0 g1 g2 g3 g4
 obtain⟨x0,rfl,rfl⟩:=R8 g0
 obtain⟨x1,rfl,_⟩:=mW Tryz.underlying3 g1
 obtain⟨x2,rfl,_,hd⟩:=pG (k:=1) Tryz.underlying31 (by kernel_rfl) g2
 obtain⟨l2,rfl⟩:=sK (fun n:Int=>D.int .i64 n) _ (fun y hy=>by
  obtain⟨n,rfl,_⟩:=D5 Tryz.underlying3 hy
  exact⟨n,rfl⟩) x2 hd
 obtain⟨x3,rfl,rfl⟩:=R8 g3
 obtain⟨x4,rfl,ho,he⟩:=pG (k:=18) Tryz.underlying32 (by kernel_rfl) g4
 obtain⟨l4,rfl,hq⟩:=tL gM _ (fun o=>o.bT.length<=maxLen/\o.elems.length<=maxLen) (fun y hy=>qfF hy) x4 he
 rw[List.length_map] at ho
 exact⟨⟨x0,x1,l2,x3,l4⟩,rfl,ho,hq⟩
theorem qc1 {m:Nat} {x:D} (h:tc PR (m+8) 22 x): ∃l:List aj,x= .sl 7 (l.map aP)/\ ∀g∈l,FtG g:=by
 obtain⟨es,rfl,_,hy⟩:=GM (k:=7) Tryz.underlying22 (by kernel_rfl) h
 obtain⟨l,rfl,hl⟩:=tL aP _ FtG (fun y hy=>qfG hy) es hy
 exact⟨l,rfl,hl⟩
theorem JZ: ∀{l:List aj},(∀g∈l,g.ops.length<=12)->gV l<=12*l.length
 | [],_=>by simp[gV]
 |g::l,h=>by
  have h1:=JZ fun x hx=>h x (.tail _ hx)
  have h2:=h g (.head _)
  rw[mh,List.length_cons]
  omega
theorem R9 {l:List aj} (h: ∀g∈l,g.ops.length<=12) (hl:l.length<=12):gV l<=1000:=by
 have:=JZ h
 omega
theorem AV (l:List aj) (r:Int):(kI l r).ops=[]:=by
 unfold kI
 split
 ·rfl
 ·rfl
section
variable {X:XF}
theorem WM:LD X 20 4 (ae (aK 20 4) gFw):=LD.idx (H:=[]) (hk:=[]) (by kernel_rfl) (by kernel_rfl) .nil .nil
 (A:=aj) (B:=Unit) (fun g _ i=>fwH g i) (fun g=>g.ops.length) (fun g i _=> ∀o∈g.ops.take i,o.text.length<=3000)
 (fun g x=>x=(.ret,⟨59,[(2,.d (.bool false))],[]⟩)\/((g.ops.length<=200-> ∀o∈g.ops,o.text.length<=3000)/\x=(.exit 0,⟨59,[],[]⟩)))
 (by
  rintro g _ i post h0 bS bc hI hn ho
  try dsimp only at*
  (rw[<-YE];delta ZbW nk ia ib lC ob ic fO ie gb jz xM Zm ZK bQ Za Z9 Zj Z3 ZH ZbU Zg gR ZbV Hu rn Hv Jd)
  have e1:D.nth (g.ops.map gM) i.toNat=gM g.ops[i.toNat]:=ay _ _ _ bc
  have TU:g.ops[i.toNat].text.length<=3000-> ∀o∈g.ops.take (i.toNat+1),o.text.length<=3000:=fun h o hm=>by
   rw[List.take_succ_eq_append_getElem bc,List.mem_append,List.mem_singleton] at hm
   rcases hm with hm |rfl
   ·exact hI o hm
   ·exact h
  rw[e1]
  have n5:i<((g.ops.map gM).length:Int):=by rw[List.length_map];exact bS
  have u1:D.eT (D.ao (gM g.ops[i.toNat]) 16)=g.ops[i.toNat].text:=rfl
  rw[u1]
  generalize g.ops[i.toNat]=o at*
  have Og:((g.ops.length:Int)>200)-> ¬g.ops.length<=200:=by omega
  refine fw (decide_eq_true n5) (bJ (fun h1=> ?_) fun h1=>ho _ (fun h=>by cases h) (.inr ⟨fun h=>by omega,rfl⟩))
  have fin:(o.text.length:Int)<=3000->post (.normal,fwH g (i+1)):=fun h=>hn () (TU (by omega))
  refine ak ⟨h0,n5⟩ (aq (Lg _) (bJ (fun h2=>ho _ (fun h=>by cases h) (.inl rfl)) fun h2=>bJ (fun h3=>bJ (fun h4=>ho _ (fun h=>by cases h) (.inl rfl)) fun h4=>bJ (fun h5=>ho _ (fun h=>by cases h) (.inl rfl)) fun h5=>ak (by omega) (fin (by omega))) fun h3=>bJ (fun h5=>ho _ (fun h=>by cases h) (.inl rfl)) fun h5=>ak (by omega) (fin (by omega)))))
 (by
  rintro g _ i post hi hI ho
  try dsimp only at*
  (rw[<-YE];delta ZbW nk ia ib lC ob ic fO ie gb jz xM Zm ZK bQ Za Z9 Zj Z3 ZH ZbU Zg gR ZbV Hu rn Hv Jd)
  rw[List.take_length] at hI
  have n5: ¬i<((g.ops.map gM).length:Int):=by rw[List.length_map];omega
  exact kq (decide_eq_false n5) (ho _ (fun h=>by cases h) (.inr ⟨fun _=>hI,rfl⟩)))
 (by
  rintro s post ⟨g,rfl,h1,h2⟩
  refine⟨g,(),rfl,by simp,?_⟩
  rintro x (rfl | ⟨h,rfl⟩)
  ·exact h1
  ·exact h2 h)
theorem qc2:FD X 20 R4:=FD.mk (H:=[]) (hk:=[(4,ae (aK 20 4) gFw)]) (by kernel_rfl) .nil (.cons WM .nil) (by
 intro ps R post hh
 obtain⟨g,rfl,rfl,hp⟩:=hh
 (rw[<-qhb];delta ZM ZN Ss nk ia ib lC ob ic fO ie gb jz xM Z7 OG bQ Z3 Z4 ZbX rn)
 have hd:(bx g.deps).length=g.deps.length:=by simp[bx]
 rw[hd]
 have hb:post (.d (.bool false),[]):=hp false (fun h=>by cases h)
 have fin: ¬((g.deps.length:Int)>60)-> ∃aO:aj,fwH g 0=fwH aO 0/\post (.d (.bool false),[])/\((aO.ops.length<=200-> ∀o∈aO.ops,o.text.length<=3000)->post (.d (.bool true),[])):=fun h=>⟨g,rfl,hb,fun h2=>hp true fun _=>⟨by omega,h2⟩⟩
 exact bJ (fun _=>bJ (fun _=>hb) fun _=>bJ (fun _=>hb) fin) fun _=>bJ (fun _=>hb) fin)
theorem WN:LD X 8 2 (ae (aK 8 2) gFl):=LD.idx (H:=[(20,R4)]) (hk:=[]) (by kernel_rfl) (by kernel_rfl) (.cons qc2 .nil) .nil
 (A:=List aj) (B:=Unit) (fun l _ i=>flH l i) (fun l=>l.length) (fun l i _=>uN (l.take i))
 (fun l x=>x=(.ret,⟨32,[(0,bO l),(2,.d (.bool false))],[]⟩)\/((l.length<=12->uN l)/\x=(.exit 0,⟨32,[(0,bO l)],[]⟩)))
 (by
  rintro l _ i post h0 bS bc hI hn ho
  try dsimp only at*
  (rw[<-YF];delta cK fR lH ZbY Zm ZK Za Z9 Zj Zg fQ SY Z3 ZH Zw ia ib ic fO ie gb l8 AB lG mz uE MD c8 gO pc u7)
  have e1:D.nth (l.map aP) i.toNat=aP l[i.toNat]:=ay _ _ _ bc
  have TU:WK l[i.toNat]/\l[i.toNat].ops.length<=12->uN (l.take (i.toNat+1)):=fun h g hm=>by
   rw[List.take_succ_eq_append_getElem bc,List.mem_append,List.mem_singleton] at hm
   rcases hm with hm |rfl
   ·exact hI g hm
   ·exact h
  rw[e1]
  have n5:i<((l.map aP).length:Int):=by rw[List.length_map];exact bS
  generalize l[i.toNat]=g at*
  have u1:D.ez (D.ao (aP g) 6)=g.ops.map gM:=rfl
  rw[u1]
  refine fw (decide_eq_true n5) (bJ (fun h1=> ?_) fun h1=>ho _ (fun h=>by cases h) (.inr ⟨fun h=>by omega,rfl⟩))
  refine ak ⟨h0,n5⟩ (aq (df _) ⟨g,rfl,rfl,fun b hb=>aw (fun _=>ho _ (fun h=>by cases h) (.inl rfl)) fun cu=>ak ⟨h0,n5⟩ (aq (df _) (bJ (fun h2=>ho _ (fun h=>by cases h) (.inl rfl)) fun h2=>ak (by omega) (hn () (TU ⟨hb (by simpa using cu),?_⟩))))⟩)
  rw[List.length_map] at h2
  omega)
 (by
  rintro l _ i post hi hI ho
  try dsimp only at*
  (rw[<-YF];delta cK fR lH ZbY Zm ZK Za Z9 Zj Zg fQ SY Z3 ZH Zw ia ib ic fO ie gb l8 AB lG mz uE MD c8 gO pc u7)
  rw[List.take_length] at hI
  have n5: ¬i<((l.map aP).length:Int):=by rw[List.length_map];omega
  exact kq (decide_eq_false n5) (ho _ (fun h=>by cases h) (.inr ⟨fun _=>hI,rfl⟩)))
 (by
  rintro s post ⟨l,rfl,h1,h2⟩
  refine⟨l,(),rfl,by simp[uN],?_⟩
  rintro x (rfl | ⟨h,rfl⟩)
  ·exact h1
  ·exact h2 h)
theorem WO:FD X 8 R5:=FD.mk (H:=[]) (hk:=[(2,ae (aK 8 2) gFl)]) (by kernel_rfl) .nil (.cons WN .nil) (by
 intro ps R post hh
 obtain⟨l,rfl,rfl,hp⟩:=hh
 (rw[<-qhc];delta cK gO dm Z3 Z4 Z7 OG fR lH)
 refine⟨l,rfl,hp false (fun h=>by cases h),fun h=>hp _ fun hb=> ?_⟩
 rw[decide_eq_true_eq,List.length_map] at hb
 exact⟨by omega,h (by omega)⟩)
theorem qfH:FD X 39 hNo:=FD.mk (H:=[]) (hk:=[]) (by kernel_rfl) .nil .nil (by
 intro ps R post hh
 exact False.elim hh)
theorem WQ:LD X 22 4 (ae (aK 22 4) gSg):=LD.idx (H:=[(39,hNo)]) (hk:=[]) (by kernel_rfl) (by kernel_rfl) (.cons qfH .nil) .nil
 (A:=aj×aj) (B:=Unit) (fun a _ i=>sgH a.1 a.2 i) (fun _=>0) (fun a _ _=>a.1.ops=[]) (fun _ x=>x=(.exit 0,⟨61,[],[]⟩))
 (by
  rintro a _ i post h0 bS bc hI hn ho
  exact absurd bc (by simp))
 (by
  rintro⟨a,b⟩ _ i post hi hI ho
  try dsimp only at*
  (rw[<-qfD];delta Zg gR Hu rn Hv Jd)
  have n5: ¬i<((a.ops.map gM).length:Int):=by rw[hI,hi];decide
  exact kq (decide_eq_false n5) (ho _ (fun h=>by cases h) rfl))
 (by
  rintro s post ⟨a,b,rfl,h1,h2⟩
  refine⟨(a,b),(),rfl,h1,?_⟩
  rintro x rfl
  exact h2)
theorem YH:FD X 22 hSg:=FD.mk (H:=[(26,xt)]) (hk:=[(4,ae (aK 22 4) gSg)]) (by kernel_rfl) (.cons GZ .nil) (.cons WQ .nil) (by
 intro ps R post hh
 obtain⟨a,b,rfl,rfl,⟨ha,hb,hv⟩,hp⟩:=hh
 (rw[<-qhd];delta ZM ZN nk ia ib lC ob ic fO ie gb jz Z7 ZL iM Lq bQ ZbZ rn Zw Zk ZU Z3 Z4)
 obtain⟨s,n,d,u,o⟩:=a
 obtain⟨s',n',d',u',o'⟩:=b
 dsimp only at*
 subst ha hb
 have v1:(s.1==s'.1&&(s.2==s'.2&&true))=(s==s'):=Ch s s'
 have v2:(u.1==u'.1&&(u.2==u'.2&&true))=(u==u'):=Ch u u'
 rw[v1,v2]
 refine aw (fun h=>hp false ⟨(fun h=>by cases h),fun e=> ?_⟩) fun h1=>aw (fun h=>hp false ⟨(fun h=>by cases h),fun e=> ?_⟩) fun h2=>⟨d,d',rfl,rfl,hv,aw (fun h=>hp false ⟨(fun h=>by cases h),fun e=> ?_⟩) fun h3=>aw (fun h=>hp false ⟨(fun h=>by cases h),fun e=> ?_⟩) fun h4=>kq rfl ⟨⟨s,n,d,u,[]⟩,⟨s',n',d',u',[]⟩,rfl,rfl,hp true ⟨fun _=> ?_,fun _=>rfl⟩⟩⟩
 ·cases e;simp at h
 ·cases e;simp at h
 ·cases e;simp at h
 ·cases e;simp at h
 ·simp only[Bool.not_eq_false',beq_iff_eq,decide_eq_true_eq,bne_eq_false_iff_eq] at h1 h2 h3 h4
  rw[h1,h2,h3,h4])
theorem qc3:FD X 21 R6:=FD.mk (H:=[]) (hk:=[]) (by kernel_rfl) .nil .nil (by
 intro ps R post hh
 obtain⟨rfl,rfl,hp⟩:=hh
 (rw[<-qcZ];delta Fz Z7 Z2D Z2E ZP Zc0)
 exact hp)
theorem Sb:jc [tK]:=⟨by decide,fun g hg=>by
 rw[List.mem_singleton] at hg
 subst hg
 exact⟨fun o ho=>by
  have:o=⟨0,(1,1,0),aS,[97],true,[],aS,aS,[],[]⟩:=by simpa [tK] using ho
  subst this
  exact⟨by decide,by decide,by decide⟩,by decide,by decide⟩⟩
def qc4:aj:=⟨(2,1),2,[1],(0,0),[]⟩
variable (hX:XT X)
include hX
theorem Mk:FD X 9 yo:=FD.mk (H:=[(21,R6),(12,XY),(19,uH),(17,uJ),(22,hSg)]) (hk:=[]) (by kernel_rfl) (.cons qc3 (.cons qew (.cons (JW hX) (.cons (JX hX) (.cons YH .nil))))) .nil (by
 intro ps R post hh
 obtain⟨rfl,rfl,hp⟩:=hh
 (rw[<-qc0];delta Z3 Z4 Fz Z7 Z2D Z2E ZP Zc0 Zc3 ia ib ic fO ie gb l8 AB Z6K Zs Zu cK fR ZV Zc2 Zw Zc1)
 refine⟨rfl,rfl,[tK],1,rfl,rfl,Sb,fun g e hg he=>⟨[tK],1,rfl,rfl,Sb,fun a ha=>⟨[tK],1,rfl,rfl,Sb,fun b hb=> ?_⟩⟩⟩
 have e1:g=qc4:=hg.trans (by kernel_rfl)
 have e2:e=0:=he.trans (by kernel_rfl)
 have e3:a=((1,1),0):=ha.trans (by kernel_rfl)
 have e4:b=((0,0),200):=hb.trans (by kernel_rfl)
 rw[e1,e2,e3,e4]
 refine fw rfl ⟨qc4,qc4,rfl,rfl,⟨rfl,rfl,by decide⟩,fun c hc=> ?_⟩
 have:c=true:=hc.2 rfl
 subst this
 exact fw rfl (fw rfl (fw rfl hp)))
theorem Sc:FD X 10 CZ:=FD.mk (H:=[(12,XY),(23,XY),(19,uH),(24,H2),(17,uJ),(25,H3),(22,hSg),(27,hHv),(28,Qv),(26,xt)]) (hk:=[]) (by kernel_rfl)
  (.cons qew (.cons qex (.cons (JW hX) (.cons qfy (.cons (JX hX) (.cons qfz (.cons YH (.cons qeu (.cons X0 (.cons GZ .nil)))))))))) .nil (by
 intro ps R post hh
 obtain⟨l,r,rfl,rfl,hs,hp⟩:=hh
 (rw[<-R7];delta Z3 Z4 XZ Zw Z12 Zk ZU cK fR qb Zc4 Zc3 ia ib ic fO ie gb l8 AB Zs Zu E3)
 refine⟨l,r,rfl,rfl,hs.1,fun g e hg he=>⟨l,r,rfl,rfl,hs.1,fun g1 e1 hg1 yL=>⟨l,r,rfl,rfl,hs.1,fun a ha=>⟨l,r,rfl,rfl,hs,fun a2 ha2=>⟨l,r,rfl,rfl,hs.1,fun b hb=>⟨l,r,rfl,rfl,hs,fun b2 cu=> ?_⟩⟩⟩⟩⟩⟩
 rw[hg1.trans hg.symm,yL.trans he.symm,ha2.trans ha.symm,cu.trans hb.symm]
 have hv:mq (iA (az l)):=Nat.le_trans (o8 _) (by decide)
 refine⟨g,g,rfl,rfl,⟨?_,?_,?_⟩,fun c hc=> ?_⟩
 ·rw[hg];exact AV _ _
 ·rw[hg];exact AV _ _
 ·rw[hg];unfold kI;split
  ·exact hv
  ·decide
 have:c=true:=hc.2 rfl
 subst this
 refine fw rfl (fw (by simp) (fw (by simp) (fw (by simp) (fw (by simp) (fw (by simp) ⟨l,rfl,rfl,hs.1,fun v hv2=>⟨l,rfl,rfl,hs.1,fun w hw=>⟨v,w,rfl,rfl,by rw[hv2];exact hv,?_⟩,fun h0=>⟨v,[],rfl,rfl,by rw[hv2];exact hv,?_⟩⟩⟩)))))
 ·rw[decide_eq_true (hv2.trans hw.symm)];exact hp
 ·rw[decide_eq_true (hv2.trans h0)];exact hp)
def qc5:bm:=fun ps R post=> ∃l r,ps=[bO l,iD r]/\R=[]/\(∀g∈l,FtG g)/\post (.d (.bool true),[])
theorem WR:FD X 3 qc5:=FD.mk (H:=[(8,R5),(9,yo),(10,CZ)]) (hk:=[]) (by kernel_rfl) (.cons WO (.cons (Mk hX) (.cons (Sc hX) .nil))) .nil (by
 intro ps R post hh
 obtain⟨l,r,rfl,rfl,hf,hp⟩:=hh
 (rw[<-qfE];delta Zs Zu cK fR E3 ZM ZN Zc1 dm Zw qb)
 refine⟨l,rfl,rfl,fun b hb=>aw (fun _=>⟨rfl,rfl,hp⟩) fun h=>⟨rfl,rfl,l,r,rfl,rfl,?_,hp⟩⟩
 obtain⟨h1,h2⟩:=hb (by simpa using h)
 have hm:maxLen<=9223372036854775807:=by decide
 refine⟨⟨by omega,fun g hg=> ?_⟩,?_⟩
 ·obtain⟨⟨d1,d2⟩,d3⟩:=h2 g hg
  have f:=hf g hg
  exact⟨fun o ho=>⟨by have:=d2 (by omega) o ho;omega,by have:=(f.2 o ho).1;omega,by have:=(f.2 o ho).2;omega⟩,by omega,by omega⟩
 ·exact R9 (fun g hg=>(h2 g hg).2) h1)
end
theorem Sd {X:XF} (hX:XT X) (xs:List D) (h:oR PR 8 [22,3] xs): ∃lf k R,eZ PR (GV X) lf k 3 (xs.map P.d) []=some (.d (.bool true),R):=by
 obtain⟨x,r,rfl,hx,h⟩:=fitAll_cons h
 obtain⟨y,r,rfl,hy,h⟩:=fitAll_cons h
 have e:=fitAll_nil h
 subst e
 obtain⟨l,rfl,hl⟩:=qc1 hx
 obtain⟨n,rfl,_⟩:=D5 Tryz.underlying3 hy
 obtain⟨lf,k,hr⟩:=(WR hX).run (y:=(.d (.bool true),[])) ⟨l,n,rfl,rfl,hl,rfl⟩
 exact⟨lf,k,[],hr⟩
theorem Ml (xs:List D) (h:oR PR 8 [22,3] xs): ∃lf k R,eZ PR (GV JY) lf k 3 (xs.map P.d) []=some (.d (.bool true),R):=Sd WJ xs h
end Pi
