/- The texts GvP Gv1 Gv1H VoP Vo1 Vo1H. -/
import Derived.Test.YtdgkdigdflkjhaaGreatDoorEaj
namespace Pi
open Go Go.Proofs
set_option maxRecDepth 100000
set_option maxHeartbeats 0
theorem opN_make{s:aN}{k n:Int}{o:bq}(h:Nd s k o=some n)(h0:o.kind=0):o.node=(s.1,s.2,k)/\n=1:=by grind [Nd]
theorem known_mem{l:List au}{v:List Int}{g:au}:g∈gZ l v↔g∈l/\g.n<=j8 v g.s.2:=by unfold gZ;rw[List.mem_filter,decide_eq_true_eq]
structure NdW(l:List au)(K:List (List Int)):Prop where
 nd:(l.map (·.s)).Nodup
 own: ∀g∈l,g.n<=j8 (K.getD (g.s.2-1).toNat []) g.s.2
theorem mgA_ge{r:Int}(hr:1<=r): ∀(M:List (List Int)) (v:List Int),j8 v r<=j8 (M.foldl pZ v) r
 | [],_=>Int.le_refl _
 |w::M,v=>by have h1:=qbi v w r hr;have h2:=mgA_ge hr M (pZ v w);rw[List.foldl_cons];omega
theorem NdW.more{i:Int}{l:List au}{K:List (List Int)}(hl:c7 i l)(hK:K.length=3)(h:NdW l K){v:List Int}{q:Int}(h0:0<=q/\q<3)(hv: ∀g∈l,g.s.2=1+q->g.n<=j8 v (1+q)){g:au}(hg:g.s=(tv (gZ l v)+1,1+q)/\g.n=j8 v (1+q)+1):NdW (l++[g]) (K.set q.toNat (cc (lh v (1+q) (j8 v (1+q)+1)))):=by
 have WJ:g.s.2=1+q:=by rw[hg.1]
 refine⟨?_,λy hy=> ?_⟩
 ·have cU: ∀y∈l,y.s≠g.s:=λy hy e=>by
   rw[hg.1] at e;have e2:y.s.2=1+q:=by rw[e]
   have h1:=(rT (gZ l v)).2 y (known_mem.2 ⟨hy,by rw[e2];exact hv y hy e2⟩);rw[e] at h1;have h1:tv (gZ l v)+1<=tv (gZ l v):=h1;omega
  have:=h.nd;grind
 have hw:=qfm (v:=v) (r:=1+q) (n:=j8 v (1+q)+1) (by omega) (1+q) (by omega);rw[if_pos rfl] at hw;rw[List.getD_eq_getElem?_getD,List.getElem?_set];by_cases hq:y.s.2=1+q
 ·rw[if_pos (by omega),if_pos (by omega),Option.getD_some,hq,hw];rcases List.mem_append.1 hy with hy |hy
  ·have:=hv y hy hq;omega
  rw[List.mem_singleton.1 hy];omega
 rcases List.mem_append.1 hy with hy |hy
 ·have:=(hl.sm y hy).1.1;rw[if_neg (by omega),<-List.getD_eq_getElem?_getD];exact h.own y hy
 rw[List.mem_singleton.1 hy] at hq;exact absurd WJ hq
def NextN(i:Int)(l':List au)(K':List (List Int)):Prop:=Sy i l' K'/\NdW l' K'
def WOkN(i:Int)(l:List au)(K:List (List Int)):Prop:=WOk i l K/\NdW l K
def hDoneN:bc:=λps R ae=> ∃(i:Int) (l:List au) (K:List (List Int)) (x:dn),ps=[.d (wD l K),.d (zy x)]/\R=[]/\(WOkN i l K/\IP x)/\ ∀l' K',NextN i l' K'->ae (.d (wD l' K'),[])
theorem vcHn3(m:List dn)(l:List au)(K:List (List Int))(i:Int)(ae:PX×S->Prop):(bif decide (i<(↑(List.length (List.map zy m)):Int)) then bif decide (i<(16:Int)) then bif decide ((0:Int)<=i/\i<(↑(List.length (List.map zy m)):Int)) then bif bE PR 60 (D.nth (List.map zy m) (Int.toNat i)) then∃(bh:Int),∃(av:List au),∃(tH:List (List Int)),∃(x:dn),[P.d (D.agg [D.sl 7 (List.map dp l),D.sl 1 (List.map (λ(v:List Int)=>D.sl 1 (bL v)) K)]),P.d (D.agg [D.int .u8 (D.aj (D.aq (D.nth (List.map zy m) (Int.toNat i)) 0)),D.int .u8 (D.aj (D.aq (D.nth (List.map zy m) (Int.toNat i)) 1)),D.int .u8 (D.aj (D.aq (D.nth (List.map zy m) (Int.toNat i)) 2)),D.int .u8 (D.aj (D.aq (D.nth (List.map zy m) (Int.toNat i)) 3)),D.int .u8 (D.aj (D.aq (D.nth (List.map zy m) (Int.toNat i)) 4)),D.bool (D.c8 (D.aq (D.nth (List.map zy m) (Int.toNat i)) 5))])]=[P.d (D.agg [D.sl 7 (List.map dp av),D.sl 1 (List.map (λ(v:List Int)=>D.sl 1 (bL v)) tH)]),P.d (D.agg [D.int .u8 (dn.what x),D.int .u8 (dn.r x),D.int .u8 (dn.a x),D.int .u8 (dn.b x),D.int .u8 (dn.c x),D.bool (dn.see x)])]/\EqR [] []/\(WOkN bh av tH/\IP x)/\ ∀(l':List au) (K':List (List Int)),NextN bh l' K'->bif decide ((-9223372036854775808:Int)<=i+(1:Int)/\i+(1:Int)<=(9223372036854775807:Int)) then ae (PX.normal,S.mk 25 [(0,P.d (D.sl 6 (List.map zy m))),(3,P.ref 0 0 0),(4,P.d (D.int .i64 (i+(1:Int))))] [(0,En.mk 0 none (Obj.box 57 [P.d (D.sl 7 (List.map dp l')),P.d (D.sl 1 (List.map (λ(v:List Int)=>D.sl 1 (bL v)) K'))]))]) else False else False else False else ae (PX.exit 0,S.mk 25 [(3,P.ref 0 0 0)] [(0,En.mk 0 none (Obj.box 57 [P.d (D.sl 7 (List.map dp l)),P.d (D.sl 1 (List.map (λ(v:List Int)=>D.sl 1 (bL v)) K))]))]) else ae (PX.exit 0,S.mk 25 [(3,P.ref 0 0 0)] [(0,En.mk 0 none (Obj.box 57 [P.d (D.sl 7 (List.map dp l)),P.d (D.sl 1 (List.map (λ(v:List Int)=>D.sl 1 (bL v)) K))]))]))=(aG [(23,hDoneN)] [] 9 3 (hi3 m l K i)) ae:=by kernel_rfl
theorem vcHn0(m:List dn)(ae:PX×S->Prop):(bif decide ((0:Int)<(↑(List.length (List.map zy m)):Int)) then bif decide ((0:Int)<=(0:Int)/\(0:Int)<(↑(List.length (List.map zy m)):Int)) then bif bE PR 60 (D.nth (List.map zy m) 0) then∃(i:Int),∃(l:List au),∃(K:List (List Int)),∃(x:dn),[P.d (D.agg [D.sl 7 [],D.sl 1 [D.sl 1 [],D.sl 1 [],D.sl 1 []]]),P.d (D.agg [D.int .u8 (D.aj (D.aq (D.nth (List.map zy m) 0) 0)),D.int .u8 (D.aj (D.aq (D.nth (List.map zy m) 0) 1)),D.int .u8 (D.aj (D.aq (D.nth (List.map zy m) 0) 2)),D.int .u8 (D.aj (D.aq (D.nth (List.map zy m) 0) 3)),D.int .u8 (D.aj (D.aq (D.nth (List.map zy m) 0) 4)),D.bool (D.c8 (D.aq (D.nth (List.map zy m) 0) 5))])]=[P.d (D.agg [D.sl 7 (List.map dp l),D.sl 1 (List.map (λ(v:List Int)=>D.sl 1 (bL v)) K)]),P.d (D.agg [D.int .u8 (dn.what x),D.int .u8 (dn.r x),D.int .u8 (dn.a x),D.int .u8 (dn.b x),D.int .u8 (dn.c x),D.bool (dn.see x)])]/\EqR [] []/\(WOkN i l K/\IP x)/\ ∀(l':List au) (K':List (List Int)),NextN i l' K'->ae (PX.normal,S.mk 25 [(0,P.d (D.sl 6 (List.map zy m))),(3,P.ref 0 0 0),(4,P.d (D.int .i64 (1:Int)))] [(0,En.mk 0 none (Obj.box 57 [P.d (D.sl 7 (List.map dp l')),P.d (D.sl 1 (List.map (λ(v:List Int)=>D.sl 1 (bL v)) K'))]))]) else False else False else ae (PX.exit 0,S.mk 25 [(3,P.ref 0 0 0)] [(0,En.mk 0 none (Obj.box 57 [P.d D.cd,P.sl 1 0 3])),(1,En.mk 0 none (Obj.arr 28 false [D.sl 1 [],D.sl 1 [],D.sl 1 []]))]))=(aG [(23,hDoneN)] [] 9 3 (zl m)) ae:=by kernel_rfl
def gHn3:S->K (PX×S):=λs ae=> ∃m,s=zl m/\C0 m/\ae (.exit 0,⟨25,[(3,.ref 0 0 0)],[(0,⟨0,none,.box 57 [.d .cd,.sl 1 0 3]⟩),(1,⟨0,none,arV false [[],[],[]]⟩)]⟩)/\ ∀l (K:List (List Int)),c7 16 l->(l.map (·.s)).Nodup->ae (.exit 0,⟨25,[(3,.ref 0 0 0)],[(0,⟨0,none,bxW l K⟩)]⟩)
theorem vcHisN(m:List dn)(ae:P×List (Nat×En)->Prop):(∃(ct:List dn),S.mk 25 [(0,P.d (D.sl 6 (List.map zy m))),(3,P.ref 0 0 0),(4,P.d (D.int .i64 (0:Int)))] [(0,En.mk 0 none (Obj.box 57 [P.d D.cd,P.sl 1 0 3])),(1,En.mk 0 none (Obj.arr 28 false [D.sl 1 [],D.sl 1 [],D.sl 1 []]))]=S.mk 25 [(0,P.d (D.sl 6 (List.map zy ct))),(3,P.ref 0 0 0),(4,P.d (D.int .i64 (0:Int)))] [(0,En.mk 0 none (Obj.box 57 [P.d D.cd,P.sl 1 0 3])),(1,En.mk 0 none (Obj.arr 28 false [D.sl 1 [],D.sl 1 [],D.sl 1 []]))]/\C0 ct/\ae (P.sl 0 0 0,[(0,En.mk 0 none (Obj.arr 31 false []))])/\ ∀(l:List au) (_:List (List Int)),c7 (16:Int) l->List.Nodup (List.map (λ(x:au)=>au.s x) l)->ae (P.d (D.sl 7 (List.map dp l)),[]))=(aO [] [(3,ah (aV 9 3) gHn3)] 9 [.d (.sl 6 (m.map zy))] []) ae:=by kernel_rfl
def hHisN:bc:=λps R ae=> ∃m,ps=[.d (.sl 6 (m.map zy))]/\R=[]/\C0 m/\ae (.sl 0 0 0,[(0,⟨0,none,xR false []⟩)])/\ ∀g,c7 16 g->(g.map (·.s)).Nodup->ae (ey g,[])
section
variable{X:XF}
theorem okDoneN:FD X 23 hDoneN:=FD.mk
  (.cons qtb (.cons Lb (.cons qe5 (.cons qbM (.cons qqm .nil))))) (.cons qfK .nil) (by
 intro ps R ae hh;obtain⟨i,l,K,x,rfl,rfl,⟨⟨⟨hl,hK,h0,hi⟩,hO⟩,hx⟩,hp⟩:=hh
 (rw[<-qte];delta Zi5 Zi7 JK U2 Zie Zit Zis Z5Q DZ D0 D1 Jk LJ Jl LK LL Fs Jm Jn Jo Jp Jq Cf Cg Ch D2 Jr Z5 Zip yZ y5 wQ Zio Zj Zk Za Zin ia kH Zim Zdz wg Zic Zil Zz Zij Zgz Zii Zig Z8 Z7 Z9 Zif Vp Zid ML Zl Zib Zia VI ZhP Zv jf zx Zf3 Zi8 ZJ ZK Zm sv Zn Zw ZY zq Z9o VH Zi4 xD VJ VK qh jB wO cp Pr Zi6)
 have hr:=wI hx.r.1 (show(0:Int)<3 by decide);have hxr:=hx.r;have hxa:=hx.a;have h3:=hK.len;have xh:=hl.len;generalize x.r.tmod 3=q at*
 have zB:(1+q-1).toNat=q.toNat:=by omega
 have hqn:q.toNat<K.length:=by omega
 have e1:D.nth (K.map λv=>D.sl 1 (bL v)) q.toNat=D.sl 1 (bL K[q.toNat]):=aA _ _ _ hqn;have hS:=hK.vec _ (List.getElem_mem hqn);simp only[List.nil_append,Nat.zero_add,List.length_map,List.length_cons,List.length_nil,zB,e1];have u0:D.gh (D.sl 1 (bL K[q.toNat]))=bL K[q.toNat]:=rfl;rw[u0];have cD:=hp l K ⟨⟨hl.mono (by omega),hK.len,λv hv=>(hK.vec v hv).mono (by omega)⟩,hO⟩;have dO: ∀g∈l,g.s.2=1+q->g.n<=j8 K[q.toNat] (1+q):=λg hg e=>by have:=hO.own g hg;rwa [e,zB,List.getD_eq_getElem?_getD,List.getElem?_eq_getElem hqn] at this
 have hEq: ∀(g:au) (u:List Int) (z:List D),D.agg [D.sl 7 ((l++[g]).map dp),D.sl 1 ((K.set q.toNat u).map λv=>D.sl 1 (bL v))]=D.agg [D.sl 7 (List.take (l.length+1) (List.take l.length (l.map dp)++[dp g])),D.sl 1 (List.take K.length ((K.map λv=>D.sl 1 (bL v)).set q.toNat (D.aY (D.sl 1 z) [D.sl 1 (bL u)])))]:=λg u z=>by simp[D.aY,List.map_set,List.take_of_length_le]
 refine ar (by omega) (ar (by omega) (ar (by omega) (ar (by omega) (ao (qfJ _) (az (λ_=>⟨l,K,x,1+q,K[q.toNat],rfl,⟨by omega,hS.mono (by omega),λw hw=>(hK.vec w hw).mono (by omega)⟩,λv hv=> ?a⟩) λ_=> ?b)))))
 case' a=>
  replace hS:uH i v:=by rw[hv];exact PY K _ hS hK.vec
  replace dO: ∀g∈l,g.s.2=1+q->g.n<=j8 v (1+q):=λg hg e=>by rw[hv];exact Int.le_trans (dO g hg e) (mgA_ge (by omega) K _)
  clear hv
 case' b=>generalize K[q.toNat]=v at*
 all_goals
  have hvl:=sA hS.1;have ha:=IJ hS.1 (1+q);have hb:=hS.2 (1+q);have eb:c7 i (gZ l v):=hl.sub List.filter_sublist;have hm:=eb.tv h0;have C8:=eb.len;have hrk:aB K.length 24=true:=bP (by omega) (by omega);have hrl:aB l.length 88=true:=bP (by omega) (by omega);have qqn:aB (l.length+1) 88=true:=bP (by omega) (by omega);have hMo:=λ(u:aN) (ops:List bq) (h1:ops.length<=1) (h2: ∀o∈ops,OpB o)=>hp _ _ ⟨⟨hl.more (g:=⟨(tv (gZ l v)+1,1+q),j8 v (1+q)+1,v,u,ops⟩) (by show 1<=1+q/\1+q<=3;omega) (by show tv (gZ l v)+1<=_;omega) (by show j8 v (1+q)+1<=_;omega) h1 (by show v.length<=1000;omega) h2,hK.more h0 hS (r:=1+q) (by omega) (by omega) q.toNat⟩,hO.more hl h3 (by omega) dO ⟨rfl,rfl⟩⟩;refine⟨l,v,rfl,rfl,⟨by omega,by omega⟩,λo ho=>⟨v,1+q,rfl,rfl,by omega,ar (by omega) ⟨o,by rw[gB],rfl,by rw[ho];omega,λt ht=>ar (by rw[ho] at ht;omega) (zp (λh7=> ?_) λh7=> ?_)⟩⟩⟩
  ·refine zp (λ_=>cD) λcU=> ?_;have hq2:=wI hxa.1 (show(0:Int)<(o.length:Int) by omega);generalize x.a.tmod (o.length:Int)=p at*
   have hpn:p.toNat<o.length:=by omega
   rw[aA dp o p.toNat hpn];generalize o[p.toNat]=y;refine ar (by omega) (ao (by rw[decide_eq_false (by omega)];rfl) (ar (by omega) (ar hpn (ao (mS _) ⟨v,1+q,_,rfl,rfl,⟨by omega,by omega,by omega⟩,λw hw=>ao (by rw[hrk];rfl) (ar (by omega) (ar (by omega) ?_))⟩))))
   try rw[zB,e1]
   refine ar hqn (ao (qfJ _) (ao (by rw[hrl];rfl) (ao (by rw[qqn];simp) ?_)));rw[hw];refine Eq.mp (congrArg (λz=>ae (P.d z,[])) ?_) (hMo y.s [] (by decide) λ_ h=>by cases h);rw[ht,ho];exact hEq _ _ _
  refine⟨i,o,(t+1,1+q),x,by rw[gB],rfl,⟨by rw[ho];exact eb,⟨h0,hi⟩,hx⟩,λu b hu=>az (λ_=>cD) λkN=>⟨v,1+q,_,rfl,rfl,⟨by omega,by omega,by omega⟩,λw hw=>ao (by rw[hrk];rfl) (ar (by omega) (ar (by omega) ?_))⟩⟩
  try rw[zB,e1]
  refine ar hqn (ao (qfJ _) (ao (by rw[hrl];rfl) (ao (by rw[qqn];simp) ?_)));rw[hw];refine Eq.mp (congrArg (λz=>ae (P.d z,[])) ?_) (hMo (0,0) [u] (by simp) λo ho=>by rw[List.mem_singleton.1 ho];exact hu);rw[ht,ho];exact hEq _ _ _)
theorem loopHn3:LD X 9 3 (ah (aV 9 3) gHn3):=LD.idx (.cons okDoneN .nil) .nil
 (A:=List dn) (B:=List au×List (List Int)) qbO (λm=>min m.length 16)
 (λm i b=>C0 m/\(i=0->b=([],[[],[],[]]))/\WOkN i b.1 b.2/\True)
 (λm z=>(z=(.exit 0,⟨25,[(3,.ref 0 0 0)],[(0,⟨0,none,.box 57 [.d .cd,.sl 1 0 3]⟩),(1,⟨0,none,arV false [[],[],[]]⟩)]⟩))\/ ∃l K,(c7 16 l/\(l.map (·.s)).Nodup)/\z=(.exit 0,⟨25,[(3,.ref 0 0 0)],[(0,⟨0,none,bxW l K⟩)]⟩))
 (by
  rintro m ⟨l,K⟩ i ae h0 dE bB ⟨hc,hb,hw,hz⟩ hn bF
  try dsimp only at*
  have Vc:i<m.length:=by omega
  have hmn:i.toNat<m.length:=by omega
  have e1:D.nth (m.map zy) i.toNat=zy m[i.toNat]:=aA _ _ _ hmn;have hx:=hc.2 _ (List.getElem_mem hmn);have jN:0<=i/\i<((m.map zy).length:Int):=by rw[List.length_map];exact⟨h0,Vc⟩
  have Hj: ∀l' K',NextN i l' K'->ae (.normal,hi3 m l' K' (i+1)):=λl' K' h=>by
   have I4:((i.toNat+1:Nat):Int)=i+1:=by omega
   have:=hn (l',K') ⟨hc,λh=>by omega,by rw[I4];exact⟨⟨h.1.1,h.1.2,by omega,by omega⟩,h.2⟩,trivial⟩;unfold qbO at this;rw[if_neg (by omega)] at this;exact this
  have hwi:WOkN i l K:=by rw[show((i.toNat:Nat):Int)=i by omega] at hw;exact hw
  unfold qbO;by_cases zl:i=0
  ·rw[if_pos zl];subst zl;have hb:=hb rfl;cases hb;rw[<-vcHn0];have e2:D.nth (m.map zy) 0=zy m[Int.toNat 0]:=e1;rw[e2];refine dv jN.2 (ar jN (ao (qqp _) ⟨0,[],[[],[],[]],m[Int.toNat 0],rfl,rfl,⟨hwi,hx⟩,λl' K' h=>Hj l' K' h⟩))
  rw[if_neg zl];rw[<-vcHn3,e1];exact dv jN.2 (dv (by omega) (ar jN (ao (qqp _) ⟨i,l,K,m[i.toNat],rfl,rfl,⟨hwi,hx⟩,λl' K' h=>ar (by omega) (Hj l' K' h)⟩))))
 (by
  rintro m ⟨l,K⟩ i ae hi ⟨hc,hb,hw,hz⟩ bF
  try dsimp only at*
  unfold qbO;by_cases zl:i=0
  ·rw[if_pos zl];rw[<-vcHn0];exact Cj (by rw[List.length_map];omega) (bF _ (λh=>by cases h) (.inl rfl))
  rw[if_neg zl];rw[<-vcHn3];have hH:c7 16 l:=hw.1.1.mono (by omega);have hpp:=bF _ (λh=>by cases h) (.inr ⟨l,K,⟨hH,hw.2.nd⟩,rfl⟩);exact b8 (λh1=>b8 (λh2=>by rw[List.length_map] at h1;omega) λ_=>hpp) λ_=>hpp)
 (by
  rintro s ae ⟨m,rfl,hc,h1,h2⟩;refine⟨m,([],[[],[],[]]),by unfold qbO;rw[if_pos rfl],⟨hc,λ_=>rfl,⟨⟨⟨(λ_ h=>by cases h),by decide⟩,qqo,by decide,by decide⟩,.nil,λ_ h=>by cases h⟩,trivial⟩,?_⟩;rintro z (rfl | ⟨l,K,h,rfl⟩)
  ·exact h1
  exact h2 l K h.1 h.2)
theorem okHisN:FD X 9 hHisN:=FD.mk .nil (.cons loopHn3 .nil) (by intro ps R ae hh;obtain⟨m,rfl,rfl,hs,h1,h2⟩:=hh;rw[<-vcHisN];exact⟨m,rfl,hs,h1,λl _ h hn=>h2 l h hn⟩)
end
theorem cntF_mem(x:au): ∀l o:List au,(∀y∈o++l,∀z∈o++l,y.s=z.s->y=z)->(x∈l.foldl nD o↔x∈o\/x∈l/\fu x=true)
 | [],o,_=>by simp
 |a::r,o,h=>by
  have mx: ∀y∈nD o a++r,y∈o++a::r:=λy hy=>by unfold nD at hy;split at hy<;>grind
  rw[List.foldl_cons,cntF_mem x r (nD o a) λy hy z hz=>h y (mx y hy) z (mx z hz)];unfold nD;split
  ·grind
  rename_i hc;by_cases ha:fu a=true
  ·have:(o.any λy=>y.s==a.s)=true:=by
    cases hq:o.any λy=>y.s==a.s with
    |true=>rfl
    |false=>exact absurd ⟨ha,hq⟩ hc
   rw[List.any_eq_true] at this;obtain⟨y,hy,e⟩:=this;have:=h y (by grind) a (by grind) (by grind);grind
  grind
theorem right_perm{p g:List au}(hp: ∀y∈p,y∈g)(h:(g.map (·.s)).Nodup):(aC (p++g)).Perm (aC g):=by
 refine(List.perm_ext_iff_of_nodup (CT _ (v7 _)) (CT _ (v7 _))).2 λx=> ?_;unfold aC;rw[cntF_mem x (p++g) [],cntF_mem x g []]
 ·grind
 ·exact λy hy z hz e=>kG h y (by grind) z (by grind) e
 exact λy hy z hz e=>kG h y (by grind) z (by grind) e
theorem smT_of{l:List au}(h:c7 32 l):SmT l:=by have hl:=h.rt;have hon:=IB l;have h2:=hl.cK;have h3:=hl.len;have h4:=h.len;have Gv: ∀y∈aC l,∀o∈y.ops,o.elems.length<=3:=λy hy o ho=>((hl.sm y hy).2.2 o ho).el;refine⟨h.smL (by decide),λx=>⟨hl.runs (by decide) x,⟨⟨by omega,by omega,by omega⟩,λy hy o ho=>Nat.le_trans (Gv y hy o ho) (by decide)⟩,?_⟩⟩;have h1:=x8 (on:=gJ l) (x:=x) (n:=3) (aC l) Gv;omega
theorem onX_perm{l m:List Hd}(hn:(l.map (·.1)).Nodup)(hp:m.Perm l):Ni m=Ni l:=by have e:qJ m=qJ l:=qd7 (by unfold qJ;rw[qd6 hn,qd6 ((hp.map _).nodup_iff.2 hn)];exact(cm _).trans hp) (lS tu (λa:Hd=>a.1) _);unfold Ni;rw[e]
theorem nd_flat{α β:Type}{f:α->List β}(key:β->aN){k:α->aN}: ∀{l:List α},(l.map k).Nodup->(∀a∈l,(f a).Nodup/\ ∀b∈f a,key b=k a)->(l.flatMap f).Nodup
 | [],_,_=>List.nodup_nil
 |a::l,h,hf=>by rw[List.map_cons,List.nodup_cons] at h;rw[List.flatMap_cons,List.nodup_append];refine⟨(hf a (.head _)).1,nd_flat key h.2 λb hb=>hf b (.tail _ hb),λx hx y hy e=>h.1 ?_⟩;subst e;obtain⟨c,hc,hy⟩:=List.mem_flatMap.1 hy;rw[<-(hf a (.head _)).2 x hx,(hf c (.tail _ hc)).2 x hy];exact List.mem_map.2 ⟨c,hc,rfl⟩
def Tl.app(t u:Tl):Tl:=⟨t.a++u.a,t.p++u.p,t.h++u.h,t.g++u.g⟩
theorem tlO_app(on:Bool)(s:aN)(t u:Tl)(o:bq)(k:Nat):tlO on s (t.app u) o k=t.app (tlO on s u o k):=by unfold tlO Tl.app;congr 1<;>dsimp only<;>split<;>simp
theorem tlF_app(on:Bool)(s:aN): ∀(L:List (bq×Nat)) (t u:Tl),L.foldl (λt p=>tlO on s t p.1 p.2) (t.app u)=t.app (L.foldl (λt p=>tlO on s t p.1 p.2) u)
 | [],_,_=>rfl
 |x::L,t,u=>by rw[List.foldl_cons,List.foldl_cons,tlO_app,tlF_app on s L]
theorem app_nil(t:Tl):t.app tl0=t:=by simp[Tl.app,tl0]
theorem tlL_flat(on:List aN): ∀(l:List au) (t:Tl),l.foldl (Uo on) t=t.app ⟨l.flatMap λg=>(Uo on tl0 g).a,l.flatMap λg=>(Uo on tl0 g).p,l.flatMap λg=>(Uo on tl0 g).h,l.flatMap λg=>(Uo on tl0 g).g⟩
 | [],t=>(app_nil t).symm
 |g::l,t=>by
  have e:Uo on t g=t.app (Uo on tl0 g):=by have:=tlF_app (decide (g.s∈on)) g.s g.ops.zipIdx t tl0;rwa [app_nil] at this
  rw[List.foldl_cons,tlL_flat on l,e];simp[Tl.app]
theorem tdF_ins: ∀(l o:List Td),((o++l).map (·.1)).Nodup->l.foldl Ic o=l.foldl (fU ltT) o
 | [],_,_=>rfl
 |x::r,o,h=>by
  have e:Ic o x=fU ltT o x:=by unfold Ic;rw[if_neg];rw[List.any_eq_true];rintro⟨y,hy,e⟩;grind
  rw[List.foldl_cons,List.foldl_cons,e];refine tdF_ins r _ ((List.Perm.map _ ?_).nodup_iff.2 h);exact((iV o x).append_right r).trans (by simp)
theorem tdL_perm{a a':List ak}{p p':List Pl}(hn:((a.zip p).map (·.1)).Nodup)(hp:(a'.zip p').Perm (a.zip p)):tdL a' p'=tdL a p:=by unfold tdL;rw[tdF_ins (a.zip p) [] (by exact hn),tdF_ins (a'.zip p') [] ((hp.map _).nodup_iff.2 hn)];refine kb fR (λt:Td=>t.1) (λx hx y hy e=>kG hn x (hp.mem_iff.1 ((cm _).mem_iff.1 hx)) y (hp.mem_iff.1 ((cm _).mem_iff.1 hy)) e) ((cm _).trans (hp.trans (cm _).symm)) (lS fR (λt:Td=>t.1) _) (lS fR (λt:Td=>t.1) _)
theorem lvF_ok(g:List aT): ∀(h:List aT) (o:List ak),o.Nodup->o.Pairwise (λx y=>kr y x=false)->(h.foldl (Y9 g) o).Nodup/\(h.foldl (Y9 g) o).Pairwise (λx y=>kr y x=false)/\ ∀x,x∈h.foldl (Y9 g) o↔x∈o\/ ∃d∈h,d∉g/\d.1=x
 | [],o,h1,h2=>⟨h1,h2,by simp⟩
 |d::r,o,h1,h2=>by
  rw[List.foldl_cons];by_cases hd:d∈g\/d.1∈o
  ·have e:Y9 g o d=o:=by unfold Y9;rw[if_pos hd]
   rw[e];obtain⟨h3,h4,h5⟩:=lvF_ok g r o h1 h2;refine⟨h3,h4,λx=> ?_⟩;rw[h5];grind
  have e:Y9 g o d=fU kr o d.1:=by unfold Y9;rw[if_neg hd]
  rw[e];obtain⟨h3,h4,h5⟩:=lvF_ok g r (fU kr o d.1) ((iV o d.1).nodup_iff.2 (by grind)) (zZ fR d.1 h2);refine⟨h3,h4,λx=> ?_⟩;rw[h5,(iV o d.1).mem_iff];grind
theorem lvX_perm{h h' g g':List aT}(hh: ∀d,d∈h'↔d∈h)(hg: ∀d,d∈g'↔d∈g):lvX h' g'=lvX h g:=by obtain⟨h3,h4,h5⟩:=lvF_ok g h [] .nil .nil;obtain⟨h6,h7,h8⟩:=lvF_ok g' h' [] .nil .nil;refine OW fR ((List.perm_ext_iff_of_nodup h6 h3).2 λx=> ?_) h7 h4;rw[h5,h8];simp only[hh,hg]
def elZ(r:aS):List a8:=(kg r.2.2).zipIdx.map λp=>(mZ r p.2,Np r p.2,p.1)
theorem elR_fold: ∀(l:List aS) (o:List a8),l.foldl elR o=(l.flatMap elZ).foldl (λo e=>Mv o e.1 e.2.1 e.2.2) o
 | [],_=>rfl
 |r::l,o=>by rw[List.foldl_cons,List.flatMap_cons,List.foldl_append,elR_fold l];unfold elR CR elZ;rw[List.foldl_map]
theorem elS_fold: ∀(l o:List a8),((o++l).map (·.1)).Nodup->l.foldl (λo e=>Mv o e.1 e.2.1 e.2.2) o=o++l.filter λe=>e.1 !=aJ
 | [],o,_=>by simp
 |x::r,o,h=>by
  rw[List.foldl_cons];by_cases hx:x.1=aJ
  ·have e:Mv o x.1 x.2.1 x.2.2=o:=by unfold Mv;rw[if_pos (.inl hx)]
   rw[e,elS_fold r o (h.sublist ((List.Sublist.append (List.Sublist.refl o) (List.sublist_cons_self x r)).map _))];simp[hx]
  have e:Mv o x.1 x.2.1 x.2.2=o++[x]:=by
   unfold Mv;rw[if_neg];rintro(h1 |h1)
   ·exact hx h1
   rw[List.any_eq_true] at h1;obtain⟨y,hy,e⟩:=h1;grind
  rw[e,elS_fold r (o++[x]) (by simpa using h)];simp[hx]
theorem lin_Xg:Lq (λa b:ak=>kr b a):=⟨fR.KE,λ_ _ _ h1 h2=>fR.tr _ _ _ h2 h1,λ_ _ h1 h2=>fR.wX _ _ h2 h1⟩
theorem behX_perm{all all':List a8}(hn:(all.map (·.1)).Nodup)(hp:all'.Perm all)(x:ak):ic all' x=ic all x:=by
 have hq:=hp.filter λe=>e.2.1==x;unfold ic;refine kb lin_Xg (λe:a8=>e.1) (λa ha b hb e=>kG hn a ?_ b ?_ e) ((cm _).trans (hq.trans (cm _).symm)) (lS lin_Xg (λe:a8=>e.1) _) (lS lin_Xg (λe:a8=>e.1) _)
 ·exact hp.mem_iff.1 (List.mem_filter.1 ((cm _).mem_iff.1 ha)).1
 exact hp.mem_iff.1 (List.mem_filter.1 ((cm _).mem_iff.1 hb)).1
theorem ordF_perm{all all':List a8}(hn:(all.map (·.1)).Nodup)(hp:all'.Perm all): ∀(n:Nat) (w:List a8),uC all' n w=uC all n w
 |0,_=>rfl
 |_+1,[]=>rfl
 |n+1,x::w=>by unfold uC;rw[behX_perm hn hp,ordF_perm hn hp n]
theorem ordX_perm{all all':List a8}(hn:(all.map (·.1)).Nodup)(hp:all'.Perm all):uD all'=uD all:=by unfold uD;rw[hp.length_eq,behX_perm hn hp,ordF_perm hn hp]
section
variable{i:Int}{l m:List au}(hl:n0 i l)(hp:m.Perm l)
include hl
theorem n0.one{g:au}(hg:g∈l):g.ops=[]\/ ∃o,g.ops=[o]/\ ∃n,Nd g.s 0 o=some n:=by
 have h1:=(hl.sm g hg).2.2.1;cases qbd:g.ops with
 |nil=>exact .inl rfl
 |cons a r=>
  rw[qbd] at h1;have hr:r=[]:=by simpa using h1
  subst hr;exact .inr ⟨a,rfl,op1 hl hg (by rw[qbd];exact .head _)⟩
include hp
theorem dirV_perm:ql m=ql l:=by
 unfold ql;refine(List.Perm.foldl_eq' (hp.flatMap_right (·.ops)).symm (λo ho o' nk z=> ?_) _).symm;obtain⟨g,hg,ho⟩:=List.mem_flatMap.1 ho;obtain⟨g',DB,nk⟩:=List.mem_flatMap.1 nk;funext x;unfold sR;by_cases h1:o.kind=0/\o.node=x
 ·by_cases h2:o'.kind=0/\o'.node=x
  ·rcases hl.one hg with e | ⟨a,e,n,hn⟩
   ·rw[e] at ho;cases ho
   rcases hl.one DB with e' | ⟨a',e',n',hn'⟩
   ·rw[e'] at nk;cases nk
   rw[e,List.mem_singleton] at ho;rw[e',List.mem_singleton] at nk;subst ho nk;have e1:=(opN_make hn h1.1).1;have e2:=(opN_make hn' h2.1).1;rw[h1.2] at e1;rw[h2.2,e1] at e2;have e3:g.s=g'.s:=Prod.ext (congrArg (·.1) e2) (congrArg (·.2.1) e2);cases kG hl.nd g hg g' DB e3;rw[e] at e';cases e';rfl
  rw[if_neg h2,if_pos h1,if_pos h1]
 rw[if_neg h1,if_neg h1]
theorem tdL_tl(on:List aN):tdL (pk on m).a (pk on m).p=tdL (pk on l).a (pk on l).p:=by
 have hm: ∀g∈l,fu g=true:=hl.chk;have hz: ∀k:List au,(∀g∈k,fu g=true)->(pk on k).a.zip (pk on k).p=k.flatMap λg=>(Uo on tl0 g).a.zip (Uo on tl0 g).p:=λk hk=>by
  unfold pk;rw[tlL_flat on k tl0];show(List.flatMap _ k).zip (List.flatMap _ k)=_
  induction k with
  |nil=>rfl
  |cons g k ih=>have hB:=(YY (on:=on) (l:=[g]) (λx hx=>by rw[List.mem_singleton.1 hx];exact hk g (.head _)) 1 (Nat.le_refl _)).1;have hB:(Uo on tl0 g).a.length=(Uo on tl0 g).p.length:=hB;rw[List.flatMap_cons,List.flatMap_cons,List.flatMap_cons,List.zip_append hB];congr 1;exact ih λy hy=>hk y (.tail _ hy)
 refine tdL_perm ?_ ?_
 ·rw[hz l hm,List.map_flatMap];refine nd_flat Jj hl.nd λg hg=> ?_;rcases hl.one hg with e | ⟨o,e,_⟩
  ·have:Uo on tl0 g=tl0:=by unfold Uo;rw[e];rfl
   rw[this];exact⟨.nil,λb hb=>by cases hb⟩
  have:Uo on tl0 g=tlO (decide (g.s∈on)) g.s tl0 o 0:=by unfold Uo;rw[e];rfl
  rw[this];unfold tlO;dsimp only;split
  ·exact⟨by simp[tl0],λb hb=>by simp[tl0] at hb;rw[hb]⟩
  exact⟨.nil,λb hb=>by cases hb⟩
 rw[hz l hm,hz m λg hg=>hm g (hp.mem_iff.1 hg)];exact hp.flatMap_right _
omit hl in
theorem lv_tl(on:List aN):lvX (pk on m).h (pk on m).g=lvX (pk on l).h (pk on l).g:=by unfold pk;rw[tlL_flat,tlL_flat];exact lvX_perm (λd=>(hp.flatMap_right _).mem_iff) λd=>(hp.flatMap_right _).mem_iff
theorem els_perm(x:ak):uD (ku (cZ m x))=uD (ku (cZ l x)):=by
 have mr:(((cZ l x).flatMap elZ).map (·.1)).Nodup:=by
  unfold cZ;rw[List.flatMap_assoc,List.map_flatMap];refine nd_flat Jj hl.nd λg hg=> ?_;rcases hl.one hg with e | ⟨o,e,n,hn⟩
  ·rw[e];exact⟨.nil,λb hb=>by cases hb⟩
  rw[e];have er:qn x [o]=x6 x o:=by simp[qn]
  rw[er];unfold x6;split
  next hk=>
   have he:=qfn hn hk.1;rw[List.flatMap_cons,List.flatMap_nil,List.append_nil];unfold elZ;rw[List.map_map];refine⟨?_,λb hb=> ?_⟩
   ·rw[List.Nodup,List.pairwise_iff_getElem];intro j k hj hk hjk e;simp[mZ] at e;omega
   obtain⟨y,_,rfl⟩:=List.mem_map.1 hb;show Jj (o.elem.1,o.elem.2.1,_)=g.s;rw[he]
  exact⟨.nil,λb hb=>by cases hb⟩
 have hq:((cZ m x).flatMap elZ).Perm ((cZ l x).flatMap elZ):=(hp.flatMap_right _).flatMap_right _;unfold ku;rw[elR_fold,elR_fold,elS_fold ((cZ l x).flatMap elZ) [] mr,elS_fold ((cZ m x).flatMap elZ) [] ((hq.map _).nodup_iff.2 mr)];exact ordX_perm (mr.sublist (List.filter_sublist.map _)) (hq.filter _)
end
theorem view_perm{i:Int}{g h:List au}(hl:n0 i (aC g))(hp:(aC h).Perm (aC g)):gJ h=gJ g/\IV h=IV g:=by
 have ho:gJ h=gJ g:=onX_perm (by rw[sF];exact hl.nd) (hp.map k8);refine⟨ho,?_⟩;have hi:qbW h=qbW g:=by unfold qbW qfQ;rw[ho,dirV_perm hl hp,tdL_tl hl hp,lv_tl hp]
 unfold IV;rw[hi,ho];refine List.map_congr_left λx _=> ?_;unfold x9 qfN n5;rw[els_perm hl hp];have hs:seT (gJ g) (ie (aC h) (gJ g) x.1)=seT (gJ g) (ie (aC g) (gJ g) x.1):=by funext e;have:=(hp.flatMap_right λy=>Ss (decide (y.s∈gJ g)) x.1 y.ops).mem_iff (a:=e.1);unfold seT ie;rw[decide_eq_decide.2 this]
 rw[hs]
abbrev sm5H(a:List aN)(i:Int):S:=⟨26,[(0,mR a),(1,mR a),(5,iD i)],[]⟩
theorem vcSm5N(a:List aN)(i:Int)(ae:PX×S->Prop):(bif decide (i<(↑(List.length (List.map bX a)):Int)) then bif decide ((0:Int)<=i/\i<(↑(List.length (List.map bX a)):Int)) then bif bE PR 27 (D.nth (List.map bX a) (Int.toNat i)) then bif decide ((0:Int)<=i/\i<(↑(List.length (List.map bX a)):Int)) then bif bE PR 27 (D.nth (List.map bX a) (Int.toNat i)) then bif !(D.aj (D.aq (D.nth (List.map bX a) (Int.toNat i)) 0)==D.aj (D.aq (D.nth (List.map bX a) (Int.toNat i)) 0)&&(D.aj (D.aq (D.nth (List.map bX a) (Int.toNat i)) 1)==D.aj (D.aq (D.nth (List.map bX a) (Int.toNat i)) 1)&&true)) then ae (PX.ret,S.mk 26 [(4,P.d (D.bool false))] []) else bif decide ((-9223372036854775808:Int)<=i+(1:Int)/\i+(1:Int)<=(9223372036854775807:Int)) then ae (PX.normal,S.mk 26 [(0,P.d (D.sl 2 (List.map bX a))),(1,P.d (D.sl 2 (List.map bX a))),(5,P.d (D.int .i64 (i+(1:Int))))] []) else False else False else False else False else False else ae (PX.exit 0,S.mk 26 [] []))=(aG [] [] 12 4 (sm5H a i)) ae:=by kernel_rfl
def gSm5:S->K (PX×S):=λst ae=> ∃a,st=sm5H a 0/\a.length<=1000000/\ae (.exit 0,⟨26,[],[]⟩)
theorem vcSm5(a:List aN)(ae:P×List (Nat×En)->Prop):(bif (↑(List.length (List.map bX a)):Int) !=(↑(List.length (List.map bX a)):Int) then ae (P.d (D.bool false),[]) else∃(nZ:List aN),S.mk 26 [(0,P.d (D.sl 2 (List.map bX a))),(1,P.d (D.sl 2 (List.map bX a))),(5,P.d (D.int .i64 (0:Int)))] []=S.mk 26 [(0,P.d (D.sl 2 (List.map bX nZ))),(1,P.d (D.sl 2 (List.map bX nZ))),(5,P.d (D.int .i64 (0:Int)))] []/\List.length nZ<=1000000/\ae (P.d (D.bool true),[]))=(aO [] [(4,ah (aV 12 4) gSm5)] 12 [mR a,mR a] []) ae:=by kernel_rfl
def hSm5:bc:=λps R ae=> ∃a,ps=[mR a,mR a]/\R=[]/\a.length<=1000000/\ae (.d (.bool true),[])
abbrev vr7(tn_:Int)(g h:List au)(i:Int):S:=⟨55,[(1,.d (.int .u8 tn_)),(5,.d (.bool true)),(6,ey g),(7,.sl 0 0 h.length),(8,iD i)],[(0,⟨0,none,xR false h⟩)]⟩
abbrev vr7e(tn_:Int):S:=⟨55,[(1,.d (.int .u8 tn_)),(5,.d (.bool true)),(6,.sl 0 0 0),(7,.sl 1 0 0),(8,iD 0)],[(0,⟨0,none,xR false []⟩),(1,⟨0,none,xR false []⟩)]⟩
def wZo(z:D):D:=D.agg [D.int .i64 (D.aj (D.aq z 0)),D.int .i64 (D.aj (D.aq z 1)),D.int .i64 (D.aj (D.aq z 2)),D.sl 1 (D.gh (D.aq z 3)),D.int .i64 (D.aj (D.aq z 4)),D.int .i64 (D.aj (D.aq z 5)),D.sl 18 (D.gh (D.aq z 6))]
theorem vcVr7(tn_ i:Int)(g h:List au)(ae:PX×S->Prop):(bif decide (i<(↑(List.length (List.map dp g)):Int)) then bif decide ((-9223372036854775808:Int)<=(↑(List.length (List.map dp g)):Int)-(1:Int)/\(↑(List.length (List.map dp g)):Int)-(1:Int)<=(9223372036854775807:Int)) then bif decide ((-9223372036854775808:Int)<=(↑(List.length (List.map dp g)):Int)-(1:Int)-i/\(↑(List.length (List.map dp g)):Int)-(1:Int)-i<=(9223372036854775807:Int)) then bif decide ((-9223372036854775808:Int)<=tn_/\tn_<=(9223372036854775807:Int)) then bif decide ((-9223372036854775808:Int)<=(↑(List.length (List.map dp g)):Int)-(1:Int)-i+tn_/\(↑(List.length (List.map dp g)):Int)-(1:Int)-i+tn_<=(9223372036854775807:Int)) then bif !decide ((↑(List.length (List.map dp g)):Int)=(0:Int)) then bif decide ((0:Int)<=Int.tmod ((↑(List.length (List.map dp g)):Int)-(1:Int)-i+tn_) (↑(List.length (List.map dp g)):Int)/\Int.tmod ((↑(List.length (List.map dp g)):Int)-(1:Int)-i+tn_) (↑(List.length (List.map dp g)):Int)<(↑(List.length (List.map dp g)):Int)) then bif bE PR 31 (D.nth (List.map dp g) (Int.toNat (Int.tmod ((↑(List.length (List.map dp g)):Int)-(1:Int)-i+tn_) (↑(List.length (List.map dp g)):Int)))) then bif Nat.ble (List.length h) (List.length (List.map dp h))&&aB (List.length h+List.length [wZo (D.nth (List.map dp g) (Int.toNat (Int.tmod ((↑(List.length (List.map dp g)):Int)-(1:Int)-i+tn_) (↑(List.length (List.map dp g)):Int))))]) 88 then bif decide ((-9223372036854775808:Int)<=i+(1:Int)/\i+(1:Int)<=(9223372036854775807:Int)) then ae (PX.normal,S.mk 55 [(1,P.d (D.int .u8 tn_)),(5,P.d (D.bool true)),(6,P.d (D.sl 7 (List.map dp g))),(7,P.sl 0 0 (List.length h+List.length [wZo (D.nth (List.map dp g) (Int.toNat (Int.tmod ((↑(List.length (List.map dp g)):Int)-(1:Int)-i+tn_) (↑(List.length (List.map dp g)):Int))))])),(8,P.d (D.int .i64 (i+(1:Int))))] [(0,En.mk 0 none (Obj.arr 31 false (List.take (List.length h) (List.map dp h)++[wZo (D.nth (List.map dp g) (Int.toNat (Int.tmod ((↑(List.length (List.map dp g)):Int)-(1:Int)-i+tn_) (↑(List.length (List.map dp g)):Int))))])))]) else False else False else False else False else False else False else False else False else False else ae (PX.exit 0,S.mk 55 [(5,P.d (D.bool true)),(6,P.d (D.sl 7 (List.map dp g))),(7,P.sl 0 0 (List.length h))] [(0,En.mk 0 none (Obj.arr 31 false (List.map dp h)))]))=(aG [] [] 3 7 (vr7 tn_ g h i)) ae:=by kernel_rfl
theorem vcVr7e(tn_:Int)(ae:PX×S->Prop):(ae (PX.exit 0,S.mk 55 [(5,P.d (D.bool true)),(6,P.sl 0 0 0),(7,P.sl 1 0 0)] [(0,En.mk 0 none (Obj.arr 31 false [])),(1,En.mk 0 none (Obj.arr 31 false []))]))=(aG [] [] 3 7 (vr7e tn_)) ae:=by kernel_rfl
def gVr7:S->K (PX×S):=λs ae=>match s.rg with
 | [_,_]=> ∃tn_,s=vr7e tn_/\ae (.exit 0,⟨55,[(5,.d (.bool true)),(6,.sl 0 0 0),(7,.sl 1 0 0)],[(0,⟨0,none,xR false []⟩),(1,⟨0,none,xR false []⟩)]⟩)
 |_=> ∃tn_ g,s=vr7 tn_ g [] 0/\((0<=tn_/\tn_<256)/\g.length<=1000)/\ ∀h:List au,(∀y∈h,y∈g)->h.length=g.length->ae (.exit 0,⟨55,[(5,.d (.bool true)),(6,ey g),(7,.sl 0 0 h.length)],[(0,⟨0,none,xR false h⟩)]⟩)
def vrT(A B:List D)(ae:P×List (Nat×En)->Prop):Prop:= ∃(l:List au),[P.d (D.sl 7 A)]=[P.d (D.sl 7 (List.map dp l))]/\EqR [] []/\SmT l/\ ∀(e:List sO),e=IV l-> ∃(l:List au),[P.d (D.sl 7 B)]=[P.d (D.sl 7 (List.map dp l))]/\EqR [] []/\SmT l/\ ∀(e_1:List sO),e_1=IV l-> ∃(v:List sO),∃(w:List sO),[P.d (D.sl 3 (List.take (List.length e) (List.map wP e))),P.d (D.sl 3 (List.take (List.length e_1) (List.map wP e_1)))]=[P.d (D.sl 3 (List.map wP v)),P.d (D.sl 3 (List.map wP w))]/\EqR [] []/\List.length v<=3000000/\ ∀(b:Bool),(b=true↔v=w)->bif b then∃(l:List au),[P.d (D.sl 7 A)]=[P.d (D.sl 7 (List.map dp l))]/\EqR [] []/\FI l/\ ∀(o:List aN),o=gJ l-> ∃(l:List au),[P.d (D.sl 7 B)]=[P.d (D.sl 7 (List.map dp l))]/\EqR [] []/\FI l/\ ∀(bC:List aN),bC=gJ l-> ∃(a:List aN),[P.d (D.sl 2 (List.take (List.length o) (List.map bX o))),P.d (D.sl 2 (List.take (List.length bC) (List.map bX bC)))]=[P.d (D.sl 2 (List.map bX a)),P.d (D.sl 2 (List.map bX a))]/\EqR [] []/\List.length a<=1000000/\ae (P.d (D.bool true),[]) else ae (P.d (D.bool false),[])
theorem vcVor(M:List dn)(tn_:Int)(ae:P×List (Nat×En)->Prop):(EqP [] []/\EqR [] []/\ ∃(m:List dn),[P.d (D.sl 6 (List.map zy M))]=[P.d (D.sl 6 (List.map zy m))]/\EqR [] []/\C0 m/\(∃(tn_1:Int),S.mk 55 [(1,P.d (D.int .u8 tn_)),(5,P.d (D.bool true)),(6,P.sl 0 0 0),(7,P.sl 1 0 0),(8,P.d (D.int .i64 (0:Int)))] [(0,En.mk 0 none (Obj.arr 31 false [])),(1,En.mk 0 none (Obj.arr 31 false []))]=S.mk 55 [(1,P.d (D.int .u8 tn_1)),(5,P.d (D.bool true)),(6,P.sl 0 0 0),(7,P.sl 1 0 0),(8,P.d (D.int .i64 (0:Int)))] [(0,En.mk 0 none (Obj.arr 31 false [])),(1,En.mk 0 none (Obj.arr 31 false []))]/\vrT [] [] ae)/\ ∀(g:List au),c7 (16:Int) g->List.Nodup (List.map (λ(x:au)=>au.s x) g)-> ∃(tn_1:Int),∃(bJ:List au),S.mk 55 [(1,P.d (D.int .u8 tn_)),(5,P.d (D.bool true)),(6,P.d (D.sl 7 (List.map dp g))),(7,P.sl 0 0 0),(8,P.d (D.int .i64 (0:Int)))] [(0,En.mk 0 none (Obj.arr 31 false []))]=S.mk 55 [(1,P.d (D.int .u8 tn_1)),(5,P.d (D.bool true)),(6,P.d (D.sl 7 (List.map dp bJ))),(7,P.sl 0 0 0),(8,P.d (D.int .i64 (0:Int)))] [(0,En.mk 0 none (Obj.arr 31 false []))]/\(((0:Int)<=tn_1/\tn_1<(256:Int))/\List.length bJ<=1000)/\ ∀(h:List au),(∀(y:au),y∈h->y∈bJ)->List.length h=List.length bJ->bif Nat.ble (List.length h) (List.length (List.map dp h))&&aB (List.length h+List.length (List.map dp bJ)) 88 then vrT (List.map dp bJ) (List.take (List.length h+List.length (List.map dp bJ)) (List.take (List.length h) (List.map dp h)++List.map dp bJ)) ae else False)=(aO [(8,mY),(9,hHisN),(11,wJ),(10,qbG),(13,IA),(12,hSm5)] [(7,ah (aV 3 7) gVr7)] 3 [.d (.sl 6 (M.map zy)),.d (.int .u8 tn_)] []) ae:=by kernel_rfl
section
variable{X:XF}
theorem loopSm5:LD X 12 4 (ah (aV 12 4) gSm5):=LD.idx .nil .nil
 (A:=List aN) (B:=Unit) (λa _ i=>sm5H a i) (λa=>a.length) (λa _ _=>a.length<=1000000) (λ_ x=>x=(.exit 0,⟨26,[],[]⟩))
 (by
  rintro a _ i ae h0 dE bB hI hn ho
  try dsimp only at*
  rw[<-vcSm5N];have e1:D.nth (a.map bX) i.toNat=bX a[i.toNat]:=aA _ _ _ bB;have hm:i<((a.map bX).length:Int):=by rw[List.length_map];exact dE
  rw[e1];exact dv hm (ar ⟨h0,hm⟩ (ao (ph _) (ar ⟨h0,hm⟩ (ao (ph _) (nN (by simp) (ar (by omega) (hn () hI))))))))
 (by
  rintro a _ i ae hi hI ho
  try dsimp only at*
  rw[<-vcSm5N];exact Cj (by rw[List.length_map];omega) (ho _ (λh=>by cases h) rfl))
 (by rintro st ae ⟨a,rfl,hl,hp⟩;exact⟨a,(),rfl,hl,λx hx=>by rw[hx];exact hp⟩)
theorem okSm5:FD X 12 hSm5:=FD.mk .nil (.cons loopSm5 .nil) (by intro ps R ae hh;obtain⟨a,rfl,rfl,ha,hp⟩:=hh;rw[<-vcSm5];exact nN (by simp) ⟨a,rfl,ha,hp⟩)
def vr7h(a:Int×Option (List au))(h:List au)(k:Int):S:=match a.2 with |none=>vr7e a.1 |some g=>vr7 a.1 g h k
def vr7O(a:Int×Option (List au))(x:PX×S):Prop:=match a.2 with
 |none=>x=(.exit 0,⟨55,[(5,.d (.bool true)),(6,.sl 0 0 0),(7,.sl 1 0 0)],[(0,⟨0,none,xR false []⟩),(1,⟨0,none,xR false []⟩)]⟩)
 |some g=> ∃h:List au,(∀y∈h,y∈g)/\h.length=g.length/\x=(.exit 0,⟨55,[(5,.d (.bool true)),(6,ey g),(7,.sl 0 0 h.length)],[(0,⟨0,none,xR false h⟩)]⟩)
theorem loopVr7:LD X 3 7 (ah (aV 3 7) gVr7):=LD.wk .nil .nil
 (A:=Int×Option (List au)) (B:=List au) vr7h (λa=>(a.2.getD []).length)
 (λa k h=>(∀g,a.2=some g->((0<=a.1/\a.1<256)/\g.length<=1000)/\ ∀y∈h,y∈g)/\(h.length:Int)=k) vr7O
 (by
  rintro⟨tn_,o⟩ h k ae h0 hk ⟨hI,hh⟩ hn bF;cases o with
  |none=>show aG [] [] _ _ (vr7e tn_) ae;rw[<-vcVr7e];exact bF _ _ (λh=>by cases h) rfl
  |some g=>
   obtain⟨⟨ht,hg⟩,hs⟩:=hI g rfl;have hk:k<=g.length:=hk;show aG [] [] _ _ (vr7 tn_ g h k) ae;rw[<-vcVr7,List.length_map];refine b8 (λuK=> ?_) λuK=>bF _ _ (λh=>by cases h) ⟨h,hs,by omega,rfl⟩;have hq:=wI (show(0:Int)<=g.length-1-k+tn_ by omega) (show(0:Int)<g.length by omega);generalize ((g.length:Int)-1-k+tn_).tmod g.length=q at*
   have hqn:q.toNat<g.length:=by omega
   rw[aA dp g q.toNat hqn];have jm:=List.getElem_mem hqn;generalize g[q.toNat]=y at*
   refine ar (by omega) (ar (by omega) (ar (by omega) (ar (by omega) (ao (by rw[decide_eq_false (by omega)];rfl) (ar (by omega) (ao (mS _) (ao (fy rfl (by rw[List.length_map]) (by omega) (by decide)) (ar (by omega) ?_))))))));refine Eq.mp (congrArg (λz=>ae (PX.normal,z)) ?_) (hn (h++[y]) uK ⟨λg' e=> ?_,?_⟩)
   ·show S.mk 55 [(1,P.d (.int .u8 tn_)),(5,.d (.bool true)),(6,ey g),(7,.sl 0 0 (h++[y]).length),(8,iD (k+1))] [(0,⟨0,none,.arr 31 false ((h++[y]).map dp)⟩)]=_;rw[<-bx,List.length_append];rfl
   ·cases e;refine⟨⟨ht,hg⟩,λz hz=> ?_⟩;rcases List.mem_append.1 hz with hz |hz
    ·exact hs z hz
    rw[List.mem_singleton.1 hz];exact jm
   rw[List.length_append];show((h.length+1:Nat):Int)=k+1;omega)
 (by
  rintro s ae hh;unfold gVr7 at hh;split at hh
  ·obtain⟨tn_,rfl,hp⟩:=hh;exact⟨(tn_,none),[],rfl,⟨λg e=>(by cases e),rfl⟩,λx y h=>by rw[show(x,y)=_ from h];exact hp⟩
  obtain⟨tn_,g,rfl,hb,hp⟩:=hh;refine⟨(tn_,some g),[],rfl,⟨λg' e=>by cases e;exact⟨hb,λ_ h=>by cases h⟩,rfl⟩,λx y hx=> ?_⟩;obtain⟨h,h1,h2,h3⟩:=hx;rw[h3];exact hp h h1 h2)
end
theorem vrT_ok{g h:List au}(hg:c7 32 g)(hw:c7 32 h)(hv:gJ h=gJ g/\IV h=IV g){ae:P×List (Nat×En)->Prop}(hp:ae (.d (.bool true),[])):vrT (g.map dp) (h.map dp) ae:=by have h2:=hg.rt.cK;have h3:=hg.rt.len;have h4:=hg.len;have h5:=(MQ (l:=g) (by omega)).1;have h6:=IB g;have k1:=smT_of hg;have k4:=smT_of hw;refine⟨g,rfl,rfl,k1,λe he=>⟨h,rfl,rfl,k4,λe2 I2=>⟨e,e2,by rw[gB,gB],rfl,by rw[he];unfold IV;rw[List.length_map];omega,λb hb=> ?_⟩⟩⟩;have hbt:b=true:=hb.2 (by rw[he,I2,hv.2]);subst hbt;exact⟨g,rfl,rfl,k1.1,λo ho=>⟨h,rfl,rfl,k4.1,λo2 Xb=>⟨o,by rw[gB,gB,Xb,hv.1,ho],rfl,by rw[ho];omega,hp⟩⟩⟩
def hVor:bc:=λps R ae=> ∃m tn_,ps=[.d (.sl 6 (m.map zy)),.d (.int .u8 tn_)]/\R=[]/\(C0 m/\0<=tn_/\tn_<256)/\ae (.d (.bool true),[])
theorem okVor:FD xV6 3 hVor:=FD.mk (.cons qla (.cons okHisN (.cons qk9 (.cons qfY (.cons qqT (.cons okSm5 .nil)))))) (.cons loopVr7 .nil) (by
 intro ps R ae hh;obtain⟨m,tn_,rfl,rfl,⟨hd,h0,h1⟩,hp⟩:=hh;rw[<-vcVor];have hz:c7 32 []:=⟨(λ_ h=>by cases h),by decide⟩
 refine⟨rfl,rfl,m,rfl,rfl,hd,⟨tn_,rfl,vrT_ok hz hz ⟨rfl,rfl⟩ hp⟩,λg hg hn=>⟨tn_,g,rfl,⟨⟨h0,h1⟩,by have:=hg.len;omega⟩,λh hs hl=> ?_⟩⟩;have hgl:=hg.len;have WJ:c7 32 g:=hg.mono (by decide);have hw:c7 32 (h++g):=⟨λy hy=>WJ.sm y (by rcases List.mem_append.1 hy with hy |hy;exact hs y hy;exact hy),by rw[List.length_append];omega⟩
 rw[show List.take (h.length+(g.map dp).length) (List.take h.length (h.map dp)++g.map dp)=(h++g).map dp by rw[gB,<-List.map_append,List.take_of_length_le (by simp)]];exact ao (by rw[Bool.and_eq_true];exact⟨by simp,bP (by rw[List.length_map];omega) (by rw[List.length_map];omega)⟩) (vrT_ok WJ hw (view_perm hg.qiU (right_perm hs hn)) hp))
theorem okVorLawX(xs:List D)(h:ua PR 8 [22,5] xs): ∃lf k R,eL PR (yP xV6) lf k 3 (xs.map P.d) []=some (.d (.bool true),R):=by obtain⟨x,r,rfl,hx,h⟩:=fitAll_cons h;obtain⟨y,r,rfl,hy,h⟩:=fitAll_cons h;have e:=fitAll_nil h;subst e;obtain⟨l,rfl,hl⟩:=qlh hx;obtain⟨n,rfl,h0,h1⟩:=qqV hy;obtain⟨lf,k,hr⟩:=okVor.run (y:=(.d (.bool true),[])) ⟨l,n,rfl,rfl,⟨hl,h0,by omega⟩,rfl⟩;exact⟨lf,k,[],hr⟩
end Pi
