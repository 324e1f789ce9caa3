/- The text PiEfOk4. -/
import Derived.Test.YtngoddkencoalaaGreatDoorPiSd
namespace Pi
open Go
section
variable {Q:Program} {T:Tg} {F:Nat->Prop} {G:Nat->Value} {w:World} {a:Act} {s:S}
theorem er.drop {F:Nat->Prop} {w:World} {k:Nat} {es:List D} {xs:List Value} (h:er F w k es xs) (m:Nat):er F w k (es.drop m) (xs.drop (m*k)):=by
 refine⟨by rw[zbc,zbc,h.1,Nat.sub_mul],fun i x hx=> ?_⟩
 rw[zbw] at hx
 obtain⟨h1,h2,h3⟩:=h.2 (m+i) x hx
 refine⟨h1,h2,fun j c hc=> ?_⟩
 have:=h3 j c hc
 simp only[zac] at this⊢
 rw[zbw,<-zbA,<-zaT]
 exact this
theorem Cn (h:aC Q T F G w a s) {t2:TypeId} {k:Nat} (gm:0<k) {p:P} {ys:List D} (hs:l7 Q s t2 k p=some ys) {v:Value} (hv:aF F w G s.rg v p):
  ∃news,Src Q k t2 v ys.length news w/\er F w k ys news:=by
 unfold l7 at hs
 split at hs
 ·rename_i n aX len
  split at hs
  ·rename_i ty fz es e' ho zK
   split at hs
   ·rename_i jH
    have hk:sz Q ty=some k:=by simpa using jH
    simp at hs
    subst hs
    obtain⟨e,he,dP,bV⟩:=S.bH ho
    have hO:=h.rg n e he
    rw[bV] at hO
    cases hv with
    |sl _ _ _ _ h1 hr=>
     obtain⟨a0,N,cap,hG,rfl,hle⟩:=hr.at he dP (by rw[bV];rfl)
     rcases hO with⟨hg,rfl⟩| ⟨b,iJ,cs,k',hg,hh,mr,V0,GS,zb,dq,_,hE⟩
     ·rw[hG] at hg
      simp at hg
      obtain⟨rfl,rfl,rfl⟩:=hg
      have:len=0:=by omega
      subst this
      exact⟨[],by simpa using Src.ofNil w zK 0,by simpa using er.nil F w k⟩
     ·rw[hk] at mr
      cases mr
      rw[hG] at hg
      simp at hg
      obtain⟨rfl,rfl,rfl⟩:=hg
      have Pr:es.length*k<=cs.size:=by rw[dq];exact zaq _ GS
      have hf:=er.take hE hle Pr
      refine⟨_,?_,hf⟩
      have qp:(es.take len).length=len:=by simp;omega
      rw[qp]
      refine Src.ofSlice w zK ⟨b,0,none⟩ len cap _ (by rw[hf.1,qp]) (fun j u hu=> ?_) (hf.one gm)
      rw[addr_add,zaF,cell_of_row w b j cs ty (0,0) hh]
      rw[zbe] at hu
      split at hu
      ·simpa using hu
      ·cases hu
   ·cases hs
  ·cases hs
 ·rename_i n aX k0 off len
  split at hs
  ·rename_i ty fz es e' ho zK
   split at hs
   ·rename_i jH
    rw[zab] at jH
    have hk:sz Q ty=some k:=by simpa using jH.1
    have qhC:k0=k:=zaf jH.2
    subst qhC
    simp at hs
    subst hs
    obtain⟨e,he,dP,bV⟩:=S.bH ho
    have hO:=h.rg n e he
    rw[bV] at hO
    cases hv with
    |lC _ _ _ _ _ _ h1 hr=>
     obtain⟨a0,N,cap,hG,hle,a1,qn,rfl,O4,hz⟩:=hr.at he dP (by rw[bV];rfl)
     by_cases h0:len=0
     ·subst h0
      refine⟨[],?_,by simpa using er.nil F w k0⟩
      have:((es.drop off).take 0).length=0:=by simp
      rw[this]
      cases a1 with
      |none=>exact Src.ofNil w zK qn
      |some ad=>exact Src.ofSlice w zK ad 0 qn [] (by simp) (fun j u hu=>by simp at hu) (fun u hu=>by cases hu)
     obtain⟨b0,ha0,O5⟩: ∃b,a0=some ⟨b,0,none⟩/\a1=some ⟨b,off*k0,none⟩:=by
      rcases hz with hz |hz
      ·exact absurd hz h0
      ·exact hz
     subst ha0 O5
     rcases hO with⟨hg,rfl⟩| ⟨b,iJ,cs,k',hg,hh,mr,V0,GS,zb,dq,_,hE⟩
     ·rw[hG] at hg
      simp at hg
     ·rw[hk] at mr
      cases mr
      rw[hG] at hg
      simp at hg
      obtain⟨rfl,rfl,rfl⟩:=hg
      have Pr:es.length*k0<=cs.size:=by rw[dq];exact zaq _ GS
      have hf:=(er.take hE hle Pr).drop off
      have hee:(es.take (off+len)).drop off=(es.drop off).take len:=by rw[zcH,Nat.add_sub_cancel_left]
      rw[hee] at hf
      refine⟨_,?_,hf⟩
      have qp:((es.drop off).take len).length=len:=by simp;omega
      rw[qp]
      refine Src.ofSlice w zK ⟨b0,off*k0,none⟩ len qn _ (by rw[hf.1,qp]) (fun j u hu=> ?_) (hf.one gm)
      rw[addr_add,cell_of_row w b0 (off*k0+j) cs ty (0,0) hh]
      rw[zbw,zbe] at hu
      split at hu
      ·simpa using hu
      ·cases hu
   ·cases hs
  ·cases hs
 ·rename_i k' es
  split at hs
  ·rename_i e' zK
   split at hs
   ·rename_i jH
    have jH:k'=k:=by simpa using jH
    subst jH
    simp at hs
    subst hs
    cases hv with
    |d hv=>
     cases hv with
     |N4 a0 _ cap=>
      refine⟨[],?_,er.nil F w _⟩
      cases a0 with
      |none=>exact Src.ofNil w zK cap
      |some ad=>exact Src.ofSlice w zK ad 0 cap [] (by simp) (fun j u hu=>by simp at hu) (fun u hu=>by cases hu)
     |O0 b off _ cap _ f B9 hb jH ca hw hr=>
      have hf:er F w k' es ((List.range (es.length*k')).map f):=by
       refine⟨by simp,fun i x hx=> ?_⟩
       have hxm:=zaC hx
       refine⟨jH x hxm,ca x hxm,fun j c hc=> ?_⟩
       have hi:i<es.length:=(zad.1 hx).1
       have hj:j<k':=by have h1:=(zad.1 hc).1;have:=jH x hxm;omega
       have bG:i*k'+j<es.length*k':=by
        calc i*k'+j<i*k'+k':=by omega
         _=(i+1)*k':=by rw[zaT,zbr]
         _<=es.length*k':=zaq _ (by omega)
       have e:((List.range (es.length*k')).map f).getD (i*k'+j) undef=f (i*k'+j):=by
        simp[zac,bG]
       rw[e]
       exact hr i j x c hx hc
      refine⟨_,?_,hf⟩
      refine Src.ofSlice w zK ⟨b,off,none⟩ es.length cap _ hf.1 (fun j u hu=> ?_) (hf.one gm)
      rw[zaJ] at hu
      simp only[zaw] at hu
      obtain⟨m,hm,rfl⟩:=hu
      have VZ:j<es.length*k':=by
       have:=(zad.1 hm).1
       simpa using this
      rw[zcc VZ] at hm
      cases hm
      rw[addr_add]
      exact hw j VZ
   ·cases hs
  ·cases hs
 ·split at hs
  ·rename_i e' zK
   simp at hs
   subst hs
   cases hv with
   |d hv=>cases hv;exact⟨[],Src.ofNil w zK 0,er.nil F w _⟩
  ·cases hs
 ·rename_i l
  split at hs
  ·rename_i zK
   split at hs
   ·rename_i fW
    have fW:k=1:=by simpa using fW
    subst fW
    simp at hs
    subst hs
    cases hv with
    |d hv=>
     cases hv
     refine⟨byteCells ⟨⟨l⟩⟩,?_,?_,fun i x hx=> ?_⟩
     ·have:=Src.ofString w zK ⟨⟨l⟩⟩
      have e:(ByteArray.mk ⟨l⟩).size=(l.map fun b=>D.int .u8 b.toNat).length:=by simp[ByteArray.size]
      rwa [e] at this
     ·rw[byteCells_length];simp[ByteArray.size]
     ·rw[zaJ] at hx
      simp only[zaw] at hx
      obtain⟨b,hb,rfl⟩:=hx
      refine⟨rfl,fun c hc=>by simp[D.cells] at hc;subst hc;rfl,fun j c hc=> ?_⟩
      cases j with
      |zero=>
       simp[D.cells] at hc
       subst hc
       have e:(byteCells ⟨⟨l⟩⟩).getD (i*1+0) undef= .int .u8 b.toNat:=by
        simp[byteCells,zac,hb]
       rw[e]
       exact .int _ _
      |succ j=>simp[D.cells] at hc
   ·cases hs
  ·cases hs
 ·cases hs
theorem nA {e:TypeId} {i:TypeInfo} (hi:Q.info? e=some i) {z:D} (hz:ey Q e=some z): ∃zv,i.zero=some zv/\D.tF zv=some z/\zv.cells.size=z.cells.length:=by
 unfold ey at hz
 rw[hi] at hz
 simp only at hz
 split at hz
 ·rename_i zv J8
  refine⟨zv,J8,hz,?_⟩
  have:=(dW (a7.tF (fun _=>False) default hz)).1
  simpa using this
 ·cases hz
theorem uH (v:Value):(∃a n c,v= .slice a n c)->v.ownBlock=aQ v:=by
 rintro⟨a,n,c,rfl⟩
 cases a<;>rfl
theorem uI {F':Nat->Prop} {G':Nat->Value} {w':World} {R':List (Nat×En)} {n:Nat} {e:TypeId} {k:Nat} (hk:sz Q e=some k) (gm:0<k) {es:List D} {xs:List Value} (fU:w'.ownsRow 0 e k (G' n) es.length xs) (hf:er F' w' k es xs):
  ot Q F' w' G' R' n (.arr e false es):=by
 rcases fU.2 with⟨hv,hn⟩| ⟨g,cap,cur,hv,_,hg,hnc,zb,hcs,Pp⟩
 ·exact .inl ⟨hv,zax hn⟩
 ·exact .inr ⟨g,cap,cur,k,hv,hg,hk,gm,hnc,zb,hcs,(fun h=>by cases h),er.toE (by rw[Pp];exact hf)⟩
theorem HR (h:aC Q T F G w a s) {dst:Option Nat} {t t2 ty:TypeId} {p q:P} {s':S} (hs:iZ Q s dst t t2 p q=some s') {vx vy:Value} (hx:aF F w G s.rg vx p) (hy:aF F w G s.rg vy q):
  ∃v w' G',(Builtin.append_ #[t,t2] ty #[vx,vy]).run Q w= .ok v w'/\aC Q T F G' w' (a.put dst v) s'/\Ext (Own G s.rg) (Own G' s'.rg) F F w w':=by
 unfold iZ at hs
 split at hs
 ·cases hs
 ·rename_i e het
  have ht:=dC het
  split at hs
  ·rename_i i k hi hk
   obtain⟨i',_,xh,_,fK⟩:=gl hk
   have fK:i'.size=k+1:=fK
   have hk:sz Q e=some (k+1):=hk
   rw[hi] at xh
   cases xh
   split at hs
   ·rename_i ys z hys hz
    obtain⟨zv,J8,_,hzs⟩:=nA hi hz
    split at hs
    ·rename_i AN
     have AN:z.cells.length=k+1:=by simpa using AN
     obtain⟨news,zL,fX⟩:=Cn h (by omega) hys hy
     rw[<-fK] at zL
     split at hs
     ·rename_i n aX len
      split at hs
      ·rename_i en mF
       split at hs
       ·rename_i ty' es bV
        split at hs
        ·rename_i ff
         simp only[zab,zbZ,aN] at ff
         obtain⟨⟨⟨Ps,Ca⟩,hle⟩,jJ,cm⟩:=ff
         have Ps:en.aX=aX:=by simpa using Ps
         have Ca:ty'=e:=by simpa using Ca
         subst Ca
         cases hx with
         |sl _ _ _ _ h1 hr=>
          obtain⟨a0,N,cap,hG,rfl,qhD⟩:=hr.at mF Ps (by rw[bV];rfl)
          have hO:=h.rg n en mF
          rw[bV] at hO
          have EG: ∃xs,w.ownsRow 0 ty' i.size (.slice a0 len cap) len xs/\er F w (k+1) (es.take len) xs:=by
           rcases hO with⟨hg,rfl⟩| ⟨b,iJ,cs,k',hg,hh,mr,V0,GS,zb,dq,_,hE⟩
           ·rw[hG] at hg
            simp at hg
            obtain⟨rfl,rfl,rfl⟩:=hg
            have:len=0:=by omega
            subst this
            exact⟨[],World.ownsRow_nil w 0 ty' i.size,by simpa using er.nil F w (k+1)⟩
           ·rw[hk] at mr
            cases mr
            rw[hG] at hg
            simp at hg
            obtain⟨rfl,rfl,rfl⟩:=hg
            have Pr:es.length*(k+1)<=cs.size:=by rw[dq];exact zaq _ GS
            have hf:=er.take hE hle Pr
            refine⟨_,⟨?_,.inr ⟨b,cap,cs,rfl,za5 _,hh,by omega,zb,by rw[fK];exact dq,by rw[fK]⟩⟩,hf⟩
            rw[hf.1,fK]
            congr 1
            simp;omega
          obtain⟨xs,fU,hfx⟩:=EG
          obtain⟨v',w',bX,uJ,ob,hblk⟩:=pg (ty:=ty) ht hi J8 (by rw[hzs,AN,fK]) fU zL (by simpa [maxLen] using cm) jJ
          have hbk:Value.ownBlock (.slice a0 len cap)=aQ (G n):=by rw[hG];cases a0<;>rfl
          have Pt:bF (G n) en.obj=aQ (G n):=by rw[bV];simp[bF]
          have qby: ∃a1 n1 c1,v'= .slice a1 n1 c1:=by
           rcases uJ.2 with⟨hv,_⟩| ⟨g,qbz,cur,hv,_⟩
           ·exact⟨_,_,_,hv⟩
           ·exact⟨_,_,_,hv⟩
          have sw:(es.take len++ys).length=len+ys.length:=by simp;omega
          have Pu: ∀c,F c->w'.heap[c]?=w.heap[c]?:=fun c hc=>ob.block c (h.jm c hc) (fun e'=>by
           rw[hbk] at e'
           exact h.mq n en c mF (by rw[Pt];exact e'.symm) hc)
          obtain⟨d1,d2⟩:=h.mY (n:=n) (e1:=⟨aX+1,none,.arr ty' false (es.take len++ys)⟩) (g1:=v') (w':=w') (hdr:=qa _ bX) (fun e' cI=>by rw[mF] at cI;cases cI;exact .inl (by simp[Ps]))
           (fun c hc bZ=>ob.block c hc (fun e'=>bZ ⟨en,mF,by rw[Pt,<-hbk];exact e'.symm⟩)) ob.size ob.os ob.tape ob.output
           (fun c hc=>by
            simp only[bF] at hc
            rw[<-uH v' qby] at hc
            rcases hblk c (by simpa using hc) with h2 |h2
            ·exact .inl h2
            ·exact .inr ⟨en,mF,by rw[Pt,<-hbk];exact h2⟩)
           (uI hk (by omega) (by rw[a8,sw,<-fK];exact uJ) ((hfx.mono (fun _ h=>h) Pu).append (fX.mono (fun _ h=>h) Pu)))
           (fun i hi=>by cases hi)
          have gX: ∃a1 c1,v'= .slice a1 (len+ys.length) c1:=by
           rcases uJ.2 with⟨hv,hn0⟩| ⟨g,qbz,cur,hv,_⟩
           ·exact⟨none,0,by rw[hv,hn0]⟩
           ·exact⟨_,_,hv⟩
          obtain⟨a1,cp1,gX⟩:=gX
          obtain⟨c1,c2⟩:=cv d1 hs (v:=v') (ct.of (.sl n (aX+1) (len+ys.length) v' (by rw[gX];rfl) ⟨_,bA _ _ _,zaj _,fun _ _=>⟨_,_,_,by rw[a8];exact gX,gX,zaj _⟩⟩))
          refine⟨v',w',_,bX,c1,?_⟩
          rw[c2]
          exact d2
        ·cases hs
       ·cases hs
      ·cases hs
     ·split at hs
      ·rename_i oa
       simp only[zab,zbZ,aN] at oa
       obtain⟨jJ,cm⟩:=oa
       split at hs
       ·rename_i s1 v hn
        cases hx with
        |d hx=>
         cases hx
         obtain⟨v',w',bX,uJ,ob,hblk⟩:=pg (ty:=ty) ht hi J8 (by rw[hzs,AN,fK]) (World.ownsRow_nil w 0 e i.size) zL (by simpa [maxLen] using cm) (by simpa using jJ)
         have qby: ∃a1 n1 c1,v'= .slice a1 n1 c1:=by
          rcases uJ.2 with⟨hv,_⟩| ⟨g,qbz,cur,hv,_⟩
          ·exact⟨_,_,_,hv⟩
          ·exact⟨_,_,_,hv⟩
         have eJ: ∀c,c<w.heap.size->w'.heap[c]?=w.heap[c]?:=fun c hc=>ob.block c hc (by simp[Value.ownBlock])
         have hf:=(fX.mono (F':=F) (w':=w') (fun _ h=>h) (fun c hc=>eJ c (h.jm c hc)))
         simp only[zaF,zbh] at uJ
         obtain⟨b1,b2,b3,b4⟩:=mb h hn (g1:=v') (w':=w') (hdr:=qa _ bX) eJ ob.size ob.os ob.tape ob.output
          (fun c hc=>by
           simp only[bF] at hc
           rw[<-uH v' qby] at hc
           rcases hblk c (by simpa using hc) with h2 |h2
           ·exact h2
           ·simp[Value.ownBlock] at h2)
          (uI hk (by omega) (by rw[a8,<-fK];exact uJ) hf)
         have gX: ∃a1 c1,v'= .slice a1 ys.length c1:=by
          rcases uJ.2 with⟨hv,hn0⟩| ⟨g,qbz,cur,hv,_⟩
          ·exact⟨none,0,by rw[hv,hn0]⟩
          ·exact⟨_,_,hv⟩
         obtain⟨a1,cp1,gX⟩:=gX
         obtain⟨c1,c2⟩:=cv b1 hs (v:=v') (ct.of (.sl (site dst) v ys.length v' (by rw[gX];rfl) ⟨_,b4,zaj _,fun _ _=>⟨_,_,_,by rw[a8];exact gX,gX,zaj _⟩⟩))
         refine⟨v',w',_,bX,c1,?_⟩
         rw[c2]
         exact b2
       ·cases hs
      ·cases hs
     ·cases hs
    ·cases hs
   ·cases hs
  ·cases hs
end
end Pi
