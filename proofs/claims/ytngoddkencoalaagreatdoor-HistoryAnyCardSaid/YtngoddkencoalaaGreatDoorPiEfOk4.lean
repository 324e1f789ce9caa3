/- The text PiEfOk4. -/
import Derived.Test.YtngoddkencoalaaGreatDoorPiSd
namespace Pi
open Go
section
variable {Q:Program} {T:Tg} {F:Nat->Prop} {G:Nat->Value} {w:World} {a:Act} {s:S}
theorem dW.drop {F:Nat->Prop} {w:World} {k:Nat} {es:List D} {xs:List Value} (h:dW F w k es xs) (m:Nat):dW F w k (es.drop m) (xs.drop (m*k)):=by
 refine⟨by rw[List.length_drop,List.length_drop,h.1,Nat.sub_mul],fun i x hx=> ?_⟩
 rw[List.getElem?_drop] at hx
 obtain⟨h1,h2,h3⟩:=h.2 (m+i) x hx
 refine⟨h1,h2,fun j c hc=> ?_⟩
 have:=h3 j c hc
 simp only[List.getD_eq_getElem?_getD] at this⊢
 rw[List.getElem?_drop,<-Nat.add_assoc,<-Nat.add_mul]
 exact this
theorem Bs (h:aB Q T F G w a s) {t2:TypeId} {k:Nat} (fJ:0<k) {p:P} {ys:List D} (hs:ln Q s t2 k p=some ys) {v:Value} (hv:aD F w G s.rg v p):
  ∃news,Src Q k t2 v ys.length news w/\dW F w k ys news:=by
 unfold ln at hs
 split at hs
 ·rename_i n aU len
  split at hs
  ·rename_i ty fz es e' ho yr
   split at hs
   ·rename_i jh
    have hk:sz Q ty=some k:=by simpa using jh
    simp at hs
    subst hs
    obtain⟨e,he,dI,bR⟩:=S.bF ho
    have hO:=h.rg n e he
    rw[bR] at hO
    cases hv with
    |sl _ _ _ _ h1 hr=>
     obtain⟨a0,N,cap,hG,rfl,hle⟩:=hr.at he dI (by rw[bR];rfl)
     rcases hO with⟨hg,rfl⟩| ⟨b,im,cs,k',hg,hh,lK,Tn,zL,yq,cJ,_,hE⟩
     ·rw[hG] at hg
      simp at hg
      obtain⟨rfl,rfl,rfl⟩:=hg
      have:len=0:=by omega
      subst this
      exact⟨[],by simpa using Src.ofNil w yr 0,by simpa using dW.nil F w k⟩
     ·rw[hk] at lK
      cases lK
      rw[hG] at hg
      simp at hg
      obtain⟨rfl,rfl,rfl⟩:=hg
      have NF:es.length*k<=cs.size:=by rw[cJ];exact Nat.mul_le_mul_right _ zL
      have hf:=dW.take hE hle NF
      refine⟨_,?_,hf⟩
      have qp:(es.take len).length=len:=by simp;omega
      rw[qp]
      refine Src.ofSlice w yr ⟨b,0,none⟩ len cap _ (by rw[hf.1,qp]) (fun j u hu=> ?_) (hf.one fJ)
      rw[addr_add,Nat.zero_add,cell_of_row w b j cs ty (0,0) hh]
      rw[List.getElem?_take] at hu
      split at hu
      ·simpa using hu
      ·cases hu
   ·cases hs
  ·cases hs
 ·rename_i n aU k0 off len
  split at hs
  ·rename_i ty fz es e' ho yr
   split at hs
   ·rename_i jh
    rw[Bool.and_eq_true] at jh
    have hk:sz Q ty=some k:=by simpa using jh.1
    have qfP:k0=k:=Nat.eq_of_beq_eq_true jh.2
    subst qfP
    simp at hs
    subst hs
    obtain⟨e,he,dI,bR⟩:=S.bF ho
    have hO:=h.rg n e he
    rw[bR] at hO
    cases hv with
    |kT _ _ _ _ _ _ h1 hr=>
     obtain⟨a0,N,cap,hG,hle,a1,pV,rfl,Nf,hz⟩:=hr.at he dI (by rw[bR];rfl)
     by_cases h0:len=0
     ·subst h0
      refine⟨[],?_,by simpa using dW.nil F w k0⟩
      have:((es.drop off).take 0).length=0:=by simp
      rw[this]
      cases a1 with
      |none=>exact Src.ofNil w yr pV
      |some ad=>exact Src.ofSlice w yr ad 0 pV [] (by simp) (fun j u hu=>by simp at hu) (fun u hu=>by cases hu)
     obtain⟨b0,YO,Ng⟩: ∃b,a0=some ⟨b,0,none⟩/\a1=some ⟨b,off*k0,none⟩:=by
      rcases hz with hz |hz
      ·exact absurd hz h0
      ·exact hz
     subst YO Ng
     rcases hO with⟨hg,rfl⟩| ⟨b,im,cs,k',hg,hh,lK,Tn,zL,yq,cJ,_,hE⟩
     ·rw[hG] at hg
      simp at hg
     ·rw[hk] at lK
      cases lK
      rw[hG] at hg
      simp at hg
      obtain⟨rfl,rfl,rfl⟩:=hg
      have NF:es.length*k0<=cs.size:=by rw[cJ];exact Nat.mul_le_mul_right _ zL
      have hf:=(dW.take hE hle NF).drop off
      have hee:(es.take (off+len)).drop off=(es.drop off).take len:=by rw[List.drop_take,Nat.add_sub_cancel_left]
      rw[hee] at hf
      refine⟨_,?_,hf⟩
      have qp:((es.drop off).take len).length=len:=by simp;omega
      rw[qp]
      refine Src.ofSlice w yr ⟨b0,off*k0,none⟩ len pV _ (by rw[hf.1,qp]) (fun j u hu=> ?_) (hf.one fJ)
      rw[addr_add,cell_of_row w b0 (off*k0+j) cs ty (0,0) hh]
      rw[List.getElem?_drop,List.getElem?_take] at hu
      split at hu
      ·simpa using hu
      ·cases hu
   ·cases hs
  ·cases hs
 ·rename_i k' es
  split at hs
  ·rename_i e' yr
   split at hs
   ·rename_i jh
    have jh:k'=k:=by simpa using jh
    subst jh
    simp at hs
    subst hs
    cases hv with
    |d hv=>
     cases hv with
     |Mm a0 _ cap=>
      refine⟨[],?_,dW.nil F w _⟩
      cases a0 with
      |none=>exact Src.ofNil w yr cap
      |some ad=>exact Src.ofSlice w yr ad 0 cap [] (by simp) (fun j u hu=>by simp at hu) (fun u hu=>by cases hu)
     |Na b off _ cap _ f A9 hb jh bY hw hr=>
      have hf:dW F w k' es ((List.range (es.length*k')).map f):=by
       refine⟨by simp,fun i x hx=> ?_⟩
       have WU:=List.mem_of_getElem? hx
       refine⟨jh x WU,bY x WU,fun j c hc=> ?_⟩
       have hi:i<es.length:=(List.getElem?_eq_some_iff.1 hx).1
       have hj:j<k':=by have h1:=(List.getElem?_eq_some_iff.1 hc).1;have:=jh x WU;omega
       have bk:i*k'+j<es.length*k':=by
        calc i*k'+j<i*k'+k':=by omega
         _=(i+1)*k':=by rw[Nat.add_mul,Nat.one_mul]
         _<=es.length*k':=Nat.mul_le_mul_right _ (by omega)
       have e:((List.range (es.length*k')).map f).getD (i*k'+j) undef=f (i*k'+j):=by
        simp[List.getD_eq_getElem?_getD,bk]
       rw[e]
       exact hr i j x c hx hc
      refine⟨_,?_,hf⟩
      refine Src.ofSlice w yr ⟨b,off,none⟩ es.length cap _ hf.1 (fun j u hu=> ?_) (hf.one fJ)
      rw[List.getElem?_map] at hu
      simp only[Option.map_eq_some_iff] at hu
      obtain⟨m,hm,rfl⟩:=hu
      have Kh:j<es.length*k':=by
       have:=(List.getElem?_eq_some_iff.1 hm).1
       simpa using this
      rw[List.getElem?_range Kh] at hm
      cases hm
      rw[addr_add]
      exact hw j Kh
   ·cases hs
  ·cases hs
 ·split at hs
  ·rename_i e' yr
   simp at hs
   subst hs
   cases hv with
   |d hv=>cases hv;exact⟨[],Src.ofNil w yr 0,dW.nil F w _⟩
  ·cases hs
 ·rename_i l
  split at hs
  ·rename_i yr
   split at hs
   ·rename_i gh
    have gh:k=1:=by simpa using gh
    subst gh
    simp at hs
    subst hs
    cases hv with
    |d hv=>
     cases hv
     refine⟨byteCells ⟨⟨l⟩⟩,?_,?_,fun i x hx=> ?_⟩
     ·have:=Src.ofString w yr ⟨⟨l⟩⟩
      have e:(ByteArray.mk ⟨l⟩).size=(l.map fun b=>D.int .u8 b.toNat).length:=by simp[ByteArray.size]
      rwa [e] at this
     ·rw[byteCells_length];simp[ByteArray.size]
     ·rw[List.getElem?_map] at hx
      simp only[Option.map_eq_some_iff] at hx
      obtain⟨b,hb,rfl⟩:=hx
      refine⟨rfl,fun c hc=>by simp[D.cells] at hc;subst hc;rfl,fun j c hc=> ?_⟩
      cases j with
      |zero=>
       simp[D.cells] at hc
       subst hc
       have e:(byteCells ⟨⟨l⟩⟩).getD (i*1+0) undef= .int .u8 b.toNat:=by
        simp[byteCells,List.getD_eq_getElem?_getD,hb]
       rw[e]
       exact .int _ _
      |succ j=>simp[D.cells] at hc
   ·cases hs
  ·cases hs
 ·cases hs
theorem mO {e:TypeId} {i:TypeInfo} (hi:Q.info? e=some i) {z:D} (hz:dY Q e=some z): ∃zv,i.zero=some zv/\D.sQ zv=some z/\zv.cells.size=z.cells.length:=by
 unfold dY at hz
 rw[hi] at hz
 simp only at hz
 split at hz
 ·rename_i zv Fs
  refine⟨zv,Fs,hz,?_⟩
  have:=(dP (aW.sQ (fun _=>False) default hz)).1
  simpa using this
 ·cases hz
theorem tS (v:Value):(∃a n c,v= .slice a n c)->v.ownBlock=aL v:=by
 rintro⟨a,n,c,rfl⟩
 cases a<;>rfl
theorem tT {F':Nat->Prop} {G':Nat->Value} {w':World} {R':List (Nat×En)} {n:Nat} {e:TypeId} {k:Nat} (hk:sz Q e=some k) (fJ:0<k) {es:List D} {xs:List Value} (ep:w'.ownsRow 0 e k (G' n) es.length xs) (hf:dW F' w' k es xs):
  nR Q F' w' G' R' n (.arr e false es):=by
 rcases ep.2 with⟨hv,hn⟩| ⟨g,cap,cur,hv,_,hg,hnc,yq,hcs,NB⟩
 ·exact .inl ⟨hv,List.eq_nil_of_length_eq_zero hn⟩
 ·exact .inr ⟨g,cap,cur,k,hv,hg,hk,fJ,hnc,yq,hcs,(fun h=>by cases h),dW.toE (by rw[NB];exact hf)⟩
theorem Gk (h:aB Q T F G w a s) {dst:Option Nat} {t t2 ty:TypeId} {p q:P} {s':S} (hs:iC Q s dst t t2 p q=some s') {vx vy:Value} (hx:aD F w G s.rg vx p) (hy:aD F w G s.rg vy q):
  ∃v w' G',(Builtin.append_ #[t,t2] ty #[vx,vy]).run Q w= .ok v w'/\aB Q T F G' w' (a.put dst v) s'/\Ext (Own G s.rg) (Own G' s'.rg) F F w w':=by
 unfold iC at hs
 split at hs
 ·cases hs
 ·rename_i e het
  have ht:=dv het
  split at hs
  ·rename_i i k hi hk
   obtain⟨i',_,sW,_,e8⟩:=fU hk
   have e8:i'.size=k+1:=e8
   have hk:sz Q e=some (k+1):=hk
   rw[hi] at sW
   cases sW
   split at hs
   ·rename_i ys z hys hz
    obtain⟨zv,Fs,_,YW⟩:=mO hi hz
    split at hs
    ·rename_i zO
     have zO:z.cells.length=k+1:=by simpa using zO
     obtain⟨news,yP,eJ⟩:=Bs h (by omega) hys hy
     rw[<-e8] at yP
     split at hs
     ·rename_i n aU len
      split at hs
      ·rename_i en jC
       split at hs
       ·rename_i ty' es bR
        split at hs
        ·rename_i dF
         simp only[Bool.and_eq_true,Nat.ble_eq,aT] at dF
         obtain⟨⟨⟨Kk,Ba⟩,hle⟩,jk,cu⟩:=dF
         have Kk:en.aU=aU:=by simpa using Kk
         have Ba:ty'=e:=by simpa using Ba
         subst Ba
         cases hx with
         |sl _ _ _ _ h1 hr=>
          obtain⟨a0,N,cap,hG,rfl,qfQ⟩:=hr.at jC Kk (by rw[bR];rfl)
          have hO:=h.rg n en jC
          rw[bR] at hO
          have DE: ∃xs,w.ownsRow 0 ty' i.size (.slice a0 len cap) len xs/\dW F w (k+1) (es.take len) xs:=by
           rcases hO with⟨hg,rfl⟩| ⟨b,im,cs,k',hg,hh,lK,Tn,zL,yq,cJ,_,hE⟩
           ·rw[hG] at hg
            simp at hg
            obtain⟨rfl,rfl,rfl⟩:=hg
            have:len=0:=by omega
            subst this
            exact⟨[],World.ownsRow_nil w 0 ty' i.size,by simpa using dW.nil F w (k+1)⟩
           ·rw[hk] at lK
            cases lK
            rw[hG] at hg
            simp at hg
            obtain⟨rfl,rfl,rfl⟩:=hg
            have NF:es.length*(k+1)<=cs.size:=by rw[cJ];exact Nat.mul_le_mul_right _ zL
            have hf:=dW.take hE hle NF
            refine⟨_,⟨?_,.inr ⟨b,cap,cs,rfl,Nat.zero_le _,hh,by omega,yq,by rw[e8];exact cJ,by rw[e8]⟩⟩,hf⟩
            rw[hf.1,e8]
            congr 1
            simp;omega
          obtain⟨xs,ep,hfx⟩:=DE
          obtain⟨v',w',bE,tU,nI,hblk⟩:=oE (ty:=ty) ht hi Fs (by rw[YW,zO,e8]) ep yP (by simpa [maxLen] using cu) jk
          have hbk:Value.ownBlock (.slice a0 len cap)=aL (G n):=by rw[hG];cases a0<;>rfl
          have NG:bu (G n) en.obj=aL (G n):=by rw[bR];simp[bu]
          have YX: ∃a1 n1 c1,v'= .slice a1 n1 c1:=by
           rcases tU.2 with⟨hv,_⟩| ⟨g,YY,cur,hv,_⟩
           ·exact⟨_,_,_,hv⟩
           ·exact⟨_,_,_,hv⟩
          have r7:(es.take len++ys).length=len+ys.length:=by simp;omega
          have NH: ∀c,F c->w'.heap[c]?=w.heap[c]?:=fun c hc=>nI.block c (h.iR c hc) (fun e'=>by
           rw[hbk] at e'
           exact h.lr n en c jC (by rw[NG];exact e'.symm) hc)
          obtain⟨d1,d2⟩:=h.mn (n:=n) (e1:=⟨aU+1,none,.arr ty' false (es.take len++ys)⟩) (g1:=v') (w':=w') (hdr:=pC _ bE) (fun e' cF=>by rw[jC] at cF;cases cF;exact .inl (by simp[Kk]))
           (fun c hc b9=>nI.block c hc (fun e'=>b9 ⟨en,jC,by rw[NG,<-hbk];exact e'.symm⟩)) nI.size nI.os nI.tape nI.output
           (fun c hc=>by
            simp only[bu] at hc
            rw[<-tS v' YX] at hc
            rcases hblk c (by simpa using hc) with h2 |h2
            ·exact .inl h2
            ·exact .inr ⟨en,jC,by rw[NG,<-hbk];exact h2⟩)
           (tT hk (by omega) (by rw[aZ,r7,<-e8];exact tU) ((hfx.mono (fun _ h=>h) NH).append (eJ.mono (fun _ h=>h) NH)))
           (fun i hi=>by cases hi)
          have gG: ∃a1 c1,v'= .slice a1 (len+ys.length) c1:=by
           rcases tU.2 with⟨hv,hn0⟩| ⟨g,YY,cur,hv,_⟩
           ·exact⟨none,0,by rw[hv,hn0]⟩
           ·exact⟨_,_,hv⟩
          obtain⟨a1,cp1,gG⟩:=gG
          obtain⟨c1,c2⟩:=ct d1 hs (v:=v') (cr.of (.sl n (aU+1) (len+ys.length) v' (by rw[gG];rfl) ⟨_,bA _ _ _,Nat.le_refl _,fun _ _=>⟨_,_,_,by rw[aZ];exact gG,gG,Nat.le_refl _⟩⟩))
          refine⟨v',w',_,bE,c1,?_⟩
          rw[c2]
          exact d2
        ·cases hs
       ·cases hs
      ·cases hs
     ·split at hs
      ·rename_i nH
       simp only[Bool.and_eq_true,Nat.ble_eq,aT] at nH
       obtain⟨jk,cu⟩:=nH
       split at hs
       ·rename_i s1 v hn
        cases hx with
        |d hx=>
         cases hx
         obtain⟨v',w',bE,tU,nI,hblk⟩:=oE (ty:=ty) ht hi Fs (by rw[YW,zO,e8]) (World.ownsRow_nil w 0 e i.size) yP (by simpa [maxLen] using cu) (by simpa using jk)
         have YX: ∃a1 n1 c1,v'= .slice a1 n1 c1:=by
          rcases tU.2 with⟨hv,_⟩| ⟨g,YY,cur,hv,_⟩
          ·exact⟨_,_,_,hv⟩
          ·exact⟨_,_,_,hv⟩
         have eA: ∀c,c<w.heap.size->w'.heap[c]?=w.heap[c]?:=fun c hc=>nI.block c hc (by simp[Value.ownBlock])
         have hf:=(eJ.mono (F':=F) (w':=w') (fun _ h=>h) (fun c hc=>eA c (h.iR c hc)))
         simp only[Nat.zero_add,List.nil_append] at tU
         obtain⟨b1,b2,b3,b4⟩:=lv h hn (g1:=v') (w':=w') (hdr:=pC _ bE) eA nI.size nI.os nI.tape nI.output
          (fun c hc=>by
           simp only[bu] at hc
           rw[<-tS v' YX] at hc
           rcases hblk c (by simpa using hc) with h2 |h2
           ·exact h2
           ·simp[Value.ownBlock] at h2)
          (tT hk (by omega) (by rw[aZ,<-e8];exact tU) hf)
         have gG: ∃a1 c1,v'= .slice a1 ys.length c1:=by
          rcases tU.2 with⟨hv,hn0⟩| ⟨g,YY,cur,hv,_⟩
          ·exact⟨none,0,by rw[hv,hn0]⟩
          ·exact⟨_,_,hv⟩
         obtain⟨a1,cp1,gG⟩:=gG
         obtain⟨c1,c2⟩:=ct b1 hs (v:=v') (cr.of (.sl (site dst) v ys.length v' (by rw[gG];rfl) ⟨_,b4,Nat.le_refl _,fun _ _=>⟨_,_,_,by rw[aZ];exact gG,gG,Nat.le_refl _⟩⟩))
         refine⟨v',w',_,bE,c1,?_⟩
         rw[c2]
         exact b2
       ·cases hs
      ·cases hs
     ·cases hs
    ·cases hs
   ·cases hs
  ·cases hs
end
end Pi
