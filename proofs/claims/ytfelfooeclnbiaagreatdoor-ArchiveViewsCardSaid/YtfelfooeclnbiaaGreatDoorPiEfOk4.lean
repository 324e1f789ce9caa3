/- The text PiEfOk4. -/
import Derived.Test.YtfelfooeclnbiaaGreatDoorPiSd
namespace Pi
open Go
section
variable{Q:Program}{T:Tg}{F:Nat->Prop}{G:Nat->Value}{w:World}{a:Act}{s:S}
theorem dT.drop{F:Nat->Prop}{w:World}{k:Nat}{es:List D}{xs:List Value}(h:dT F w k es xs)(m:Nat):dT F w k (es.drop m) (xs.drop (m*k)):=by refine⟨by rw[za0,za0,h.1,Nat.sub_mul],λi x hx=> ?_⟩;rw[zca] at hx;obtain⟨h1,h2,h3⟩:=h.2 (m+i) x hx;refine⟨h1,h2,λj c hc=> ?_⟩;have:=h3 j c hc;simp only[zab] at this⊢;rw[zca,<-zbH,<-zaR];exact this
theorem Cj(h:aB Q T F G w a s){t2:TypeId}{k:Nat}(kq:0<k){p:P}{ys:List D}(hs:lW Q s t2 k p=some ys){v:Value}(hv:aF F w G s.rg v p):
  ∃news,Src Q k t2 v ys.length news w/\dT F w k ys news:=by
 unfold lW at hs;split at hs
 next n aR len=>
  split at hs
  next ty fz es e' ho AO=>
   split at hs
   ·rename_i jG;have hk:sz Q ty=some k:=by simpa using jG
    simp at hs;subst hs;obtain⟨e,he,dw,bH⟩:=S.bw ho;have hO:=h.rg n e he;rw[bH] at hO;cases hv with
    |sl _ _ _ _ h1 hr=>
     obtain⟨a0,N,cap,hG,rfl,hle⟩:=hr.at he dw (by rw[bH];rfl);rcases hO with⟨hg,rfl⟩| ⟨b,ig,cs,k',hg,hh,mY,Wd,Hk,tL,cM,_,hE⟩
     ·rw[hG] at hg;simp at hg;obtain⟨rfl,rfl,rfl⟩:=hg;have:len=0:=by omega
      subst this;exact⟨[],by simpa using Src.ofNil w AO 0,by simpa using dT.nil F w k⟩
     rw[hk] at mY;cases mY;rw[hG] at hg;simp at hg;obtain⟨rfl,rfl,rfl⟩:=hg;have PF:es.length*k<=cs.size:=by rw[cM];exact zao _ Hk
     have hf:=dT.take hE hle PF;refine⟨_,?_,hf⟩;have sC:(es.take len).length=len:=by simp;omega
     rw[sC];refine Src.ofSlice w AO ⟨b,0,none⟩ len cap _ (by rw[hf.1,sC]) (λj u hu=> ?_) (hf.one kq);rw[addr_add,zaI,cell_of_row w b j cs ty (0,0) hh];rw[zbr] at hu;split at hu
     ·simpa using hu
     cases hu
   cases hs
  cases hs
 next n aR k0 off len=>
  split at hs
  next ty fz es e' ho AO=>
   split at hs
   ·rename_i jG;rw[zad] at jG;have hk:sz Q ty=some k:=by simpa using jG.1
    have qhD:k0=k:=zah jG.2;subst qhD;simp at hs;subst hs;obtain⟨e,he,dw,bH⟩:=S.bw ho;have hO:=h.rg n e he;rw[bH] at hO;cases hv with
    |lu _ _ _ _ _ _ h1 hr=>
     obtain⟨a0,N,cap,hG,hle,a1,qo,rfl,Pm,hz⟩:=hr.at he dw (by rw[bH];rfl);by_cases h0:len=0
     ·subst h0;refine⟨[],?_,by simpa using dT.nil F w k0⟩;have:((es.drop off).take 0).length=0:=by simp
      rw[this];cases a1 with
      |none=>exact Src.ofNil w AO qo
      |some ad=>exact Src.ofSlice w AO ad 0 qo [] (by simp) (λj u hu=>by simp at hu) (λu hu=>by cases hu)
     obtain⟨b0,ha0,Pn⟩: ∃b,a0=some ⟨b,0,none⟩/\a1=some ⟨b,off*k0,none⟩:=by
      rcases hz with hz |hz
      ·exact absurd hz h0
      exact hz
     subst ha0 Pn;rcases hO with⟨hg,rfl⟩| ⟨b,ig,cs,k',hg,hh,mY,Wd,Hk,tL,cM,_,hE⟩
     ·rw[hG] at hg;simp at hg
     rw[hk] at mY;cases mY;rw[hG] at hg;simp at hg;obtain⟨rfl,rfl,rfl⟩:=hg;have PF:es.length*k0<=cs.size:=by rw[cM];exact zao _ Hk
     have hf:=(dT.take hE hle PF).drop off;have hee:(es.take (off+len)).drop off=(es.drop off).take len:=by rw[zcP,Nat.add_sub_cancel_left]
     rw[hee] at hf;refine⟨_,?_,hf⟩;have sC:((es.drop off).take len).length=len:=by simp;omega
     rw[sC];refine Src.ofSlice w AO ⟨b0,off*k0,none⟩ len qo _ (by rw[hf.1,sC]) (λj u hu=> ?_) (hf.one kq);rw[addr_add,cell_of_row w b0 (off*k0+j) cs ty (0,0) hh];rw[zca,zbr] at hu;split at hu
     ·simpa using hu
     cases hu
   cases hs
  cases hs
 next k' es=>
  split at hs
  next e' AO=>
   split at hs
   ·rename_i jG;have jG:k'=k:=by simpa using jG
    subst jG;simp at hs;subst hs;cases hv with
    |d hv=>
     cases hv with
     |Oe a0 _ cap=>
      refine⟨[],?_,dT.nil F w _⟩;cases a0 with
      |none=>exact Src.ofNil w AO cap
      |some ad=>exact Src.ofSlice w AO ad 0 cap [] (by simp) (λj u hu=>by simp at hu) (λu hu=>by cases hu)
     |Pg b off _ cap _ f zC hb jG bU hw hr=>
      have hf:dT F w k' es ((List.range (es.length*k')).map f):=by
       refine⟨by simp,λi x hx=> ?_⟩;have hxm:=zaz hx;refine⟨jG x hxm,bU x hxm,λj c hc=> ?_⟩;have hi:i<es.length:=(zae.1 hx).1;have hj:j<k':=by have h1:=(zae.1 hc).1;have:=jG x hxm;omega
       have bz:i*k'+j<es.length*k':=by
        calc i*k'+j<i*k'+k':=by omega
         _=(i+1)*k':=by rw[zaR,zbz]
         _<=es.length*k':=zao _ (by omega)
       have e:((List.range (es.length*k')).map f).getD (i*k'+j) undef=f (i*k'+j):=by simp[zab,bz]
       rw[e];exact hr i j x c hx hc
      refine⟨_,?_,hf⟩;refine Src.ofSlice w AO ⟨b,off,none⟩ es.length cap _ hf.1 (λj u hu=> ?_) (hf.one kq);rw[zaD] at hu;simp only[zav] at hu;obtain⟨m,hm,rfl⟩:=hu;have hml:j<es.length*k':=by have:=(zae.1 hm).1;simpa using this
      rw[List.getElem?_range hml] at hm;cases hm;rw[addr_add];exact hw j hml
   cases hs
  cases hs
 ·split at hs
  next e' AO=>
   simp at hs;subst hs;cases hv with
   |d hv=>cases hv;exact⟨[],Src.ofNil w AO 0,dT.nil F w _⟩
  cases hs
 next l=>
  split at hs
  next AO=>
   split at hs
   ·rename_i gJ;have gJ:k=1:=by simpa using gJ
    subst gJ;simp at hs;subst hs;cases hv with
    |d hv=>
     cases hv;refine⟨byteCells ⟨⟨l⟩⟩,?_,?_,λi x hx=> ?_⟩
     ·have:=Src.ofString w AO ⟨⟨l⟩⟩;have e:(ByteArray.mk ⟨l⟩).size=(l.map λb=>D.int .u8 b.toNat).length:=by simp[ByteArray.size]
      rwa [e] at this
     ·rw[byteCells_length];simp[ByteArray.size]
     rw[zaD] at hx;simp only[zav] at hx;obtain⟨b,hb,rfl⟩:=hx;refine⟨rfl,λc hc=>by simp[D.cells] at hc;subst hc;rfl,λj c hc=> ?_⟩;cases j with
     |zero=>
      simp[D.cells] at hc;subst hc;have e:(byteCells ⟨⟨l⟩⟩).getD (i*1+0) undef= .int .u8 b.toNat:=by simp[byteCells,zab,hb]
      rw[e];exact .int _ _
     |succ j=>simp[D.cells] at hc
   cases hs
  cases hs
 cases hs
theorem nB{e:TypeId}{i:TypeInfo}(hi:Q.info? e=some i){z:D}(hz:dX Q e=some z): ∃zv,i.zero=some zv/\D.tX zv=some z/\zv.cells.size=z.cells.length:=by
 unfold dX at hz;rw[hi] at hz;simp only at hz;split at hz
 next zv Kf=>refine⟨zv,Kf,hz,?_⟩;have:=(dL (aU.tX (λ_=>False) default hz)).1;simpa using this
 cases hz
theorem vj(v:Value):(∃a n c,v= .slice a n c)->v.ownBlock=aI v:=by rintro⟨a,n,c,rfl⟩;cases a<;>rfl
theorem vn{F':Nat->Prop}{G':Nat->Value}{w':World}{R':List (Nat×En)}{n:Nat}{e:TypeId}{k:Nat}(hk:sz Q e=some k)(kq:0<k){es:List D}{xs:List Value}(fV:w'.ownsRow 0 e k (G' n) es.length xs)(hf:dT F' w' k es xs):
  oJ Q F' w' G' R' n (.arr e false es):=by
 rcases fV.2 with⟨hv,hn⟩| ⟨g,cap,cur,hv,_,hg,hnc,tL,hcs,PD⟩
 ·exact .inl ⟨hv,zax hn⟩
 exact .inr ⟨g,cap,cur,k,hv,hg,hk,kq,hnc,tL,hcs,(λh=>by cases h),dT.toE (by rw[PD];exact hf)⟩
theorem H8(h:aB Q T F G w a s){dst:Option Nat}{t t2 ty:TypeId}{p q:P}{s':S}(hs:iU Q s dst t t2 p q=some s'){vx vy:Value}(hx:aF F w G s.rg vx p)(hy:aF F w G s.rg vy q):
  ∃v w' G',(Builtin.append_ #[t,t2] ty #[vx,vy]).run Q w= .ok v w'/\aB Q T F G' w' (a.put dst v) s'/\Ext (Own G s.rg) (Own G' s'.rg) F F w w':=by
 unfold iU at hs;split at hs
 ·cases hs
 rename_i e het;have ht:=dp het;split at hs
 next i k hi hk=>
  obtain⟨i',_,zl,_,fP⟩:=gn hk;have fP:i'.size=k+1:=fP;have hk:sz Q e=some (k+1):=hk;rw[hi] at zl;cases zl;split at hs
  next ys z hys hz=>
   obtain⟨zv,Kf,_,hzs⟩:=nB hi hz;split at hs
   ·rename_i AP;have AP:z.cells.length=k+1:=by simpa using AP
    obtain⟨news,zN,gK⟩:=Cj h (by omega) hys hy;rw[<-fP] at zN;split at hs
    ·rename_i n aR len;split at hs
     ·rename_i en mC;split at hs
      ·rename_i ty' es bH;split at hs
       ·rename_i dZ;simp only[zad,zb7,aJ] at dZ;obtain⟨⟨⟨pr,H3⟩,hle⟩,ji,dM⟩:=dZ;have pr:en.aR=aR:=by simpa using pr
        have H3:ty'=e:=by simpa using H3
        subst H3;cases hx with
        |sl _ _ _ _ h1 hr=>
         obtain⟨a0,N,cap,hG,rfl,qhE⟩:=hr.at mC pr (by rw[bH];rfl);have hO:=h.rg n en mC;rw[bH] at hO;have Mj: ∃xs,w.ownsRow 0 ty' i.size (.slice a0 len cap) len xs/\dT F w (k+1) (es.take len) xs:=by
          rcases hO with⟨hg,rfl⟩| ⟨b,ig,cs,k',hg,hh,mY,Wd,Hk,tL,cM,_,hE⟩
          ·rw[hG] at hg;simp at hg;obtain⟨rfl,rfl,rfl⟩:=hg;have:len=0:=by omega
           subst this;exact⟨[],World.ownsRow_nil w 0 ty' i.size,by simpa using dT.nil F w (k+1)⟩
          rw[hk] at mY;cases mY;rw[hG] at hg;simp at hg;obtain⟨rfl,rfl,rfl⟩:=hg;have PF:es.length*(k+1)<=cs.size:=by rw[cM];exact zao _ Hk
          have hf:=dT.take hE hle PF;refine⟨_,⟨?_,.inr ⟨b,cap,cs,rfl,za7 _,hh,by omega,tL,by rw[fP];exact cM,by rw[fP]⟩⟩,hf⟩;rw[hf.1,fP];congr 1;simp;omega
         obtain⟨xs,fV,hfx⟩:=Mj;obtain⟨v',w',bX,vo,ou,hblk⟩:=pq (ty:=ty) ht hi Kf (by rw[hzs,AP,fP]) fV zN (by simpa [maxLen] using dM) ji;have hbk:Value.ownBlock (.slice a0 len cap)=aI (G n):=by rw[hG];cases a0<;>rfl
         have PG:bm (G n) en.obj=aI (G n):=by rw[bH];simp[bm]
         have qbP: ∃a1 n1 c1,v'= .slice a1 n1 c1:=by
          rcases vo.2 with⟨hv,_⟩| ⟨g,qbQ,cur,hv,_⟩
          ·exact⟨_,_,_,hv⟩
          exact⟨_,_,_,hv⟩
         have sE:(es.take len++ys).length=len+ys.length:=by simp;omega
         have PH: ∀c,F c->w'.heap[c]?=w.heap[c]?:=λc hc=>ou.block c (h.ja c hc) (λe'=>by rw[hbk] at e';exact h.mg n en c mC (by rw[PG];exact e'.symm) hc);obtain⟨d1,d2⟩:=h.mh (n:=n) (e1:=⟨aR+1,none,.arr ty' false (es.take len++ys)⟩) (g1:=v') (w':=w') (hdr:=p7 _ bX) (λe' cx=>by rw[mC] at cx;cases cx;exact .inl (by simp[pr]))
          (λc hc bk=>ou.block c hc (λe'=>bk ⟨en,mC,by rw[PG,<-hbk];exact e'.symm⟩)) ou.size ou.os ou.tape ou.output
          (λc hc=>by
           simp only[bm] at hc;rw[<-vj v' qbP] at hc;rcases hblk c (by simpa using hc) with h2 |h2
           ·exact .inl h2
           exact .inr ⟨en,mC,by rw[PG,<-hbk];exact h2⟩)
          (vn hk (by omega) (by rw[aV,sE,<-fP];exact vo) ((hfx.mono (λ_ h=>h) PH).append (gK.mono (λ_ h=>h) PH)))
          (λi hi=>by cases hi)
         have gX: ∃a1 c1,v'= .slice a1 (len+ys.length) c1:=by
          rcases vo.2 with⟨hv,Vu⟩| ⟨g,qbQ,cur,hv,_⟩
          ·exact⟨none,0,by rw[hv,Vu]⟩
          exact⟨_,_,hv⟩
         obtain⟨a1,cp1,gX⟩:=gX;obtain⟨c1,c2⟩:=cr d1 hs (v:=v') (cy.of (.sl n (aR+1) (len+ys.length) v' (by rw[gX];rfl) ⟨_,bp _ _ _,zai _,λ_ _=>⟨_,_,_,by rw[aV];exact gX,gX,zai _⟩⟩));refine⟨v',w',_,bX,c1,?_⟩;rw[c2];exact d2
       cases hs
      cases hs
     cases hs
    ·split at hs
     ·rename_i kS;simp only[zad,zb7,aJ] at kS;obtain⟨ji,dM⟩:=kS;split at hs
      ·rename_i s1 v hn;cases hx with
       |d hx=>
        cases hx;obtain⟨v',w',bX,vo,ou,hblk⟩:=pq (ty:=ty) ht hi Kf (by rw[hzs,AP,fP]) (World.ownsRow_nil w 0 e i.size) zN (by simpa [maxLen] using dM) (by simpa using ji);have qbP: ∃a1 n1 c1,v'= .slice a1 n1 c1:=by
         rcases vo.2 with⟨hv,_⟩| ⟨g,qbQ,cur,hv,_⟩
         ·exact⟨_,_,_,hv⟩
         exact⟨_,_,_,hv⟩
        have eF: ∀c,c<w.heap.size->w'.heap[c]?=w.heap[c]?:=λc hc=>ou.block c hc (by simp[Value.ownBlock]);have hf:=(gK.mono (F':=F) (w':=w') (λ_ h=>h) (λc hc=>eF c (h.ja c hc)))
        simp only[zaI,zaT] at vo;obtain⟨b1,b2,b3,b4⟩:=l5 h hn (g1:=v') (w':=w') (hdr:=p7 _ bX) eF ou.size ou.os ou.tape ou.output
         (λc hc=>by
          simp only[bm] at hc;rw[<-vj v' qbP] at hc;rcases hblk c (by simpa using hc) with h2 |h2
          ·exact h2
          simp[Value.ownBlock] at h2)
         (vn hk (by omega) (by rw[aV,<-fP];exact vo) hf)
        have gX: ∃a1 c1,v'= .slice a1 ys.length c1:=by
         rcases vo.2 with⟨hv,Vu⟩| ⟨g,qbQ,cur,hv,_⟩
         ·exact⟨none,0,by rw[hv,Vu]⟩
         exact⟨_,_,hv⟩
        obtain⟨a1,cp1,gX⟩:=gX;obtain⟨c1,c2⟩:=cr b1 hs (v:=v') (cy.of (.sl (site dst) v ys.length v' (by rw[gX];rfl) ⟨_,b4,zai _,λ_ _=>⟨_,_,_,by rw[aV];exact gX,gX,zai _⟩⟩));refine⟨v',w',_,bX,c1,?_⟩;rw[c2];exact b2
      cases hs
     cases hs
    cases hs
   cases hs
  cases hs
 cases hs
end
end Pi
