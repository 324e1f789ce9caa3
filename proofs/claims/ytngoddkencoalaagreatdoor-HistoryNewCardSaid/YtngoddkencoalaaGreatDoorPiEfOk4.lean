/- The text PiEfOk4. -/
import Derived.Test.YtngoddkencoalaaGreatDoorPiSd
namespace Pi
open Go
section
variable{Q:Program}{T:Tg}{F:Nat->Prop}{G:Nat->Value}{w:World}{a:Act}{s:S}
theorem er.drop{F:Nat->Prop}{w:World}{k:Nat}{es:List D}{xs:List Value}(h:er F w k es xs)(m:Nat):er F w k (es.drop m) (xs.drop (m*k)):=by refine⟨by rw[zbd,zbd,h.1,Nat.sub_mul],λi x hx=> ?_⟩;rw[zby] at hx;obtain⟨h1,h2,h3⟩:=h.2 (m+i) x hx;refine⟨h1,h2,λj c hc=> ?_⟩;have:=h3 j c hc;simp only[zac] at this⊢;rw[zby,<-zbB,<-zaV];exact this
theorem Cq(h:aD Q T F G w a s){t2:TypeId}{k:Nat}(gn:0<k){p:P}{ys:List D}(hs:l8 Q s t2 k p=some ys){v:Value}(hv:aF F w G s.rg v p):
  ∃news,Src Q k t2 v ys.length news w/\er F w k ys news:=by
 unfold l8 at hs;split at hs
 next n aY len=>
  split at hs
  next ty fz es e' ho zT=>
   split at hs
   ·rename_i jJ;have hk:sz Q ty=some k:=by simpa using jJ
    simp at hs;subst hs;obtain⟨e,he,dR,bV⟩:=S.bJ ho;have hO:=h.rg n e he;rw[bV] at hO;cases hv with
    |sl _ _ _ _ h1 hr=>
     obtain⟨a0,N,cap,hG,rfl,hle⟩:=hr.at he dR (by rw[bV];rfl);rcases hO with⟨hg,rfl⟩| ⟨b,iK,cs,k',hg,hh,mz,Wd,G6,zn,dt,_,hE⟩
     ·rw[hG] at hg;simp at hg;obtain⟨rfl,rfl,rfl⟩:=hg;have:len=0:=by omega
      subst this;exact⟨[],by simpa using Src.ofNil w zT 0,by simpa using er.nil F w k⟩
     rw[hk] at mz;cases mz;rw[hG] at hg;simp at hg;obtain⟨rfl,rfl,rfl⟩:=hg;have Pz:es.length*k<=cs.size:=by rw[dt];exact zaq _ G6
     have hf:=er.take hE hle Pz;refine⟨_,?_,hf⟩;have qv:(es.take len).length=len:=by simp;omega
     rw[qv];refine Src.ofSlice w zT ⟨b,0,none⟩ len cap _ (by rw[hf.1,qv]) (λj u hu=> ?_) (hf.one gn);rw[addr_add,zaG,cell_of_row w b j cs ty (0,0) hh];rw[zbe] at hu;split at hu
     ·simpa using hu
     cases hu
   cases hs
  cases hs
 next n aY k0 off len=>
  split at hs
  next ty fz es e' ho zT=>
   split at hs
   ·rename_i jJ;rw[zab] at jJ;have hk:sz Q ty=some k:=by simpa using jJ.1
    have qhH:k0=k:=zaf jJ.2;subst qhH;simp at hs;subst hs;obtain⟨e,he,dR,bV⟩:=S.bJ ho;have hO:=h.rg n e he;rw[bV] at hO;cases hv with
    |lG _ _ _ _ _ _ h1 hr=>
     obtain⟨a0,N,cap,hG,hle,a1,qt,rfl,Pc,hz⟩:=hr.at he dR (by rw[bV];rfl);by_cases h0:len=0
     ·subst h0;refine⟨[],?_,by simpa using er.nil F w k0⟩;have:((es.drop off).take 0).length=0:=by simp
      rw[this];cases a1 with
      |none=>exact Src.ofNil w zT qt
      |some ad=>exact Src.ofSlice w zT ad 0 qt [] (by simp) (λj u hu=>by simp at hu) (λu hu=>by cases hu)
     obtain⟨b0,ha0,Pd⟩: ∃b,a0=some ⟨b,0,none⟩/\a1=some ⟨b,off*k0,none⟩:=by
      rcases hz with hz |hz
      ·exact absurd hz h0
      exact hz
     subst ha0 Pd;rcases hO with⟨hg,rfl⟩| ⟨b,iK,cs,k',hg,hh,mz,Wd,G6,zn,dt,_,hE⟩
     ·rw[hG] at hg;simp at hg
     rw[hk] at mz;cases mz;rw[hG] at hg;simp at hg;obtain⟨rfl,rfl,rfl⟩:=hg;have Pz:es.length*k0<=cs.size:=by rw[dt];exact zaq _ G6
     have hf:=(er.take hE hle Pz).drop off;have hee:(es.take (off+len)).drop off=(es.drop off).take len:=by rw[zcJ,Nat.add_sub_cancel_left]
     rw[hee] at hf;refine⟨_,?_,hf⟩;have qv:((es.drop off).take len).length=len:=by simp;omega
     rw[qv];refine Src.ofSlice w zT ⟨b0,off*k0,none⟩ len qt _ (by rw[hf.1,qv]) (λj u hu=> ?_) (hf.one gn);rw[addr_add,cell_of_row w b0 (off*k0+j) cs ty (0,0) hh];rw[zby,zbe] at hu;split at hu
     ·simpa using hu
     cases hu
   cases hs
  cases hs
 next k' es=>
  split at hs
  next e' zT=>
   split at hs
   ·rename_i jJ;have jJ:k'=k:=by simpa using jJ
    subst jJ;simp at hs;subst hs;cases hv with
    |d hv=>
     cases hv with
     |Og a0 _ cap=>
      refine⟨[],?_,er.nil F w _⟩;cases a0 with
      |none=>exact Src.ofNil w zT cap
      |some ad=>exact Src.ofSlice w zT ad 0 cap [] (by simp) (λj u hu=>by simp at hu) (λu hu=>by cases hu)
     |O8 b off _ cap _ f Cc hb jJ cc hw hr=>
      have hf:er F w k' es ((List.range (es.length*k')).map f):=by
       refine⟨by simp,λi x hx=> ?_⟩;have hxm:=zaC hx;refine⟨jJ x hxm,cc x hxm,λj c hc=> ?_⟩;have hi:i<es.length:=(zad.1 hx).1;have hj:j<k':=by have h1:=(zad.1 hc).1;have:=jJ x hxm;omega
       have bI:i*k'+j<es.length*k':=by
        calc i*k'+j<i*k'+k':=by omega
         _=(i+1)*k':=by rw[zaV,zbt]
         _<=es.length*k':=zaq _ (by omega)
       have e:((List.range (es.length*k')).map f).getD (i*k'+j) undef=f (i*k'+j):=by simp[zac,bI]
       rw[e];exact hr i j x c hx hc
      refine⟨_,?_,hf⟩;refine Src.ofSlice w zT ⟨b,off,none⟩ es.length cap _ hf.1 (λj u hu=> ?_) (hf.one gn);rw[zaJ] at hu;simp only[zaw] at hu;obtain⟨m,hm,rfl⟩:=hu;have Wc:j<es.length*k':=by have:=(zad.1 hm).1;simpa using this
      rw[zcd Wc] at hm;cases hm;rw[addr_add];exact hw j Wc
   cases hs
  cases hs
 ·split at hs
  next e' zT=>
   simp at hs;subst hs;cases hv with
   |d hv=>cases hv;exact⟨[],Src.ofNil w zT 0,er.nil F w _⟩
  cases hs
 next l=>
  split at hs
  next zT=>
   split at hs
   ·rename_i fV;have fV:k=1:=by simpa using fV
    subst fV;simp at hs;subst hs;cases hv with
    |d hv=>
     cases hv;refine⟨byteCells ⟨⟨l⟩⟩,?_,?_,λi x hx=> ?_⟩
     ·have:=Src.ofString w zT ⟨⟨l⟩⟩;have e:(ByteArray.mk ⟨l⟩).size=(l.map λb=>D.int .u8 b.toNat).length:=by simp[ByteArray.size]
      rwa [e] at this
     ·rw[byteCells_length];simp[ByteArray.size]
     rw[zaJ] at hx;simp only[zaw] at hx;obtain⟨b,hb,rfl⟩:=hx;refine⟨rfl,λc hc=>by simp[D.cells] at hc;subst hc;rfl,λj c hc=> ?_⟩;cases j with
     |zero=>
      simp[D.cells] at hc;subst hc;have e:(byteCells ⟨⟨l⟩⟩).getD (i*1+0) undef= .int .u8 b.toNat:=by simp[byteCells,zac,hb]
      rw[e];exact .int _ _
     |succ j=>simp[D.cells] at hc
   cases hs
  cases hs
 cases hs
theorem nE{e:TypeId}{i:TypeInfo}(hi:Q.info? e=some i){z:D}(hz:ey Q e=some z): ∃zv,i.zero=some zv/\D.tM zv=some z/\zv.cells.size=z.cells.length:=by
 unfold ey at hz;rw[hi] at hz;simp only at hz;split at hz
 next zv Kd=>refine⟨zv,Kd,hz,?_⟩;have:=(dY (a8.tM (λ_=>False) default hz)).1;simpa using this
 cases hz
theorem uM(v:Value):(∃a n c,v= .slice a n c)->v.ownBlock=aR v:=by rintro⟨a,n,c,rfl⟩;cases a<;>rfl
theorem uN{F':Nat->Prop}{G':Nat->Value}{w':World}{R':List (Nat×En)}{n:Nat}{e:TypeId}{k:Nat}(hk:sz Q e=some k)(gn:0<k){es:List D}{xs:List Value}(fT:w'.ownsRow 0 e k (G' n) es.length xs)(hf:er F' w' k es xs):
  oB Q F' w' G' R' n (.arr e false es):=by
 rcases fT.2 with⟨hv,hn⟩| ⟨g,cap,cur,hv,_,hg,hnc,zn,hcs,Px⟩
 ·exact .inl ⟨hv,zax hn⟩
 exact .inr ⟨g,cap,cur,k,hv,hg,hk,gn,hnc,zn,hcs,(λh=>by cases h),er.toE (by rw[Px];exact hf)⟩
theorem H0(h:aD Q T F G w a s){dst:Option Nat}{t t2 ty:TypeId}{p q:P}{s':S}(hs:iY Q s dst t t2 p q=some s'){vx vy:Value}(hx:aF F w G s.rg vx p)(hy:aF F w G s.rg vy q):
  ∃v w' G',(Builtin.append_ #[t,t2] ty #[vx,vy]).run Q w= .ok v w'/\aD Q T F G' w' (a.put dst v) s'/\Ext (Own G s.rg) (Own G' s'.rg) F F w w':=by
 unfold iY at hs;split at hs
 ·cases hs
 rename_i e het;have ht:=dE het;split at hs
 next i k hi hk=>
  obtain⟨i',_,xr,_,fJ⟩:=gm hk;have fJ:i'.size=k+1:=fJ;have hk:sz Q e=some (k+1):=hk;rw[hi] at xr;cases xr;split at hs
  next ys z hys hz=>
   obtain⟨zv,Kd,_,hzs⟩:=nE hi hz;split at hs
   ·rename_i AU;have AU:z.cells.length=k+1:=by simpa using AU
    obtain⟨news,zU,fW⟩:=Cq h (by omega) hys hy;rw[<-fJ] at zU;split at hs
    ·rename_i n aY len;split at hs
     ·rename_i en mJ;split at hs
      ·rename_i ty' es bV;split at hs
       ·rename_i fh;simp only[zab,zb0,aM] at fh;obtain⟨⟨⟨PA,Cd⟩,hle⟩,jL,cr⟩:=fh;have PA:en.aY=aY:=by simpa using PA
        have Cd:ty'=e:=by simpa using Cd
        subst Cd;cases hx with
        |sl _ _ _ _ h1 hr=>
         obtain⟨a0,N,cap,hG,rfl,qhI⟩:=hr.at mJ PA (by rw[bV];rfl);have hO:=h.rg n en mJ;rw[bV] at hO;have EL: ∃xs,w.ownsRow 0 ty' i.size (.slice a0 len cap) len xs/\er F w (k+1) (es.take len) xs:=by
          rcases hO with⟨hg,rfl⟩| ⟨b,iK,cs,k',hg,hh,mz,Wd,G6,zn,dt,_,hE⟩
          ·rw[hG] at hg;simp at hg;obtain⟨rfl,rfl,rfl⟩:=hg;have:len=0:=by omega
           subst this;exact⟨[],World.ownsRow_nil w 0 ty' i.size,by simpa using er.nil F w (k+1)⟩
          rw[hk] at mz;cases mz;rw[hG] at hg;simp at hg;obtain⟨rfl,rfl,rfl⟩:=hg;have Pz:es.length*(k+1)<=cs.size:=by rw[dt];exact zaq _ G6
          have hf:=er.take hE hle Pz;refine⟨_,⟨?_,.inr ⟨b,cap,cs,rfl,za6 _,hh,by omega,zn,by rw[fJ];exact dt,by rw[fJ]⟩⟩,hf⟩;rw[hf.1,fJ];congr 1;simp;omega
         obtain⟨xs,fT,hfx⟩:=EL;obtain⟨v',w',bX,uO,oh,hblk⟩:=pe (ty:=ty) ht hi Kd (by rw[hzs,AU,fJ]) fT zU (by simpa [maxLen] using cr) jL;have hbk:Value.ownBlock (.slice a0 len cap)=aR (G n):=by rw[hG];cases a0<;>rfl
         have PB:bH (G n) en.obj=aR (G n):=by rw[bV];simp[bH]
         have qbD: ∃a1 n1 c1,v'= .slice a1 n1 c1:=by
          rcases uO.2 with⟨hv,_⟩| ⟨g,qbE,cur,hv,_⟩
          ·exact⟨_,_,_,hv⟩
          exact⟨_,_,_,hv⟩
         have sF:(es.take len++ys).length=len+ys.length:=by simp;omega
         have PC: ∀c,F c->w'.heap[c]?=w.heap[c]?:=λc hc=>oh.block c (h.ji c hc) (λe'=>by rw[hbk] at e';exact h.my n en c mJ (by rw[PB];exact e'.symm) hc);obtain⟨d1,d2⟩:=h.ni (n:=n) (e1:=⟨aY+1,none,.arr ty' false (es.take len++ys)⟩) (g1:=v') (w':=w') (hdr:=qa _ bX) (λe' cK=>by rw[mJ] at cK;cases cK;exact .inl (by simp[PA]))
          (λc hc b7=>oh.block c hc (λe'=>b7 ⟨en,mJ,by rw[PB,<-hbk];exact e'.symm⟩)) oh.size oh.os oh.tape oh.output
          (λc hc=>by
           simp only[bH] at hc;rw[<-uM v' qbD] at hc;rcases hblk c (by simpa using hc) with h2 |h2
           ·exact .inl h2
           exact .inr ⟨en,mJ,by rw[PB,<-hbk];exact h2⟩)
          (uN hk (by omega) (by rw[bb,sF,<-fJ];exact uO) ((hfx.mono (λ_ h=>h) PC).append (fW.mono (λ_ h=>h) PC)))
          (λi hi=>by cases hi)
         have gY: ∃a1 c1,v'= .slice a1 (len+ys.length) c1:=by
          rcases uO.2 with⟨hv,hn0⟩| ⟨g,qbE,cur,hv,_⟩
          ·exact⟨none,0,by rw[hv,hn0]⟩
          exact⟨_,_,hv⟩
         obtain⟨a1,cp1,gY⟩:=gY;obtain⟨c1,c2⟩:=cz d1 hs (v:=v') (cx.of (.sl n (aY+1) (len+ys.length) v' (by rw[gY];rfl) ⟨_,bC _ _ _,zaj _,λ_ _=>⟨_,_,_,by rw[bb];exact gY,gY,zaj _⟩⟩));refine⟨v',w',_,bX,c1,?_⟩;rw[c2];exact d2
       cases hs
      cases hs
     cases hs
    ·split at hs
     ·rename_i og;simp only[zab,zb0,aM] at og;obtain⟨jL,cr⟩:=og;split at hs
      ·rename_i s1 v hn;cases hx with
       |d hx=>
        cases hx;obtain⟨v',w',bX,uO,oh,hblk⟩:=pe (ty:=ty) ht hi Kd (by rw[hzs,AU,fJ]) (World.ownsRow_nil w 0 e i.size) zU (by simpa [maxLen] using cr) (by simpa using jL);have qbD: ∃a1 n1 c1,v'= .slice a1 n1 c1:=by
         rcases uO.2 with⟨hv,_⟩| ⟨g,qbE,cur,hv,_⟩
         ·exact⟨_,_,_,hv⟩
         exact⟨_,_,_,hv⟩
        have eK: ∀c,c<w.heap.size->w'.heap[c]?=w.heap[c]?:=λc hc=>oh.block c hc (by simp[Value.ownBlock]);have hf:=(fW.mono (F':=F) (w':=w') (λ_ h=>h) (λc hc=>eK c (h.ji c hc)))
        simp only[zaG,zbg] at uO;obtain⟨b1,b2,b3,b4⟩:=mc h hn (g1:=v') (w':=w') (hdr:=qa _ bX) eK oh.size oh.os oh.tape oh.output
         (λc hc=>by
          simp only[bH] at hc;rw[<-uM v' qbD] at hc;rcases hblk c (by simpa using hc) with h2 |h2
          ·exact h2
          simp[Value.ownBlock] at h2)
         (uN hk (by omega) (by rw[bb,<-fJ];exact uO) hf)
        have gY: ∃a1 c1,v'= .slice a1 ys.length c1:=by
         rcases uO.2 with⟨hv,hn0⟩| ⟨g,qbE,cur,hv,_⟩
         ·exact⟨none,0,by rw[hv,hn0]⟩
         exact⟨_,_,hv⟩
        obtain⟨a1,cp1,gY⟩:=gY;obtain⟨c1,c2⟩:=cz b1 hs (v:=v') (cx.of (.sl (site dst) v ys.length v' (by rw[gY];rfl) ⟨_,b4,zaj _,λ_ _=>⟨_,_,_,by rw[bb];exact gY,gY,zaj _⟩⟩));refine⟨v',w',_,bX,c1,?_⟩;rw[c2];exact b2
      cases hs
     cases hs
    cases hs
   cases hs
  cases hs
 cases hs
end
end Pi
