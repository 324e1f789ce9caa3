/- The text PiEfOk4. -/
import Derived.Test.YtdgkdigdflkjhaaGreatDoorPiSd
namespace Pi
open Go
section
variable{Q:Program}{T:Tg}{F:Nat->Prop}{G:Nat->Value}{w:World}{a:Act}{s:S}
theorem eG.drop{F w k es}{xs}(h:eG F w k es xs) m:eG F w k (es.drop m) (xs.drop (m*k)):=by refine⟨by rw[zbk,zbk,h.1,Nat.sub_mul],λi x hx=> ?_⟩;rw[zch] at hx;obtain⟨h1,h2,h3⟩:=h.2 (m+i) x hx;refine⟨h1,h2,λj c hc=> ?_⟩;have:=h3 j c hc;simp only[zab] at this⊢;rw[zch,<-zbI,<-za2];exact this
theorem Fg(h:aC Q T F G w a s){t2 k}(fO:0<k){p ys}(hs:nv Q s t2 k p=some ys){v}(hv:aH F w G s.rg v p):
  ∃news,Src Q k t2 v ys.length news w/\eG F w k ys news:=by
 unfold nv at hs;split at hs
 next n aV len=>
  split at hs
  next ty fz es e' ho Dx=>
   split at hs
   ·rename_i kj;have hk:sz Q ty=some k:=by simpa using kj
    simp at hs;subst hs;obtain⟨e,he,eb,b8⟩:=S.bM ho;have hO:=h.rg n e he;rw[b8] at hO;cases hv with
    |sl _ _ _ _ h1 hr=>
     obtain⟨a0,N,cap,hG,rfl,hle⟩:=hr.at he eb (by rw[b8];rfl);rcases hO with⟨hg,rfl⟩| ⟨b,jl,cs,k',hg,hh,iB,qao,KR,BR,dS,_,hE⟩
     ·rw[hG] at hg;simp at hg;obtain⟨rfl,rfl,rfl⟩:=hg;have:len=0:=by omega
      subst this;exact⟨[],by simpa using Src.ofNil w Dx 0,by simpa using eG.nil F w k⟩
     rw[hk] at iB;cases iB;rw[hG] at hg;simp at hg;obtain⟨rfl,rfl,rfl⟩:=hg;have T8:es.length*k<=cs.size:=by rw[dS];exact zar _ KR
     have hf:=eG.take hE hle T8;refine⟨_,?_,hf⟩;have qJ:(es.take len).length=len:=by simp;omega
     rw[qJ];refine Src.ofSlice w Dx ⟨b,0,none⟩ len cap _ (by rw[hf.1,qJ]) (λj u hu=> ?_) (hf.one fO);rw[addr_add,zaD,cell_of_row w b j cs ty (0,0) hh];rw[zbK] at hu;split at hu
     ·simpa using hu
     cases hu
   cases hs
  cases hs
 next n aV k0 off len=>
  split at hs
  next ty fz es e' ho Dx=>
   split at hs
   ·rename_i kj;rw[zac] at kj;have hk:sz Q ty=some k:=by simpa using kj.1
    have qnb:k0=k:=zag kj.2;subst qnb;simp at hs;subst hs;obtain⟨e,he,eb,b8⟩:=S.bM ho;have hO:=h.rg n e he;rw[b8] at hO;cases hv with
    |mG _ _ _ _ _ _ h1 hr=>
     obtain⟨a0,N,cap,hG,hle,a1,rW,rfl,TN,hz⟩:=hr.at he eb (by rw[b8];rfl);by_cases h0:len=0
     ·subst h0;refine⟨[],?_,by simpa using eG.nil F w k0⟩;have:((es.drop off).take 0).length=0:=by simp
      rw[this];cases a1 with
      |none=>exact Src.ofNil w Dx rW
      |some ad=>exact Src.ofSlice w Dx ad 0 rW [] (by simp) (λj u hu=>by simp at hu) (λu hu=>by cases hu)
     obtain⟨b0,ha0,TO⟩: ∃b,a0=some ⟨b,0,none⟩/\a1=some ⟨b,off*k0,none⟩:=by
      rcases hz with hz |hz
      ·exact absurd hz h0
      exact hz
     subst ha0 TO;rcases hO with⟨hg,rfl⟩| ⟨b,jl,cs,k',hg,hh,iB,qao,KR,BR,dS,_,hE⟩
     ·rw[hG] at hg;simp at hg
     rw[hk] at iB;cases iB;rw[hG] at hg;simp at hg;obtain⟨rfl,rfl,rfl⟩:=hg;have T8:es.length*k0<=cs.size:=by rw[dS];exact zar _ KR
     have hf:=(eG.take hE hle T8).drop off;have hee:(es.take (off+len)).drop off=(es.drop off).take len:=by rw[zc4,Nat.add_sub_cancel_left]
     rw[hee] at hf;refine⟨_,?_,hf⟩;have qJ:((es.drop off).take len).length=len:=by simp;omega
     rw[qJ];refine Src.ofSlice w Dx ⟨b0,off*k0,none⟩ len rW _ (by rw[hf.1,qJ]) (λj u hu=> ?_) (hf.one fO);rw[addr_add,cell_of_row w b0 (off*k0+j) cs ty (0,0) hh];rw[zch,zbK] at hu;split at hu
     ·simpa using hu
     cases hu
   cases hs
  cases hs
 next k' es=>
  split at hs
  next e' Dx=>
   split at hs
   ·rename_i kj;have kj:k'=k:=by simpa using kj
    subst kj;simp at hs;subst hs;cases hv with
    |d hv=>
     cases hv with
     |Qf a0 _ cap=>
      refine⟨[],?_,eG.nil F w _⟩;cases a0 with
      |none=>exact Src.ofNil w Dx cap
      |some ad=>exact Src.ofSlice w Dx ad 0 cap [] (by simp) (λj u hu=>by simp at hu) (λu hu=>by cases hu)
     |Sv b off _ cap _ f vU hb kj cm hw hr=>
      have hf:eG F w k' es ((List.range (es.length*k')).map f):=by
       refine⟨by simp,λi x hx=> ?_⟩;have hxm:=zaA hx;refine⟨kj x hxm,cm x hxm,λj c hc=> ?_⟩;have hi:i<es.length:=(zae.1 hx).1;have hj:j<k':=by have h1:=(zae.1 hc).1;have:=kj x hxm;omega
       have bK:i*k'+j<es.length*k':=by
        calc i*k'+j<i*k'+k':=by omega
         _=(i+1)*k':=by rw[za2,zbB]
         _<=es.length*k':=zar _ (by omega)
       have e:((List.range (es.length*k')).map f).getD (i*k'+j) undef=f (i*k'+j):=by simp[zab,bK]
       rw[e];exact hr i j x c hx hc
      refine⟨_,?_,hf⟩;refine Src.ofSlice w Dx ⟨b,off,none⟩ es.length cap _ hf.1 (λj u hu=> ?_) (hf.one fO);rw[zaN] at hu;simp only[zay] at hu;obtain⟨m,hm,rfl⟩:=hu;have hml:j<es.length*k':=by have:=(zae.1 hm).1;simpa using this
      rw[List.getElem?_range hml] at hm;cases hm;rw[addr_add];exact hw j hml
   cases hs
  cases hs
 ·split at hs
  next e' Dx=>
   simp at hs;subst hs;cases hv with
   |d hv=>cases hv;exact⟨[],Src.ofNil w Dx 0,eG.nil F w _⟩
  cases hs
 next l=>
  split at hs
  next Dx=>
   split at hs
   ·rename_i fU;have fU:k=1:=by simpa using fU
    subst fU;simp at hs;subst hs;cases hv with
    |d hv=>
     cases hv;refine⟨byteCells ⟨⟨l⟩⟩,?_,?_,λi x hx=> ?_⟩
     ·have:=Src.ofString w Dx ⟨⟨l⟩⟩;have e:(ByteArray.mk ⟨l⟩).size=(l.map λb=>D.int .u8 b.toNat).length:=by simp[ByteArray.size]
      rwa [e] at this
     ·rw[byteCells_length];simp[ByteArray.size]
     rw[zaN] at hx;simp only[zay] at hx;obtain⟨b,hb,rfl⟩:=hx;refine⟨rfl,λc hc=>by simp[D.cells] at hc;subst hc;rfl,λj c hc=> ?_⟩;cases j with
     |zero=>
      simp[D.cells] at hc;subst hc;have e:(byteCells ⟨⟨l⟩⟩).getD (i*1+0) undef= .int .u8 b.toNat:=by simp[byteCells,zab,hb]
      rw[e];exact .int _ _
     |succ j=>simp[D.cells] at hc
   cases hs
  cases hs
 cases hs
theorem o9{e i}(hi:Q.info? e=some i){z}(hz:eK Q e=some z): ∃zv,i.zero=some zv/\D.vQ zv=some z/\zv.cells.size=z.cells.length:=by
 unfold eK at hz;rw[hi] at hz;simp only at hz;split at hz
 next zv NI=>refine⟨zv,NI,hz,?_⟩;have:=(eB (aY.vQ (λ_=>False) default hz)).1;simpa using this
 cases hz
theorem w7 v:(∃a n c,v= .slice a n c)->v.ownBlock=aO v:=by rintro⟨a,n,c,rfl⟩;cases a<;>rfl
theorem w8{F' G' w' R'}{n e k}(hk:sz Q e=some k)(fO:0<k){es xs}(fB:w'.ownsRow 0 e k (G' n) es.length xs)(hf:eG F' w' k es xs):
  pZ Q F' w' G' R' n (.arr e false es):=by
 rcases fB.2 with⟨hv,hn⟩| ⟨g,cap,cur,hv,_,hg,hnc,BR,hcs,T6⟩
 ·exact .inl ⟨hv,zaB hn⟩
 exact .inr ⟨g,cap,cur,k,hv,hg,hk,fO,hnc,BR,hcs,(λh=>by cases h),eG.toE (by rw[T6];exact hf)⟩
theorem LI(h:aC Q T F G w a s){dst t t2 ty p q s'}(hs:jy Q s dst t t2 p q=some s'){vx vy}(hx:aH F w G s.rg vx p)(hy:aH F w G s.rg vy q):
  ∃v w' G',(Builtin.append_ #[t,t2] ty #[vx,vy]).run Q w= .ok v w'/\aC Q T F G' w' (a.put dst v) s'/\Ext (Own G s.rg) (Own G' s'.rg) F F w w':=by
 unfold jy at hs;split at hs
 ·cases hs
 rename_i e het;have ht:=dM het;split at hs
 next i k hi hk=>
  obtain⟨i',_,zQ,_,gf⟩:=gN hk;have gf:i'.size=k+1:=gf;have hk:sz Q e=some (k+1):=hk;rw[hi] at zQ;cases zQ;split at hs
  next ys z hys hz=>
   obtain⟨zv,NI,_,hzs⟩:=o9 hi hz;split at hs
   ·rename_i Dy;have Dy:z.cells.length=k+1:=by simpa using Dy
    obtain⟨news,Cv,gC⟩:=Fg h (by omega) hys hy;rw[<-gf] at Cv;split at hs
    ·rename_i n aV len;split at hs
     ·rename_i en lJ;split at hs
      ·rename_i ty' es b8;split at hs
       ·rename_i fy;simp only[zac,zcf,aG] at fy;obtain⟨⟨⟨T9,Lx⟩,hle⟩,la,cP⟩:=fy;have T9:en.aV=aV:=by simpa using T9
        have Lx:ty'=e:=by simpa using Lx
        subst Lx;cases hx with
        |sl _ _ _ _ h1 hr=>
         obtain⟨a0,N,cap,hG,rfl,qnc⟩:=hr.at lJ T9 (by rw[b8];rfl);have hO:=h.rg n en lJ;rw[b8] at hO;have Ia: ∃xs,w.ownsRow 0 ty' i.size (.slice a0 len cap) len xs/\eG F w (k+1) (es.take len) xs:=by
          rcases hO with⟨hg,rfl⟩| ⟨b,jl,cs,k',hg,hh,iB,qao,KR,BR,dS,_,hE⟩
          ·rw[hG] at hg;simp at hg;obtain⟨rfl,rfl,rfl⟩:=hg;have:len=0:=by omega
           subst this;exact⟨[],World.ownsRow_nil w 0 ty' i.size,by simpa using eG.nil F w (k+1)⟩
          rw[hk] at iB;cases iB;rw[hG] at hg;simp at hg;obtain⟨rfl,rfl,rfl⟩:=hg;have T8:es.length*(k+1)<=cs.size:=by rw[dS];exact zar _ KR
          have hf:=eG.take hE hle T8;refine⟨_,⟨?_,.inr ⟨b,cap,cs,rfl,zbd _,hh,by omega,BR,by rw[gf];exact dS,by rw[gf]⟩⟩,hf⟩;rw[hf.1,gf];congr 1;simp;omega
         obtain⟨xs,fB,hfx⟩:=Ia;obtain⟨v',w',ca,w9,pR,hblk⟩:=qI (ty:=ty) ht hi NI (by rw[hzs,Dy,gf]) fB Cv (by simpa [maxLen] using cP) la;have hbk:Value.ownBlock (.slice a0 len cap)=aO (G n):=by rw[hG];cases a0<;>rfl
         have Ua:bB (G n) en.obj=aO (G n):=by rw[b8];simp[bB]
         have qfu: ∃a1 n1 c1,v'= .slice a1 n1 c1:=by
          rcases w9.2 with⟨hv,_⟩| ⟨g,qfv,cur,hv,_⟩
          ·exact⟨_,_,_,hv⟩
          exact⟨_,_,_,hv⟩
         have uA:(es.take len++ys).length=len+ys.length:=by simp;omega
         have Ub: ∀c,F c->w'.heap[c]?=w.heap[c]?:=λc hc=>pR.block c (h.jE c hc) (λe'=>by rw[hbk] at e';exact h.nA n en c lJ (by rw[Ua];exact e'.symm) hc);obtain⟨d1,d2⟩:=h.od (n:=n) (e1:=⟨aV+1,none,.arr ty' false (es.take len++ys)⟩) (g1:=v') (w':=w') (hdr:=rv _ ca) (λe' cR=>by rw[lJ] at cR;cases cR;exact .inl (by simp[T9]))
          (λc hc bI=>pR.block c hc (λe'=>bI ⟨en,lJ,by rw[Ua,<-hbk];exact e'.symm⟩)) pR.size pR.os pR.tape pR.output
          (λc hc=>by
           simp only[bB] at hc;rw[<-w7 v' qfu] at hc;rcases hblk c (by simpa using hc) with h2 |h2
           ·exact .inl h2
           exact .inr ⟨en,lJ,by rw[Ua,<-hbk];exact h2⟩)
          (w8 hk (by omega) (by rw[bc,uA,<-gf];exact w9) ((hfx.mono (λ_ h=>h) Ub).append (gC.mono (λ_ h=>h) Ub)))
          (λi hi=>by cases hi)
         have iI: ∃a1 c1,v'= .slice a1 (len+ys.length) c1:=by
          rcases w9.2 with⟨hv,hn0⟩| ⟨g,qfv,cur,hv,_⟩
          ·exact⟨none,0,by rw[hv,hn0]⟩
          exact⟨_,_,hv⟩
         obtain⟨a1,cp1,iI⟩:=iI;obtain⟨c1,c2⟩:=cy d1 hs (v:=v') (cE.of (.sl n (aV+1) (len+ys.length) v' (by rw[iI];rfl) ⟨_,bE _ _ _,zal _,λ_ _=>⟨_,_,_,by rw[bc];exact iI,iI,zal _⟩⟩));refine⟨v',w',_,ca,c1,?_⟩;rw[c2];exact d2
       cases hs
      cases hs
     cases hs
    ·split at hs
     ·rename_i pQ;simp only[zac,zcf,aG] at pQ;obtain⟨la,cP⟩:=pQ;split at hs
      ·rename_i s1 v hn;cases hx with
       |d hx=>
        cases hx;obtain⟨v',w',ca,w9,pR,hblk⟩:=qI (ty:=ty) ht hi NI (by rw[hzs,Dy,gf]) (World.ownsRow_nil w 0 e i.size) Cv (by simpa [maxLen] using cP) (by simpa using la);have qfu: ∃a1 n1 c1,v'= .slice a1 n1 c1:=by
         rcases w9.2 with⟨hv,_⟩| ⟨g,qfv,cur,hv,_⟩
         ·exact⟨_,_,_,hv⟩
         exact⟨_,_,_,hv⟩
        have eU: ∀c,c<w.heap.size->w'.heap[c]?=w.heap[c]?:=λc hc=>pR.block c hc (by simp[Value.ownBlock]);have hf:=(gC.mono (F':=F) (w':=w') (λ_ h=>h) (λc hc=>eU c (h.jE c hc)))
        simp only[zaD,zbq] at w9;obtain⟨b1,b2,b3,b4⟩:=nE h hn (g1:=v') (w':=w') (hdr:=rv _ ca) eU pR.size pR.os pR.tape pR.output
         (λc hc=>by
          simp only[bB] at hc;rw[<-w7 v' qfu] at hc;rcases hblk c (by simpa using hc) with h2 |h2
          ·exact h2
          simp[Value.ownBlock] at h2)
         (w8 hk (by omega) (by rw[bc,<-gf];exact w9) hf)
        have iI: ∃a1 c1,v'= .slice a1 ys.length c1:=by
         rcases w9.2 with⟨hv,hn0⟩| ⟨g,qfv,cur,hv,_⟩
         ·exact⟨none,0,by rw[hv,hn0]⟩
         exact⟨_,_,hv⟩
        obtain⟨a1,cp1,iI⟩:=iI;obtain⟨c1,c2⟩:=cy b1 hs (v:=v') (cE.of (.sl (site dst) v ys.length v' (by rw[iI];rfl) ⟨_,b4,zal _,λ_ _=>⟨_,_,_,by rw[bc];exact iI,iI,zal _⟩⟩));refine⟨v',w',_,ca,c1,?_⟩;rw[c2];exact b2
      cases hs
     cases hs
    cases hs
   cases hs
  cases hs
 cases hs
end
end Pi
