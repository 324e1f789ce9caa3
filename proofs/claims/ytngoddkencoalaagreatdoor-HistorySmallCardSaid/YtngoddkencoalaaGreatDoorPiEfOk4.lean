/- The text PiEfOk4. -/
import Derived.Test.YtngoddkencoalaaGreatDoorPiSd
namespace Pi
open Go
section
variable{Q:Program}{T:Tg}{F:Nat->Prop}{G:Nat->Value}{w:World}{a:Act}{s:S}
theorem eC.drop{F:Nat->Prop}{w:World}{k:Nat}{es:List D}{xs:List Value}(h:eC F w k es xs)(m:Nat):eC F w k (es.drop m) (xs.drop (m*k)):=by refine⟨by rw[zbf,zbf,h.1,Nat.sub_mul],λi x hx=> ?_⟩;rw[zbx] at hx;obtain⟨h1,h2,h3⟩:=h.2 (m+i) x hx;refine⟨h1,h2,λj c hc=> ?_⟩;have:=h3 j c hc;simp only[zac] at this⊢;rw[zbx,<-zbB,<-zaV];exact this
theorem C1(h:aG Q T F G w a s){t2:TypeId}{k:Nat}(gB:0<k){p:P}{ys:List D}(hs:mF Q s t2 k p=some ys){v:Value}(hv:aH F w G s.rg v p):
  ∃news,Src Q k t2 v ys.length news w/\eC F w k ys news:=by
 unfold mF at hs;split at hs
 next n aZ len=>
  split at hs
  next ty fz es e' ho z6=>
   split at hs
   ·rename_i jV;have hk:sz Q ty=some k:=by simpa using jV
    simp at hs;subst hs;obtain⟨e,he,dY,ca⟩:=S.bM ho;have hO:=h.rg n e he;rw[ca] at hO;cases hv with
    |sl _ _ _ _ h1 hr=>
     obtain⟨a0,N,cap,hG,rfl,hle⟩:=hr.at he dY (by rw[ca];rfl);rcases hO with⟨hg,rfl⟩| ⟨b,iV,cs,k',hg,hh,mV,WW,HK,zY,dB,_,hE⟩
     ·rw[hG] at hg;simp at hg;obtain⟨rfl,rfl,rfl⟩:=hg;have:len=0:=by omega
      subst this;exact⟨[],by simpa using Src.ofNil w z6 0,by simpa using eC.nil F w k⟩
     rw[hk] at mV;cases mV;rw[hG] at hg;simp at hg;obtain⟨rfl,rfl,rfl⟩:=hg;have Qu:es.length*k<=cs.size:=by rw[dB];exact zaq _ HK
     have hf:=eC.take hE hle Qu;refine⟨_,?_,hf⟩;have q5:(es.take len).length=len:=by simp;omega
     rw[q5];refine Src.ofSlice w z6 ⟨b,0,none⟩ len cap _ (by rw[hf.1,q5]) (λj u hu=> ?_) (hf.one gB);rw[addr_add,zaF,cell_of_row w b j cs ty (0,0) hh];rw[zbg] at hu;split at hu
     ·simpa using hu
     cases hu
   cases hs
  cases hs
 next n aZ k0 off len=>
  split at hs
  next ty fz es e' ho z6=>
   split at hs
   ·rename_i jV;rw[zab] at jV;have hk:sz Q ty=some k:=by simpa using jV.1
    have qiL:k0=k:=zaf jV.2;subst qiL;simp at hs;subst hs;obtain⟨e,he,dY,ca⟩:=S.bM ho;have hO:=h.rg n e he;rw[ca] at hO;cases hv with
    |l0 _ _ _ _ _ _ h1 hr=>
     obtain⟨a0,N,cap,hG,hle,a1,qZ,rfl,P9,hz⟩:=hr.at he dY (by rw[ca];rfl);by_cases h0:len=0
     ·subst h0;refine⟨[],?_,by simpa using eC.nil F w k0⟩;have:((es.drop off).take 0).length=0:=by simp
      rw[this];cases a1 with
      |none=>exact Src.ofNil w z6 qZ
      |some ad=>exact Src.ofSlice w z6 ad 0 qZ [] (by simp) (λj u hu=>by simp at hu) (λu hu=>by cases hu)
     obtain⟨b0,ha0,Qa⟩: ∃b,a0=some ⟨b,0,none⟩/\a1=some ⟨b,off*k0,none⟩:=by
      rcases hz with hz |hz
      ·exact absurd hz h0
      exact hz
     subst ha0 Qa;rcases hO with⟨hg,rfl⟩| ⟨b,iV,cs,k',hg,hh,mV,WW,HK,zY,dB,_,hE⟩
     ·rw[hG] at hg;simp at hg
     rw[hk] at mV;cases mV;rw[hG] at hg;simp at hg;obtain⟨rfl,rfl,rfl⟩:=hg;have Qu:es.length*k0<=cs.size:=by rw[dB];exact zaq _ HK
     have hf:=(eC.take hE hle Qu).drop off;have hee:(es.take (off+len)).drop off=(es.drop off).take len:=by rw[zcK,Nat.add_sub_cancel_left]
     rw[hee] at hf;refine⟨_,?_,hf⟩;have q5:((es.drop off).take len).length=len:=by simp;omega
     rw[q5];refine Src.ofSlice w z6 ⟨b0,off*k0,none⟩ len qZ _ (by rw[hf.1,q5]) (λj u hu=> ?_) (hf.one gB);rw[addr_add,cell_of_row w b0 (off*k0+j) cs ty (0,0) hh];rw[zbx,zbg] at hu;split at hu
     ·simpa using hu
     cases hu
   cases hs
  cases hs
 next k' es=>
  split at hs
  next e' z6=>
   split at hs
   ·rename_i jV;have jV:k'=k:=by simpa using jV
    subst jV;simp at hs;subst hs;cases hv with
    |d hv=>
     cases hv with
     |OZ a0 _ cap=>
      refine⟨[],?_,eC.nil F w _⟩;cases a0 with
      |none=>exact Src.ofNil w z6 cap
      |some ad=>exact Src.ofSlice w z6 ad 0 cap [] (by simp) (λj u hu=>by simp at hu) (λu hu=>by cases hu)
     |PW b off _ cap _ f CO hb jV cj hw hr=>
      have hf:eC F w k' es ((List.range (es.length*k')).map f):=by
       refine⟨by simp,λi x hx=> ?_⟩;have hxm:=zaC hx;refine⟨jV x hxm,cj x hxm,λj c hc=> ?_⟩;have hi:i<es.length:=(zad.1 hx).1;have hj:j<k':=by have h1:=(zad.1 hc).1;have:=jV x hxm;omega
       have bG:i*k'+j<es.length*k':=by
        calc i*k'+j<i*k'+k':=by omega
         _=(i+1)*k':=by rw[zaV,zbs]
         _<=es.length*k':=zaq _ (by omega)
       have e:((List.range (es.length*k')).map f).getD (i*k'+j) undef=f (i*k'+j):=by simp[zac,bG]
       rw[e];exact hr i j x c hx hc
      refine⟨_,?_,hf⟩;refine Src.ofSlice w z6 ⟨b,off,none⟩ es.length cap _ hf.1 (λj u hu=> ?_) (hf.one gB);rw[zaK] at hu;simp only[zax] at hu;obtain⟨m,hm,rfl⟩:=hu;have IE:j<es.length*k':=by have:=(zad.1 hm).1;simpa using this
      rw[zch IE] at hm;cases hm;rw[addr_add];exact hw j IE
   cases hs
  cases hs
 ·split at hs
  next e' z6=>
   simp at hs;subst hs;cases hv with
   |d hv=>cases hv;exact⟨[],Src.ofNil w z6 0,eC.nil F w _⟩
  cases hs
 next l=>
  split at hs
  next z6=>
   split at hs
   ·rename_i fh;have fh:k=1:=by simpa using fh
    subst fh;simp at hs;subst hs;cases hv with
    |d hv=>
     cases hv;refine⟨byteCells ⟨⟨l⟩⟩,?_,?_,λi x hx=> ?_⟩
     ·have:=Src.ofString w z6 ⟨⟨l⟩⟩;have e:(ByteArray.mk ⟨l⟩).size=(l.map λb=>D.int .u8 b.toNat).length:=by simp[ByteArray.size]
      rwa [e] at this
     ·rw[byteCells_length];simp[ByteArray.size]
     rw[zaK] at hx;simp only[zax] at hx;obtain⟨b,hb,rfl⟩:=hx;refine⟨rfl,λc hc=>by simp[D.cells] at hc;subst hc;rfl,λj c hc=> ?_⟩;cases j with
     |zero=>
      simp[D.cells] at hc;subst hc;have e:(byteCells ⟨⟨l⟩⟩).getD (i*1+0) undef= .int .u8 b.toNat:=by simp[byteCells,zac,hb]
      rw[e];exact .int _ _
     |succ j=>simp[D.cells] at hc
   cases hs
  cases hs
 cases hs
theorem n9{e:TypeId}{i:TypeInfo}(hi:Q.info? e=some i){z:D}(hz:eF Q e=some z): ∃zv,i.zero=some zv/\D.uK zv=some z/\zv.cells.size=z.cells.length:=by
 unfold eF at hz;rw[hi] at hz;simp only at hz;split at hz
 next zv KM=>refine⟨zv,KM,hz,?_⟩;have:=(eu (bc.uK (λ_=>False) default hz)).1;simpa using this
 cases hz
theorem vQ(v:Value):(∃a n c,v= .slice a n c)->v.ownBlock=aR v:=by rintro⟨a,n,c,rfl⟩;cases a<;>rfl
theorem vR{F':Nat->Prop}{G':Nat->Value}{w':World}{R':List (Nat×En)}{n:Nat}{e:TypeId}{k:Nat}(hk:sz Q e=some k)(gB:0<k){es:List D}{xs:List Value}(gb:w'.ownsRow 0 e k (G' n) es.length xs)(hf:eC F' w' k es xs):
  o6 Q F' w' G' R' n (.arr e false es):=by
 rcases gb.2 with⟨hv,hn⟩| ⟨g,cap,cur,hv,_,hg,hnc,zY,hcs,Qs⟩
 ·exact .inl ⟨hv,zau hn⟩
 exact .inr ⟨g,cap,cur,k,hv,hg,hk,gB,hnc,zY,hcs,(λh=>by cases h),eC.toE (by rw[Qs];exact hf)⟩
theorem IG(h:aG Q T F G w a s){dst:Option Nat}{t t2 ty:TypeId}{p q:P}{s':S}(hs:jl Q s dst t t2 p q=some s'){vx vy:Value}(hx:aH F w G s.rg vx p)(hy:aH F w G s.rg vy q):
  ∃v w' G',(Builtin.append_ #[t,t2] ty #[vx,vy]).run Q w= .ok v w'/\aG Q T F G' w' (a.put dst v) s'/\Ext (Own G s.rg) (Own G' s'.rg) F F w w':=by
 unfold jl at hs;split at hs
 ·cases hs
 rename_i e het;have ht:=dL het;split at hs
 next i k hi hk=>
  obtain⟨i',_,yc,_,fR⟩:=gA hk;have fR:i'.size=k+1:=fR;have hk:sz Q e=some (k+1):=hk;rw[hi] at yc;cases yc;split at hs
  next ys z hys hz=>
   obtain⟨zv,KM,_,hzs⟩:=n9 hi hz;split at hs
   ·rename_i Bz;have Bz:z.cells.length=k+1:=by simpa using Bz
    obtain⟨news,AF,gj⟩:=C1 h (by omega) hys hy;rw[<-fR] at AF;split at hs
    ·rename_i n aZ len;split at hs
     ·rename_i en nq;split at hs
      ·rename_i ty' es ca;split at hs
       ·rename_i fq;simp only[zab,zb0,aO] at fq;obtain⟨⟨⟨Qv,CP⟩,hle⟩,jX,cm⟩:=fq;have Qv:en.aZ=aZ:=by simpa using Qv
        have CP:ty'=e:=by simpa using CP
        subst CP;cases hx with
        |sl _ _ _ _ h1 hr=>
         obtain⟨a0,N,cap,hG,rfl,qiM⟩:=hr.at nq Qv (by rw[ca];rfl);have hO:=h.rg n en nq;rw[ca] at hO;have Fq: ∃xs,w.ownsRow 0 ty' i.size (.slice a0 len cap) len xs/\eC F w (k+1) (es.take len) xs:=by
          rcases hO with⟨hg,rfl⟩| ⟨b,iV,cs,k',hg,hh,mV,WW,HK,zY,dB,_,hE⟩
          ·rw[hG] at hg;simp at hg;obtain⟨rfl,rfl,rfl⟩:=hg;have:len=0:=by omega
           subst this;exact⟨[],World.ownsRow_nil w 0 ty' i.size,by simpa using eC.nil F w (k+1)⟩
          rw[hk] at mV;cases mV;rw[hG] at hg;simp at hg;obtain⟨rfl,rfl,rfl⟩:=hg;have Qu:es.length*(k+1)<=cs.size:=by rw[dB];exact zaq _ HK
          have hf:=eC.take hE hle Qu;refine⟨_,⟨?_,.inr ⟨b,cap,cs,rfl,za5 _,hh,by omega,zY,by rw[fR];exact dB,by rw[fR]⟩⟩,hf⟩;rw[hf.1,fR];congr 1;simp;omega
         obtain⟨xs,gb,hfx⟩:=Fq;obtain⟨v',w',cc,vS,oT,hblk⟩:=pN (ty:=ty) ht hi KM (by rw[hzs,Bz,fR]) gb AF (by simpa [maxLen] using cm) jX;have hbk:Value.ownBlock (.slice a0 len cap)=aR (G n):=by rw[hG];cases a0<;>rfl
         have Qw:bL (G n) en.obj=aR (G n):=by rw[ca];simp[bL]
         have qco: ∃a1 n1 c1,v'= .slice a1 n1 c1:=by
          rcases vS.2 with⟨hv,_⟩| ⟨g,qcp,cur,hv,_⟩
          ·exact⟨_,_,_,hv⟩
          exact⟨_,_,_,hv⟩
         have tH:(es.take len++ys).length=len+ys.length:=by simp;omega
         have Qx: ∀c,F c->w'.heap[c]?=w.heap[c]?:=λc hc=>oT.block c (h.jz c hc) (λe'=>by rw[hbk] at e';exact h.mU n en c nq (by rw[Qw];exact e'.symm) hc);obtain⟨d1,d2⟩:=h.nL (n:=n) (e1:=⟨aZ+1,none,.arr ty' false (es.take len++ys)⟩) (g1:=v') (w':=w') (hdr:=qG _ cc) (λe' cR=>by rw[nq] at cR;cases cR;exact .inl (by simp[Qv]))
          (λc hc bX=>oT.block c hc (λe'=>bX ⟨en,nq,by rw[Qw,<-hbk];exact e'.symm⟩)) oT.size oT.os oT.tape oT.output
          (λc hc=>by
           simp only[bL] at hc;rw[<-vQ v' qco] at hc;rcases hblk c (by simpa using hc) with h2 |h2
           ·exact .inl h2
           exact .inr ⟨en,nq,by rw[Qw,<-hbk];exact h2⟩)
          (vR hk (by omega) (by rw[bf,tH,<-fR];exact vS) ((hfx.mono (λ_ h=>h) Qx).append (gj.mono (λ_ h=>h) Qx)))
          (λi hi=>by cases hi)
         have h9: ∃a1 c1,v'= .slice a1 (len+ys.length) c1:=by
          rcases vS.2 with⟨hv,hn0⟩| ⟨g,qcp,cur,hv,_⟩
          ·exact⟨none,0,by rw[hv,hn0]⟩
          exact⟨_,_,hv⟩
         obtain⟨a1,cp1,h9⟩:=h9;obtain⟨c1,c2⟩:=cD d1 hs (v:=v') (cB.of (.sl n (aZ+1) (len+ys.length) v' (by rw[h9];rfl) ⟨_,bF _ _ _,zak _,λ_ _=>⟨_,_,_,by rw[bf];exact h9,h9,zak _⟩⟩));refine⟨v',w',_,cc,c1,?_⟩;rw[c2];exact d2
       cases hs
      cases hs
     cases hs
    ·split at hs
     ·rename_i oS;simp only[zab,zb0,aO] at oS;obtain⟨jX,cm⟩:=oS;split at hs
      ·rename_i s1 v hn;cases hx with
       |d hx=>
        cases hx;obtain⟨v',w',cc,vS,oT,hblk⟩:=pN (ty:=ty) ht hi KM (by rw[hzs,Bz,fR]) (World.ownsRow_nil w 0 e i.size) AF (by simpa [maxLen] using cm) (by simpa using jX);have qco: ∃a1 n1 c1,v'= .slice a1 n1 c1:=by
         rcases vS.2 with⟨hv,_⟩| ⟨g,qcp,cur,hv,_⟩
         ·exact⟨_,_,_,hv⟩
         exact⟨_,_,_,hv⟩
        have eP: ∀c,c<w.heap.size->w'.heap[c]?=w.heap[c]?:=λc hc=>oT.block c hc (by simp[Value.ownBlock]);have hf:=(gj.mono (F':=F) (w':=w') (λ_ h=>h) (λc hc=>eP c (h.jz c hc)))
        simp only[zaF,zbi] at vS;obtain⟨b1,b2,b3,b4⟩:=mJ h hn (g1:=v') (w':=w') (hdr:=qG _ cc) eP oT.size oT.os oT.tape oT.output
         (λc hc=>by
          simp only[bL] at hc;rw[<-vQ v' qco] at hc;rcases hblk c (by simpa using hc) with h2 |h2
          ·exact h2
          simp[Value.ownBlock] at h2)
         (vR hk (by omega) (by rw[bf,<-fR];exact vS) hf)
        have h9: ∃a1 c1,v'= .slice a1 ys.length c1:=by
         rcases vS.2 with⟨hv,hn0⟩| ⟨g,qcp,cur,hv,_⟩
         ·exact⟨none,0,by rw[hv,hn0]⟩
         exact⟨_,_,hv⟩
        obtain⟨a1,cp1,h9⟩:=h9;obtain⟨c1,c2⟩:=cD b1 hs (v:=v') (cB.of (.sl (site dst) v ys.length v' (by rw[h9];rfl) ⟨_,b4,zak _,λ_ _=>⟨_,_,_,by rw[bf];exact h9,h9,zak _⟩⟩));refine⟨v',w',_,cc,c1,?_⟩;rw[c2];exact b2
      cases hs
     cases hs
    cases hs
   cases hs
  cases hs
 cases hs
end
end Pi
