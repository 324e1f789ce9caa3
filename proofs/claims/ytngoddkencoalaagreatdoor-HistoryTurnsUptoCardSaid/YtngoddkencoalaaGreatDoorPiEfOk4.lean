/- The text PiEfOk4. -/
import Derived.Test.YtngoddkencoalaaGreatDoorPiSd
namespace Pi
open Go
section
variable{Q:Program}{T:Tg}{F:Nat->Prop}{G:Nat->Value}{w:World}{a:Act}{s:S}
theorem eu.drop{F:Nat->Prop}{w:World}{k:Nat}{es:List D}{xs:List Value}(h:eu F w k es xs)(m:Nat):eu F w k (es.drop m) (xs.drop (m*k)):=by refine⟨by rw[zbe,zbe,h.1,Nat.sub_mul],λi x hx=> ?_⟩;rw[zbY] at hx;obtain⟨h1,h2,h3⟩:=h.2 (m+i) x hx;refine⟨h1,h2,λj c hc=> ?_⟩;have:=h3 j c hc;simp only[zad] at this⊢;rw[zbY,<-zbG,<-zaZ];exact this
theorem D6(h:aG Q T F G w a s){t2:TypeId}{k:Nat}(gy:0<k){p:P}{ys:List D}(hs:mR Q s t2 k p=some ys){v:Value}(hv:aH F w G s.rg v p):
  ∃news,Src Q k t2 v ys.length news w/\eu F w k ys news:=by
 unfold mR at hs;split at hs
 next n aV len=>
  split at hs
  next ty fz es e' ho BE=>
   split at hs
   ·rename_i ju;have hk:sz Q ty=some k:=by simpa using ju
    simp at hs;subst hs;obtain⟨e,he,dT,b9⟩:=S.bI ho;have hO:=h.rg n e he;rw[b9] at hO;cases hv with
    |sl _ _ _ _ h1 hr=>
     obtain⟨a0,N,cap,hG,rfl,hle⟩:=hr.at he dT (by rw[b9];rfl);rcases hO with⟨hg,rfl⟩| ⟨b,iX,cs,k',hg,hh,nj,Y7,GI,yL,dN,_,hE⟩
     ·rw[hG] at hg;simp at hg;obtain⟨rfl,rfl,rfl⟩:=hg;have:len=0:=by omega
      subst this;exact⟨[],by simpa using Src.ofNil w BE 0,by simpa using eu.nil F w k⟩
     rw[hk] at nj;cases nj;rw[hG] at hg;simp at hg;obtain⟨rfl,rfl,rfl⟩:=hg;have Sh:es.length*k<=cs.size:=by rw[dN];exact zar _ GI
     have hf:=eu.take hE hle Sh;refine⟨_,?_,hf⟩;have rv:(es.take len).length=len:=by simp;omega
     rw[rv];refine Src.ofSlice w BE ⟨b,0,none⟩ len cap _ (by rw[hf.1,rv]) (λj u hu=> ?_) (hf.one gy);rw[addr_add,zaF,cell_of_row w b j cs ty (0,0) hh];rw[zbD] at hu;split at hu
     ·simpa using hu
     cases hu
   cases hs
  cases hs
 next n aV k0 off len=>
  split at hs
  next ty fz es e' ho BE=>
   split at hs
   ·rename_i ju;rw[zab] at ju;have hk:sz Q ty=some k:=by simpa using ju.1
    have qkM:k0=k:=zag ju.2;subst qkM;simp at hs;subst hs;obtain⟨e,he,dT,b9⟩:=S.bI ho;have hO:=h.rg n e he;rw[b9] at hO;cases hv with
    |mb _ _ _ _ _ _ h1 hr=>
     obtain⟨a0,N,cap,hG,hle,a1,rr,rfl,RQ,hz⟩:=hr.at he dT (by rw[b9];rfl);by_cases h0:len=0
     ·subst h0;refine⟨[],?_,by simpa using eu.nil F w k0⟩;have:((es.drop off).take 0).length=0:=by simp
      rw[this];cases a1 with
      |none=>exact Src.ofNil w BE rr
      |some ad=>exact Src.ofSlice w BE ad 0 rr [] (by simp) (λj u hu=>by simp at hu) (λu hu=>by cases hu)
     obtain⟨b0,ha0,RR⟩: ∃b,a0=some ⟨b,0,none⟩/\a1=some ⟨b,off*k0,none⟩:=by
      rcases hz with hz |hz
      ·exact absurd hz h0
      exact hz
     subst ha0 RR;rcases hO with⟨hg,rfl⟩| ⟨b,iX,cs,k',hg,hh,nj,Y7,GI,yL,dN,_,hE⟩
     ·rw[hG] at hg;simp at hg
     rw[hk] at nj;cases nj;rw[hG] at hg;simp at hg;obtain⟨rfl,rfl,rfl⟩:=hg;have Sh:es.length*k0<=cs.size:=by rw[dN];exact zar _ GI
     have hf:=(eu.take hE hle Sh).drop off;have hee:(es.take (off+len)).drop off=(es.drop off).take len:=by rw[zcX,Nat.add_sub_cancel_left]
     rw[hee] at hf;refine⟨_,?_,hf⟩;have rv:((es.drop off).take len).length=len:=by simp;omega
     rw[rv];refine Src.ofSlice w BE ⟨b0,off*k0,none⟩ len rr _ (by rw[hf.1,rv]) (λj u hu=> ?_) (hf.one gy);rw[addr_add,cell_of_row w b0 (off*k0+j) cs ty (0,0) hh];rw[zbY,zbD] at hu;split at hu
     ·simpa using hu
     cases hu
   cases hs
  cases hs
 next k' es=>
  split at hs
  next e' BE=>
   split at hs
   ·rename_i ju;have ju:k'=k:=by simpa using ju
    subst ju;simp at hs;subst hs;cases hv with
    |d hv=>
     cases hv with
     |J4 a0 _ cap=>
      refine⟨[],?_,eu.nil F w _⟩;cases a0 with
      |none=>exact Src.ofNil w BE cap
      |some ad=>exact Src.ofSlice w BE ad 0 cap [] (by simp) (λj u hu=>by simp at hu) (λu hu=>by cases hu)
     |Ml b off _ cap _ f xf hb ju bR hw hr=>
      have hf:eu F w k' es ((List.range (es.length*k')).map f):=by
       refine⟨by simp,λi x hx=> ?_⟩;have hxm:=zaC hx;refine⟨ju x hxm,bR x hxm,λj c hc=> ?_⟩;have hi:i<es.length:=(zaf.1 hx).1;have hj:j<k':=by have h1:=(zaf.1 hc).1;have:=ju x hxm;omega
       have bJ:i*k'+j<es.length*k':=by
        calc i*k'+j<i*k'+k':=by omega
         _=(i+1)*k':=by rw[zaZ,zbs]
         _<=es.length*k':=zar _ (by omega)
       have e:((List.range (es.length*k')).map f).getD (i*k'+j) undef=f (i*k'+j):=by simp[zad,bJ]
       rw[e];exact hr i j x c hx hc
      refine⟨_,?_,hf⟩;refine Src.ofSlice w BE ⟨b,off,none⟩ es.length cap _ hf.1 (λj u hu=> ?_) (hf.one gy);rw[zaD] at hu;simp only[zax] at hu;obtain⟨m,hm,rfl⟩:=hu;have Y6:j<es.length*k':=by have:=(zaf.1 hm).1;simpa using this
      rw[zcZ Y6] at hm;cases hm;rw[addr_add];exact hw j Y6
   cases hs
  cases hs
 ·split at hs
  next e' BE=>
   simp at hs;subst hs;cases hv with
   |d hv=>cases hv;exact⟨[],Src.ofNil w BE 0,eu.nil F w _⟩
  cases hs
 next l=>
  split at hs
  next BE=>
   split at hs
   ·rename_i ft;have ft:k=1:=by simpa using ft
    subst ft;simp at hs;subst hs;cases hv with
    |d hv=>
     cases hv;refine⟨byteCells ⟨⟨l⟩⟩,?_,?_,λi x hx=> ?_⟩
     ·have:=Src.ofString w BE ⟨⟨l⟩⟩;have e:(ByteArray.mk ⟨l⟩).size=(l.map λb=>D.int .u8 b.toNat).length:=by simp[ByteArray.size]
      rwa [e] at this
     ·rw[byteCells_length];simp[ByteArray.size]
     rw[zaD] at hx;simp only[zax] at hx;obtain⟨b,hb,rfl⟩:=hx;refine⟨rfl,λc hc=>by simp[D.cells] at hc;subst hc;rfl,λj c hc=> ?_⟩;cases j with
     |zero=>
      simp[D.cells] at hc;subst hc;have e:(byteCells ⟨⟨l⟩⟩).getD (i*1+0) undef= .int .u8 b.toNat:=by simp[byteCells,zad,hb]
      rw[e];exact .int _ _
     |succ j=>simp[D.cells] at hc
   cases hs
  cases hs
 cases hs
theorem oI{e:TypeId}{i:TypeInfo}(hi:Q.info? e=some i){z:D}(hz:ez Q e=some z): ∃zv,i.zero=some zv/\D.vi zv=some z/\zv.cells.size=z.cells.length:=by
 unfold ez at hz;rw[hi] at hz;simp only at hz;split at hz
 next zv Mn=>refine⟨zv,Mn,hz,?_⟩;have:=(ec (aS.vi (λ_=>False) default hz)).1;simpa using this
 cases hz
theorem wo(v:Value):(∃a n c,v= .slice a n c)->v.ownBlock=aM v:=by rintro⟨a,n,c,rfl⟩;cases a<;>rfl
theorem wq{F':Nat->Prop}{G':Nat->Value}{w':World}{R':List (Nat×En)}{n:Nat}{e:TypeId}{k:Nat}(hk:sz Q e=some k)(gy:0<k){es:List D}{xs:List Value}(ga:w'.ownsRow 0 e k (G' n) es.length xs)(hf:eu F' w' k es xs):
  pG Q F' w' G' R' n (.arr e false es):=by
 rcases ga.2 with⟨hv,hn⟩| ⟨g,cap,cur,hv,_,hg,hnc,yL,hcs,Sf⟩
 ·exact .inl ⟨hv,zaA hn⟩
 exact .inr ⟨g,cap,cur,k,hv,hg,hk,gy,hnc,yL,hcs,(λh=>by cases h),eu.toE (by rw[Sf];exact hf)⟩
theorem Ke(h:aG Q T F G w a s){dst:Option Nat}{t t2 ty:TypeId}{p q:P}{s':S}(hs:jn Q s dst t t2 p q=some s'){vx vy:Value}(hx:aH F w G s.rg vx p)(hy:aH F w G s.rg vy q):
  ∃v w' G',(Builtin.append_ #[t,t2] ty #[vx,vy]).run Q w= .ok v w'/\aG Q T F G' w' (a.put dst v) s'/\Ext (Own G s.rg) (Own G' s'.rg) F F w w':=by
 unfold jn at hs;split at hs
 ·cases hs
 rename_i e het;have ht:=dI het;split at hs
 next i k hi hk=>
  obtain⟨i',_,yT,_,fT⟩:=gx hk;have fT:i'.size=k+1:=fT;have hk:sz Q e=some (k+1):=hk;rw[hi] at yT;cases yT;split at hs
  next ys z hys hz=>
   obtain⟨zv,Mn,_,hzs⟩:=oI hi hz;split at hs
   ·rename_i Cw;have Cw:z.cells.length=k+1:=by simpa using Cw
    obtain⟨news,BF,gg⟩:=D6 h (by omega) hys hy;rw[<-fT] at BF;split at hs
    ·rename_i n aV len;split at hs
     ·rename_i en nE;split at hs
      ·rename_i ty' es b9;split at hs
       ·rename_i eP;simp only[zab,zcc,aI] at eP;obtain⟨⟨⟨Si,J6⟩,hle⟩,j7,cu⟩:=eP;have Si:en.aV=aV:=by simpa using Si
        have J6:ty'=e:=by simpa using J6
        subst J6;cases hx with
        |sl _ _ _ _ h1 hr=>
         obtain⟨a0,N,cap,hG,rfl,qkN⟩:=hr.at nE Si (by rw[b9];rfl);have hO:=h.rg n en nE;rw[b9] at hO;have GP: ∃xs,w.ownsRow 0 ty' i.size (.slice a0 len cap) len xs/\eu F w (k+1) (es.take len) xs:=by
          rcases hO with⟨hg,rfl⟩| ⟨b,iX,cs,k',hg,hh,nj,Y7,GI,yL,dN,_,hE⟩
          ·rw[hG] at hg;simp at hg;obtain⟨rfl,rfl,rfl⟩:=hg;have:len=0:=by omega
           subst this;exact⟨[],World.ownsRow_nil w 0 ty' i.size,by simpa using eu.nil F w (k+1)⟩
          rw[hk] at nj;cases nj;rw[hG] at hg;simp at hg;obtain⟨rfl,rfl,rfl⟩:=hg;have Sh:es.length*(k+1)<=cs.size:=by rw[dN];exact zar _ GI
          have hf:=eu.take hE hle Sh;refine⟨_,⟨?_,.inr ⟨b,cap,cs,rfl,za1 _,hh,by omega,yL,by rw[fT];exact dN,by rw[fT]⟩⟩,hf⟩;rw[hf.1,fT];congr 1;simp;omega
         obtain⟨xs,ga,hfx⟩:=GP;obtain⟨v',w',cb,wu,po,hblk⟩:=qo (ty:=ty) ht hi Mn (by rw[hzs,Cw,fT]) ga BF (by simpa [maxLen] using cu) j7;have hbk:Value.ownBlock (.slice a0 len cap)=aM (G n):=by rw[hG];cases a0<;>rfl
         have Sj:bF (G n) en.obj=aM (G n):=by rw[b9];simp[bF]
         have qek: ∃a1 n1 c1,v'= .slice a1 n1 c1:=by
          rcases wu.2 with⟨hv,_⟩| ⟨g,qel,cur,hv,_⟩
          ·exact⟨_,_,_,hv⟩
          exact⟨_,_,_,hv⟩
         have tM:(es.take len++ys).length=len+ys.length:=by simp;omega
         have Sk: ∀c,F c->w'.heap[c]?=w.heap[c]?:=λc hc=>po.block c (h.jE c hc) (λe'=>by rw[hbk] at e';exact h.nf n en c nE (by rw[Sj];exact e'.symm) hc);obtain⟨d1,d2⟩:=h.oe (n:=n) (e1:=⟨aV+1,none,.arr ty' false (es.take len++ys)⟩) (g1:=v') (w':=w') (hdr:=q4 _ cb) (λe' cS=>by rw[nE] at cS;cases cS;exact .inl (by simp[Si]))
          (λc hc bS=>po.block c hc (λe'=>bS ⟨en,nE,by rw[Sj,<-hbk];exact e'.symm⟩)) po.size po.os po.tape po.output
          (λc hc=>by
           simp only[bF] at hc;rw[<-wo v' qek] at hc;rcases hblk c (by simpa using hc) with h2 |h2
           ·exact .inl h2
           exact .inr ⟨en,nE,by rw[Sj,<-hbk];exact h2⟩)
          (wq hk (by omega) (by rw[a7,tM,<-fT];exact wu) ((hfx.mono (λ_ h=>h) Sk).append (gg.mono (λ_ h=>h) Sk)))
          (λi hi=>by cases hi)
         have h9: ∃a1 c1,v'= .slice a1 (len+ys.length) c1:=by
          rcases wu.2 with⟨hv,hn0⟩| ⟨g,qel,cur,hv,_⟩
          ·exact⟨none,0,by rw[hv,hn0]⟩
          exact⟨_,_,hv⟩
         obtain⟨a1,cp1,h9⟩:=h9;obtain⟨c1,c2⟩:=cC d1 hs (v:=v') (cA.of (.sl n (aV+1) (len+ys.length) v' (by rw[h9];rfl) ⟨_,bC _ _ _,zak _,λ_ _=>⟨_,_,_,by rw[a7];exact h9,h9,zak _⟩⟩));refine⟨v',w',_,cb,c1,?_⟩;rw[c2];exact d2
       cases hs
      cases hs
     cases hs
    ·split at hs
     ·rename_i pk;simp only[zab,zcc,aI] at pk;obtain⟨j7,cu⟩:=pk;split at hs
      ·rename_i s1 v hn;cases hx with
       |d hx=>
        cases hx;obtain⟨v',w',cb,wu,po,hblk⟩:=qo (ty:=ty) ht hi Mn (by rw[hzs,Cw,fT]) (World.ownsRow_nil w 0 e i.size) BF (by simpa [maxLen] using cu) (by simpa using j7);have qek: ∃a1 n1 c1,v'= .slice a1 n1 c1:=by
         rcases wu.2 with⟨hv,_⟩| ⟨g,qel,cur,hv,_⟩
         ·exact⟨_,_,_,hv⟩
         exact⟨_,_,_,hv⟩
        have eQ: ∀c,c<w.heap.size->w'.heap[c]?=w.heap[c]?:=λc hc=>po.block c hc (by simp[Value.ownBlock]);have hf:=(gg.mono (F':=F) (w':=w') (λ_ h=>h) (λc hc=>eQ c (h.jE c hc)))
        simp only[zaF,zbk] at wu;obtain⟨b1,b2,b3,b4⟩:=mV h hn (g1:=v') (w':=w') (hdr:=q4 _ cb) eQ po.size po.os po.tape po.output
         (λc hc=>by
          simp only[bF] at hc;rw[<-wo v' qek] at hc;rcases hblk c (by simpa using hc) with h2 |h2
          ·exact h2
          simp[Value.ownBlock] at h2)
         (wq hk (by omega) (by rw[a7,<-fT];exact wu) hf)
        have h9: ∃a1 c1,v'= .slice a1 ys.length c1:=by
         rcases wu.2 with⟨hv,hn0⟩| ⟨g,qel,cur,hv,_⟩
         ·exact⟨none,0,by rw[hv,hn0]⟩
         exact⟨_,_,hv⟩
        obtain⟨a1,cp1,h9⟩:=h9;obtain⟨c1,c2⟩:=cC b1 hs (v:=v') (cA.of (.sl (site dst) v ys.length v' (by rw[h9];rfl) ⟨_,b4,zak _,λ_ _=>⟨_,_,_,by rw[a7];exact h9,h9,zak _⟩⟩));refine⟨v',w',_,cb,c1,?_⟩;rw[c2];exact b2
      cases hs
     cases hs
    cases hs
   cases hs
  cases hs
 cases hs
end
end Pi
