/- The text PiEfOk4. -/
import Derived.Test.YtpiohccneeblhaaPiSd
namespace Pi
open Go
section
variable{Q:Program}{T:Tg}{F:Nat->Prop}{G:Nat->Value}{w:World}{a:Act}{s:S}
theorem cx.drop{F:Nat->Prop}{w:World}{k:Nat}{es:List D}{xs:List Value}(h:cx F w k es xs)(m:Nat):cx F w k (es.drop m) (xs.drop (m*k)):=by refine⟨by rw[zb5,zb5,h.1,Nat.sub_mul],λi x hx=> ?_⟩;rw[za3] at hx;obtain⟨h1,h2,h3⟩:=h.2 (m+i) x hx;refine⟨h1,h2,λj c hc=> ?_⟩;have:=h3 j c hc;simp only[zaq] at this⊢;rw[za3,<-zbf,<-zaz];exact this
theorem tL(h:aq Q T F G w a s){t2:TypeId}{k:Nat}(je:0<k){p:P}{ys:List D}(hs:iy Q s t2 k p=some ys){v:Value}(hv:ao F w G s.rg v p):
  ∃news,Src Q k t2 v ys.length news w/\cx F w k ys news:=by
 unfold iy at hs;split at hs
 next n ay len=>
  split at hs
  next ty fz es e' ho se=>
   split at hs
   ·rename_i dV;have hk:sz Q ty=some k:=by simpa using dV
    simp at hs;subst hs;obtain⟨e,he,bL,aP⟩:=S.aI ho;have hO:=h.rg n e he;rw[aP] at hO;cases hv with
    |sl _ _ _ _ h1 hr=>
     obtain⟨a0,N,cap,hG,rfl,hle⟩:=hr.at he bL (by rw[aP];rfl);rcases hO with⟨hg,rfl⟩| ⟨b,dU,cs,k',hg,hh,ig,Ch,sb,qU,cm,_,hE⟩
     ·rw[hG] at hg;simp at hg;obtain⟨rfl,rfl,rfl⟩:=hg;have:len=0:=by omega
      subst this;exact⟨[],by simpa using Src.ofNil w se 0,by simpa using cx.nil F w k⟩
     rw[hk] at ig;cases ig;rw[hG] at hg;simp at hg;obtain⟨rfl,rfl,rfl⟩:=hg;have xH:es.length*k<=cs.size:=by rw[cm];exact zag _ sb
     have hf:=cx.take hE hle xH;refine⟨_,?_,hf⟩;have Jd:(es.take len).length=len:=by simp;omega
     rw[Jd];refine Src.ofSlice w se ⟨b,0,none⟩ len cap _ (by rw[hf.1,Jd]) (λj u hu=> ?_) (hf.one je);rw[bK,zbK,cell_of_row w b j cs ty (0,0) hh];rw[zaS] at hu;split at hu
     ·simpa using hu
     cases hu
   cases hs
  cases hs
 next n ay k0 off len=>
  split at hs
  next ty fz es e' ho se=>
   split at hs
   ·rename_i dV;rw[zad] at dV;have hk:sz Q ty=some k:=by simpa using dV.1
    have LV:k0=k:=zab dV.2;subst LV;simp at hs;subst hs;obtain⟨e,he,bL,aP⟩:=S.aI ho;have hO:=h.rg n e he;rw[aP] at hO;cases hv with
    |hZ _ _ _ _ _ _ h1 hr=>
     obtain⟨a0,N,cap,hG,hle,a1,lj,rfl,BW,hz⟩:=hr.at he bL (by rw[aP];rfl);by_cases h0:len=0
     ·subst h0;refine⟨[],?_,by simpa using cx.nil F w k0⟩;have:((es.drop off).take 0).length=0:=by simp
      rw[this];cases a1 with
      |none=>exact Src.ofNil w se lj
      |some ad=>exact Src.ofSlice w se ad 0 lj [] (by simp) (λj u hu=>by simp at hu) (λu hu=>by cases hu)
     obtain⟨b0,GF,BX⟩: ∃b,a0=some ⟨b,0,none⟩/\a1=some ⟨b,off*k0,none⟩:=by
      rcases hz with hz |hz
      ·exact absurd hz h0
      exact hz
     subst GF BX;rcases hO with⟨hg,rfl⟩| ⟨b,dU,cs,k',hg,hh,ig,Ch,sb,qU,cm,_,hE⟩
     ·rw[hG] at hg;simp at hg
     rw[hk] at ig;cases ig;rw[hG] at hg;simp at hg;obtain⟨rfl,rfl,rfl⟩:=hg;have xH:es.length*k0<=cs.size:=by rw[cm];exact zag _ sb
     have hf:=(cx.take hE hle xH).drop off;have OI:(es.take (off+len)).drop off=(es.drop off).take len:=by rw[zce,Nat.add_sub_cancel_left]
     rw[OI] at hf;refine⟨_,?_,hf⟩;have Jd:((es.drop off).take len).length=len:=by simp;omega
     rw[Jd];refine Src.ofSlice w se ⟨b0,off*k0,none⟩ len lj _ (by rw[hf.1,Jd]) (λj u hu=> ?_) (hf.one je);rw[bK,cell_of_row w b0 (off*k0+j) cs ty (0,0) hh];rw[za3,zaS] at hu;split at hu
     ·simpa using hu
     cases hu
   cases hs
  cases hs
 next k' es=>
  split at hs
  next e' se=>
   split at hs
   ·rename_i dV;have dV:k'=k:=by simpa using dV
    subst dV;simp at hs;subst hs;cases hv with
    |d hv=>
     cases hv with
     |A9 a0 _ cap=>
      refine⟨[],?_,cx.nil F w _⟩;cases a0 with
      |none=>exact Src.ofNil w se cap
      |some ad=>exact Src.ofSlice w se ad 0 cap [] (by simp) (λj u hu=>by simp at hu) (λu hu=>by cases hu)
     |Ba b off _ cap _ f lN hb dV aW hw hr=>
      have hf:cx F w k' es ((List.range (es.length*k')).map f):=by
       refine⟨by simp,λi x hx=> ?_⟩;have lB:=zak hx;refine⟨dV x lB,aW x lB,λj c hc=> ?_⟩;have hi:i<es.length:=(zaa.1 hx).1;have hj:j<k':=by have h1:=(zaa.1 hc).1;have:=dV x lB;omega
       have bj:i*k'+j<es.length*k':=by
        calc i*k'+j<i*k'+k':=by omega
         _=(i+1)*k':=by rw[zaz,zaV]
         _<=es.length*k':=zag _ (by omega)
       have e:((List.range (es.length*k')).map f).getD (i*k'+j) undef=f (i*k'+j):=by simp[zaq,bj]
       rw[e];exact hr i j x c hx hc
      refine⟨_,?_,hf⟩;refine Src.ofSlice w se ⟨b,off,none⟩ es.length cap _ hf.1 (λj u hu=> ?_) (hf.one je);rw[zah] at hu;simp only[zaj] at hu;obtain⟨m,hm,rfl⟩:=hu;have Ib:j<es.length*k':=by have:=(zaa.1 hm).1;simpa using this
      rw[List.getElem?_range Ib] at hm;cases hm;rw[bK];exact hw j Ib
   cases hs
  cases hs
 ·split at hs
  next e' se=>
   simp at hs;subst hs;cases hv with
   |d hv=>cases hv;exact⟨[],Src.ofNil w se 0,cx.nil F w _⟩
  cases hs
 next l=>
  split at hs
  next se=>
   split at hs
   ·rename_i qS;have qS:k=1:=by simpa using qS
    subst qS;simp at hs;subst hs;cases hv with
    |d hv=>
     cases hv;refine⟨byteCells ⟨⟨l⟩⟩,?_,?_,λi x hx=> ?_⟩
     ·have:=Src.ofString w se ⟨⟨l⟩⟩;have e:(ByteArray.mk ⟨l⟩).size=(l.map λb=>D.int .u8 b.toNat).length:=by simp[ByteArray.size]
      rwa [e] at this
     ·rw[byteCells_length];simp[ByteArray.size]
     rw[zah] at hx;simp only[zaj] at hx;obtain⟨b,hb,rfl⟩:=hx;refine⟨rfl,λc hc=>by simp[D.cells] at hc;subst hc;rfl,λj c hc=> ?_⟩;cases j with
     |zero=>
      simp[D.cells] at hc;subst hc;have e:(byteCells ⟨⟨l⟩⟩).getD (i*1+0) undef= .int .u8 b.toNat:=by simp[byteCells,zaq,hb]
      rw[e];exact .int _ _
     |succ j=>simp[D.cells] at hc
   cases hs
  cases hs
 cases hs
theorem jq{e:TypeId}{i:TypeInfo}(hi:Q.info? e=some i){z:D}(hz:cQ Q e=some z): ∃zv,i.zero=some zv/\D.nc zv=some z/\zv.cells.size=z.cells.length:=by
 unfold cQ at hz;rw[hi] at hz;simp only at hz;split at hz
 next zv xw=>refine⟨zv,xw,hz,?_⟩;have:=(cH (az.nc (λ_=>False) default hz)).1;simpa using this
 cases hz
theorem kA(v:Value):(∃a n c,v= .slice a n c)->v.ownBlock=aj v:=by rintro⟨a,n,c,rfl⟩;cases a<;>rfl
theorem kB{F':Nat->Prop}{G':Nat->Value}{w':World}{R':List (Nat×En)}{n:Nat}{e:TypeId}{k:Nat}(hk:sz Q e=some k)(je:0<k){es:List D}{xs:List Value}(cz:w'.ownsRow 0 e k (G' n) es.length xs)(hf:cx F' w' k es xs):
  eN Q F' w' G' R' n (.arr e false es):=by
 rcases cz.2 with⟨hv,hn⟩| ⟨g,cap,cur,hv,_,hg,FX,qU,hcs,Cf⟩
 ·exact .inl ⟨hv,zaJ hn⟩
 exact .inr ⟨g,cap,cur,k,hv,hg,hk,je,FX,qU,hcs,(λh=>by cases h),cx.LS (by rw[Cf];exact hf)⟩
theorem mB: ∀{cs:List D} {j:Nat},mh cs=some j->cs[j]?=some .bt
 | [],_,h=>by cases h
 |c::r,j,h=>by
  unfold mh at h;cases c with
  |bt=>cases h;rfl
  |_=>
   simp only at h;cases hr:mh r with
   |none=>rw[hr] at h;cases h
   |some i=>rw[hr] at h;cases h;exact(zbl ..).trans (mB hr)
theorem xI{ys:List D}{j:Nat}(h:u7 ys=some j): ∃y,ys=[y]/\y.cells[j]?=some .bt:=by
 unfold u7 at h;split at h
 next y=>exact⟨y,rfl,mB h⟩
 cases h
theorem Aa{F':Nat->Prop}{G':Nat->Value}{w':World}{R':List (Nat×En)}{n:Nat}{ty:TypeId}{es:List D}{i j:Nat}{x:D}(hx:es[i]?=some x)(hj:x.cells[j]?=some .bt)(h:eN Q F' w' G' R' n (.arr ty false es)):
  eN Q F' w' G' R' n (.bA ty es (some (i,j,.d .bt))):=by
 rcases h with⟨_,rfl⟩| ⟨b,cap,cs,k,h1,h2,h3,h4,h5,h6,h7,_,hE⟩
 ·simp at hx
 refine .inr ⟨b,cap,cs,k,h1,h2,h3,h4,h5,h6,h7,λm y hy=> ?_,λa c p e=> ?_⟩
 ·obtain⟨a1,a2,a3⟩:=hE m y hy;exact⟨a1,a2,λj c hc _=>a3 j c hc⟩
 cases e;obtain⟨a1,a2,a3⟩:=hE i x hx;exact⟨(zaa.1 hx).1,by have:=(zaa.1 hj).1;omega,(a3 j _ hj).ic rfl,.d (a3 j _ hj)⟩
theorem xJ(h:aq Q T F G w a s){dst:Option Nat}{t t2 ty:TypeId}{p q:P}{s':S}(hs:eH Q s dst t t2 p q=some s'){vx vy:Value}(hx:ao F w G s.rg vx p)(hy:ao F w G s.rg vy q):
  ∃v w' G',(Builtin.append_ #[t,t2] ty #[vx,vy]).run Q w= .ok v w'/\aq Q T F G' w' (a.put dst v) s'/\Ext (Own G s.rg) (Own G' s'.rg) F F w w':=by
 unfold eH at hs;split at hs
 ·cases hs
 rename_i e het;have ht:=ct het;split at hs
 next i k hi hk=>
  obtain⟨i',_,qV,_,cJ⟩:=dP hk;have cJ:i'.size=k+1:=cJ;have hk:sz Q e=some (k+1):=hk;rw[hi] at qV;cases qV;split at hs
  next ys z Ie hz=>
   obtain⟨zv,xw,_,FZ⟩:=jq hi hz;split at hs
   ·rename_i rv;have rv:z.cells.length=k+1:=by simpa using rv
    obtain⟨news,pO,fg⟩:=tL h (by omega) Ie hy;rw[<-cJ] at pO;split at hs
    ·rename_i n ay len;split at hs
     ·rename_i en eO;split at hs
      ·rename_i ty' es aP;split at hs
       ·rename_i cu;simp only[zad,zbd,bw] at cu;obtain⟨⟨⟨rz,r5⟩,hle⟩,na,jT⟩:=cu;have rz:en.ay=ay:=by simpa using rz
        have r5:ty'=e:=by simpa using r5
        subst r5;cases hx with
        |sl _ _ _ _ h1 hr=>
         obtain⟨a0,N,cap,hG,rfl,Je⟩:=hr.at eO rz (by rw[aP];rfl);have hO:=h.rg n en eO;rw[aP] at hO;have oL: ∃xs,w.ownsRow 0 ty' i.size (.slice a0 len cap) len xs/\cx F w (k+1) (es.take len) xs:=by
          rcases hO with⟨hg,rfl⟩| ⟨b,dU,cs,k',hg,hh,ig,Ch,sb,qU,cm,_,hE⟩
          ·rw[hG] at hg;simp at hg;obtain⟨rfl,rfl,rfl⟩:=hg;have:len=0:=by omega
           subst this;exact⟨[],World.ownsRow_nil w 0 ty' i.size,by simpa using cx.nil F w (k+1)⟩
          rw[hk] at ig;cases ig;rw[hG] at hg;simp at hg;obtain⟨rfl,rfl,rfl⟩:=hg;have xH:es.length*(k+1)<=cs.size:=by rw[cm];exact zag _ sb
          have hf:=cx.take hE hle xH;refine⟨_,⟨?_,.inr ⟨b,cap,cs,rfl,za1 _,hh,by omega,qU,by rw[cJ];exact cm,by rw[cJ]⟩⟩,hf⟩;rw[hf.1,cJ];congr 1;simp;omega
         obtain⟨xs,cz,LW⟩:=oL;obtain⟨v',w',aX,jN,eR,lQ⟩:=gQ (ty:=ty) ht hi xw (by rw[FZ,rv,cJ]) cz pO (by simpa [maxLen] using jT) na;have EE:Value.ownBlock (.slice a0 len cap)=aj (G n):=by rw[hG];cases a0<;>rfl
         have pP: ∀b,ax (G n) en.obj b↔aj (G n)=some b:=λb=>by rw[aP];simp[ax]
         have Ci: ∃a1 n1 c1,v'= .slice a1 n1 c1:=by
          rcases jN.2 with⟨hv,_⟩| ⟨g,xK,cur,hv,_⟩
          ·exact⟨_,_,_,hv⟩
          exact⟨_,_,_,hv⟩
         have kC:(es.take len++ys).length=len+ys.length:=by simp;omega
         have pQ: ∀c,F c->w'.heap[c]?=w.heap[c]?:=λc hc=>eR.block c (h.fw c hc) (λe'=>by rw[EE] at e';exact h.gG n en c eO (by rw[pP];exact e'.symm) hc);obtain⟨d1,d2⟩:=h.iG (n:=n) (e1:=⟨ay+1,none,.arr ty' false (es.take len++ys)⟩) (g1:=v') (w':=w') (hdr:=iT _ aX) (λe' bc=>by rw[eO] at bc;cases bc;exact .inl (by simp[rz]))
          (λc hc bg=>eR.block c hc (λe'=>bg ⟨en,eO,by rw[pP,<-EE];exact e'.symm⟩)) eR.size eR.os eR.tape eR.output
          (λc hc=>by
           simp only[ax] at hc;rw[<-kA v' Ci] at hc;rcases lQ c (by simpa using hc) with h2 |h2
           ·exact .inl h2
           exact .inr ⟨en,eO,by rw[pP,<-EE];exact h2⟩)
          (kB hk (by omega) (by rw[aB,kC,<-cJ];exact jN) ((LW.mono (λ_ h=>h) pQ).append (fg.mono (λ_ h=>h) pQ)))
          (λi hi=>by cases hi)
         have c6: ∃a1 c1,v'= .slice a1 (len+ys.length) c1:=by
          rcases jN.2 with⟨hv,GS⟩| ⟨g,xK,cur,hv,_⟩
          ·exact⟨none,0,by rw[hv,GS]⟩
          exact⟨_,_,hv⟩
         obtain⟨a1,NR,c6⟩:=c6;obtain⟨c1,c2⟩:=bf d1 hs (v:=v') (br.of (.sl n (ay+1) (len+ys.length) v' (by rw[c6];rfl) ⟨_,aH _ _ _,zae _,λ_ _=>⟨_,_,_,by rw[aB];exact c6,c6,zae _⟩⟩));refine⟨v',w',_,aX,c1,?_⟩;rw[c2];exact d2
       cases hs
      ·rename_i ty' es aP;split at hs
       ·rename_i cu;split at hs
        rotate_left
        ·cases hs
        rename_i jn OJ;obtain⟨y0,LX,Ig⟩:=xI OJ;simp only[zad,zbd,bw] at cu;obtain⟨⟨⟨rz,r5⟩,hle⟩,na,jT⟩:=cu;have rz:en.ay=ay:=by simpa using rz
        have r5:ty'=e:=by simpa using r5
        subst r5;cases hx with
        |sl _ _ _ _ h1 hr=>
         obtain⟨a0,N,cap,hG,rfl,Je⟩:=hr.at eO rz (by rw[aP];rfl);have hO:=h.rg n en eO;rw[aP] at hO;have oL: ∃xs,w.ownsRow 0 ty' i.size (.slice a0 len cap) len xs/\cx F w (k+1) (es.take len) xs:=by
          rcases hO with⟨hg,rfl,_⟩| ⟨b,dU,cs,k',hg,hh,ig,Ch,sb,qU,cm,OL⟩
          ·rw[hG] at hg;simp at hg;obtain⟨rfl,rfl,rfl⟩:=hg;have:len=0:=by omega
           subst this;exact⟨[],World.ownsRow_nil w 0 ty' i.size,by simpa using cx.nil F w (k+1)⟩
          rw[hk] at ig;cases ig;rw[hG] at hg;simp at hg;obtain⟨rfl,rfl,rfl⟩:=hg;have hE:fC F w cs (k+1) es:=λi x hx=>by obtain⟨z1,z2,z3⟩:=OL.1 i x hx;exact⟨z1,z2,λj c hc=>z3 j c hc λp e=>by cases e⟩
          have xH:es.length*(k+1)<=cs.size:=by rw[cm];exact zag _ sb
          have hf:=cx.take hE hle xH;refine⟨_,⟨?_,.inr ⟨b,cap,cs,rfl,za1 _,hh,by omega,qU,by rw[cJ];exact cm,by rw[cJ]⟩⟩,hf⟩;rw[hf.1,cJ];congr 1;simp;omega
         obtain⟨xs,cz,LW⟩:=oL;obtain⟨v',w',aX,jN,eR,lQ⟩:=gQ (ty:=ty) ht hi xw (by rw[FZ,rv,cJ]) cz pO (by simpa [maxLen] using jT) na;have EE:Value.ownBlock (.slice a0 len cap)=aj (G n):=by rw[hG];cases a0<;>rfl
         have pP: ∀b,ax (G n) en.obj b↔aj (G n)=some b:=λb=>by rw[aP];simp[ax]
         have Ci: ∃a1 n1 c1,v'= .slice a1 n1 c1:=by
          rcases jN.2 with⟨hv,_⟩| ⟨g,xK,cur,hv,_⟩
          ·exact⟨_,_,_,hv⟩
          exact⟨_,_,_,hv⟩
         have kC:(es.take len++ys).length=len+ys.length:=by simp;omega
         have pQ: ∀c,F c->w'.heap[c]?=w.heap[c]?:=λc hc=>eR.block c (h.fw c hc) (λe'=>by rw[EE] at e';exact h.gG n en c eO (by rw[pP];exact e'.symm) hc);obtain⟨d1,d2⟩:=h.iG (n:=n) (e1:=⟨ay+1,none,.bA ty' (es.take len++ys) (some (len,jn,.d .bt))⟩) (g1:=v') (w':=w') (hdr:=iT _ aX) (λe' bc=>by rw[eO] at bc;cases bc;exact .inl (by simp[rz]))
          (λc hc bg=>eR.block c hc (λe'=>bg ⟨en,eO,by rw[pP,<-EE];exact e'.symm⟩)) eR.size eR.os eR.tape eR.output
          (λc hc=>by
           simp only[ax] at hc;rw[<-kA v' Ci] at hc;rcases lQ c (by simpa using hc) with h2 |h2
           ·exact .inl h2
           exact .inr ⟨en,eO,by rw[pP,<-EE];exact h2⟩)
          (Aa (i:=len) (x:=y0) (by rw[LX,zaG (by rw[zcr];omega),zcr,zb9 hle];simp) Ig<|kB hk (by omega) (by rw[aB,kC,<-cJ];exact jN) ((LW.mono (λ_ h=>h) pQ).append (fg.mono (λ_ h=>h) pQ)))
          (λi hi=>by cases hi)
         have c6: ∃a1 c1,v'= .slice a1 (len+ys.length) c1:=by
          rcases jN.2 with⟨hv,GS⟩| ⟨g,xK,cur,hv,_⟩
          ·exact⟨none,0,by rw[hv,GS]⟩
          exact⟨_,_,hv⟩
         obtain⟨a1,NR,c6⟩:=c6;obtain⟨c1,c2⟩:=bf d1 hs (v:=v') (br.of (.sl n (ay+1) (len+ys.length) v' (by rw[c6];rfl) ⟨_,aH _ _ _,zae _,λ_ _=>⟨_,_,_,by rw[aB];exact c6,c6,zae _⟩⟩));refine⟨v',w',_,aX,c1,?_⟩;rw[c2];exact d2
       cases hs
      cases hs
     cases hs
    ·split at hs
     ·rename_i nI;simp only[zad,zbd,bw] at nI;obtain⟨na,jT⟩:=nI;split at hs
      ·rename_i s1 v hn;cases hx with
       |d hx=>
        cases hx;obtain⟨v',w',aX,jN,eR,lQ⟩:=gQ (ty:=ty) ht hi xw (by rw[FZ,rv,cJ]) (World.ownsRow_nil w 0 e i.size) pO (by simpa [maxLen] using jT) (by simpa using na);have Ci: ∃a1 n1 c1,v'= .slice a1 n1 c1:=by
         rcases jN.2 with⟨hv,_⟩| ⟨g,xK,cur,hv,_⟩
         ·exact⟨_,_,_,hv⟩
         exact⟨_,_,_,hv⟩
        have bW: ∀c,c<w.heap.size->w'.heap[c]?=w.heap[c]?:=λc hc=>eR.block c hc (by simp[Value.ownBlock]);have hf:=(fg.mono (F':=F) (w':=w') (λ_ h=>h) (λc hc=>bW c (h.fw c hc)))
        simp only[zbK,zbv] at jN;obtain⟨b1,b2,b3,b4⟩:=gP h hn (g1:=v') (w':=w') (hdr:=iT _ aX) bW eR.size eR.os eR.tape eR.output
         (λc hc=>by
          simp only[ax] at hc;rw[<-kA v' Ci] at hc;rcases lQ c (by simpa using hc) with h2 |h2
          ·exact h2
          simp[Value.ownBlock] at h2)
         (kB hk (by omega) (by rw[aB,<-cJ];exact jN) hf)
        have c6: ∃a1 c1,v'= .slice a1 ys.length c1:=by
         rcases jN.2 with⟨hv,GS⟩| ⟨g,xK,cur,hv,_⟩
         ·exact⟨none,0,by rw[hv,GS]⟩
         exact⟨_,_,hv⟩
        obtain⟨a1,NR,c6⟩:=c6;obtain⟨c1,c2⟩:=bf b1 hs (v:=v') (br.of (.sl (site dst) v ys.length v' (by rw[c6];rfl) ⟨_,b4,zae _,λ_ _=>⟨_,_,_,by rw[aB];exact c6,c6,zae _⟩⟩));refine⟨v',w',_,aX,c1,?_⟩;rw[c2];exact b2
      cases hs
     cases hs
    cases hs
   cases hs
  cases hs
 cases hs
end
end Pi
