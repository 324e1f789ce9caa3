/- The text PiEfOk4. -/
import Derived.Test.YtpiohccneeblhaaPiSd
namespace Pi
open Go
section
variable{Q:Program}{T:Tg}{F:Nat->Prop}{G:Nat->Value}{w:World}{a:Act}{s:S}
theorem cy.drop{F:Nat->Prop}{w:World}{k:Nat}{es:List D}{xs:List Value}(h:cy F w k es xs)(m:Nat):cy F w k (es.drop m) (xs.drop (m*k)):=by refine⟨by rw[zbA,zbA,h.1,Nat.sub_mul],λi x hx=> ?_⟩;rw[za4] at hx;obtain⟨h1,h2,h3⟩:=h.2 (m+i) x hx;refine⟨h1,h2,λj c hc=> ?_⟩;have:=h3 j c hc;simp only[zaq] at this⊢;rw[za4,<-zbf,<-zaz];exact this
theorem tS(h:aq Q T F G w a s){t2:TypeId}{k:Nat}(jS:0<k){p:P}{ys:List D}(hs:iz Q s t2 k p=some ys){v:Value}(hv:ao F w G s.rg v p):
  ∃news,Src Q k t2 v ys.length news w/\cy F w k ys news:=by
 unfold iz at hs;split at hs
 next n az len=>
  split at hs
  next ty fz es e' ho sm=>
   split at hs
   ·rename_i dW;have hk:sz Q ty=some k:=by simpa using dW
    simp at hs;subst hs;obtain⟨e,he,bN,aP⟩:=S.aJ ho;have hO:=h.rg n e he;rw[aP] at hO;cases hv with
    |sl _ _ _ _ h1 hr=>
     obtain⟨a0,N,cap,hG,rfl,hle⟩:=hr.at he bN (by rw[aP];rfl);rcases hO with⟨hg,rfl⟩| ⟨b,dV,cs,k',hg,hh,ij,Cy,sg,qX,cp,_,hE⟩
     ·rw[hG] at hg;simp at hg;obtain⟨rfl,rfl,rfl⟩:=hg;have:len=0:=by omega
      subst this;exact⟨[],by simpa using Src.ofNil w sm 0,by simpa using cy.nil F w k⟩
     rw[hk] at ij;cases ij;rw[hG] at hg;simp at hg;obtain⟨rfl,rfl,rfl⟩:=hg;have xS:es.length*k<=cs.size:=by rw[cp];exact zah _ sg
     have hf:=cy.take hE hle xS;refine⟨_,?_,hf⟩;have JH:(es.take len).length=len:=by simp;omega
     rw[JH];refine Src.ofSlice w sm ⟨b,0,none⟩ len cap _ (by rw[hf.1,JH]) (λj u hu=> ?_) (hf.one jS);rw[bM,zbK,cell_of_row w b j cs ty (0,0) hh];rw[zaS] at hu;split at hu
     ·simpa using hu
     cases hu
   cases hs
  cases hs
 next n az k0 off len=>
  split at hs
  next ty fz es e' ho sm=>
   split at hs
   ·rename_i dW;rw[zad] at dW;have hk:sz Q ty=some k:=by simpa using dW.1
    have Mm:k0=k:=zab dW.2;subst Mm;simp at hs;subst hs;obtain⟨e,he,bN,aP⟩:=S.aJ ho;have hO:=h.rg n e he;rw[aP] at hO;cases hv with
    |hZ _ _ _ _ _ _ h1 hr=>
     obtain⟨a0,N,cap,hG,hle,a1,ll,rfl,Cc,hz⟩:=hr.at he bN (by rw[aP];rfl);by_cases h0:len=0
     ·subst h0;refine⟨[],?_,by simpa using cy.nil F w k0⟩;have:((es.drop off).take 0).length=0:=by simp
      rw[this];cases a1 with
      |none=>exact Src.ofNil w sm ll
      |some ad=>exact Src.ofSlice w sm ad 0 ll [] (by simp) (λj u hu=>by simp at hu) (λu hu=>by cases hu)
     obtain⟨b0,GW,Cd⟩: ∃b,a0=some ⟨b,0,none⟩/\a1=some ⟨b,off*k0,none⟩:=by
      rcases hz with hz |hz
      ·exact absurd hz h0
      exact hz
     subst GW Cd;rcases hO with⟨hg,rfl⟩| ⟨b,dV,cs,k',hg,hh,ij,Cy,sg,qX,cp,_,hE⟩
     ·rw[hG] at hg;simp at hg
     rw[hk] at ij;cases ij;rw[hG] at hg;simp at hg;obtain⟨rfl,rfl,rfl⟩:=hg;have xS:es.length*k0<=cs.size:=by rw[cp];exact zah _ sg
     have hf:=(cy.take hE hle xS).drop off;have Ph:(es.take (off+len)).drop off=(es.drop off).take len:=by rw[zcf,Nat.add_sub_cancel_left]
     rw[Ph] at hf;refine⟨_,?_,hf⟩;have JH:((es.drop off).take len).length=len:=by simp;omega
     rw[JH];refine Src.ofSlice w sm ⟨b0,off*k0,none⟩ len ll _ (by rw[hf.1,JH]) (λj u hu=> ?_) (hf.one jS);rw[bM,cell_of_row w b0 (off*k0+j) cs ty (0,0) hh];rw[za4,zaS] at hu;split at hu
     ·simpa using hu
     cases hu
   cases hs
  cases hs
 next k' es=>
  split at hs
  next e' sm=>
   split at hs
   ·rename_i dW;have dW:k'=k:=by simpa using dW
    subst dW;simp at hs;subst hs;cases hv with
    |d hv=>
     cases hv with
     |Bp a0 _ cap=>
      refine⟨[],?_,cy.nil F w _⟩;cases a0 with
      |none=>exact Src.ofNil w sm cap
      |some ad=>exact Src.ofSlice w sm ad 0 cap [] (by simp) (λj u hu=>by simp at hu) (λu hu=>by cases hu)
     |Bq b off _ cap _ f lP hb dW aW hw hr=>
      have hf:cy F w k' es ((List.range (es.length*k')).map f):=by
       refine⟨by simp,λi x hx=> ?_⟩;have lD:=zak hx;refine⟨dW x lD,aW x lD,λj c hc=> ?_⟩;have hi:i<es.length:=(zaa.1 hx).1;have hj:j<k':=by have h1:=(zaa.1 hc).1;have:=dW x lD;omega
       have bj:i*k'+j<es.length*k':=by
        calc i*k'+j<i*k'+k':=by omega
         _=(i+1)*k':=by rw[zaz,zaV]
         _<=es.length*k':=zah _ (by omega)
       have e:((List.range (es.length*k')).map f).getD (i*k'+j) undef=f (i*k'+j):=by simp[zaq,bj]
       rw[e];exact hr i j x c hx hc
      refine⟨_,?_,hf⟩;refine Src.ofSlice w sm ⟨b,off,none⟩ es.length cap _ hf.1 (λj u hu=> ?_) (hf.one jS);rw[zai] at hu;simp only[zaj] at hu;obtain⟨m,hm,rfl⟩:=hu;have Iv:j<es.length*k':=by have:=(zaa.1 hm).1;simpa using this
      rw[List.getElem?_range Iv] at hm;cases hm;rw[bM];exact hw j Iv
   cases hs
  cases hs
 ·split at hs
  next e' sm=>
   simp at hs;subst hs;cases hv with
   |d hv=>cases hv;exact⟨[],Src.ofNil w sm 0,cy.nil F w _⟩
  cases hs
 next l=>
  split at hs
  next sm=>
   split at hs
   ·rename_i tH;have tH:k=1:=by simpa using tH
    subst tH;simp at hs;subst hs;cases hv with
    |d hv=>
     cases hv;refine⟨byteCells ⟨⟨l⟩⟩,?_,?_,λi x hx=> ?_⟩
     ·have:=Src.ofString w sm ⟨⟨l⟩⟩;have e:(ByteArray.mk ⟨l⟩).size=(l.map λb=>D.int .u8 b.toNat).length:=by simp[ByteArray.size]
      rwa [e] at this
     ·rw[byteCells_length];simp[ByteArray.size]
     rw[zai] at hx;simp only[zaj] at hx;obtain⟨b,hb,rfl⟩:=hx;refine⟨rfl,λc hc=>by simp[D.cells] at hc;subst hc;rfl,λj c hc=> ?_⟩;cases j with
     |zero=>
      simp[D.cells] at hc;subst hc;have e:(byteCells ⟨⟨l⟩⟩).getD (i*1+0) undef= .int .u8 b.toNat:=by simp[byteCells,zaq,hb]
      rw[e];exact .int _ _
     |succ j=>simp[D.cells] at hc
   cases hs
  cases hs
 cases hs
theorem jq{e:TypeId}{i:TypeInfo}(hi:Q.info? e=some i){z:D}(hz:cQ Q e=some z): ∃zv,i.zero=some zv/\D.nh zv=some z/\zv.cells.size=z.cells.length:=by
 unfold cQ at hz;rw[hi] at hz;simp only at hz;split at hz
 next zv xI=>refine⟨zv,xI,hz,?_⟩;have:=(cH (aA.nh (λ_=>False) default hz)).1;simpa using this
 cases hz
theorem kA(v:Value):(∃a n c,v= .slice a n c)->v.ownBlock=aj v:=by rintro⟨a,n,c,rfl⟩;cases a<;>rfl
theorem kB{F':Nat->Prop}{G':Nat->Value}{w':World}{R':List (Nat×En)}{n:Nat}{e:TypeId}{k:Nat}(hk:sz Q e=some k)(jS:0<k){es:List D}{xs:List Value}(cA:w'.ownsRow 0 e k (G' n) es.length xs)(hf:cy F' w' k es xs):
  eO Q F' w' G' R' n (.arr e false es):=by
 rcases cA.2 with⟨hv,hn⟩| ⟨g,cap,cur,hv,_,hg,Gf,qX,hcs,Cw⟩
 ·exact .inl ⟨hv,zaJ hn⟩
 exact .inr ⟨g,cap,cur,k,hv,hg,hk,jS,Gf,qX,hcs,(λh=>by cases h),cy.Mk (by rw[Cw];exact hf)⟩
theorem mF: ∀{cs:List D} {j:Nat},mq cs=some j->cs[j]?=some .bu
 | [],_,h=>by cases h
 |c::r,j,h=>by
  unfold mq at h;cases c with
  |bu=>cases h;rfl
  |_=>
   simp only at h;cases hr:mq r with
   |none=>rw[hr] at h;cases h
   |some i=>rw[hr] at h;cases h;exact(zbo ..).trans (mF hr)
theorem xT{ys:List D}{j:Nat}(h:vo ys=some j): ∃y,ys=[y]/\y.cells[j]?=some .bu:=by
 unfold vo at h;split at h
 next y=>exact⟨y,rfl,mF h⟩
 cases h
theorem Ao{F':Nat->Prop}{G':Nat->Value}{w':World}{R':List (Nat×En)}{n:Nat}{ty:TypeId}{es:List D}{i j:Nat}{x:D}(hx:es[i]?=some x)(hj:x.cells[j]?=some .bu)(h:eO Q F' w' G' R' n (.arr ty false es)):
  eO Q F' w' G' R' n (.bC ty es (some (i,j,.d .bu))):=by
 rcases h with⟨_,rfl⟩| ⟨b,cap,cs,k,h1,h2,h3,h4,h5,h6,h7,_,hE⟩
 ·simp at hx
 refine .inr ⟨b,cap,cs,k,h1,h2,h3,h4,h5,h6,h7,λm y hy=> ?_,λa c p e=> ?_⟩
 ·obtain⟨a1,a2,a3⟩:=hE m y hy;exact⟨a1,a2,λj c hc _=>a3 j c hc⟩
 cases e;obtain⟨a1,a2,a3⟩:=hE i x hx;exact⟨(zaa.1 hx).1,by have:=(zaa.1 hj).1;omega,(a3 j _ hj).ie rfl,.d (a3 j _ hj)⟩
theorem xU(h:aq Q T F G w a s){dst:Option Nat}{t t2 ty:TypeId}{p q:P}{s':S}(hs:eH Q s dst t t2 p q=some s'){vx vy:Value}(hx:ao F w G s.rg vx p)(hy:ao F w G s.rg vy q):
  ∃v w' G',(Builtin.append_ #[t,t2] ty #[vx,vy]).run Q w= .ok v w'/\aq Q T F G' w' (a.put dst v) s'/\Ext (Own G s.rg) (Own G' s'.rg) F F w w':=by
 unfold eH at hs;split at hs
 ·cases hs
 rename_i e het;have ht:=cu het;split at hs
 next i k hi hk=>
  obtain⟨i',_,qY,_,cJ⟩:=dQ hk;have cJ:i'.size=k+1:=cJ;have hk:sz Q e=some (k+1):=hk;rw[hi] at qY;cases qY;split at hs
  next ys z Ix hz=>
   obtain⟨zv,xI,_,Gh⟩:=jq hi hz;split at hs
   ·rename_i rC;have rC:z.cells.length=k+1:=by simpa using rC
    obtain⟨news,pT,fg⟩:=tS h (by omega) Ix hy;rw[<-cJ] at pT;split at hs
    ·rename_i n az len;split at hs
     ·rename_i en eP;split at hs
      ·rename_i ty' es aP;split at hs
       ·rename_i cv;simp only[zad,zbd,bx] at cv;obtain⟨⟨⟨rD,sa⟩,hle⟩,nf,jT⟩:=cv;have rD:en.az=az:=by simpa using rD
        have sa:ty'=e:=by simpa using sa
        subst sa;cases hx with
        |sl _ _ _ _ h1 hr=>
         obtain⟨a0,N,cap,hG,rfl,JI⟩:=hr.at eP rD (by rw[aP];rfl);have hO:=h.rg n en eP;rw[aP] at hO;have oM: ∃xs,w.ownsRow 0 ty' i.size (.slice a0 len cap) len xs/\cy F w (k+1) (es.take len) xs:=by
          rcases hO with⟨hg,rfl⟩| ⟨b,dV,cs,k',hg,hh,ij,Cy,sg,qX,cp,_,hE⟩
          ·rw[hG] at hg;simp at hg;obtain⟨rfl,rfl,rfl⟩:=hg;have:len=0:=by omega
           subst this;exact⟨[],World.ownsRow_nil w 0 ty' i.size,by simpa using cy.nil F w (k+1)⟩
          rw[hk] at ij;cases ij;rw[hG] at hg;simp at hg;obtain⟨rfl,rfl,rfl⟩:=hg;have xS:es.length*(k+1)<=cs.size:=by rw[cp];exact zah _ sg
          have hf:=cy.take hE hle xS;refine⟨_,⟨?_,.inr ⟨b,cap,cs,rfl,za2 _,hh,by omega,qX,by rw[cJ];exact cp,by rw[cJ]⟩⟩,hf⟩;rw[hf.1,cJ];congr 1;simp;omega
         obtain⟨xs,cA,Mn⟩:=oM;obtain⟨v',w',aX,jM,eS,lS⟩:=gQ (ty:=ty) ht hi xI (by rw[Gh,rC,cJ]) cA pT (by simpa [maxLen] using jT) nf;have EV:Value.ownBlock (.slice a0 len cap)=aj (G n):=by rw[hG];cases a0<;>rfl
         have pU: ∀b,ay (G n) en.obj b↔aj (G n)=some b:=λb=>by rw[aP];simp[ay]
         have Cz: ∃a1 n1 c1,v'= .slice a1 n1 c1:=by
          rcases jM.2 with⟨hv,_⟩| ⟨g,xV,cur,hv,_⟩
          ·exact⟨_,_,_,hv⟩
          exact⟨_,_,_,hv⟩
         have kC:(es.take len++ys).length=len+ys.length:=by simp;omega
         have pV: ∀c,F c->w'.heap[c]?=w.heap[c]?:=λc hc=>eS.block c (h.fw c hc) (λe'=>by rw[EV] at e';exact h.gG n en c eP (by rw[pU];exact e'.symm) hc);obtain⟨d1,d2⟩:=h.iH (n:=n) (e1:=⟨az+1,none,.arr ty' false (es.take len++ys)⟩) (g1:=v') (w':=w') (hdr:=iT _ aX) (λe' bb=>by rw[eP] at bb;cases bb;exact .inl (by simp[rD]))
          (λc hc bg=>eS.block c hc (λe'=>bg ⟨en,eP,by rw[pU,<-EV];exact e'.symm⟩)) eS.size eS.os eS.tape eS.output
          (λc hc=>by
           simp only[ay] at hc;rw[<-kA v' Cz] at hc;rcases lS c (by simpa using hc) with h2 |h2
           ·exact .inl h2
           exact .inr ⟨en,eP,by rw[pU,<-EV];exact h2⟩)
          (kB hk (by omega) (by rw[aC,kC,<-cJ];exact jM) ((Mn.mono (λ_ h=>h) pV).append (fg.mono (λ_ h=>h) pV)))
          (λi hi=>by cases hi)
         have c6: ∃a1 c1,v'= .slice a1 (len+ys.length) c1:=by
          rcases jM.2 with⟨hv,He⟩| ⟨g,xV,cur,hv,_⟩
          ·exact⟨none,0,by rw[hv,He]⟩
          exact⟨_,_,hv⟩
         obtain⟨a1,Oq,c6⟩:=c6;obtain⟨c1,c2⟩:=bc d1 hs (v:=v') (bt.of (.sl n (az+1) (len+ys.length) v' (by rw[c6];rfl) ⟨_,aH _ _ _,zae _,λ_ _=>⟨_,_,_,by rw[aC];exact c6,c6,zae _⟩⟩));refine⟨v',w',_,aX,c1,?_⟩;rw[c2];exact d2
       cases hs
      ·rename_i ty' es aP;split at hs
       ·rename_i cv;split at hs
        rotate_left
        ·cases hs
        rename_i jn Pj;obtain⟨y0,Mp,Iy⟩:=xT Pj;simp only[zad,zbd,bx] at cv;obtain⟨⟨⟨rD,sa⟩,hle⟩,nf,jT⟩:=cv;have rD:en.az=az:=by simpa using rD
        have sa:ty'=e:=by simpa using sa
        subst sa;cases hx with
        |sl _ _ _ _ h1 hr=>
         obtain⟨a0,N,cap,hG,rfl,JI⟩:=hr.at eP rD (by rw[aP];rfl);have hO:=h.rg n en eP;rw[aP] at hO;have oM: ∃xs,w.ownsRow 0 ty' i.size (.slice a0 len cap) len xs/\cy F w (k+1) (es.take len) xs:=by
          rcases hO with⟨hg,rfl,_⟩| ⟨b,dV,cs,k',hg,hh,ij,Cy,sg,qX,cp,Pk⟩
          ·rw[hG] at hg;simp at hg;obtain⟨rfl,rfl,rfl⟩:=hg;have:len=0:=by omega
           subst this;exact⟨[],World.ownsRow_nil w 0 ty' i.size,by simpa using cy.nil F w (k+1)⟩
          rw[hk] at ij;cases ij;rw[hG] at hg;simp at hg;obtain⟨rfl,rfl,rfl⟩:=hg;have hE:fC F w cs (k+1) es:=λi x hx=>by obtain⟨z1,z2,z3⟩:=Pk.1 i x hx;exact⟨z1,z2,λj c hc=>z3 j c hc λp e=>by cases e⟩
          have xS:es.length*(k+1)<=cs.size:=by rw[cp];exact zah _ sg
          have hf:=cy.take hE hle xS;refine⟨_,⟨?_,.inr ⟨b,cap,cs,rfl,za2 _,hh,by omega,qX,by rw[cJ];exact cp,by rw[cJ]⟩⟩,hf⟩;rw[hf.1,cJ];congr 1;simp;omega
         obtain⟨xs,cA,Mn⟩:=oM;obtain⟨v',w',aX,jM,eS,lS⟩:=gQ (ty:=ty) ht hi xI (by rw[Gh,rC,cJ]) cA pT (by simpa [maxLen] using jT) nf;have EV:Value.ownBlock (.slice a0 len cap)=aj (G n):=by rw[hG];cases a0<;>rfl
         have pU: ∀b,ay (G n) en.obj b↔aj (G n)=some b:=λb=>by rw[aP];simp[ay]
         have Cz: ∃a1 n1 c1,v'= .slice a1 n1 c1:=by
          rcases jM.2 with⟨hv,_⟩| ⟨g,xV,cur,hv,_⟩
          ·exact⟨_,_,_,hv⟩
          exact⟨_,_,_,hv⟩
         have kC:(es.take len++ys).length=len+ys.length:=by simp;omega
         have pV: ∀c,F c->w'.heap[c]?=w.heap[c]?:=λc hc=>eS.block c (h.fw c hc) (λe'=>by rw[EV] at e';exact h.gG n en c eP (by rw[pU];exact e'.symm) hc);obtain⟨d1,d2⟩:=h.iH (n:=n) (e1:=⟨az+1,none,.bC ty' (es.take len++ys) (some (len,jn,.d .bu))⟩) (g1:=v') (w':=w') (hdr:=iT _ aX) (λe' bb=>by rw[eP] at bb;cases bb;exact .inl (by simp[rD]))
          (λc hc bg=>eS.block c hc (λe'=>bg ⟨en,eP,by rw[pU,<-EV];exact e'.symm⟩)) eS.size eS.os eS.tape eS.output
          (λc hc=>by
           simp only[ay] at hc;rw[<-kA v' Cz] at hc;rcases lS c (by simpa using hc) with h2 |h2
           ·exact .inl h2
           exact .inr ⟨en,eP,by rw[pU,<-EV];exact h2⟩)
          (Ao (i:=len) (x:=y0) (by rw[Mp,zaG (by rw[zbN];omega),zbN,zca hle];simp) Iy<|kB hk (by omega) (by rw[aC,kC,<-cJ];exact jM) ((Mn.mono (λ_ h=>h) pV).append (fg.mono (λ_ h=>h) pV)))
          (λi hi=>by cases hi)
         have c6: ∃a1 c1,v'= .slice a1 (len+ys.length) c1:=by
          rcases jM.2 with⟨hv,He⟩| ⟨g,xV,cur,hv,_⟩
          ·exact⟨none,0,by rw[hv,He]⟩
          exact⟨_,_,hv⟩
         obtain⟨a1,Oq,c6⟩:=c6;obtain⟨c1,c2⟩:=bc d1 hs (v:=v') (bt.of (.sl n (az+1) (len+ys.length) v' (by rw[c6];rfl) ⟨_,aH _ _ _,zae _,λ_ _=>⟨_,_,_,by rw[aC];exact c6,c6,zae _⟩⟩));refine⟨v',w',_,aX,c1,?_⟩;rw[c2];exact d2
       cases hs
      cases hs
     cases hs
    ·split at hs
     ·rename_i nK;simp only[zad,zbd,bx] at nK;obtain⟨nf,jT⟩:=nK;split at hs
      ·rename_i s1 v hn;cases hx with
       |d hx=>
        cases hx;obtain⟨v',w',aX,jM,eS,lS⟩:=gQ (ty:=ty) ht hi xI (by rw[Gh,rC,cJ]) (World.ownsRow_nil w 0 e i.size) pT (by simpa [maxLen] using jT) (by simpa using nf);have Cz: ∃a1 n1 c1,v'= .slice a1 n1 c1:=by
         rcases jM.2 with⟨hv,_⟩| ⟨g,xV,cur,hv,_⟩
         ·exact⟨_,_,_,hv⟩
         exact⟨_,_,_,hv⟩
        have bY: ∀c,c<w.heap.size->w'.heap[c]?=w.heap[c]?:=λc hc=>eS.block c hc (by simp[Value.ownBlock]);have hf:=(fg.mono (F':=F) (w':=w') (λ_ h=>h) (λc hc=>bY c (h.fw c hc)))
        simp only[zbK,zbv] at jM;obtain⟨b1,b2,b3,b4⟩:=gP h hn (g1:=v') (w':=w') (hdr:=iT _ aX) bY eS.size eS.os eS.tape eS.output
         (λc hc=>by
          simp only[ay] at hc;rw[<-kA v' Cz] at hc;rcases lS c (by simpa using hc) with h2 |h2
          ·exact h2
          simp[Value.ownBlock] at h2)
         (kB hk (by omega) (by rw[aC,<-cJ];exact jM) hf)
        have c6: ∃a1 c1,v'= .slice a1 ys.length c1:=by
         rcases jM.2 with⟨hv,He⟩| ⟨g,xV,cur,hv,_⟩
         ·exact⟨none,0,by rw[hv,He]⟩
         exact⟨_,_,hv⟩
        obtain⟨a1,Oq,c6⟩:=c6;obtain⟨c1,c2⟩:=bc b1 hs (v:=v') (bt.of (.sl (site dst) v ys.length v' (by rw[c6];rfl) ⟨_,b4,zae _,λ_ _=>⟨_,_,_,by rw[aC];exact c6,c6,zae _⟩⟩));refine⟨v',w',_,aX,c1,?_⟩;rw[c2];exact b2
      cases hs
     cases hs
    cases hs
   cases hs
  cases hs
 cases hs
end
end Pi
