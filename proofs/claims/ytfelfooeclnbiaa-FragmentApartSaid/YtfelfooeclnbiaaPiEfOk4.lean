/- The text PiEfOk4. -/
import Derived.Test.YtfelfooeclnbiaaPiSd
namespace Pi
open Go
section
variable{Q:Program}{T:Tg}{F:Nat->Prop}{G:Nat->Value}{w:World}{a:Act}{s:S}
theorem bR.drop{F:Nat->Prop}{w:World}{k:Nat}{es:List D}{xs:List Value}(h:bR F w k es xs)(m:Nat):bR F w k (es.drop m) (xs.drop (m*k)):=by refine⟨by rw[zaC,zaC,h.1,Nat.sub_mul],λi x hx=> ?_⟩;rw[zbg] at hx;obtain⟨h1,h2,h3⟩:=h.2 (m+i) x hx;refine⟨h1,h2,λj c hc=> ?_⟩;have:=h3 j c hc;simp only[zai] at this⊢;rw[zbg,<-zaU,<-zau];exact this
theorem pD(h:aq Q T F G w a s){t2:TypeId}{k:Nat}(l3:0<k){p:P}{ys:List D}(hs:fm Q s t2 k p=some ys){v:Value}(hv:ak F w G s.rg v p):
  ∃news,Src Q k t2 v ys.length news w/\bR F w k ys news:=by
 unfold fm at hs;split at hs
 next n aw len=>
  split at hs
  next ty fz es e' ho oC=>
   split at hs
   ·rename_i dS;have hk:sz Q ty=some k:=by simpa using dS
    simp at hs;subst hs;obtain⟨e,he,bM,aO⟩:=S.aI ho;have hO:=h.rg n e he;rw[aO] at hO;cases hv with
    |sl _ _ _ _ h1 hr=>
     obtain⟨a0,N,cap,hG,rfl,hle⟩:=hr.at he bM (by rw[aO];rfl);rcases hO with⟨hg,rfl⟩| ⟨b,dR,cs,k',hg,hh,gf,y7,rT,nI,bK,_,hE⟩
     ·rw[hG] at hg;simp at hg;obtain⟨rfl,rfl,rfl⟩:=hg;have:len=0:=by omega
      subst this;exact⟨[],by simpa using Src.ofNil w oC 0,by simpa using bR.nil F w k⟩
     rw[hk] at gf;cases gf;rw[hG] at hg;simp at hg;obtain⟨rfl,rfl,rfl⟩:=hg;have wV:es.length*k<=cs.size:=by rw[bK];exact zag _ rT
     have hf:=bR.take hE hle wV;refine⟨_,?_,hf⟩;have Aj:(es.take len).length=len:=by simp;omega
     rw[Aj];refine Src.ofSlice w oC ⟨b,0,none⟩ len cap _ (by rw[hf.1,Aj]) (λj u hu=> ?_) (hf.one l3);rw[bp,zbc,cell_of_row w b j cs ty (0,0) hh];rw[zaQ] at hu;split at hu
     ·simpa using hu
     cases hu
   cases hs
  cases hs
 next n aw k0 off len=>
  split at hs
  next ty fz es e' ho oC=>
   split at hs
   ·rename_i dS;rw[zac] at dS;have hk:sz Q ty=some k:=by simpa using dS.1
    have Ff:k0=k:=zab dS.2;subst Ff;simp at hs;subst hs;obtain⟨e,he,bM,aO⟩:=S.aI ho;have hO:=h.rg n e he;rw[aO] at hO;cases hv with
    |e9 _ _ _ _ _ _ h1 hr=>
     obtain⟨a0,N,cap,hG,hle,a1,iZ,rfl,wF,hz⟩:=hr.at he bM (by rw[aO];rfl);by_cases h0:len=0
     ·subst h0;refine⟨[],?_,by simpa using bR.nil F w k0⟩;have:((es.drop off).take 0).length=0:=by simp
      rw[this];cases a1 with
      |none=>exact Src.ofNil w oC iZ
      |some ad=>exact Src.ofSlice w oC ad 0 iZ [] (by simp) (λj u hu=>by simp at hu) (λu hu=>by cases hu)
     obtain⟨b0,AW,wG⟩: ∃b,a0=some ⟨b,0,none⟩/\a1=some ⟨b,off*k0,none⟩:=by
      rcases hz with hz |hz
      ·exact absurd hz h0
      exact hz
     subst AW wG;rcases hO with⟨hg,rfl⟩| ⟨b,dR,cs,k',hg,hh,gf,y7,rT,nI,bK,_,hE⟩
     ·rw[hG] at hg;simp at hg
     rw[hk] at gf;cases gf;rw[hG] at hg;simp at hg;obtain⟨rfl,rfl,rfl⟩:=hg;have wV:es.length*k0<=cs.size:=by rw[bK];exact zag _ rT
     have hf:=(bR.take hE hle wV).drop off;have HA:(es.take (off+len)).drop off=(es.drop off).take len:=by rw[zbE,Nat.add_sub_cancel_left]
     rw[HA] at hf;refine⟨_,?_,hf⟩;have Aj:((es.drop off).take len).length=len:=by simp;omega
     rw[Aj];refine Src.ofSlice w oC ⟨b0,off*k0,none⟩ len iZ _ (by rw[hf.1,Aj]) (λj u hu=> ?_) (hf.one l3);rw[bp,cell_of_row w b0 (off*k0+j) cs ty (0,0) hh];rw[zbg,zaQ] at hu;split at hu
     ·simpa using hu
     cases hu
   cases hs
  cases hs
 next k' es=>
  split at hs
  next e' oC=>
   split at hs
   ·rename_i dS;have dS:k'=k:=by simpa using dS
    subst dS;simp at hs;subst hs;cases hv with
    |d hv=>
     cases hv with
     |uu a0 _ cap=>
      refine⟨[],?_,bR.nil F w _⟩;cases a0 with
      |none=>exact Src.ofNil w oC cap
      |some ad=>exact Src.ofSlice w oC ad 0 cap [] (by simp) (λj u hu=>by simp at hu) (λu hu=>by cases hu)
     |vG b off _ cap _ f j9 hb dS aQ hw hr=>
      have hf:bR F w k' es ((List.range (es.length*k')).map f):=by
       refine⟨by simp,λi x hx=> ?_⟩;have Af:=zan hx;refine⟨dS x Af,aQ x Af,λj c hc=> ?_⟩;have hi:i<es.length:=(zaa.1 hx).1;have hj:j<k':=by have h1:=(zaa.1 hc).1;have:=dS x Af;omega
       have bu:i*k'+j<es.length*k':=by
        calc i*k'+j<i*k'+k':=by omega
         _=(i+1)*k':=by rw[zau,zaN]
         _<=es.length*k':=zag _ (by omega)
       have e:((List.range (es.length*k')).map f).getD (i*k'+j) undef=f (i*k'+j):=by simp[zai,bu]
       rw[e];exact hr i j x c hx hc
      refine⟨_,?_,hf⟩;refine Src.ofSlice w oC ⟨b,off,none⟩ es.length cap _ hf.1 (λj u hu=> ?_) (hf.one l3);rw[zao] at hu;simp only[zaj] at hu;obtain⟨m,hm,rfl⟩:=hu;have CW:j<es.length*k':=by have:=(zaa.1 hm).1;simpa using this
      rw[List.getElem?_range CW] at hm;cases hm;rw[bp];exact hw j CW
   cases hs
  cases hs
 ·split at hs
  next e' oC=>
   simp at hs;subst hs;cases hv with
   |d hv=>cases hv;exact⟨[],Src.ofNil w oC 0,bR.nil F w _⟩
  cases hs
 next l=>
  split at hs
  next oC=>
   split at hs
   ·rename_i yQ;have yQ:k=1:=by simpa using yQ
    subst yQ;simp at hs;subst hs;cases hv with
    |d hv=>
     cases hv;refine⟨byteCells ⟨⟨l⟩⟩,?_,?_,λi x hx=> ?_⟩
     ·have:=Src.ofString w oC ⟨⟨l⟩⟩;have e:(ByteArray.mk ⟨l⟩).size=(l.map λb=>D.int .u8 b.toNat).length:=by simp[ByteArray.size]
      rwa [e] at this
     ·rw[byteCells_length];simp[ByteArray.size]
     rw[zao] at hx;simp only[zaj] at hx;obtain⟨b,hb,rfl⟩:=hx;refine⟨rfl,λc hc=>by simp[D.cells] at hc;subst hc;rfl,λj c hc=> ?_⟩;cases j with
     |zero=>
      simp[D.cells] at hc;subst hc;have e:(byteCells ⟨⟨l⟩⟩).getD (i*1+0) undef= .int .u8 b.toNat:=by simp[byteCells,zai,hb]
      rw[e];exact .int _ _
     |succ j=>simp[D.cells] at hc
   cases hs
  cases hs
 cases hs
theorem gi{e:TypeId}{i:TypeInfo}(hi:Q.info? e=some i){z:D}(hz:bS Q e=some z): ∃zv,i.zero=some zv/\D.kD zv=some z/\zv.cells.size=z.cells.length:=by
 unfold bS at hz;rw[hi] at hz;simp only at hz;split at hz
 next zv tH=>refine⟨zv,tH,hz,?_⟩;have:=(bO (ax.kD (λ_=>False) default hz)).1;simpa using this
 cases hz
theorem ln(v:Value):(∃a n c,v= .slice a n c)->v.ownBlock=ar v:=by rintro⟨a,n,c,rfl⟩;cases a<;>rfl
theorem lp{F':Nat->Prop}{G':Nat->Value}{w':World}{R':List (Nat×En)}{n:Nat}{e:TypeId}{k:Nat}(hk:sz Q e=some k)(l3:0<k){es:List D}{xs:List Value}(cx:w'.ownsRow 0 e k (G' n) es.length xs)(hf:bR F' w' k es xs):
  hZ Q F' w' G' R' n (.arr e false es):=by
 rcases cx.2 with⟨hv,hn⟩| ⟨g,cap,cur,hv,_,hg,CV,nI,hcs,wT⟩
 ·exact .inl ⟨hv,zap hn⟩
 exact .inr ⟨g,cap,cur,k,hv,hg,hk,l3,CV,nI,hcs,(λh=>by cases h),bR.Fc (by rw[wT];exact hf)⟩
theorem sE(h:aq Q T F G w a s){dst:Option Nat}{t t2 ty:TypeId}{p q:P}{s':S}(hs:dy Q s dst t t2 p q=some s'){vx vy:Value}(hx:ak F w G s.rg vx p)(hy:ak F w G s.rg vy q):
  ∃v w' G',(Builtin.append_ #[t,t2] ty #[vx,vy]).run Q w= .ok v w'/\aq Q T F G' w' (a.put dst v) s'/\Ext (Own G s.rg) (Own G' s'.rg) F F w w':=by
 unfold dy at hs;split at hs
 ·cases hs
 rename_i e het;have ht:=bI het;split at hs
 next i k hi hk=>
  obtain⟨i',_,kB,_,cz⟩:=cG hk;have cz:i'.size=k+1:=cz;have hk:sz Q e=some (k+1):=hk;rw[hi] at kB;cases kB;split at hs
  next ys z Cg hz=>
   obtain⟨zv,tH,_,wS⟩:=gi hi hz;split at hs
   ·rename_i oD;have oD:z.cells.length=k+1:=by simpa using oD
    obtain⟨news,nW,jD⟩:=pD h (by omega) Cg hy;rw[<-cz] at nW;split at hs
    ·rename_i n aw len;split at hs
     ·rename_i en ec;split at hs
      ·rename_i ty' es aO;split at hs
       ·rename_i cc;simp only[zac,zbd,eD] at cc;obtain⟨⟨⟨ij,sm⟩,hle⟩,lh,ja⟩:=cc;have ij:en.aw=aw:=by simpa using ij
        have sm:ty'=e:=by simpa using sm
        subst sm;cases hx with
        |sl _ _ _ _ h1 hr=>
         obtain⟨a0,N,cap,hG,rfl,Fg⟩:=hr.at ec ij (by rw[aO];rfl);have hO:=h.rg n en ec;rw[aO] at hO;have fH: ∃xs,w.ownsRow 0 ty' i.size (.slice a0 len cap) len xs/\bR F w (k+1) (es.take len) xs:=by
          rcases hO with⟨hg,rfl⟩| ⟨b,dR,cs,k',hg,hh,gf,y7,rT,nI,bK,_,hE⟩
          ·rw[hG] at hg;simp at hg;obtain⟨rfl,rfl,rfl⟩:=hg;have:len=0:=by omega
           subst this;exact⟨[],World.ownsRow_nil w 0 ty' i.size,by simpa using bR.nil F w (k+1)⟩
          rw[hk] at gf;cases gf;rw[hG] at hg;simp at hg;obtain⟨rfl,rfl,rfl⟩:=hg;have wV:es.length*(k+1)<=cs.size:=by rw[bK];exact zag _ rT
          have hf:=bR.take hE hle wV;refine⟨_,⟨?_,.inr ⟨b,cap,cs,rfl,zaR _,hh,by omega,nI,by rw[cz];exact bK,by rw[cz]⟩⟩,hf⟩;rw[hf.1,cz];congr 1;simp;omega
         obtain⟨xs,cx,HB⟩:=fH;obtain⟨v',w',aY,lq,gB,kM⟩:=ig (ty:=ty) ht hi tH (by rw[wS,oD,cz]) cx nW (by simpa [maxLen] using ja) lh;have y8:Value.ownBlock (.slice a0 len cap)=ar (G n):=by rw[hG];cases a0<;>rfl
         have wW:aG (G n) en.obj=ar (G n):=by rw[aO];simp[aG]
         have A9: ∃a1 n1 c1,v'= .slice a1 n1 c1:=by
          rcases lq.2 with⟨hv,_⟩| ⟨g,Ba,cur,hv,_⟩
          ·exact⟨_,_,_,hv⟩
          exact⟨_,_,_,hv⟩
         have kl:(es.take len++ys).length=len+ys.length:=by simp;omega
         have wX: ∀c,F c->w'.heap[c]?=w.heap[c]?:=λc hc=>gB.block c (h.gQ c hc) (λe'=>by rw[y8] at e';exact h.iY n en c ec (by rw[wW];exact e'.symm) hc);obtain⟨d1,d2⟩:=h.gR (n:=n) (e1:=⟨aw+1,none,.arr ty' false (es.take len++ys)⟩) (g1:=v') (w':=w') (hdr:=iO _ aY) (λe' a7=>by rw[ec] at a7;cases a7;exact .inl (by simp[ij]))
          (λc hc eb=>gB.block c hc (λe'=>eb ⟨en,ec,by rw[wW,<-y8];exact e'.symm⟩)) gB.size gB.os gB.tape gB.output
          (λc hc=>by
           simp only[aG] at hc;rw[<-ln v' A9] at hc;rcases kM c (by simpa using hc) with h2 |h2
           ·exact .inl h2
           exact .inr ⟨en,ec,by rw[wW,<-y8];exact h2⟩)
          (lp hk (by omega) (by rw[av,kl,<-cz];exact lq) ((HB.mono (λ_ h=>h) wX).append (jD.mono (λ_ h=>h) wX)))
          (λi hi=>by cases hi)
         have c7: ∃a1 c1,v'= .slice a1 (len+ys.length) c1:=by
          rcases lq.2 with⟨hv,CX⟩| ⟨g,Ba,cur,hv,_⟩
          ·exact⟨none,0,by rw[hv,CX]⟩
          exact⟨_,_,hv⟩
         obtain⟨a1,HE,c7⟩:=c7;obtain⟨c1,c2⟩:=bg d1 hs (v:=v') (bt.of (.sl n (aw+1) (len+ys.length) v' (by rw[c7];rfl) ⟨_,aJ _ _ _,zaf _,λ_ _=>⟨_,_,_,by rw[av];exact c7,c7,zaf _⟩⟩));refine⟨v',w',_,aY,c1,?_⟩;rw[c2];exact d2
       cases hs
      cases hs
     cases hs
    ·split at hs
     ·rename_i ll;simp only[zac,zbd,eD] at ll;obtain⟨lh,ja⟩:=ll;split at hs
      ·rename_i s1 v hn;cases hx with
       |d hx=>
        cases hx;obtain⟨v',w',aY,lq,gB,kM⟩:=ig (ty:=ty) ht hi tH (by rw[wS,oD,cz]) (World.ownsRow_nil w 0 e i.size) nW (by simpa [maxLen] using ja) (by simpa using lh);have A9: ∃a1 n1 c1,v'= .slice a1 n1 c1:=by
         rcases lq.2 with⟨hv,_⟩| ⟨g,Ba,cur,hv,_⟩
         ·exact⟨_,_,_,hv⟩
         exact⟨_,_,_,hv⟩
        have bZ: ∀c,c<w.heap.size->w'.heap[c]?=w.heap[c]?:=λc hc=>gB.block c hc (by simp[Value.ownBlock]);have hf:=(jD.mono (F':=F) (w':=w') (λ_ h=>h) (λc hc=>bZ c (h.gQ c hc)))
        simp only[zbc,zbX] at lq;obtain⟨b1,b2,b3,b4⟩:=eS h hn (g1:=v') (w':=w') (hdr:=iO _ aY) bZ gB.size gB.os gB.tape gB.output
         (λc hc=>by
          simp only[aG] at hc;rw[<-ln v' A9] at hc;rcases kM c (by simpa using hc) with h2 |h2
          ·exact h2
          simp[Value.ownBlock] at h2)
         (lp hk (by omega) (by rw[av,<-cz];exact lq) hf)
        have c7: ∃a1 c1,v'= .slice a1 ys.length c1:=by
         rcases lq.2 with⟨hv,CX⟩| ⟨g,Ba,cur,hv,_⟩
         ·exact⟨none,0,by rw[hv,CX]⟩
         exact⟨_,_,hv⟩
        obtain⟨a1,HE,c7⟩:=c7;obtain⟨c1,c2⟩:=bg b1 hs (v:=v') (bt.of (.sl (site dst) v ys.length v' (by rw[c7];rfl) ⟨_,b4,zaf _,λ_ _=>⟨_,_,_,by rw[av];exact c7,c7,zaf _⟩⟩));refine⟨v',w',_,aY,c1,?_⟩;rw[c2];exact b2
      cases hs
     cases hs
    cases hs
   cases hs
  cases hs
 cases hs
end
end Pi
