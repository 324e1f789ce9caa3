/- The text PiEfOk4. -/
import Derived.Test.YtfelfooeclnbiaaPiSd
namespace Pi
open Go
section
variable{Q:Program}{T:Tg}{F:Nat->Prop}{G:Nat->Value}{w:World}{a:Act}{s:S}
theorem bJ.drop{F:Nat->Prop}{w:World}{k:Nat}{es:List D}{xs:List Value}(h:bJ F w k es xs)(m:Nat):bJ F w k (es.drop m) (xs.drop (m*k)):=by refine⟨by rw[zaC,zaC,h.1,Nat.sub_mul],λi x hx=> ?_⟩;rw[zbf] at hx;obtain⟨h1,h2,h3⟩:=h.2 (m+i) x hx;refine⟨h1,h2,λj c hc=> ?_⟩;have:=h3 j c hc;simp only[zah] at this⊢;rw[zbf,<-zaT,<-zas];exact this
theorem oE(h:ar Q T F G w a s){t2:TypeId}{k:Nat}(jt:0<k){p:P}{ys:List D}(hs:eW Q s t2 k p=some ys){v:Value}(hv:ao F w G s.rg v p):
  ∃news,Src Q k t2 v ys.length news w/\bJ F w k ys news:=by
 unfold eW at hs;split at hs
 next n aw len=>
  split at hs
  next ty fz es e' ho nE=>
   split at hs
   ·rename_i dK;have hk:sz Q ty=some k:=by simpa using dK
    simp at hs;subst hs;obtain⟨e,he,bE,aN⟩:=S.aJ ho;have hO:=h.rg n e he;rw[aN] at hO;cases hv with
    |sl _ _ _ _ h1 hr=>
     obtain⟨a0,N,cap,hG,rfl,hle⟩:=hr.at he bE (by rw[aN];rfl);rcases hO with⟨hg,rfl⟩| ⟨b,cX,cs,k',hg,hh,eO,xg,qF,kl,bn,_,hE⟩
     ·rw[hG] at hg;simp at hg;obtain⟨rfl,rfl,rfl⟩:=hg;have:len=0:=by omega
      subst this;exact⟨[],by simpa using Src.ofNil w nE 0,by simpa using bJ.nil F w k⟩
     rw[hk] at eO;cases eO;rw[hG] at hg;simp at hg;obtain⟨rfl,rfl,rfl⟩:=hg;have vu:es.length*k<=cs.size:=by rw[bn];exact zaf _ qF
     have hf:=bJ.take hE hle vu;refine⟨_,?_,hf⟩;have yd:(es.take len).length=len:=by simp;omega
     rw[yd];refine Src.ofSlice w nE ⟨b,0,none⟩ len cap _ (by rw[hf.1,yd]) (λj u hu=> ?_) (hf.one jt);rw[addr_add,za4,cell_of_row w b j cs ty (0,0) hh];rw[zaO] at hu;split at hu
     ·simpa using hu
     cases hu
   cases hs
  cases hs
 next n aw k0 off len=>
  split at hs
  next ty fz es e' ho nE=>
   split at hs
   ·rename_i dK;rw[zad] at dK;have hk:sz Q ty=some k:=by simpa using dK.1
    have BW:k0=k:=zac dK.2;subst BW;simp at hs;subst hs;obtain⟨e,he,bE,aN⟩:=S.aJ ho;have hO:=h.rg n e he;rw[aN] at hO;cases hv with
    |eL _ _ _ _ _ _ h1 hr=>
     obtain⟨a0,N,cap,hG,hle,a1,ie,rfl,uX,hz⟩:=hr.at he bE (by rw[aN];rfl);by_cases h0:len=0
     ·subst h0;refine⟨[],?_,by simpa using bJ.nil F w k0⟩;have:((es.drop off).take 0).length=0:=by simp
      rw[this];cases a1 with
      |none=>exact Src.ofNil w nE ie
      |some ad=>exact Src.ofSlice w nE ad 0 ie [] (by simp) (λj u hu=>by simp at hu) (λu hu=>by cases hu)
     obtain⟨b0,yA,uY⟩: ∃b,a0=some ⟨b,0,none⟩/\a1=some ⟨b,off*k0,none⟩:=by
      rcases hz with hz |hz
      ·exact absurd hz h0
      exact hz
     subst yA uY;rcases hO with⟨hg,rfl⟩| ⟨b,cX,cs,k',hg,hh,eO,xg,qF,kl,bn,_,hE⟩
     ·rw[hG] at hg;simp at hg
     rw[hk] at eO;cases eO;rw[hG] at hg;simp at hg;obtain⟨rfl,rfl,rfl⟩:=hg;have vu:es.length*k0<=cs.size:=by rw[bn];exact zaf _ qF
     have hf:=(bJ.take hE hle vu).drop off;have DL:(es.take (off+len)).drop off=(es.drop off).take len:=by rw[zbF,Nat.add_sub_cancel_left]
     rw[DL] at hf;refine⟨_,?_,hf⟩;have yd:((es.drop off).take len).length=len:=by simp;omega
     rw[yd];refine Src.ofSlice w nE ⟨b0,off*k0,none⟩ len ie _ (by rw[hf.1,yd]) (λj u hu=> ?_) (hf.one jt);rw[addr_add,cell_of_row w b0 (off*k0+j) cs ty (0,0) hh];rw[zbf,zaO] at hu;split at hu
     ·simpa using hu
     cases hu
   cases hs
  cases hs
 next k' es=>
  split at hs
  next e' nE=>
   split at hs
   ·rename_i dK;have dK:k'=k:=by simpa using dK
    subst dK;simp at hs;subst hs;cases hv with
    |d hv=>
     cases hv with
     |sS a0 _ cap=>
      refine⟨[],?_,bJ.nil F w _⟩;cases a0 with
      |none=>exact Src.ofNil w nE cap
      |some ad=>exact Src.ofSlice w nE ad 0 cap [] (by simp) (λj u hu=>by simp at hu) (λu hu=>by cases hu)
     |ui b off _ cap _ f jq hb dK aO hw hr=>
      have hf:bJ F w k' es ((List.range (es.length*k')).map f):=by
       refine⟨by simp,λi x hx=> ?_⟩;have x9:=zao hx;refine⟨dK x x9,aO x x9,λj c hc=> ?_⟩;have hi:i<es.length:=(zaa.1 hx).1;have hj:j<k':=by have h1:=(zaa.1 hc).1;have:=dK x x9;omega
       have bm:i*k'+j<es.length*k':=by
        calc i*k'+j<i*k'+k':=by omega
         _=(i+1)*k':=by rw[zas,zaI]
         _<=es.length*k':=zaf _ (by omega)
       have e:((List.range (es.length*k')).map f).getD (i*k'+j) undef=f (i*k'+j):=by simp[zah,bm]
       rw[e];exact hr i j x c hx hc
      refine⟨_,?_,hf⟩;refine Src.ofSlice w nE ⟨b,off,none⟩ es.length cap _ hf.1 (λj u hu=> ?_) (hf.one jt);rw[zap] at hu;simp only[zaj] at hu;obtain⟨m,hm,rfl⟩:=hu;have Ao:j<es.length*k':=by have:=(zaa.1 hm).1;simpa using this
      rw[List.getElem?_range Ao] at hm;cases hm;rw[addr_add];exact hw j Ao
   cases hs
  cases hs
 ·split at hs
  next e' nE=>
   simp at hs;subst hs;cases hv with
   |d hv=>cases hv;exact⟨[],Src.ofNil w nE 0,bJ.nil F w _⟩
  cases hs
 next l=>
  split at hs
  next nE=>
   split at hs
   ·rename_i w6;have w6:k=1:=by simpa using w6
    subst w6;simp at hs;subst hs;cases hv with
    |d hv=>
     cases hv;refine⟨byteCells ⟨⟨l⟩⟩,?_,?_,λi x hx=> ?_⟩
     ·have:=Src.ofString w nE ⟨⟨l⟩⟩;have e:(ByteArray.mk ⟨l⟩).size=(l.map λb=>D.int .u8 b.toNat).length:=by simp[ByteArray.size]
      rwa [e] at this
     ·rw[byteCells_length];simp[ByteArray.size]
     rw[zap] at hx;simp only[zaj] at hx;obtain⟨b,hb,rfl⟩:=hx;refine⟨rfl,λc hc=>by simp[D.cells] at hc;subst hc;rfl,λj c hc=> ?_⟩;cases j with
     |zero=>
      simp[D.cells] at hc;subst hc;have e:(byteCells ⟨⟨l⟩⟩).getD (i*1+0) undef= .int .u8 b.toNat:=by simp[byteCells,zah,hb]
      rw[e];exact .int _ _
     |succ j=>simp[D.cells] at hc
   cases hs
  cases hs
 cases hs
theorem fO{e:TypeId}{i:TypeInfo}(hi:Q.info? e=some i){z:D}(hz:bK Q e=some z): ∃zv,i.zero=some zv/\D.jK zv=some z/\zv.cells.size=z.cells.length:=by
 unfold bK at hz;rw[hi] at hz;simp only at hz;split at hz
 next zv sc=>refine⟨zv,sc,hz,?_⟩;have:=(bG (ay.jK (λ_=>False) default hz)).1;simpa using this
 cases hz
theorem ku(v:Value):(∃a n c,v= .slice a n c)->v.ownBlock=au v:=by rintro⟨a,n,c,rfl⟩;cases a<;>rfl
theorem kx{F':Nat->Prop}{G':Nat->Value}{w':World}{R':List (Nat×En)}{n:Nat}{e:TypeId}{k:Nat}(hk:sz Q e=some k)(jt:0<k){es:List D}{xs:List Value}(cg:w'.ownsRow 0 e k (G' n) es.length xs)(hf:bJ F' w' k es xs):
  gi Q F' w' G' R' n (.arr e false es):=by
 rcases cg.2 with⟨hv,hn⟩| ⟨g,cap,cur,hv,_,hg,An,kl,hcs,vq⟩
 ·exact .inl ⟨hv,zam hn⟩
 exact .inr ⟨g,cap,cur,k,hv,hg,hk,jt,An,kl,hcs,(λh=>by cases h),bJ.BU (by rw[vq];exact hf)⟩
theorem rh(h:ar Q T F G w a s){dst:Option Nat}{t t2 ty:TypeId}{p q:P}{s':S}(hs:dt Q s dst t t2 p q=some s'){vx vy:Value}(hx:ao F w G s.rg vx p)(hy:ao F w G s.rg vy q):
  ∃v w' G',(Builtin.append_ #[t,t2] ty #[vx,vy]).run Q w= .ok v w'/\ar Q T F G' w' (a.put dst v) s'/\Ext (Own G s.rg) (Own G' s'.rg) F F w w':=by
 unfold dt at hs;split at hs
 ·cases hs
 rename_i e het;have ht:=bx het;split at hs
 next i k hi hk=>
  obtain⟨i',_,lq,_,cn⟩:=cy hk;have cn:i'.size=k+1:=cn;have hk:sz Q e=some (k+1):=hk;rw[hi] at lq;cases lq;split at hs
  next ys z zS hz=>
   obtain⟨zv,sc,_,tf⟩:=fO hi hz;split at hs
   ·rename_i nF;have nF:z.cells.length=k+1:=by simpa using nF
    obtain⟨news,mV,gq⟩:=oE h (by omega) zS hy;rw[<-cn] at mV;split at hs
    ·rename_i n aw len;split at hs
     ·rename_i en dQ;split at hs
      ·rename_i ty' es aN;split at hs
       ·rename_i bR;simp only[zad,za7,de] at bR;obtain⟨⟨⟨gM,q4⟩,hle⟩,ko,iS⟩:=bR;have gM:en.aw=aw:=by simpa using gM
        have q4:ty'=e:=by simpa using q4
        subst q4;cases hx with
        |sl _ _ _ _ h1 hr=>
         obtain⟨a0,N,cap,hG,rfl,BX⟩:=hr.at dQ gM (by rw[aN];rfl);have hO:=h.rg n en dQ;rw[aN] at hO;have la: ∃xs,w.ownsRow 0 ty' i.size (.slice a0 len cap) len xs/\bJ F w (k+1) (es.take len) xs:=by
          rcases hO with⟨hg,rfl⟩| ⟨b,cX,cs,k',hg,hh,eO,xg,qF,kl,bn,_,hE⟩
          ·rw[hG] at hg;simp at hg;obtain⟨rfl,rfl,rfl⟩:=hg;have:len=0:=by omega
           subst this;exact⟨[],World.ownsRow_nil w 0 ty' i.size,by simpa using bJ.nil F w (k+1)⟩
          rw[hk] at eO;cases eO;rw[hG] at hg;simp at hg;obtain⟨rfl,rfl,rfl⟩:=hg;have vu:es.length*(k+1)<=cs.size:=by rw[bn];exact zaf _ qF
          have hf:=bJ.take hE hle vu;refine⟨_,⟨?_,.inr ⟨b,cap,cs,rfl,zaF _,hh,by omega,kl,by rw[cn];exact bn,by rw[cn]⟩⟩,hf⟩;rw[hf.1,cn];congr 1;simp;omega
         obtain⟨xs,cg,DM⟩:=la;obtain⟨v',w',aU,ky,ga,hblk⟩:=gL (ty:=ty) ht hi sc (by rw[tf,nF,cn]) cg mV (by simpa [maxLen] using iS) ko;have xh:Value.ownBlock (.slice a0 len cap)=au (G n):=by rw[hG];cases a0<;>rfl
         have vv:aD (G n) en.obj=au (G n):=by rw[aN];simp[aD]
         have yM: ∃a1 n1 c1,v'= .slice a1 n1 c1:=by
          rcases ky.2 with⟨hv,_⟩| ⟨g,yN,cur,hv,_⟩
          ·exact⟨_,_,_,hv⟩
          exact⟨_,_,_,hv⟩
         have jA:(es.take len++ys).length=len+ys.length:=by simp;omega
         have vw: ∀c,F c->w'.heap[c]?=w.heap[c]?:=λc hc=>ga.block c (h.fL c hc) (λe'=>by rw[xh] at e';exact h.hS n en c dQ (by rw[vv];exact e'.symm) hc);obtain⟨d1,d2⟩:=h.gk (n:=n) (e1:=⟨aw+1,none,.arr ty' false (es.take len++ys)⟩) (g1:=v') (w':=w') (hdr:=hU _ aU) (λe' aW=>by rw[dQ] at aW;cases aW;exact .inl (by simp[gM]))
          (λc hc dH=>ga.block c hc (λe'=>dH ⟨en,dQ,by rw[vv,<-xh];exact e'.symm⟩)) ga.size ga.os ga.tape ga.output
          (λc hc=>by
           simp only[aD] at hc;rw[<-ku v' yM] at hc;rcases hblk c (by simpa using hc) with h2 |h2
           ·exact .inl h2
           exact .inr ⟨en,dQ,by rw[vv,<-xh];exact h2⟩)
          (kx hk (by omega) (by rw[ax,jA,<-cn];exact ky) ((DM.mono (λ_ h=>h) vw).append (gq.mono (λ_ h=>h) vw)))
          (λi hi=>by cases hi)
         have cS: ∃a1 c1,v'= .slice a1 (len+ys.length) c1:=by
          rcases ky.2 with⟨hv,Ap⟩| ⟨g,yN,cur,hv,_⟩
          ·exact⟨none,0,by rw[hv,Ap]⟩
          exact⟨_,_,hv⟩
         obtain⟨a1,DN,cS⟩:=cS;obtain⟨c1,c2⟩:=a7 d1 hs (v:=v') (bj.of (.sl n (aw+1) (len+ys.length) v' (by rw[cS];rfl) ⟨_,aK _ _ _,zag _,λ_ _=>⟨_,_,_,by rw[ax];exact cS,cS,zag _⟩⟩));refine⟨v',w',_,aU,c1,?_⟩;rw[c2];exact d2
       cases hs
      cases hs
     cases hs
    ·split at hs
     ·rename_i kr;simp only[zad,za7,de] at kr;obtain⟨ko,iS⟩:=kr;split at hs
      ·rename_i s1 v hn;cases hx with
       |d hx=>
        cases hx;obtain⟨v',w',aU,ky,ga,hblk⟩:=gL (ty:=ty) ht hi sc (by rw[tf,nF,cn]) (World.ownsRow_nil w 0 e i.size) mV (by simpa [maxLen] using iS) (by simpa using ko);have yM: ∃a1 n1 c1,v'= .slice a1 n1 c1:=by
         rcases ky.2 with⟨hv,_⟩| ⟨g,yN,cur,hv,_⟩
         ·exact⟨_,_,_,hv⟩
         exact⟨_,_,_,hv⟩
        have bH: ∀c,c<w.heap.size->w'.heap[c]?=w.heap[c]?:=λc hc=>ga.block c hc (by simp[Value.ownBlock]);have hf:=(gq.mono (F':=F) (w':=w') (λ_ h=>h) (λc hc=>bH c (h.fL c hc)))
        simp only[za4,zbB] at ky;obtain⟨b1,b2,b3,b4⟩:=eE h hn (g1:=v') (w':=w') (hdr:=hU _ aU) bH ga.size ga.os ga.tape ga.output
         (λc hc=>by
          simp only[aD] at hc;rw[<-ku v' yM] at hc;rcases hblk c (by simpa using hc) with h2 |h2
          ·exact h2
          simp[Value.ownBlock] at h2)
         (kx hk (by omega) (by rw[ax,<-cn];exact ky) hf)
        have cS: ∃a1 c1,v'= .slice a1 ys.length c1:=by
         rcases ky.2 with⟨hv,Ap⟩| ⟨g,yN,cur,hv,_⟩
         ·exact⟨none,0,by rw[hv,Ap]⟩
         exact⟨_,_,hv⟩
        obtain⟨a1,DN,cS⟩:=cS;obtain⟨c1,c2⟩:=a7 b1 hs (v:=v') (bj.of (.sl (site dst) v ys.length v' (by rw[cS];rfl) ⟨_,b4,zag _,λ_ _=>⟨_,_,_,by rw[ax];exact cS,cS,zag _⟩⟩));refine⟨v',w',_,aU,c1,?_⟩;rw[c2];exact b2
      cases hs
     cases hs
    cases hs
   cases hs
  cases hs
 cases hs
end
end Pi
