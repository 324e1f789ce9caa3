/- The text PiEfOk4. -/
import Derived.Test.YtfelfooeclnbiaaPiSd
namespace Pi
open Go
section
variable{Q:Program}{T:Tg}{F:Nat->Prop}{G:Nat->Value}{w:World}{a:Act}{s:S}
theorem bT.drop{F:Nat->Prop}{w:World}{k:Nat}{es:List D}{xs:List Value}(h:bT F w k es xs)(m:Nat):bT F w k (es.drop m) (xs.drop (m*k)):=by refine⟨by rw[zaF,zaF,h.1,Nat.sub_mul],λi x hx=> ?_⟩;rw[zbo] at hx;obtain⟨h1,h2,h3⟩:=h.2 (m+i) x hx;refine⟨h1,h2,λj c hc=> ?_⟩;have:=h3 j c hc;simp only[zah] at this⊢;rw[zbo,<-za3,<-zaw];exact this
theorem py(h:ar Q T F G w a s){t2:TypeId}{k:Nat}(fR:0<k){p:P}{ys:List D}(hs:fi Q s t2 k p=some ys){v:Value}(hv:ao F w G s.rg v p):
  ∃news,Src Q k t2 v ys.length news w/\bT F w k ys news:=by
 unfold fi at hs;split at hs
 next n ay len=>
  split at hs
  next ty fz es e' ho ow=>
   split at hs
   ·rename_i dT;have hk:sz Q ty=some k:=by simpa using dT
    simp at hs;subst hs;obtain⟨e,he,bP,aO⟩:=S.aJ ho;have hO:=h.rg n e he;rw[aO] at hO;cases hv with
    |sl _ _ _ _ h1 hr=>
     obtain⟨a0,N,cap,hG,rfl,hle⟩:=hr.at he bP (by rw[aO];rfl);rcases hO with⟨hg,rfl⟩| ⟨b,dS,cs,k',hg,hh,ga,yV,rF,nx,bM,_,hE⟩
     ·rw[hG] at hg;simp at hg;obtain⟨rfl,rfl,rfl⟩:=hg;have:len=0:=by omega
      subst this;exact⟨[],by simpa using Src.ofNil w ow 0,by simpa using bT.nil F w k⟩
     rw[hk] at ga;cases ga;rw[hG] at hg;simp at hg;obtain⟨rfl,rfl,rfl⟩:=hg;have wU:es.length*k<=cs.size:=by rw[bM];exact zag _ rF
     have hf:=bT.take hE hle wU;refine⟨_,?_,hf⟩;have wV:(es.take len).length=len:=by simp;omega
     rw[wV];refine Src.ofSlice w ow ⟨b,0,none⟩ len cap _ (by rw[hf.1,wV]) (λj u hu=> ?_) (hf.one fR);rw[bs,zbk,cell_of_row w b j cs ty (0,0) hh];rw[zaZ] at hu;split at hu
     ·simpa using hu
     cases hu
   cases hs
  cases hs
 next n ay k0 off len=>
  split at hs
  next ty fz es e' ho ow=>
   split at hs
   ·rename_i dT;rw[zac] at dT;have hk:sz Q ty=some k:=by simpa using dT.1
    have EA:k0=k:=zab dT.2;subst EA;simp at hs;subst hs;obtain⟨e,he,bP,aO⟩:=S.aJ ho;have hO:=h.rg n e he;rw[aO] at hO;cases hv with
    |eZ _ _ _ _ _ _ h1 hr=>
     obtain⟨a0,N,cap,hG,hle,a1,iP,rfl,wD,hz⟩:=hr.at he bP (by rw[aO];rfl);by_cases h0:len=0
     ·subst h0;refine⟨[],?_,by simpa using bT.nil F w k0⟩;have:((es.drop off).take 0).length=0:=by simp
      rw[this];cases a1 with
      |none=>exact Src.ofNil w ow iP
      |some ad=>exact Src.ofSlice w ow ad 0 iP [] (by simp) (λj u hu=>by simp at hu) (λu hu=>by cases hu)
     obtain⟨b0,AB,wE⟩: ∃b,a0=some ⟨b,0,none⟩/\a1=some ⟨b,off*k0,none⟩:=by
      rcases hz with hz |hz
      ·exact absurd hz h0
      exact hz
     subst AB wE;rcases hO with⟨hg,rfl⟩| ⟨b,dS,cs,k',hg,hh,ga,yV,rF,nx,bM,_,hE⟩
     ·rw[hG] at hg;simp at hg
     rw[hk] at ga;cases ga;rw[hG] at hg;simp at hg;obtain⟨rfl,rfl,rfl⟩:=hg;have wU:es.length*k0<=cs.size:=by rw[bM];exact zag _ rF
     have hf:=(bT.take hE hle wU).drop off;have GV:(es.take (off+len)).drop off=(es.drop off).take len:=by rw[zbO,Nat.add_sub_cancel_left]
     rw[GV] at hf;refine⟨_,?_,hf⟩;have wV:((es.drop off).take len).length=len:=by simp;omega
     rw[wV];refine Src.ofSlice w ow ⟨b0,off*k0,none⟩ len iP _ (by rw[hf.1,wV]) (λj u hu=> ?_) (hf.one fR);rw[bs,cell_of_row w b0 (off*k0+j) cs ty (0,0) hh];rw[zbo,zaZ] at hu;split at hu
     ·simpa using hu
     cases hu
   cases hs
  cases hs
 next k' es=>
  split at hs
  next e' ow=>
   split at hs
   ·rename_i dT;have dT:k'=k:=by simpa using dT
    subst dT;simp at hs;subst hs;cases hv with
    |d hv=>
     cases hv with
     |ur a0 _ cap=>
      refine⟨[],?_,bT.nil F w _⟩;cases a0 with
      |none=>exact Src.ofNil w ow cap
      |some ad=>exact Src.ofSlice w ow ad 0 cap [] (by simp) (λj u hu=>by simp at hu) (λu hu=>by cases hu)
     |vI b off _ cap _ f jT hb dT aP hw hr=>
      have hf:bT F w k' es ((List.range (es.length*k')).map f):=by
       refine⟨by simp,λi x hx=> ?_⟩;have z7:=zaq hx;refine⟨dT x z7,aP x z7,λj c hc=> ?_⟩;have hi:i<es.length:=(zaa.1 hx).1;have hj:j<k':=by have h1:=(zaa.1 hc).1;have:=dT x z7;omega
       have bA:i*k'+j<es.length*k':=by
        calc i*k'+j<i*k'+k':=by omega
         _=(i+1)*k':=by rw[zaw,zaT]
         _<=es.length*k':=zag _ (by omega)
       have e:((List.range (es.length*k')).map f).getD (i*k'+j) undef=f (i*k'+j):=by simp[zah,bA]
       rw[e];exact hr i j x c hx hc
      refine⟨_,?_,hf⟩;refine Src.ofSlice w ow ⟨b,off,none⟩ es.length cap _ hf.1 (λj u hu=> ?_) (hf.one fR);rw[zao] at hu;simp only[zak] at hu;obtain⟨m,hm,rfl⟩:=hu;have Cr:j<es.length*k':=by have:=(zaa.1 hm).1;simpa using this
      rw[List.getElem?_range Cr] at hm;cases hm;rw[bs];exact hw j Cr
   cases hs
  cases hs
 ·split at hs
  next e' ow=>
   simp at hs;subst hs;cases hv with
   |d hv=>cases hv;exact⟨[],Src.ofNil w ow 0,bT.nil F w _⟩
  cases hs
 next l=>
  split at hs
  next ow=>
   split at hs
   ·rename_i qq;have qq:k=1:=by simpa using qq
    subst qq;simp at hs;subst hs;cases hv with
    |d hv=>
     cases hv;refine⟨byteCells ⟨⟨l⟩⟩,?_,?_,λi x hx=> ?_⟩
     ·have:=Src.ofString w ow ⟨⟨l⟩⟩;have e:(ByteArray.mk ⟨l⟩).size=(l.map λb=>D.int .u8 b.toNat).length:=by simp[ByteArray.size]
      rwa [e] at this
     ·rw[byteCells_length];simp[ByteArray.size]
     rw[zao] at hx;simp only[zak] at hx;obtain⟨b,hb,rfl⟩:=hx;refine⟨rfl,λc hc=>by simp[D.cells] at hc;subst hc;rfl,λj c hc=> ?_⟩;cases j with
     |zero=>
      simp[D.cells] at hc;subst hc;have e:(byteCells ⟨⟨l⟩⟩).getD (i*1+0) undef= .int .u8 b.toNat:=by simp[byteCells,zah,hb]
      rw[e];exact .int _ _
     |succ j=>simp[D.cells] at hc
   cases hs
  cases hs
 cases hs
theorem gg{e:TypeId}{i:TypeInfo}(hi:Q.info? e=some i){z:D}(hz:bV Q e=some z): ∃zv,i.zero=some zv/\D.kq zv=some z/\zv.cells.size=z.cells.length:=by
 unfold bV at hz;rw[hi] at hz;simp only at hz;split at hz
 next zv tr=>refine⟨zv,tr,hz,?_⟩;have:=(bR (az.kq (λ_=>False) default hz)).1;simpa using this
 cases hz
theorem la(v:Value):(∃a n c,v= .slice a n c)->v.ownBlock=au v:=by rintro⟨a,n,c,rfl⟩;cases a<;>rfl
theorem lb{F':Nat->Prop}{G':Nat->Value}{w':World}{R':List (Nat×En)}{n:Nat}{e:TypeId}{k:Nat}(hk:sz Q e=some k)(fR:0<k){es:List D}{xs:List Value}(cA:w'.ownsRow 0 e k (G' n) es.length xs)(hf:bT F' w' k es xs):
  gY Q F' w' G' R' n (.arr e false es):=by
 rcases cA.2 with⟨hv,hn⟩| ⟨g,cap,cur,hv,_,hg,Cq,nx,hcs,wS⟩
 ·exact .inl ⟨hv,zar hn⟩
 exact .inr ⟨g,cap,cur,k,hv,hg,hk,fR,Cq,nx,hcs,(λh=>by cases h),bT.Ey (by rw[wS];exact hf)⟩
theorem sj(h:ar Q T F G w a s){dst:Option Nat}{t t2 ty:TypeId}{p q:P}{s':S}(hs:dB Q s dst t t2 p q=some s'){vx vy:Value}(hx:ao F w G s.rg vx p)(hy:ao F w G s.rg vy q):
  ∃v w' G',(Builtin.append_ #[t,t2] ty #[vx,vy]).run Q w= .ok v w'/\ar Q T F G' w' (a.put dst v) s'/\Ext (Own G s.rg) (Own G' s'.rg) F F w w':=by
 unfold dB at hs;split at hs
 ·cases hs
 rename_i e het;have ht:=bJ het;split at hs
 next i k hi hk=>
  obtain⟨i',_,lZ,_,cD⟩:=cL hk;have cD:i'.size=k+1:=cD;have hk:sz Q e=some (k+1):=hk;rw[hi] at lZ;cases lZ;split at hs
  next ys z BS hz=>
   obtain⟨zv,tr,_,wR⟩:=gg hi hz;split at hs
   ·rename_i oz;have oz:z.cells.length=k+1:=by simpa using oz
    obtain⟨news,nP,jt⟩:=py h (by omega) BS hy;rw[<-cD] at nP;split at hs
    ·rename_i n ay len;split at hs
     ·rename_i en dZ;split at hs
      ·rename_i ty' es aO;split at hs
       ·rename_i cj;simp only[zac,zbl,eE] at cj;obtain⟨⟨⟨hS,r7⟩,hle⟩,k7,js⟩:=cj;have hS:en.ay=ay:=by simpa using hS
        have r7:ty'=e:=by simpa using r7
        subst r7;cases hx with
        |sl _ _ _ _ h1 hr=>
         obtain⟨a0,N,cap,hG,rfl,EB⟩:=hr.at dZ hS (by rw[aO];rfl);have hO:=h.rg n en dZ;rw[aO] at hO;have j8: ∃xs,w.ownsRow 0 ty' i.size (.slice a0 len cap) len xs/\bT F w (k+1) (es.take len) xs:=by
          rcases hO with⟨hg,rfl⟩| ⟨b,dS,cs,k',hg,hh,ga,yV,rF,nx,bM,_,hE⟩
          ·rw[hG] at hg;simp at hg;obtain⟨rfl,rfl,rfl⟩:=hg;have:len=0:=by omega
           subst this;exact⟨[],World.ownsRow_nil w 0 ty' i.size,by simpa using bT.nil F w (k+1)⟩
          rw[hk] at ga;cases ga;rw[hG] at hg;simp at hg;obtain⟨rfl,rfl,rfl⟩:=hg;have wU:es.length*(k+1)<=cs.size:=by rw[bM];exact zag _ rF
          have hf:=bT.take hE hle wU;refine⟨_,⟨?_,.inr ⟨b,cap,cs,rfl,za0 _,hh,by omega,nx,by rw[cD];exact bM,by rw[cD]⟩⟩,hf⟩;rw[hf.1,cD];congr 1;simp;omega
         obtain⟨xs,cA,GW⟩:=j8;obtain⟨v',w',a8,ld,gy,kC⟩:=hQ (ty:=ty) ht hi tr (by rw[wR,oz,cD]) cA nP (by simpa [maxLen] using js) k7;have yW:Value.ownBlock (.slice a0 len cap)=au (G n):=by rw[hG];cases a0<;>rfl
         have wW:aH (G n) en.obj=au (G n):=by rw[aO];simp[aH]
         have AR: ∃a1 n1 c1,v'= .slice a1 n1 c1:=by
          rcases ld.2 with⟨hv,_⟩| ⟨g,AT,cur,hv,_⟩
          ·exact⟨_,_,_,hv⟩
          exact⟨_,_,_,hv⟩
         have j9:(es.take len++ys).length=len+ys.length:=by simp;omega
         have wX: ∀c,F c->w'.heap[c]?=w.heap[c]?:=λc hc=>gy.block c (h.gK c hc) (λe'=>by rw[yW] at e';exact h.iO n en c dZ (by rw[wW];exact e'.symm) hc);obtain⟨d1,d2⟩:=h.gL (n:=n) (e1:=⟨ay+1,none,.arr ty' false (es.take len++ys)⟩) (g1:=v') (w':=w') (hdr:=iE _ a8) (λe' bb=>by rw[dZ] at bb;cases bb;exact .inl (by simp[hS]))
          (λc hc dY=>gy.block c hc (λe'=>dY ⟨en,dZ,by rw[wW,<-yW];exact e'.symm⟩)) gy.size gy.os gy.tape gy.output
          (λc hc=>by
           simp only[aH] at hc;rw[<-la v' AR] at hc;rcases kC c (by simpa using hc) with h2 |h2
           ·exact .inl h2
           exact .inr ⟨en,dZ,by rw[wW,<-yW];exact h2⟩)
          (lb hk (by omega) (by rw[ax,j9,<-cD];exact ld) ((GW.mono (λ_ h=>h) wX).append (jt.mono (λ_ h=>h) wX)))
          (λi hi=>by cases hi)
         have dg: ∃a1 c1,v'= .slice a1 (len+ys.length) c1:=by
          rcases ld.2 with⟨hv,Ct⟩| ⟨g,AT,cur,hv,_⟩
          ·exact⟨none,0,by rw[hv,Ct]⟩
          exact⟨_,_,hv⟩
         obtain⟨a1,GX,dg⟩:=dg;obtain⟨c1,c2⟩:=bh d1 hs (v:=v') (bx.of (.sl n (ay+1) (len+ys.length) v' (by rw[dg];rfl) ⟨_,aK _ _ _,zaf _,λ_ _=>⟨_,_,_,by rw[ax];exact dg,dg,zaf _⟩⟩));refine⟨v',w',_,a8,c1,?_⟩;rw[c2];exact d2
       cases hs
      cases hs
     cases hs
    ·split at hs
     ·rename_i k9;simp only[zac,zbl,eE] at k9;obtain⟨k7,js⟩:=k9;split at hs
      ·rename_i s1 v hn;cases hx with
       |d hx=>
        cases hx;obtain⟨v',w',a8,ld,gy,kC⟩:=hQ (ty:=ty) ht hi tr (by rw[wR,oz,cD]) (World.ownsRow_nil w 0 e i.size) nP (by simpa [maxLen] using js) (by simpa using k7);have AR: ∃a1 n1 c1,v'= .slice a1 n1 c1:=by
         rcases ld.2 with⟨hv,_⟩| ⟨g,AT,cur,hv,_⟩
         ·exact⟨_,_,_,hv⟩
         exact⟨_,_,_,hv⟩
        have ca: ∀c,c<w.heap.size->w'.heap[c]?=w.heap[c]?:=λc hc=>gy.block c hc (by simp[Value.ownBlock]);have hf:=(jt.mono (F':=F) (w':=w') (λ_ h=>h) (λc hc=>ca c (h.gK c hc)))
        simp only[zbk,zb8] at ld;obtain⟨b1,b2,b3,b4⟩:=eT h hn (g1:=v') (w':=w') (hdr:=iE _ a8) ca gy.size gy.os gy.tape gy.output
         (λc hc=>by
          simp only[aH] at hc;rw[<-la v' AR] at hc;rcases kC c (by simpa using hc) with h2 |h2
          ·exact h2
          simp[Value.ownBlock] at h2)
         (lb hk (by omega) (by rw[ax,<-cD];exact ld) hf)
        have dg: ∃a1 c1,v'= .slice a1 ys.length c1:=by
         rcases ld.2 with⟨hv,Ct⟩| ⟨g,AT,cur,hv,_⟩
         ·exact⟨none,0,by rw[hv,Ct]⟩
         exact⟨_,_,hv⟩
        obtain⟨a1,GX,dg⟩:=dg;obtain⟨c1,c2⟩:=bh b1 hs (v:=v') (bx.of (.sl (site dst) v ys.length v' (by rw[dg];rfl) ⟨_,b4,zaf _,λ_ _=>⟨_,_,_,by rw[ax];exact dg,dg,zaf _⟩⟩));refine⟨v',w',_,a8,c1,?_⟩;rw[c2];exact b2
      cases hs
     cases hs
    cases hs
   cases hs
  cases hs
 cases hs
end
end Pi
