/- The text PiEfOk3. -/
import Derived.Test.YtfelfooeclnbiaaPiEfOk2
namespace Pi
open Go
section
variable{Q:Program}{T:Tg}{F:Nat->Prop}{G:Nat->Value}{w:World}{a:Act}{s:S}
theorem kq{t:TypeId}{k:Nat}(hk:sz Q t=some k){b o:Nat}{cs:Array Value}{ty:TypeId}(hh:w.heap[b]?=some (.cells cs ty (0,0))){v:Value}(hl:v.cells.toList.length=k)(hle:o+k<=cs.size)(h1: ∀u∈v.cells.toList,u.oneCell'=true):
  (Instr.storeAt t (.pointer (some ⟨b,o,none⟩)) v).run Q w= .ok () (w.setRow b (cs.toList.take o++v.cells.toList++cs.toList.drop (o+k)).toArray):=by
 have gj:=run_storeCells_at Q b o ty v.cells.toList 0 cs w hh (by omega) h1;simp only[zbb,hl] at gj;have bn:v.cells.size=k:=by simpa using hl
 simp[Instr.storeAt,Instr.sureAddr,storeVar,Sem.run_bind,run_sizeOf hk,bn,gj]
theorem dj(cs:Array Value)(i:Nat):cs.getD i undef=(cs.toList[i]?).getD undef:=by simp[zak]
theorem eP(w:World)(b:Nat)(cs:Array Value)(c:Nat)(h:c≠b):(w.setRow b cs).heap[c]?=w.heap[c]?:=setRow_other w b c cs h
theorem D.k8{x:D}{cs:List D}(h:cs.length=x.cells.length)(hc: ∀c∈cs,c.aG=true):(x.db cs).cells=cs:=by
 have one: ∀(y:D),cs.length=1->(cs.headD y).cells=cs:=λy h1=>by
  cases cs with
  |nil=>simp at h1
  |cons c r=>have:r=[]:=zam (by simpa using h1);subst this;have:=hc c (by simp);cases c<;>simp_all [D.cells,D.aG]
 cases x<;>first |rfl |exact one _ (by simpa [D.cells] using h)
theorem tc(h:ar Q T F G w a s){t:TypeId}{pa pv:P}{s':S}(hs:cC Q s t pa pv=some s'){va v:Value}(ha:ao F w G s.rg va pa)(hv:ao F w G s.rg v pv):
  ∃w' F' G',(Instr.storeAt t va v).run Q w= .ok () w'/\ar Q T F' G' w' a s'/\Ext (Own G s.rg) (Own G' s'.rg) F F' w w':=by
 unfold cC at hs;split at hs
 ·cases hs
 rename_i k hk;split at hs
 next n aw off=>
  split at hs
  next s1 val cg=>
   split at hs
   ·rename_i ty ps ho;split at hs
    ·rename_i bR;simp only[zad,za7] at bR;obtain⟨⟨hlen,hle⟩,cY⟩:=bR;have hlen:val.cells.length=k:=by simpa using hlen
     simp at hs;subst hs;obtain⟨G1,a1,a2,a3,a4⟩:=su h cg hv;obtain⟨e,he,bE,aN⟩:=S.aJ ho;have uY:=ha.mono (λ_ h=>h) (λ_ _=>rfl) a3;cases uY with
     |ref _ _ _ _ hr h1=>
      obtain⟨b,hG,rfl⟩:=hr.at he bE (by rw[aN];rfl);have hO:=a1.rg n e he;rw[aN] at hO;obtain⟨b',cs,dO,hh,bn,aO,pg⟩:=hO;rw[hG] at dO;simp at dO;subst dO;obtain⟨c1,c2,cK⟩:=lJ a4 cY;rw[hlen] at c1;refine⟨_,F,G1,kq hk hh c1 (by omega) cK,?_⟩;rw[S.cH he];have lO:b<w.heap.size:=(zal.1 hh).1;have vp: ¬F b:=a1.hS n e b he (by rw[aN];simp[aD,hG,au]);have cD:fm G1 s1.rg n ⟨e.aw,e.tag,.box ty (splice ps off val.cells)⟩ (G1 n):=λe' aW=>by rw[he] at aW;cases aW;exact .inr ⟨rfl,λ_=>⟨by rw[aN];rfl,rfl⟩⟩
      have jU:=cd cD;rw[aH] at jU;have hF: ∀c,F c->(w.setRow b (cs.toList.take off++v.cells.toList++cs.toList.drop (off+k)).toArray).heap[c]?=w.heap[c]?:=λc hc=>eP w b _ c (λe=>vp (e▸hc));have Am:off+val.cells.length<=ps.length:=by omega
      have hval:off+v.cells.toList.length<=cs.toList.length:=by rw[c1];simp;omega
      have e2:cs.toList.drop (off+k)=cs.toList.drop (off+v.cells.toList.length):=by rw[c1]
      obtain⟨d1,d2⟩:=a1.gk (e1:=⟨e.aw,e.tag,.box ty (splice ps off val.cells)⟩) (g1:=G1 n) (w':=w.setRow b (cs.toList.take off++v.cells.toList++cs.toList.drop (off+k)).toArray) cD
       (λc hc dH=>eP w b _ c (λe'=>dH ⟨e,he,by rw[e',aN];simp[aD,hG,au]⟩)) (by simp) rfl rfl rfl
       (λc hc=> .inr ⟨e,he,by rw[aN];exact hc⟩)
       (by
        rw[aH];refine⟨b,_,hG,setRow_heap w b cs _ ty _ hh,?_,?_,?_⟩
        ·simp only[splice,zbt];rw[e2,ez _ _ _ hval,ez _ _ _ Am];simpa using bn
        ·intro c hc;simp only[zaY] at hc;rcases hc with(hc |hc)|hc
         ·exact aO c (zbk hc)
         ·exact cK c hc
         exact aO c (zbj hc)
        intro i p hp;simp only[splice] at hp;rw[di _ _ _ _ Am] at hp;rw[dj];simp only[];rw[e2,di _ _ _ _ hval,c1];rw[hlen] at hp;by_cases hi:off<=i/\i<off+k
        ·rw[zax hi] at hp⊢;have bm:i-off<v.cells.toList.length:=by omega
         rw[zab bm];exact(c2 _ _ p (zab bm) hp).mono (λ_ h=>h) hF jU
        rw[zaB hi] at hp⊢;have:=pg i p hp;rw[dj] at this;exact this.mono (λ_ h=>h) hF jU)
       (λi hi hl=>a1.tag n e i he hi (by rw[aN];rfl))
      rw[aH] at d1 d2;exact⟨d1,a2.trans d2⟩
    cases hs
   cases hs
  cases hs
 next n aw i k0 off=>
  split at hs
  next s1 x um=>
   split at hs
   ·rename_i ty es ho;split at hs
    ·rename_i y k2 hy r9;split at hs
     ·rename_i bR;simp only[zad,za7] at bR;obtain⟨⟨dK,yK⟩,hle⟩:=bR;have dK:k0=k2:=by simpa using dK
      have yK:x.cells.length=k:=by simpa using yK
      subst dK;simp only[zae] at hs;subst hs;obtain⟨F1,a1,a2,a3,a4,a5⟩:=lp h um hv;obtain⟨e,he,bE,aN⟩:=S.aJ ho;have uY:=ha.mono a4 (λ_ _=>rfl) a3;cases uY with
      |bs _ _ _ _ _ _ h1 hr=>
       obtain⟨b,N,cap,hG,rfl⟩:=hr.at he bE (by rw[aN];rfl);have hO:=a1.rg n e he;rw[aN] at hO;rcases hO with⟨dO,_⟩| ⟨b',cX,cs,k3,dO,hh,zO,jt,qF,kl,bn,_,hE⟩
       ·rw[hG] at dO;cases dO
       rw[r9] at zO;cases zO;rw[hG] at dO;simp at dO;obtain⟨rfl,rfl,rfl⟩:=dO;obtain⟨c1,c2,c3⟩:=bG a5;rw[yK] at c1;have hi:i<es.length:=(zaa.1 hy).1;obtain⟨y1,y2,y3⟩:=hE i y hy;have DG:i*k0+k0<=cs.size:=by
        rw[bn]
        calc i*k0+k0=(i+1)*k0:=by rw[zas,zaI]
         _<=cap*k0:=zaf _ (by omega)
       have cK:=ey a5;refine⟨_,F1,G,kq hk hh c1 (by omega) cK,?_⟩;rw[S.cH he];have vp: ¬F1 b:=a1.hS n e b he (by rw[aN];simp[aD,hG,au]);have cD:fm G s1.rg n ⟨e.aw,e.tag,.arr ty false (es.set i (y.db (y.cells.take off++x.cells++y.cells.drop (off+k))))⟩ (G n):=λe' aW=>by rw[he] at aW;cases aW;exact .inr ⟨rfl,λ_=>⟨by rw[aN];rfl,rfl⟩⟩
       have hF: ∀c,F1 c->(w.setRow b (cs.toList.take (i*k0+off)++v.cells.toList++cs.toList.drop (i*k0+off+k)).toArray).heap[c]?=w.heap[c]?:=λc hc=>eP w b _ c (λe=>vp (e▸hc));have Bn:off+x.cells.length<=y.cells.length:=by omega
       have hval:i*k0+off+v.cells.toList.length<=cs.toList.length:=by rw[c1];simp;omega
       have e2:cs.toList.drop (i*k0+off+k)=cs.toList.drop (i*k0+off+v.cells.toList.length):=by rw[c1]
       have e3:y.cells.drop (off+k)=y.cells.drop (off+x.cells.length):=by rw[yK]
       have xf:(y.cells.take off++x.cells++y.cells.drop (off+k)).length=y.cells.length:=by rw[e3,ez _ _ _ Bn]
       have An: ∀c∈y.cells.take off++x.cells++y.cells.drop (off+k),c.aG=true:=λc hc=>by
        simp only[zaY] at hc;rcases hc with(hc |hc)|hc
        ·exact y2 c (zbk hc)
        ·exact c2 c hc
        exact y2 c (zbj hc)
       have DH:=D.k8 (x:=y) xf An;obtain⟨d1,d2⟩:=a1.gk (e1:=⟨e.aw,e.tag,.arr ty false (es.set i (y.db (y.cells.take off++x.cells++y.cells.drop (off+k))))⟩) (g1:=G n)
        (w':=w.setRow b (cs.toList.take (i*k0+off)++v.cells.toList++cs.toList.drop (i*k0+off+k)).toArray) cD
        (λc hc dH=>eP w b _ c (λe'=>dH ⟨e,he,by rw[e',aN];simp[aD,hG,au]⟩)) (by simp) rfl rfl rfl
        (λc hc=> .inr ⟨e,he,by rw[aN];exact hc⟩)
        (by
         rw[aH];refine .inr ⟨b,cap,_,k0,by rw[hG,zbA],setRow_heap w b cs _ ty _ hh,r9,jt,by rw[zbA];exact qF,kl,?_,(λh=>by cases h),?_⟩
         ·simp only[zbt];rw[e2,ez _ _ _ hval];simpa using bn
         intro m z hz;have jQ: ∀j,(cs.toList.take (i*k0+off)++v.cells.toList++cs.toList.drop (i*k0+off+k)).toArray.getD j undef=if i*k0+off<=j/\j<i*k0+off+k then(v.cells.toList[j-(i*k0+off)]?).getD undef else cs.getD j undef:=λj=>by
          rw[dj];simp only[];rw[e2,di _ _ _ _ hval,c1];split
          ·rfl
          rw[dj]
         by_cases hm:i=m
         ·subst hm;rw[zbx hi] at hz;cases hz;rw[DH];refine⟨by rw[xf,y1],An,λj c hc=> ?_⟩;rw[e3,di _ _ _ _ Bn,yK] at hc;rw[jQ];by_cases hj:off<=j/\j<off+k
          ·rw[zax hj] at hc;rw[zax (by omega)];have yb:j-off<v.cells.toList.length:=by omega
           have e4:i*k0+j-(i*k0+off)=j-off:=by omega
           rw[e4,zab yb];exact(c3 _ _ c (zab yb) hc).mono (λ_ h=>h) hF
          rw[zaB hj] at hc;rw[zaB (by omega)];exact(y3 j c hc).mono (λ_ h=>h) hF
         rw[zbl hm] at hz;obtain⟨z1,z2,z3⟩:=hE m z hz;refine⟨z1,z2,λj c hc=> ?_⟩;rw[jQ];have hj:j<k0:=by have:=(zaa.1 hc).1;omega
         have bz: ¬(i*k0+off<=m*k0+j/\m*k0+j<i*k0+off+k):=by
          intro ER;rcases zbp hm with bm |CW
          ·have:(i+1)*k0<=m*k0:=zaf _ (by omega);rw[zas,zaI] at this;omega
          have:(m+1)*k0<=i*k0:=zaf _ (by omega);rw[zas,zaI] at this;omega
         rw[zaB bz];exact(z3 j c hc).mono (λ_ h=>h) hF)
        (λi hi hl=>a1.tag n e i he hi (by rw[aN];rfl))
       rw[aH] at d1 d2;exact⟨d1,a2.trans d2⟩
     cases hs
    cases hs
   cases hs
  cases hs
 cases hs
end
end Pi
