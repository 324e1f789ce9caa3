/- The text PiEfOk3. -/
import Derived.Test.YtfelfooeclnbiaaPiEfOk2
namespace Pi
open Go
section
variable{Q:Program}{T:Tg}{F:Nat->Prop}{G:Nat->Value}{w:World}{a:Act}{s:S}
theorem k8{t:TypeId}{k:Nat}(hk:sz Q t=some k){b o:Nat}{cs:Array Value}{ty:TypeId}(hh:w.heap[b]?=some (.cells cs ty (0,0))){v:Value}(hl:v.cells.toList.length=k)(hle:o+k<=cs.size)(h1: ∀u∈v.cells.toList,u.oneCell'=true):
  (Instr.storeAt t (.pointer (some ⟨b,o,none⟩)) v).run Q w= .ok () (w.setRow b (cs.toList.take o++v.cells.toList++cs.toList.drop (o+k)).toArray):=by
 have gH:=run_storeCells_at Q b o ty v.cells.toList 0 cs w hh (by omega) h1;simp only[zbj,hl] at gH;have bM:v.cells.size=k:=by simpa using hl
 simp[Instr.storeAt,Instr.sureAddr,storeVar,Sem.run_bind,run_sizeOf hk,bM,gH]
theorem dw(cs:Array Value)(i:Nat):cs.getD i undef=(cs.toList[i]?).getD undef:=by simp[zam]
theorem fa(w:World)(b:Nat)(cs:Array Value)(c:Nat)(h:c≠b):(w.setRow b cs).heap[c]?=w.heap[c]?:=setRow_other w b c cs h
theorem D.lR{x:D}{cs:List D}(h:cs.length=x.cells.length)(hc: ∀c∈cs,c.aF=true):(x.bc cs).cells=cs:=by
 have one: ∀(y:D),cs.length=1->(cs.headD y).cells=cs:=λy h1=>by
  cases cs with
  |nil=>simp at h1
  |cons c r=>have:r=[]:=zar (by simpa using h1);subst this;have:=hc c (by simp);cases c<;>simp_all [D.cells,D.aF]
 cases x<;>first |rfl |exact one _ (by simpa [D.cells] using h)
theorem uF(h:ar Q T F G w a s){t:TypeId}{pa pv:P}{s':S}(hs:cP Q s t pa pv=some s'){va v:Value}(ha:ao F w G s.rg va pa)(hv:ao F w G s.rg v pv):
  ∃w' F' G',(Instr.storeAt t va v).run Q w= .ok () w'/\ar Q T F' G' w' a s'/\Ext (Own G s.rg) (Own G' s'.rg) F F' w w':=by
 unfold cP at hs;split at hs
 ·cases hs
 rename_i k hk;split at hs
 next n ay off=>
  split at hs
  next s1 val cA=>
   split at hs
   ·rename_i ty ps ho;split at hs
    ·rename_i cj;simp only[zac,zbl] at cj;obtain⟨⟨hlen,hle⟩,dk⟩:=cj;have hlen:val.cells.length=k:=by simpa using hlen
     simp at hs;subst hs;obtain⟨G1,a1,a2,a3,a4⟩:=tI h cA hv;obtain⟨e,he,bP,aO⟩:=S.aJ ho;have wE:=ha.mono (λ_ h=>h) (λ_ _=>rfl) a3;cases wE with
     |ref _ _ _ _ hr h1=>
      obtain⟨b,hG,rfl⟩:=hr.at he bP (by rw[aO];rfl);have hO:=a1.rg n e he;rw[aO] at hO;obtain⟨b',cs,e7,hh,bM,aP,oe⟩:=hO;rw[hG] at e7;simp at e7;subst e7;obtain⟨c1,c2,cW⟩:=ml a4 dk;rw[hlen] at c1;refine⟨_,F,G1,k8 hk hh c1 (by omega) cW,?_⟩;rw[S.cT he];have qz:b<w.heap.size:=(zan.1 hh).1;have yT: ¬F b:=a1.iO n e b he (by rw[aO];simp[aH,hG,au]);have df:gx G1 s1.rg n ⟨e.ay,e.tag,.box ty (splice ps off val.cells)⟩ (G1 n):=λe' bb=>by rw[he] at bb;cases bb;exact .inr ⟨rfl,λ_=>⟨by rw[aO];rfl,rfl⟩⟩
      have kG:=cz df;rw[aN] at kG;have hF: ∀c,F c->(w.setRow b (cs.toList.take off++v.cells.toList++cs.toList.drop (off+k)).toArray).heap[c]?=w.heap[c]?:=λc hc=>fa w b _ c (λe=>yT (e▸hc));have Cp:off+val.cells.length<=ps.length:=by omega
      have hval:off+v.cells.toList.length<=cs.toList.length:=by rw[c1];simp;omega
      have e2:cs.toList.drop (off+k)=cs.toList.drop (off+v.cells.toList.length):=by rw[c1]
      obtain⟨d1,d2⟩:=a1.gL (e1:=⟨e.ay,e.tag,.box ty (splice ps off val.cells)⟩) (g1:=G1 n) (w':=w.setRow b (cs.toList.take off++v.cells.toList++cs.toList.drop (off+k)).toArray) df
       (λc hc dY=>fa w b _ c (λe'=>dY ⟨e,he,by rw[e',aO];simp[aH,hG,au]⟩)) (by simp) rfl rfl rfl
       (λc hc=> .inr ⟨e,he,by rw[aO];exact hc⟩)
       (by
        rw[aN];refine⟨b,_,hG,setRow_heap w b cs _ ty _ hh,?_,?_,?_⟩
        ·simp only[splice,zbB];rw[e2,eO _ _ _ hval,eO _ _ _ Cp];simpa using bM
        ·intro c hc;simp only[za6] at hc;rcases hc with(hc |hc)|hc
         ·exact aP c (zbs hc)
         ·exact cW c hc
         exact aP c (zbr hc)
        intro i p hp;simp only[splice] at hp;rw[dv _ _ _ _ Cp] at hp;rw[dw];simp only[];rw[e2,dv _ _ _ _ hval,c1];rw[hlen] at hp;by_cases hi:off<=i/\i<off+k
        ·rw[zau hi] at hp⊢;have bA:i-off<v.cells.toList.length:=by omega
         rw[zad bA];exact(c2 _ _ p (zad bA) hp).mono (λ_ h=>h) hF kG
        rw[zay hi] at hp⊢;have:=oe i p hp;rw[dw] at this;exact this.mono (λ_ h=>h) hF kG)
       (λi hi hl=>a1.tag n e i he hi (by rw[aO];rfl))
      rw[aN] at d1 d2;exact⟨d1,a2.trans d2⟩
    cases hs
   cases hs
  cases hs
 next n ay i k0 off=>
  split at hs
  next s1 x vL=>
   split at hs
   ·rename_i ty es ho;split at hs
    ·rename_i y k2 hy rE;split at hs
     ·rename_i cj;simp only[zac,zbl] at cj;obtain⟨⟨dT,AP⟩,hle⟩:=cj;have dT:k0=k2:=by simpa using dT
      have AP:x.cells.length=k:=by simpa using AP
      subst dT;simp only[zae] at hs;subst hs;obtain⟨F1,a1,a2,a3,a4,a5⟩:=lY h vL hv;obtain⟨e,he,bP,aO⟩:=S.aJ ho;have wE:=ha.mono a4 (λ_ _=>rfl) a3;cases wE with
      |bG _ _ _ _ _ _ h1 hr=>
       obtain⟨b,N,cap,hG,rfl⟩:=hr.at he bP (by rw[aO];rfl);have hO:=a1.rg n e he;rw[aO] at hO;rcases hO with⟨e7,_⟩| ⟨b',dS,cs,k3,e7,hh,BO,fR,rF,nx,bM,_,hE⟩
       ·rw[hG] at e7;cases e7
       rw[rE] at BO;cases BO;rw[hG] at e7;simp at e7;obtain⟨rfl,rfl,rfl⟩:=e7;obtain⟨c1,c2,c3⟩:=bR a5;rw[AP] at c1;have hi:i<es.length:=(zaa.1 hy).1;obtain⟨y1,y2,y3⟩:=hE i y hy;have GP:i*k0+k0<=cs.size:=by
        rw[bM]
        calc i*k0+k0=(i+1)*k0:=by rw[zaw,zaT]
         _<=cap*k0:=zag _ (by omega)
       have cW:=eN a5;refine⟨_,F1,G,k8 hk hh c1 (by omega) cW,?_⟩;rw[S.cT he];have yT: ¬F1 b:=a1.iO n e b he (by rw[aO];simp[aH,hG,au]);have df:gx G s1.rg n ⟨e.ay,e.tag,.arr ty false (es.set i (y.bc (y.cells.take off++x.cells++y.cells.drop (off+k))))⟩ (G n):=λe' bb=>by rw[he] at bb;cases bb;exact .inr ⟨rfl,λ_=>⟨by rw[aO];rfl,rfl⟩⟩
       have hF: ∀c,F1 c->(w.setRow b (cs.toList.take (i*k0+off)++v.cells.toList++cs.toList.drop (i*k0+off+k)).toArray).heap[c]?=w.heap[c]?:=λc hc=>fa w b _ c (λe=>yT (e▸hc));have DE:off+x.cells.length<=y.cells.length:=by omega
       have hval:i*k0+off+v.cells.toList.length<=cs.toList.length:=by rw[c1];simp;omega
       have e2:cs.toList.drop (i*k0+off+k)=cs.toList.drop (i*k0+off+v.cells.toList.length):=by rw[c1]
       have e3:y.cells.drop (off+k)=y.cells.drop (off+x.cells.length):=by rw[AP]
       have yU:(y.cells.take off++x.cells++y.cells.drop (off+k)).length=y.cells.length:=by rw[e3,eO _ _ _ DE]
       have Cq: ∀c∈y.cells.take off++x.cells++y.cells.drop (off+k),c.aF=true:=λc hc=>by
        simp only[za6] at hc;rcases hc with(hc |hc)|hc
        ·exact y2 c (zbs hc)
        ·exact c2 c hc
        exact y2 c (zbr hc)
       have GQ:=D.lR (x:=y) yU Cq;obtain⟨d1,d2⟩:=a1.gL (e1:=⟨e.ay,e.tag,.arr ty false (es.set i (y.bc (y.cells.take off++x.cells++y.cells.drop (off+k))))⟩) (g1:=G n)
        (w':=w.setRow b (cs.toList.take (i*k0+off)++v.cells.toList++cs.toList.drop (i*k0+off+k)).toArray) df
        (λc hc dY=>fa w b _ c (λe'=>dY ⟨e,he,by rw[e',aO];simp[aH,hG,au]⟩)) (by simp) rfl rfl rfl
        (λc hc=> .inr ⟨e,he,by rw[aO];exact hc⟩)
        (by
         rw[aN];refine .inr ⟨b,cap,_,k0,by rw[hG,zaA],setRow_heap w b cs _ ty _ hh,rE,fR,by rw[zaA];exact rF,nx,?_,(λh=>by cases h),?_⟩
         ·simp only[zbB];rw[e2,eO _ _ _ hval];simpa using bM
         intro m z hz;have kA: ∀j,(cs.toList.take (i*k0+off)++v.cells.toList++cs.toList.drop (i*k0+off+k)).toArray.getD j undef=if i*k0+off<=j/\j<i*k0+off+k then(v.cells.toList[j-(i*k0+off)]?).getD undef else cs.getD j undef:=λj=>by
          rw[dw];simp only[];rw[e2,dv _ _ _ _ hval,c1];split
          ·rfl
          rw[dw]
         by_cases hm:i=m
         ·subst hm;rw[zbH hi] at hz;cases hz;rw[GQ];refine⟨by rw[yU,y1],Cq,λj c hc=> ?_⟩;rw[e3,dv _ _ _ _ DE,AP] at hc;rw[kA];by_cases hj:off<=j/\j<off+k
          ·rw[zau hj] at hc;rw[zau (by omega)];have Aa:j-off<v.cells.toList.length:=by omega
           have e4:i*k0+j-(i*k0+off)=j-off:=by omega
           rw[e4,zad Aa];exact(c3 _ _ c (zad Aa) hc).mono (λ_ h=>h) hF
          rw[zay hj] at hc;rw[zay (by omega)];exact(y3 j c hc).mono (λ_ h=>h) hF
         rw[zbt hm] at hz;obtain⟨z1,z2,z3⟩:=hE m z hz;refine⟨z1,z2,λj c hc=> ?_⟩;rw[kA];have hj:j<k0:=by have:=(zaa.1 hc).1;omega
         have cc: ¬(i*k0+off<=m*k0+j/\m*k0+j<i*k0+off+k):=by
          intro H4;rcases zbx hm with bA |Ga
          ·have:(i+1)*k0<=m*k0:=zag _ (by omega);rw[zaw,zaT] at this;omega
          have:(m+1)*k0<=i*k0:=zag _ (by omega);rw[zaw,zaT] at this;omega
         rw[zay cc];exact(z3 j c hc).mono (λ_ h=>h) hF)
        (λi hi hl=>a1.tag n e i he hi (by rw[aO];rfl))
       rw[aN] at d1 d2;exact⟨d1,a2.trans d2⟩
     cases hs
    cases hs
   cases hs
  cases hs
 cases hs
end
end Pi
