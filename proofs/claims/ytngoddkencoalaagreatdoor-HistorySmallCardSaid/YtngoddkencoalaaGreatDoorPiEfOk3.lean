/- The text PiEfOk3. -/
import Derived.Test.YtngoddkencoalaaGreatDoorPiEfOk2
namespace Pi
open Go
section
variable{Q:Program}{T:Tg}{F:Nat->Prop}{G:Nat->Value}{w:World}{a:Act}{s:S}
theorem vP{t:TypeId}{k:Nat}(hk:sz Q t=some k){b o:Nat}{cs:Array Value}{ty:TypeId}(hh:w.heap[b]?=some (.cells cs ty (0,0))){v:Value}(hl:v.cells.toList.length=k)(hle:o+k<=cs.size)(h1: ∀u∈v.cells.toList,u.oneCell'=true):
  (Instr.storeAt t (.pointer (some ⟨b,o,none⟩)) v).run Q w= .ok () (w.setRow b (cs.toList.take o++v.cells.toList++cs.toList.drop (o+k)).toArray):=by
 have ln:=run_storeCells_at Q b o ty v.cells.toList 0 cs w hh (by omega) h1;simp only[zbR,hl] at ln;have dB:v.cells.size=k:=by simpa using hl
 simp[Instr.storeAt,Instr.sureAddr,storeVar,Sem.run_bind,run_sizeOf hk,dB,ln]
theorem fM(cs:Array Value)(i:Nat):cs.getD i undef=(cs.toList[i]?).getD undef:=by simp[zaD]
theorem mg(w:World)(b:Nat)(cs:Array Value)(c:Nat)(h:c≠b):(w.setRow b cs).heap[c]?=w.heap[c]?:=setRow_other w b c cs h
theorem D.wP{x:D}{cs:List D}(h:cs.length=x.cells.length)(hc: ∀c∈cs,c.bJ=true):(x.aV cs).cells=cs:=by
 have one: ∀(y:D),cs.length=1->(cs.headD y).cells=cs:=λy h1=>by
  cases cs with
  |nil=>simp at h1
  |cons c r=>have:r=[]:=zau (by simpa using h1);subst this;have:=hc c (by simp);cases c<;>simp_all [D.cells,D.bJ]
 cases x<;>first |rfl |exact one _ (by simpa [D.cells] using h)
theorem MN(h:aG Q T F G w a s){t:TypeId}{pa pv:P}{s':S}(hs:gF Q s t pa pv=some s'){va v:Value}(ha:aH F w G s.rg va pa)(hv:aH F w G s.rg v pv):
  ∃w' F' G',(Instr.storeAt t va v).run Q w= .ok () w'/\aG Q T F' G' w' a s'/\Ext (Own G s.rg) (Own G' s'.rg) F F' w w':=by
 unfold gF at hs;split at hs
 ·cases hs
 rename_i k hk;split at hs
 next n aZ off=>
  split at hs
  next s1 val gb=>
   split at hs
   ·rename_i ty ps ho;split at hs
    ·rename_i fq;simp only[zab,zb0] at fq;obtain⟨⟨hlen,hle⟩,iF⟩:=fq;have hlen:val.cells.length=k:=by simpa using hlen
     simp at hs;subst hs;obtain⟨G1,a1,a2,a3,a4⟩:=KU h gb hv;obtain⟨e,he,dY,ca⟩:=S.bM ho;have Qa:=ha.mono (λ_ h=>h) (λ_ _=>rfl) a3;cases Qa with
     |ref _ _ _ _ hr h1=>
      obtain⟨b,hG,rfl⟩:=hr.at he dY (by rw[ca];rfl);have hO:=a1.rg n e he;rw[ca] at hO;obtain⟨b',cs,o7,hh,dB,cj,rD⟩:=hO;rw[hG] at o7;simp at o7;subst o7;obtain⟨c1,c2,iC⟩:=xY a4 iF;rw[hlen] at c1;refine⟨_,F,G1,vP hk hh c1 (by omega) iC,?_⟩;rw[S.ft he];have wO:b<w.heap.size:=(zar.1 hh).1;have WV: ¬F b:=a1.mU n e b he (by rw[ca];simp[bL,hG,aR]);have gl:rG G1 s1.rg n ⟨e.aZ,e.tag,.box ty (splice ps off val.cells)⟩ (G1 n):=λe' cR=>by rw[he] at cR;cases cR;exact .inr ⟨rfl,λ_=>⟨by rw[ca];rfl,rfl⟩⟩
      have IC:=gN gl;rw[cb] at IC;have hF: ∀c,F c->(w.setRow b (cs.toList.take off++v.cells.toList++cs.toList.drop (off+k)).toArray).heap[c]?=w.heap[c]?:=λc hc=>mg w b _ c (λe=>WV (e▸hc));have qfZ:off+val.cells.length<=ps.length:=by omega
      have hval:off+v.cells.toList.length<=cs.toList.length:=by rw[c1];simp;omega
      have e2:cs.toList.drop (off+k)=cs.toList.drop (off+v.cells.toList.length):=by rw[c1]
      obtain⟨d1,d2⟩:=a1.nL (e1:=⟨e.aZ,e.tag,.box ty (splice ps off val.cells)⟩) (g1:=G1 n) (w':=w.setRow b (cs.toList.take off++v.cells.toList++cs.toList.drop (off+k)).toArray) gl
       (λc hc bX=>mg w b _ c (λe'=>bX ⟨e,he,by rw[e',ca];simp[bL,hG,aR]⟩)) (by simp) rfl rfl rfl
       (λc hc=> .inr ⟨e,he,by rw[ca];exact hc⟩)
       (by
        rw[cb];refine⟨b,_,hG,setRow_heap w b cs _ ty _ hh,?_,?_,?_⟩
        ·simp only[splice,zcs];rw[e2,lr _ _ _ hval,lr _ _ _ qfZ];simpa using dB
        ·intro c hc;simp only[zaI] at hc;rcases hc with(hc |hc)|hc
         ·exact cj c (zbq hc)
         ·exact iC c hc
         exact cj c (zbV hc)
        intro i p hp;simp only[splice] at hp;rw[iX _ _ _ _ qfZ] at hp;rw[fM];simp only[];rw[e2,iX _ _ _ _ hval,c1];rw[hlen] at hp;by_cases hi:off<=i/\i<off+k
        ·rw[zao hi] at hp⊢;have bG:i-off<v.cells.toList.length:=by omega
         rw[zae bG];exact(c2 _ _ p (zae bG) hp).mono (λ_ h=>h) hF IC
        rw[zal hi] at hp⊢;have:=rD i p hp;rw[fM] at this;exact this.mono (λ_ h=>h) hF IC)
       (λi hi hl=>a1.tag n e i he hi (by rw[ca];rfl))
      rw[cb] at d1 d2;exact⟨d1,a2.trans d2⟩
    cases hs
   cases hs
  cases hs
 next n aZ i k0 off=>
  split at hs
  next s1 x Fo=>
   split at hs
   ·rename_i ty es ho;split at hs
    ·rename_i y k2 hy sW;split at hs
     ·rename_i fq;simp only[zab,zb0] at fq;obtain⟨⟨jV,hxl⟩,hle⟩:=fq;have jV:k0=k2:=by simpa using jV
      have hxl:x.cells.length=k:=by simpa using hxl
      subst jV;simp only[zam] at hs;subst hs;obtain⟨F1,a1,a2,a3,a4,a5⟩:=xh h Fo hv;obtain⟨e,he,dY,ca⟩:=S.bM ho;have Qa:=ha.mono a4 (λ_ _=>rfl) a3;cases Qa with
      |dG _ _ _ _ _ _ h1 hr=>
       obtain⟨b,N,cap,hG,rfl⟩:=hr.at he dY (by rw[ca];rfl);have hO:=a1.rg n e he;rw[ca] at hO;rcases hO with⟨o7,_⟩| ⟨b',iV,cs,k3,o7,hh,hk3,gB,HK,zY,dB,_,hE⟩
       ·rw[hG] at o7;cases o7
       rw[sW] at hk3;cases hk3;rw[hG] at o7;simp at o7;obtain⟨rfl,rfl,rfl⟩:=o7;obtain⟨c1,c2,c3⟩:=eu a5;rw[hxl] at c1;have hi:i<es.length:=(zad.1 hy).1;obtain⟨y1,y2,y3⟩:=hE i y hy;have qkl:i*k0+k0<=cs.size:=by
        rw[dB]
        calc i*k0+k0=(i+1)*k0:=by rw[zaV,zbs]
         _<=cap*k0:=zaq _ (by omega)
       have iC:=lq a5;refine⟨_,F1,G,vP hk hh c1 (by omega) iC,?_⟩;rw[S.ft he];have WV: ¬F1 b:=a1.mU n e b he (by rw[ca];simp[bL,hG,aR]);have gl:rG G s1.rg n ⟨e.aZ,e.tag,.arr ty false (es.set i (y.aV (y.cells.take off++x.cells++y.cells.drop (off+k))))⟩ (G n):=λe' cR=>by rw[he] at cR;cases cR;exact .inr ⟨rfl,λ_=>⟨by rw[ca];rfl,rfl⟩⟩
       have hF: ∀c,F1 c->(w.setRow b (cs.toList.take (i*k0+off)++v.cells.toList++cs.toList.drop (i*k0+off+k)).toArray).heap[c]?=w.heap[c]?:=λc hc=>mg w b _ c (λe=>WV (e▸hc));have hyl:off+x.cells.length<=y.cells.length:=by omega
       have hval:i*k0+off+v.cells.toList.length<=cs.toList.length:=by rw[c1];simp;omega
       have e2:cs.toList.drop (i*k0+off+k)=cs.toList.drop (i*k0+off+v.cells.toList.length):=by rw[c1]
       have e3:y.cells.drop (off+k)=y.cells.drop (off+x.cells.length):=by rw[hxl]
       have rH:(y.cells.take off++x.cells++y.cells.drop (off+k)).length=y.cells.length:=by rw[e3,lr _ _ _ hyl]
       have hnc: ∀c∈y.cells.take off++x.cells++y.cells.drop (off+k),c.bJ=true:=λc hc=>by
        simp only[zaI] at hc;rcases hc with(hc |hc)|hc
        ·exact y2 c (zbq hc)
        ·exact c2 c hc
        exact y2 c (zbV hc)
       have hwc:=D.wP (x:=y) rH hnc;obtain⟨d1,d2⟩:=a1.nL (e1:=⟨e.aZ,e.tag,.arr ty false (es.set i (y.aV (y.cells.take off++x.cells++y.cells.drop (off+k))))⟩) (g1:=G n)
        (w':=w.setRow b (cs.toList.take (i*k0+off)++v.cells.toList++cs.toList.drop (i*k0+off+k)).toArray) gl
        (λc hc bX=>mg w b _ c (λe'=>bX ⟨e,he,by rw[e',ca];simp[bL,hG,aR]⟩)) (by simp) rfl rfl rfl
        (λc hc=> .inr ⟨e,he,by rw[ca];exact hc⟩)
        (by
         rw[cb];refine .inr ⟨b,cap,_,k0,by rw[hG,zbb],setRow_heap w b cs _ ty _ hh,sW,gB,by rw[zbb];exact HK,zY,?_,(λh=>by cases h),?_⟩
         ·simp only[zcs];rw[e2,lr _ _ _ hval];simpa using dB
         intro m z hz;have pK: ∀j,(cs.toList.take (i*k0+off)++v.cells.toList++cs.toList.drop (i*k0+off+k)).toArray.getD j undef=if i*k0+off<=j/\j<i*k0+off+k then(v.cells.toList[j-(i*k0+off)]?).getD undef else cs.getD j undef:=λj=>by
          rw[fM];simp only[];rw[e2,iX _ _ _ _ hval,c1];split
          ·rfl
          rw[fM]
         by_cases hm:i=m
         ·subst hm;rw[zbP hi] at hz;cases hz;rw[hwc];refine⟨by rw[rH,y1],hnc,λj c hc=> ?_⟩;rw[e3,iX _ _ _ _ hyl,hxl] at hc;rw[pK];by_cases hj:off<=j/\j<off+k
          ·rw[zao hj] at hc;rw[zao (by omega)];have Ff:j-off<v.cells.toList.length:=by omega
           have e4:i*k0+j-(i*k0+off)=j-off:=by omega
           rw[e4,zae Ff];exact(c3 _ _ c (zae Ff) hc).mono (λ_ h=>h) hF
          rw[zal hj] at hc;rw[zal (by omega)];exact(y3 j c hc).mono (λ_ h=>h) hF
         rw[zaR hm] at hz;obtain⟨z1,z2,z3⟩:=hE m z hz;refine⟨z1,z2,λj c hc=> ?_⟩;rw[pK];have hj:j<k0:=by have:=(zad.1 hc).1;omega
         have dP: ¬(i*k0+off<=m*k0+j/\m*k0+j<i*k0+off+k):=by
          intro hh2;rcases zcm hm with bG |hgt
          ·have:(i+1)*k0<=m*k0:=zaq _ (by omega);rw[zaV,zbs] at this;omega
          have:(m+1)*k0<=i*k0:=zaq _ (by omega);rw[zaV,zbs] at this;omega
         rw[zal dP];exact(z3 j c hc).mono (λ_ h=>h) hF)
        (λi hi hl=>a1.tag n e i he hi (by rw[ca];rfl))
       rw[cb] at d1 d2;exact⟨d1,a2.trans d2⟩
     cases hs
    cases hs
   cases hs
  cases hs
 cases hs
end
end Pi
