/- The text PiEfOk3. -/
import Derived.Test.YtngoddkencoalaaGreatDoorPiEfOk2
namespace Pi
open Go
section
variable{Q:Program}{T:Tg}{F:Nat->Prop}{G:Nat->Value}{w:World}{a:Act}{s:S}
theorem wm{t:TypeId}{k:Nat}(hk:sz Q t=some k){b o:Nat}{cs:Array Value}{ty:TypeId}(hh:w.heap[b]?=some (.cells cs ty (0,0))){v:Value}(hl:v.cells.toList.length=k)(hle:o+k<=cs.size)(h1: ∀u∈v.cells.toList,u.oneCell'=true):
  (Instr.storeAt t (.pointer (some ⟨b,o,none⟩)) v).run Q w= .ok () (w.setRow b (cs.toList.take o++v.cells.toList++cs.toList.drop (o+k)).toArray):=by
 have jv:=run_storeCells_at Q b o ty v.cells.toList 0 cs w hh (by omega) h1;simp only[zb0,hl] at jv;have dN:v.cells.size=k:=by simpa using hl
 simp[Instr.storeAt,Instr.sureAddr,storeVar,Sem.run_bind,run_sizeOf hk,dN,jv]
theorem fL(cs:Array Value)(i:Nat):cs.getD i undef=(cs.toList[i]?).getD undef:=by simp[zaI]
theorem mz(w:World)(b:Nat)(cs:Array Value)(c:Nat)(h:c≠b):(w.setRow b cs).heap[c]?=w.heap[c]?:=setRow_other w b c cs h
theorem D.xo{x:D}{cs:List D}(h:cs.length=x.cells.length)(hc: ∀c∈cs,c.bA=true):(x.aP cs).cells=cs:=by
 have one: ∀(y:D),cs.length=1->(cs.headD y).cells=cs:=λy h1=>by
  cases cs with
  |nil=>simp at h1
  |cons c r=>have:r=[]:=zaA (by simpa using h1);subst this;have:=hc c (by simp);cases c<;>simp_all [D.cells,D.bA]
 cases x<;>first |rfl |exact one _ (by simpa [D.cells] using h)
theorem OH(h:aG Q T F G w a s){t:TypeId}{pa pv:P}{s':S}(hs:gB Q s t pa pv=some s'){va v:Value}(ha:aH F w G s.rg va pa)(hv:aH F w G s.rg v pv):
  ∃w' F' G',(Instr.storeAt t va v).run Q w= .ok () w'/\aG Q T F' G' w' a s'/\Ext (Own G s.rg) (Own G' s'.rg) F F' w w':=by
 unfold gB at hs;split at hs
 ·cases hs
 rename_i k hk;split at hs
 next n aV off=>
  split at hs
  next s1 val ga=>
   split at hs
   ·rename_i ty ps ho;split at hs
    ·rename_i eP;simp only[zab,zcc] at eP;obtain⟨⟨hlen,hle⟩,gU⟩:=eP;have hlen:val.cells.length=k:=by simpa using hlen
     simp at hs;subst hs;obtain⟨G1,a1,a2,a3,a4⟩:=Mw h ga hv;obtain⟨e,he,dT,b9⟩:=S.bI ho;have RR:=ha.mono (λ_ h=>h) (λ_ _=>rfl) a3;cases RR with
     |ref _ _ _ _ hr h1=>
      obtain⟨b,hG,rfl⟩:=hr.at he dT (by rw[b9];rfl);have hO:=a1.rg n e he;rw[b9] at hO;obtain⟨b',cs,qX,hh,dN,bR,rP⟩:=hO;rw[hG] at qX;simp at qX;subst qX;obtain⟨c1,c2,iF⟩:=yK a4 gU;rw[hlen] at c1;refine⟨_,F,G1,wm hk hh c1 (by omega) iF,?_⟩;rw[S.fu he];have xn:b<w.heap.size:=(zaz.1 hh).1;have Y5: ¬F b:=a1.nf n e b he (by rw[b9];simp[bF,hG,aM]);have gl:rS G1 s1.rg n ⟨e.aV,e.tag,.box ty (splice ps off val.cells)⟩ (G1 n):=λe' cS=>by rw[he] at cS;cases cS;exact .inr ⟨rfl,λ_=>⟨by rw[b9];rfl,rfl⟩⟩
      have Kc:=gN gl;rw[ca] at Kc;have hF: ∀c,F c->(w.setRow b (cs.toList.take off++v.cells.toList++cs.toList.drop (off+k)).toArray).heap[c]?=w.heap[c]?:=λc hc=>mz w b _ c (λe=>Y5 (e▸hc));have qh7:off+val.cells.length<=ps.length:=by omega
      have hval:off+v.cells.toList.length<=cs.toList.length:=by rw[c1];simp;omega
      have e2:cs.toList.drop (off+k)=cs.toList.drop (off+v.cells.toList.length):=by rw[c1]
      obtain⟨d1,d2⟩:=a1.oe (e1:=⟨e.aV,e.tag,.box ty (splice ps off val.cells)⟩) (g1:=G1 n) (w':=w.setRow b (cs.toList.take off++v.cells.toList++cs.toList.drop (off+k)).toArray) gl
       (λc hc bS=>mz w b _ c (λe'=>bS ⟨e,he,by rw[e',b9];simp[bF,hG,aM]⟩)) (by simp) rfl rfl rfl
       (λc hc=> .inr ⟨e,he,by rw[b9];exact hc⟩)
       (by
        rw[ca];refine⟨b,_,hG,setRow_heap w b cs _ ty _ hh,?_,?_,?_⟩
        ·simp only[splice,zcD];rw[e2,lz _ _ _ hval,lz _ _ _ qh7];simpa using dN
        ·intro c hc;simp only[zay] at hc;rcases hc with(hc |hc)|hc
         ·exact bR c (zba hc)
         ·exact iF c hc
         exact bR c (zbR hc)
        intro i p hp;simp only[splice] at hp;rw[iZ _ _ _ _ qh7] at hp;rw[fL];simp only[];rw[e2,iZ _ _ _ _ hval,c1];rw[hlen] at hp;by_cases hi:off<=i/\i<off+k
        ·rw[zap hi] at hp⊢;have bJ:i-off<v.cells.toList.length:=by omega
         rw[zac bJ];exact(c2 _ _ p (zac bJ) hp).mono (λ_ h=>h) hF Kc
        rw[zan hi] at hp⊢;have:=rP i p hp;rw[fL] at this;exact this.mono (λ_ h=>h) hF Kc)
       (λi hi hl=>a1.tag n e i he hi (by rw[b9];rfl))
      rw[ca] at d1 d2;exact⟨d1,a2.trans d2⟩
    cases hs
   cases hs
  cases hs
 next n aV i k0 off=>
  split at hs
  next s1 x GN=>
   split at hs
   ·rename_i ty es ho;split at hs
    ·rename_i y k2 hy qY;split at hs
     ·rename_i eP;simp only[zab,zcc] at eP;obtain⟨⟨ju,hxl⟩,hle⟩:=eP;have ju:k0=k2:=by simpa using ju
      have hxl:x.cells.length=k:=by simpa using hxl
      subst ju;simp only[zam] at hs;subst hs;obtain⟨F1,a1,a2,a3,a4,a5⟩:=xO h GN hv;obtain⟨e,he,dT,b9⟩:=S.bI ho;have RR:=ha.mono a4 (λ_ _=>rfl) a3;cases RR with
      |dD _ _ _ _ _ _ h1 hr=>
       obtain⟨b,N,cap,hG,rfl⟩:=hr.at he dT (by rw[b9];rfl);have hO:=a1.rg n e he;rw[b9] at hO;rcases hO with⟨qX,_⟩| ⟨b',iX,cs,k3,qX,hh,hk3,gy,GI,yL,dN,_,hE⟩
       ·rw[hG] at qX;cases qX
       rw[qY] at hk3;cases hk3;rw[hG] at qX;simp at qX;obtain⟨rfl,rfl,rfl⟩:=qX;obtain⟨c1,c2,c3⟩:=ec a5;rw[hxl] at c1;have hi:i<es.length:=(zaf.1 hy).1;obtain⟨y1,y2,y3⟩:=hE i y hy;have qmq:i*k0+k0<=cs.size:=by
        rw[dN]
        calc i*k0+k0=(i+1)*k0:=by rw[zaZ,zbs]
         _<=cap*k0:=zar _ (by omega)
       have iF:=ly a5;refine⟨_,F1,G,wm hk hh c1 (by omega) iF,?_⟩;rw[S.fu he];have Y5: ¬F1 b:=a1.nf n e b he (by rw[b9];simp[bF,hG,aM]);have gl:rS G s1.rg n ⟨e.aV,e.tag,.arr ty false (es.set i (y.aP (y.cells.take off++x.cells++y.cells.drop (off+k))))⟩ (G n):=λe' cS=>by rw[he] at cS;cases cS;exact .inr ⟨rfl,λ_=>⟨by rw[b9];rfl,rfl⟩⟩
       have hF: ∀c,F1 c->(w.setRow b (cs.toList.take (i*k0+off)++v.cells.toList++cs.toList.drop (i*k0+off+k)).toArray).heap[c]?=w.heap[c]?:=λc hc=>mz w b _ c (λe=>Y5 (e▸hc));have hyl:off+x.cells.length<=y.cells.length:=by omega
       have hval:i*k0+off+v.cells.toList.length<=cs.toList.length:=by rw[c1];simp;omega
       have e2:cs.toList.drop (i*k0+off+k)=cs.toList.drop (i*k0+off+v.cells.toList.length):=by rw[c1]
       have e3:y.cells.drop (off+k)=y.cells.drop (off+x.cells.length):=by rw[hxl]
       have tf:(y.cells.take off++x.cells++y.cells.drop (off+k)).length=y.cells.length:=by rw[e3,lz _ _ _ hyl]
       have hnc: ∀c∈y.cells.take off++x.cells++y.cells.drop (off+k),c.bA=true:=λc hc=>by
        simp only[zay] at hc;rcases hc with(hc |hc)|hc
        ·exact y2 c (zba hc)
        ·exact c2 c hc
        exact y2 c (zbR hc)
       have hwc:=D.xo (x:=y) tf hnc;obtain⟨d1,d2⟩:=a1.oe (e1:=⟨e.aV,e.tag,.arr ty false (es.set i (y.aP (y.cells.take off++x.cells++y.cells.drop (off+k))))⟩) (g1:=G n)
        (w':=w.setRow b (cs.toList.take (i*k0+off)++v.cells.toList++cs.toList.drop (i*k0+off+k)).toArray) gl
        (λc hc bS=>mz w b _ c (λe'=>bS ⟨e,he,by rw[e',b9];simp[bF,hG,aM]⟩)) (by simp) rfl rfl rfl
        (λc hc=> .inr ⟨e,he,by rw[b9];exact hc⟩)
        (by
         rw[ca];refine .inr ⟨b,cap,_,k0,by rw[hG,zbj],setRow_heap w b cs _ ty _ hh,qY,gy,by rw[zbj];exact GI,yL,?_,(λh=>by cases h),?_⟩
         ·simp only[zcD];rw[e2,lz _ _ _ hval];simpa using dN
         intro m z hz;have oE: ∀j,(cs.toList.take (i*k0+off)++v.cells.toList++cs.toList.drop (i*k0+off+k)).toArray.getD j undef=if i*k0+off<=j/\j<i*k0+off+k then(v.cells.toList[j-(i*k0+off)]?).getD undef else cs.getD j undef:=λj=>by
          rw[fL];simp only[];rw[e2,iZ _ _ _ _ hval,c1];split
          ·rfl
          rw[fL]
         by_cases hm:i=m
         ·subst hm;rw[zbX hi] at hz;cases hz;rw[hwc];refine⟨by rw[tf,y1],hnc,λj c hc=> ?_⟩;rw[e3,iZ _ _ _ _ hyl,hxl] at hc;rw[oE];by_cases hj:off<=j/\j<off+k
          ·rw[zap hj] at hc;rw[zap (by omega)];have GG:j-off<v.cells.toList.length:=by omega
           have e4:i*k0+j-(i*k0+off)=j-off:=by omega
           rw[e4,zac GG];exact(c3 _ _ c (zac GG) hc).mono (λ_ h=>h) hF
          rw[zan hj] at hc;rw[zan (by omega)];exact(y3 j c hc).mono (λ_ h=>h) hF
         rw[za3 hm] at hz;obtain⟨z1,z2,z3⟩:=hE m z hz;refine⟨z1,z2,λj c hc=> ?_⟩;rw[oE];have hj:j<k0:=by have:=(zaf.1 hc).1;omega
         have dQ: ¬(i*k0+off<=m*k0+j/\m*k0+j<i*k0+off+k):=by
          intro hh2;rcases zcw hm with bJ |hgt
          ·have:(i+1)*k0<=m*k0:=zar _ (by omega);rw[zaZ,zbs] at this;omega
          have:(m+1)*k0<=i*k0:=zar _ (by omega);rw[zaZ,zbs] at this;omega
         rw[zan dQ];exact(z3 j c hc).mono (λ_ h=>h) hF)
        (λi hi hl=>a1.tag n e i he hi (by rw[b9];rfl))
       rw[ca] at d1 d2;exact⟨d1,a2.trans d2⟩
     cases hs
    cases hs
   cases hs
  cases hs
 cases hs
end
end Pi
