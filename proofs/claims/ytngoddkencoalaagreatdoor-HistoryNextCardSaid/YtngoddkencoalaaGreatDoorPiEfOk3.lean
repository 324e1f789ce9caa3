/- The text PiEfOk3. -/
import Derived.Test.YtngoddkencoalaaGreatDoorPiEfOk2
namespace Pi
open Go
section
variable {Q:Program} {T:Tg} {F:Nat->Prop} {G:Nat->Value} {w:World} {a:Act} {s:S}
theorem uG {t:TypeId} {k:Nat} (hk:sz Q t=some k) {b o:Nat} {cs:Array Value} {ty:TypeId} (hh:w.heap[b]?=some (.cells cs ty (0,0))) {v:Value} (hl:v.cells.toList.length=k) (hle:o+k<=cs.size) (h1: ∀u∈v.cells.toList,u.oneCell'=true):
  (Instr.storeAt t (.pointer (some ⟨b,o,none⟩)) v).run Q w= .ok () (w.setRow b (cs.toList.take o++v.cells.toList++cs.toList.drop (o+k)).toArray):=by
 have kO:=run_storeCells_at Q b o ty v.cells.toList 0 cs w hh (by omega) h1
 simp only[zbQ,hl] at kO
 have dq:v.cells.size=k:=by simpa using hl
 simp[Instr.storeAt,Instr.sureAddr,storeVar,Sem.run_bind,run_sizeOf hk,dq,kO]
theorem fF (cs:Array Value) (i:Nat):cs.getD i undef=(cs.toList[i]?).getD undef:=by
 simp[zaD]
theorem lP (w:World) (b:Nat) (cs:Array Value) (c:Nat) (h:c≠b):(w.setRow b cs).heap[c]?=w.heap[c]?:=setRow_other w b c cs h
theorem D.vC {x:D} {cs:List D} (h:cs.length=x.cells.length) (hc: ∀c∈cs,c.bC=true):(x.aV cs).cells=cs:=by
 have one: ∀(y:D),cs.length=1->(cs.headD y).cells=cs:=fun y h1=>by
  cases cs with
  |nil=>simp at h1
  |cons c r=>
   have:r=[]:=zax (by simpa using h1)
   subst this
   have:=hc c (by simp)
   cases c<;>simp_all [D.cells,D.bC]
 cases x<;>first |rfl |exact one _ (by simpa [D.cells] using h)
theorem L3 (h:aC Q T F G w a s) {t:TypeId} {pa pv:P} {s':S} (hs:gw Q s t pa pv=some s') {va v:Value} (ha:aF F w G s.rg va pa) (hv:aF F w G s.rg v pv):
  ∃w' F' G',(Instr.storeAt t va v).run Q w= .ok () w'/\aC Q T F' G' w' a s'/\Ext (Own G s.rg) (Own G' s'.rg) F F' w w':=by
 unfold gw at hs
 split at hs
 ·cases hs
 ·rename_i k hk
  split at hs
  ·rename_i n aX off
   split at hs
   ·rename_i s1 val fU
    split at hs
    ·rename_i ty ps ho
     split at hs
     ·rename_i ff
      simp only[zab,zbZ] at ff
      obtain⟨⟨hlen,hle⟩,il⟩:=ff
      have hlen:val.cells.length=k:=by simpa using hlen
      simp at hs
      subst hs
      obtain⟨G1,a1,a2,a3,a4⟩:=Kg h fU hv
      obtain⟨e,he,dP,bV⟩:=S.bH ho
      have O5:=ha.mono (fun _ h=>h) (fun _ _=>rfl) a3
      cases O5 with
      |ref _ _ _ _ hr h1=>
       obtain⟨b,hG,rfl⟩:=hr.at he dP (by rw[bV];rfl)
       have hO:=a1.rg n e he
       rw[bV] at hO
       obtain⟨b',cs,ou,hh,dq,ca,qK⟩:=hO
       rw[hG] at ou
       simp at ou
       subst ou
       obtain⟨c1,c2,ij⟩:=w9 a4 il
       rw[hlen] at c1
       refine⟨_,F,G1,uG hk hh c1 (by omega) ij,?_⟩
       rw[S.fg he]
       have vB:b<w.heap.size:=(zar.1 hh).1
       have VY: ¬F b:=a1.mq n e b he (by rw[bV];simp[bF,hG,aQ])
       have fZ:qN G1 s1.rg n ⟨e.aX,e.tag,.box ty (splice ps off val.cells)⟩ (G1 n):=fun e' cI=>by rw[he] at cI;cases cI;exact .inr ⟨rfl,fun _=>⟨by rw[bV];rfl,rfl⟩⟩
       have HP:=gF fZ
       rw[bW] at HP
       have hF: ∀c,F c->(w.setRow b (cs.toList.take off++v.cells.toList++cs.toList.drop (off+k)).toArray).heap[c]?=w.heap[c]?:=fun c hc=>lP w b _ c (fun e=>VY (e▸hc))
       have qe0:off+val.cells.length<=ps.length:=by omega
       have hval:off+v.cells.toList.length<=cs.toList.length:=by rw[c1];simp;omega
       have e2:cs.toList.drop (off+k)=cs.toList.drop (off+v.cells.toList.length):=by rw[c1]
       obtain⟨d1,d2⟩:=a1.mY (e1:=⟨e.aX,e.tag,.box ty (splice ps off val.cells)⟩) (g1:=G1 n) (w':=w.setRow b (cs.toList.take off++v.cells.toList++cs.toList.drop (off+k)).toArray) fZ
        (fun c hc bZ=>lP w b _ c (fun e'=>bZ ⟨e,he,by rw[e',bV];simp[bF,hG,aQ]⟩)) (by simp) rfl rfl rfl
        (fun c hc=> .inr ⟨e,he,by rw[bV];exact hc⟩)
        (by
         rw[bW]
         refine⟨b,_,hG,setRow_heap w b cs _ ty _ hh,?_,?_,?_⟩
         ·simp only[splice,zcp]
          rw[e2,kQ _ _ _ hval,kQ _ _ _ qe0]
          simpa using dq
         ·intro c hc
          simp only[zaG] at hc
          rcases hc with(hc |hc)|hc
          ·exact ca c (zbp hc)
          ·exact ij c hc
          ·exact ca c (zbU hc)
         ·intro i p hp
          simp only[splice] at hp
          rw[iL _ _ _ _ qe0] at hp
          rw[fF]
          simp only[]
          rw[e2,iL _ _ _ _ hval,c1]
          rw[hlen] at hp
          by_cases hi:off<=i/\i<off+k
          ·rw[zao hi] at hp⊢
           have bG:i-off<v.cells.toList.length:=by omega
           rw[zae bG]
           exact(c2 _ _ p (zae bG) hp).mono (fun _ h=>h) hF HP
          ·rw[zam hi] at hp⊢
           have:=qK i p hp
           rw[fF] at this
           exact this.mono (fun _ h=>h) hF HP)
        (fun i hi hl=>a1.tag n e i he hi (by rw[bV];rfl))
       rw[bW] at d1 d2
       exact⟨d1,a2.trans d2⟩
     ·cases hs
    ·cases hs
   ·cases hs
  ·rename_i n aX i k0 off
   split at hs
   ·rename_i s1 x EE
    split at hs
    ·rename_i ty es ho
     split at hs
     ·rename_i y k2 hy rY
      split at hs
      ·rename_i ff
       simp only[zab,zbZ] at ff
       obtain⟨⟨jH,hxl⟩,hle⟩:=ff
       have jH:k0=k2:=by simpa using jH
       have hxl:x.cells.length=k:=by simpa using hxl
       subst jH
       simp only[zal] at hs
       subst hs
       obtain⟨F1,a1,a2,a3,a4,a5⟩:=wg h EE hv
       obtain⟨e,he,dP,bV⟩:=S.bH ho
       have O5:=ha.mono a4 (fun _ _=>rfl) a3
       cases O5 with
       |dx _ _ _ _ _ _ h1 hr=>
        obtain⟨b,N,cap,hG,rfl⟩:=hr.at he dP (by rw[bV];rfl)
        have hO:=a1.rg n e he
        rw[bV] at hO
        rcases hO with⟨ou,_⟩| ⟨b',iJ,cs,k3,ou,hh,hk3,gm,GS,zb,dq,_,hE⟩
        ·rw[hG] at ou;cases ou
        ·rw[rY] at hk3
         cases hk3
         rw[hG] at ou
         simp at ou
         obtain⟨rfl,rfl,rfl⟩:=ou
         obtain⟨c1,c2,c3⟩:=dW a5
         rw[hxl] at c1
         have hi:i<es.length:=(zad.1 hy).1
         obtain⟨y1,y2,y3⟩:=hE i y hy
         have qi9:i*k0+k0<=cs.size:=by
          rw[dq]
          calc i*k0+k0=(i+1)*k0:=by rw[zaT,zbr]
           _<=cap*k0:=zaq _ (by omega)
         have ij:=kP a5
         refine⟨_,F1,G,uG hk hh c1 (by omega) ij,?_⟩
         rw[S.fg he]
         have VY: ¬F1 b:=a1.mq n e b he (by rw[bV];simp[bF,hG,aQ])
         have fZ:qN G s1.rg n ⟨e.aX,e.tag,.arr ty false (es.set i (y.aV (y.cells.take off++x.cells++y.cells.drop (off+k))))⟩ (G n):=fun e' cI=>by rw[he] at cI;cases cI;exact .inr ⟨rfl,fun _=>⟨by rw[bV];rfl,rfl⟩⟩
         have hF: ∀c,F1 c->(w.setRow b (cs.toList.take (i*k0+off)++v.cells.toList++cs.toList.drop (i*k0+off+k)).toArray).heap[c]?=w.heap[c]?:=fun c hc=>lP w b _ c (fun e=>VY (e▸hc))
         have hyl:off+x.cells.length<=y.cells.length:=by omega
         have hval:i*k0+off+v.cells.toList.length<=cs.toList.length:=by rw[c1];simp;omega
         have e2:cs.toList.drop (i*k0+off+k)=cs.toList.drop (i*k0+off+v.cells.toList.length):=by rw[c1]
         have e3:y.cells.drop (off+k)=y.cells.drop (off+x.cells.length):=by rw[hxl]
         have rZ:(y.cells.take off++x.cells++y.cells.drop (off+k)).length=y.cells.length:=by rw[e3,kQ _ _ _ hyl]
         have hnc: ∀c∈y.cells.take off++x.cells++y.cells.drop (off+k),c.bC=true:=fun c hc=>by
          simp only[zaG] at hc
          rcases hc with(hc |hc)|hc
          ·exact y2 c (zbp hc)
          ·exact c2 c hc
          ·exact y2 c (zbU hc)
         have hwc:=D.vC (x:=y) rZ hnc
         obtain⟨d1,d2⟩:=a1.mY (e1:=⟨e.aX,e.tag,.arr ty false (es.set i (y.aV (y.cells.take off++x.cells++y.cells.drop (off+k))))⟩) (g1:=G n)
          (w':=w.setRow b (cs.toList.take (i*k0+off)++v.cells.toList++cs.toList.drop (i*k0+off+k)).toArray) fZ
          (fun c hc bZ=>lP w b _ c (fun e'=>bZ ⟨e,he,by rw[e',bV];simp[bF,hG,aQ]⟩)) (by simp) rfl rfl rfl
          (fun c hc=> .inr ⟨e,he,by rw[bV];exact hc⟩)
          (by
           rw[bW]
           refine .inr ⟨b,cap,_,k0,by rw[hG,zbg],setRow_heap w b cs _ ty _ hh,rY,gm,by rw[zbg];exact GS,zb,?_,(fun h=>by cases h),?_⟩
           ·simp only[zcp]
            rw[e2,kQ _ _ _ hval]
            simpa using dq
           ·intro m z hz
            have pc: ∀j,(cs.toList.take (i*k0+off)++v.cells.toList++cs.toList.drop (i*k0+off+k)).toArray.getD j undef=if i*k0+off<=j/\j<i*k0+off+k then(v.cells.toList[j-(i*k0+off)]?).getD undef else cs.getD j undef:=fun j=>by
             rw[fF]
             simp only[]
             rw[e2,iL _ _ _ _ hval,c1]
             split
             ·rfl
             ·rw[fF]
            by_cases hm:i=m
            ·subst hm
             rw[zbO hi] at hz
             cases hz
             rw[hwc]
             refine⟨by rw[rZ,y1],hnc,fun j c hc=> ?_⟩
             rw[e3,iL _ _ _ _ hyl,hxl] at hc
             rw[pc]
             by_cases hj:off<=j/\j<off+k
             ·rw[zao hj] at hc
              rw[zao (by omega)]
              have Ex:j-off<v.cells.toList.length:=by omega
              have e4:i*k0+j-(i*k0+off)=j-off:=by omega
              rw[e4,zae Ex]
              exact(c3 _ _ c (zae Ex) hc).mono (fun _ h=>h) hF
             ·rw[zam hj] at hc
              rw[zam (by omega)]
              exact(y3 j c hc).mono (fun _ h=>h) hF
            ·rw[zaW hm] at hz
             obtain⟨z1,z2,z3⟩:=hE m z hz
             refine⟨z1,z2,fun j c hc=> ?_⟩
             rw[pc]
             have hj:j<k0:=by have:=(zad.1 hc).1;omega
             have dG: ¬(i*k0+off<=m*k0+j/\m*k0+j<i*k0+off+k):=by
              intro hh2
              rcases zch hm with bG |hgt
              ·have:(i+1)*k0<=m*k0:=zaq _ (by omega)
               rw[zaT,zbr] at this
               omega
              ·have:(m+1)*k0<=i*k0:=zaq _ (by omega)
               rw[zaT,zbr] at this
               omega
             rw[zam dG]
             exact(z3 j c hc).mono (fun _ h=>h) hF)
          (fun i hi hl=>a1.tag n e i he hi (by rw[bV];rfl))
         rw[bW] at d1 d2
         exact⟨d1,a2.trans d2⟩
      ·cases hs
     ·cases hs
    ·cases hs
   ·cases hs
  ·cases hs
end
end Pi
