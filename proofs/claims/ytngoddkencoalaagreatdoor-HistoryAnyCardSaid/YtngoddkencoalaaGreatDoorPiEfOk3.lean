/- The text PiEfOk3. -/
import Derived.Test.YtngoddkencoalaaGreatDoorPiEfOk2
namespace Pi
open Go
section
variable {Q:Program} {T:Tg} {F:Nat->Prop} {G:Nat->Value} {w:World} {a:Act} {s:S}
theorem tR {t:TypeId} {k:Nat} (hk:sz Q t=some k) {b o:Nat} {cs:Array Value} {ty:TypeId} (hh:w.heap[b]?=some (.cells cs ty (0,0))) {v:Value} (hl:v.cells.toList.length=k) (hle:o+k<=cs.size) (h1: ∀u∈v.cells.toList,u.oneCell'=true):
  (Instr.storeAt t (.pointer (some ⟨b,o,none⟩)) v).run Q w= .ok () (w.setRow b (cs.toList.take o++v.cells.toList++cs.toList.drop (o+k)).toArray):=by
 have jj:=run_storeCells_at Q b o ty v.cells.toList 0 cs w hh (by omega) h1
 simp only[Nat.add_zero,hl] at jj
 have cJ:v.cells.size=k:=by simpa using hl
 simp[Instr.storeAt,Instr.sureAddr,storeVar,Sem.run_bind,run_sizeOf hk,cJ,jj]
theorem fm (cs:Array Value) (i:Nat):cs.getD i undef=(cs.toList[i]?).getD undef:=by
 simp[Array.getD_eq_getD_getElem?]
theorem k7 (w:World) (b:Nat) (cs:Array Value) (c:Nat) (h:c≠b):(w.setRow b cs).heap[c]?=w.heap[c]?:=setRow_other w b c cs h
theorem D.uU {x:D} {cs:List D} (h:cs.length=x.cells.length) (hc: ∀c∈cs,c.bC=true):(x.aY cs).cells=cs:=by
 have one: ∀(y:D),cs.length=1->(cs.headD y).cells=cs:=fun y h1=>by
  cases cs with
  |nil=>simp at h1
  |cons c r=>
   have:r=[]:=List.eq_nil_of_length_eq_zero (by simpa using h1)
   subst this
   have:=hc c (by simp)
   cases c<;>simp_all [D.cells,D.bC]
 cases x<;>first |rfl |exact one _ (by simpa [D.cells] using h)
theorem Kg (h:aB Q T F G w a s) {t:TypeId} {pa pv:P} {s':S} (hs:fX Q s t pa pv=some s') {va v:Value} (ha:aD F w G s.rg va pa) (hv:aD F w G s.rg v pv):
  ∃w' F' G',(Instr.storeAt t va v).run Q w= .ok () w'/\aB Q T F' G' w' a s'/\Ext (Own G s.rg) (Own G' s'.rg) F F' w w':=by
 unfold fX at hs
 split at hs
 ·cases hs
 ·rename_i k hk
  split at hs
  ·rename_i n aU off
   split at hs
   ·rename_i s1 val ep
    split at hs
    ·rename_i ty ps ho
     split at hs
     ·rename_i dF
      simp only[Bool.and_eq_true,Nat.ble_eq] at dF
      obtain⟨⟨hlen,hle⟩,gB⟩:=dF
      have hlen:val.cells.length=k:=by simpa using hlen
      simp at hs
      subst hs
      obtain⟨G1,a1,a2,a3,a4⟩:=Ir h ep hv
      obtain⟨e,he,dI,bR⟩:=S.bF ho
      have Ng:=ha.mono (fun _ h=>h) (fun _ _=>rfl) a3
      cases Ng with
      |ref _ _ _ _ hr h1=>
       obtain⟨b,hG,rfl⟩:=hr.at he dI (by rw[bR];rfl)
       have hO:=a1.rg n e he
       rw[bR] at hO
       obtain⟨b',cs,j8,hh,cJ,bY,r3⟩:=hO
       rw[hG] at j8
       simp at j8
       subst j8
       obtain⟨c1,c2,gm⟩:=wg a4 gB
       rw[hlen] at c1
       refine⟨_,F,G1,tR hk hh c1 (by omega) gm,?_⟩
       rw[S.e9 he]
       have uT:b<w.heap.size:=(Array.getElem?_eq_some_iff.1 hh).1
       have Tm: ¬F b:=a1.lr n e b he (by rw[bR];simp[bu,hG,aL])
       have gF:qo G1 s1.rg n ⟨e.aU,e.tag,.box ty (splice ps off val.cells)⟩ (G1 n):=fun e' cF=>by rw[he] at cF;cases cF;exact .inr ⟨rfl,fun _=>⟨by rw[bR];rfl,rfl⟩⟩
       have Gh:=gi gF
       rw[bU] at Gh
       have hF: ∀c,F c->(w.setRow b (cs.toList.take off++v.cells.toList++cs.toList.drop (off+k)).toArray).heap[c]?=w.heap[c]?:=fun c hc=>k7 w b _ c (fun e=>Tm (e▸hc))
       have qdc:off+val.cells.length<=ps.length:=by omega
       have hval:off+v.cells.toList.length<=cs.toList.length:=by rw[c1];simp;omega
       have e2:cs.toList.drop (off+k)=cs.toList.drop (off+v.cells.toList.length):=by rw[c1]
       obtain⟨d1,d2⟩:=a1.mn (e1:=⟨e.aU,e.tag,.box ty (splice ps off val.cells)⟩) (g1:=G1 n) (w':=w.setRow b (cs.toList.take off++v.cells.toList++cs.toList.drop (off+k)).toArray) gF
        (fun c hc b9=>k7 w b _ c (fun e'=>b9 ⟨e,he,by rw[e',bR];simp[bu,hG,aL]⟩)) (by simp) rfl rfl rfl
        (fun c hc=> .inr ⟨e,he,by rw[bR];exact hc⟩)
        (by
         rw[bU]
         refine⟨b,_,hG,setRow_heap w b cs _ ty _ hh,?_,?_,?_⟩
         ·simp only[splice,List.size_toArray]
          rw[e2,kc _ _ _ hval,kc _ _ _ qdc]
          simpa using cJ
         ·intro c hc
          simp only[List.mem_append] at hc
          rcases hc with(hc |hc)|hc
          ·exact bY c (List.mem_of_mem_take hc)
          ·exact gm c hc
          ·exact bY c (List.mem_of_mem_drop hc)
         ·intro i p hp
          simp only[splice] at hp
          rw[iu _ _ _ _ qdc] at hp
          rw[fm]
          simp only[]
          rw[e2,iu _ _ _ _ hval,c1]
          rw[hlen] at hp
          by_cases hi:off<=i/\i<off+k
          ·rw[if_pos hi] at hp⊢
           have bk:i-off<v.cells.toList.length:=by omega
           rw[List.getElem?_eq_getElem bk]
           exact(c2 _ _ p (List.getElem?_eq_getElem bk) hp).mono (fun _ h=>h) hF Gh
          ·rw[if_neg hi] at hp⊢
           have:=r3 i p hp
           rw[fm] at this
           exact this.mono (fun _ h=>h) hF Gh)
        (fun i hi hl=>a1.tag n e i he hi (by rw[bR];rfl))
       rw[bU] at d1 d2
       exact⟨d1,a2.trans d2⟩
     ·cases hs
    ·cases hs
   ·cases hs
  ·rename_i n aU i k0 off
   split at hs
   ·rename_i s1 x yN
    split at hs
    ·rename_i ty es ho
     split at hs
     ·rename_i y k2 hy qX
      split at hs
      ·rename_i dF
       simp only[Bool.and_eq_true,Nat.ble_eq] at dF
       obtain⟨⟨jh,WW⟩,hle⟩:=dF
       have jh:k0=k2:=by simpa using jh
       have WW:x.cells.length=k:=by simpa using WW
       subst jh
       simp only[Option.some.injEq] at hs
       subst hs
       obtain⟨F1,a1,a2,a3,a4,a5⟩:=vo h yN hv
       obtain⟨e,he,dI,bR⟩:=S.bF ho
       have Ng:=ha.mono a4 (fun _ _=>rfl) a3
       cases Ng with
       |dn _ _ _ _ _ _ h1 hr=>
        obtain⟨b,N,cap,hG,rfl⟩:=hr.at he dI (by rw[bR];rfl)
        have hO:=a1.rg n e he
        rw[bR] at hO
        rcases hO with⟨j8,_⟩| ⟨b',im,cs,k3,j8,hh,WT,fJ,zL,yq,cJ,_,hE⟩
        ·rw[hG] at j8;cases j8
        ·rw[qX] at WT
         cases WT
         rw[hG] at j8
         simp at j8
         obtain⟨rfl,rfl,rfl⟩:=j8
         obtain⟨c1,c2,c3⟩:=dP a5
         rw[WW] at c1
         have hi:i<es.length:=(List.getElem?_eq_some_iff.1 hy).1
         obtain⟨y1,y2,y3⟩:=hE i y hy
         have qhe:i*k0+k0<=cs.size:=by
          rw[cJ]
          calc i*k0+k0=(i+1)*k0:=by rw[Nat.add_mul,Nat.one_mul]
           _<=cap*k0:=Nat.mul_le_mul_right _ (by omega)
         have gm:=j9 a5
         refine⟨_,F1,G,tR hk hh c1 (by omega) gm,?_⟩
         rw[S.e9 he]
         have Tm: ¬F1 b:=a1.lr n e b he (by rw[bR];simp[bu,hG,aL])
         have gF:qo G s1.rg n ⟨e.aU,e.tag,.arr ty false (es.set i (y.aY (y.cells.take off++x.cells++y.cells.drop (off+k))))⟩ (G n):=fun e' cF=>by rw[he] at cF;cases cF;exact .inr ⟨rfl,fun _=>⟨by rw[bR];rfl,rfl⟩⟩
         have hF: ∀c,F1 c->(w.setRow b (cs.toList.take (i*k0+off)++v.cells.toList++cs.toList.drop (i*k0+off+k)).toArray).heap[c]?=w.heap[c]?:=fun c hc=>k7 w b _ c (fun e=>Tm (e▸hc))
         have hyl:off+x.cells.length<=y.cells.length:=by omega
         have hval:i*k0+off+v.cells.toList.length<=cs.toList.length:=by rw[c1];simp;omega
         have e2:cs.toList.drop (i*k0+off+k)=cs.toList.drop (i*k0+off+v.cells.toList.length):=by rw[c1]
         have e3:y.cells.drop (off+k)=y.cells.drop (off+x.cells.length):=by rw[WW]
         have oD:(y.cells.take off++x.cells++y.cells.drop (off+k)).length=y.cells.length:=by rw[e3,kc _ _ _ hyl]
         have hnc: ∀c∈y.cells.take off++x.cells++y.cells.drop (off+k),c.bC=true:=fun c hc=>by
          simp only[List.mem_append] at hc
          rcases hc with(hc |hc)|hc
          ·exact y2 c (List.mem_of_mem_take hc)
          ·exact c2 c hc
          ·exact y2 c (List.mem_of_mem_drop hc)
         have hwc:=D.uU (x:=y) oD hnc
         obtain⟨d1,d2⟩:=a1.mn (e1:=⟨e.aU,e.tag,.arr ty false (es.set i (y.aY (y.cells.take off++x.cells++y.cells.drop (off+k))))⟩) (g1:=G n)
          (w':=w.setRow b (cs.toList.take (i*k0+off)++v.cells.toList++cs.toList.drop (i*k0+off+k)).toArray) gF
          (fun c hc b9=>k7 w b _ c (fun e'=>b9 ⟨e,he,by rw[e',bR];simp[bu,hG,aL]⟩)) (by simp) rfl rfl rfl
          (fun c hc=> .inr ⟨e,he,by rw[bR];exact hc⟩)
          (by
           rw[bU]
           refine .inr ⟨b,cap,_,k0,by rw[hG,List.length_set],setRow_heap w b cs _ ty _ hh,qX,fJ,by rw[List.length_set];exact zL,yq,?_,(fun h=>by cases h),?_⟩
           ·simp only[List.size_toArray]
            rw[e2,kc _ _ _ hval]
            simpa using cJ
           ·intro m z hz
            have r4: ∀j,(cs.toList.take (i*k0+off)++v.cells.toList++cs.toList.drop (i*k0+off+k)).toArray.getD j undef=if i*k0+off<=j/\j<i*k0+off+k then(v.cells.toList[j-(i*k0+off)]?).getD undef else cs.getD j undef:=fun j=>by
             rw[fm]
             simp only[]
             rw[e2,iu _ _ _ _ hval,c1]
             split
             ·rfl
             ·rw[fm]
            by_cases hm:i=m
            ·subst hm
             rw[List.getElem?_set_self hi] at hz
             cases hz
             rw[hwc]
             refine⟨by rw[oD,y1],hnc,fun j c hc=> ?_⟩
             rw[e3,iu _ _ _ _ hyl,WW] at hc
             rw[r4]
             by_cases hj:off<=j/\j<off+k
             ·rw[if_pos hj] at hc
              rw[if_pos (by omega)]
              have Fv:j-off<v.cells.toList.length:=by omega
              have e4:i*k0+j-(i*k0+off)=j-off:=by omega
              rw[e4,List.getElem?_eq_getElem Fv]
              exact(c3 _ _ c (List.getElem?_eq_getElem Fv) hc).mono (fun _ h=>h) hF
             ·rw[if_neg hj] at hc
              rw[if_neg (by omega)]
              exact(y3 j c hc).mono (fun _ h=>h) hF
            ·rw[List.getElem?_set_ne hm] at hz
             obtain⟨z1,z2,z3⟩:=hE m z hz
             refine⟨z1,z2,fun j c hc=> ?_⟩
             rw[r4]
             have hj:j<k0:=by have:=(List.getElem?_eq_some_iff.1 hc).1;omega
             have dz: ¬(i*k0+off<=m*k0+j/\m*k0+j<i*k0+off+k):=by
              intro hh2
              rcases Nat.lt_or_gt_of_ne hm with bk |hgt
              ·have:(i+1)*k0<=m*k0:=Nat.mul_le_mul_right _ (by omega)
               rw[Nat.add_mul,Nat.one_mul] at this
               omega
              ·have:(m+1)*k0<=i*k0:=Nat.mul_le_mul_right _ (by omega)
               rw[Nat.add_mul,Nat.one_mul] at this
               omega
             rw[if_neg dz]
             exact(z3 j c hc).mono (fun _ h=>h) hF)
          (fun i hi hl=>a1.tag n e i he hi (by rw[bR];rfl))
         rw[bU] at d1 d2
         exact⟨d1,a2.trans d2⟩
      ·cases hs
     ·cases hs
    ·cases hs
   ·cases hs
  ·cases hs
end
end Pi
