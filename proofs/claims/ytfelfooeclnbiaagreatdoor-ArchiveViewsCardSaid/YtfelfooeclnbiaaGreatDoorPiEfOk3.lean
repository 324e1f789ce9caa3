/- The text PiEfOk3. -/
import Derived.Test.YtfelfooeclnbiaaGreatDoorPiEfOk2
namespace Pi
open Go
section
variable{Q:Program}{T:Tg}{F:Nat->Prop}{G:Nat->Value}{w:World}{a:Act}{s:S}
theorem vi{t:TypeId}{k:Nat}(hk:sz Q t=some k){b o:Nat}{cs:Array Value}{ty:TypeId}(hh:w.heap[b]?=some (.cells cs ty (0,0))){v:Value}(hl:v.cells.toList.length=k)(hle:o+k<=cs.size)(h1: ∀u∈v.cells.toList,u.oneCell'=true):
  (Instr.storeAt t (.pointer (some ⟨b,o,none⟩)) v).run Q w= .ok () (w.setRow b (cs.toList.take o++v.cells.toList++cs.toList.drop (o+k)).toArray):=by
 have jy:=run_storeCells_at Q b o ty v.cells.toList 0 cs w hh (by omega) h1;simp only[zbV,hl] at jy;have cM:v.cells.size=k:=by simpa using hl
 simp[Instr.storeAt,Instr.sureAddr,storeVar,Sem.run_bind,run_sizeOf hk,cM,jy]
theorem fJ(cs:Array Value)(i:Nat):cs.getD i undef=(cs.toList[i]?).getD undef:=by simp[zaA]
theorem lH(w:World)(b:Nat)(cs:Array Value)(c:Nat)(h:c≠b):(w.setRow b cs).heap[c]?=w.heap[c]?:=setRow_other w b c cs h
theorem D.wj{x:D}{cs:List D}(h:cs.length=x.cells.length)(hc: ∀c∈cs,c.bt=true):(x.bc cs).cells=cs:=by
 have one: ∀(y:D),cs.length=1->(cs.headD y).cells=cs:=λy h1=>by
  cases cs with
  |nil=>simp at h1
  |cons c r=>have:r=[]:=zax (by simpa using h1);subst this;have:=hc c (by simp);cases c<;>simp_all [D.cells,D.bt]
 cases x<;>first |rfl |exact one _ (by simpa [D.cells] using h)
theorem Mg(h:aB Q T F G w a s){t:TypeId}{pa pv:P}{s':S}(hs:gw Q s t pa pv=some s'){va v:Value}(ha:aF F w G s.rg va pa)(hv:aF F w G s.rg v pv):
  ∃w' F' G',(Instr.storeAt t va v).run Q w= .ok () w'/\aB Q T F' G' w' a s'/\Ext (Own G s.rg) (Own G' s'.rg) F F' w w':=by
 unfold gw at hs;split at hs
 ·cases hs
 rename_i k hk;split at hs
 next n aR off=>
  split at hs
  next s1 val fV=>
   split at hs
   ·rename_i ty ps ho;split at hs
    ·rename_i dZ;simp only[zad,zb7] at dZ;obtain⟨⟨hlen,hle⟩,gy⟩:=dZ;have hlen:val.cells.length=k:=by simpa using hlen
     simp at hs;subst hs;obtain⟨G1,a1,a2,a3,a4⟩:=Ko h fV hv;obtain⟨e,he,dw,bH⟩:=S.bw ho;have Pn:=ha.mono (λ_ h=>h) (λ_ _=>rfl) a3;cases Pn with
     |ref _ _ _ _ hr h1=>
      obtain⟨b,hG,rfl⟩:=hr.at he dw (by rw[bH];rfl);have hO:=a1.rg n e he;rw[bH] at hO;obtain⟨b',cs,jR,hh,cM,bU,mB⟩:=hO;rw[hG] at jR;simp at jR;subst jR;obtain⟨c1,c2,gb⟩:=xi a4 gy;rw[hlen] at c1;refine⟨_,F,G1,vi hk hh c1 (by omega) gb,?_⟩;rw[S.fg he];have sB:b<w.heap.size:=(zau.1 hh).1;have PC: ¬F b:=a1.mg n e b he (by rw[bH];simp[bm,hG,aI]);have eS:oo G1 s1.rg n ⟨e.aR,e.tag,.box ty (splice ps off val.cells)⟩ (G1 n):=λe' cx=>by rw[he] at cx;cases cx;exact .inr ⟨rfl,λ_=>⟨by rw[bH];rfl,rfl⟩⟩
      have ui:=fI eS;rw[bx] at ui;have hF: ∀c,F c->(w.setRow b (cs.toList.take off++v.cells.toList++cs.toList.drop (off+k)).toArray).heap[c]?=w.heap[c]?:=λc hc=>lH w b _ c (λe=>PC (e▸hc));have qfj:off+val.cells.length<=ps.length:=by omega
      have hval:off+v.cells.toList.length<=cs.toList.length:=by rw[c1];simp;omega
      have e2:cs.toList.drop (off+k)=cs.toList.drop (off+v.cells.toList.length):=by rw[c1]
      obtain⟨d1,d2⟩:=a1.mh (e1:=⟨e.aR,e.tag,.box ty (splice ps off val.cells)⟩) (g1:=G1 n) (w':=w.setRow b (cs.toList.take off++v.cells.toList++cs.toList.drop (off+k)).toArray) eS
       (λc hc bk=>lH w b _ c (λe'=>bk ⟨e,he,by rw[e',bH];simp[bm,hG,aI]⟩)) (by simp) rfl rfl rfl
       (λc hc=> .inr ⟨e,he,by rw[bH];exact hc⟩)
       (by
        rw[bx];refine⟨b,_,hG,setRow_heap w b cs _ ty _ hh,?_,?_,?_⟩
        ·simp only[splice,zcu];rw[e2,kM _ _ _ hval,kM _ _ _ qfj];simpa using cM
        ·intro c hc;simp only[zaB] at hc;rcases hc with(hc |hc)|hc
         ·exact bU c (za3 hc)
         ·exact gb c hc
         exact bU c (zb3 hc)
        intro i p hp;simp only[splice] at hp;rw[iG _ _ _ _ qfj] at hp;rw[fJ];simp only[];rw[e2,iG _ _ _ _ hval,c1];rw[hlen] at hp;by_cases hi:off<=i/\i<off+k
        ·rw[zaq hi] at hp⊢;have bz:i-off<v.cells.toList.length:=by omega
         rw[zac bz];exact(c2 _ _ p (zac bz) hp).mono (λ_ h=>h) hF ui
        rw[zap hi] at hp⊢;have:=mB i p hp;rw[fJ] at this;exact this.mono (λ_ h=>h) hF ui)
       (λi hi hl=>a1.tag n e i he hi (by rw[bH];rfl))
      rw[bx] at d1 d2;exact⟨d1,a2.trans d2⟩
    cases hs
   cases hs
  cases hs
 next n aR i k0 off=>
  split at hs
  next s1 x DP=>
   split at hs
   ·rename_i ty es ho;split at hs
    ·rename_i y k2 hy u7;split at hs
     ·rename_i dZ;simp only[zad,zb7] at dZ;obtain⟨⟨jG,hxl⟩,hle⟩:=dZ;have jG:k0=k2:=by simpa using jG
      have hxl:x.cells.length=k:=by simpa using hxl
      subst jG;simp only[zak] at hs;subst hs;obtain⟨F1,a1,a2,a3,a4,a5⟩:=wF h DP hv;obtain⟨e,he,dw,bH⟩:=S.bw ho;have Pn:=ha.mono a4 (λ_ _=>rfl) a3;cases Pn with
      |dj _ _ _ _ _ _ h1 hr=>
       obtain⟨b,N,cap,hG,rfl⟩:=hr.at he dw (by rw[bH];rfl);have hO:=a1.rg n e he;rw[bH] at hO;rcases hO with⟨jR,_⟩| ⟨b',ig,cs,k3,jR,hh,hk3,kq,Hk,tL,cM,_,hE⟩
       ·rw[hG] at jR;cases jR
       rw[u7] at hk3;cases hk3;rw[hG] at jR;simp at jR;obtain⟨rfl,rfl,rfl⟩:=jR;obtain⟨c1,c2,c3⟩:=dL a5;rw[hxl] at c1;have hi:i<es.length:=(zae.1 hy).1;obtain⟨y1,y2,y3⟩:=hE i y hy;have qiR:i*k0+k0<=cs.size:=by
        rw[cM]
        calc i*k0+k0=(i+1)*k0:=by rw[zaR,zbz]
         _<=cap*k0:=zao _ (by omega)
       have gb:=kL a5;refine⟨_,F1,G,vi hk hh c1 (by omega) gb,?_⟩;rw[S.fg he];have PC: ¬F1 b:=a1.mg n e b he (by rw[bH];simp[bm,hG,aI]);have eS:oo G s1.rg n ⟨e.aR,e.tag,.arr ty false (es.set i (y.bc (y.cells.take off++x.cells++y.cells.drop (off+k))))⟩ (G n):=λe' cx=>by rw[he] at cx;cases cx;exact .inr ⟨rfl,λ_=>⟨by rw[bH];rfl,rfl⟩⟩
       have hF: ∀c,F1 c->(w.setRow b (cs.toList.take (i*k0+off)++v.cells.toList++cs.toList.drop (i*k0+off+k)).toArray).heap[c]?=w.heap[c]?:=λc hc=>lH w b _ c (λe=>PC (e▸hc));have hyl:off+x.cells.length<=y.cells.length:=by omega
       have hval:i*k0+off+v.cells.toList.length<=cs.toList.length:=by rw[c1];simp;omega
       have e2:cs.toList.drop (i*k0+off+k)=cs.toList.drop (i*k0+off+v.cells.toList.length):=by rw[c1]
       have e3:y.cells.drop (off+k)=y.cells.drop (off+x.cells.length):=by rw[hxl]
       have zL:(y.cells.take off++x.cells++y.cells.drop (off+k)).length=y.cells.length:=by rw[e3,kM _ _ _ hyl]
       have hnc: ∀c∈y.cells.take off++x.cells++y.cells.drop (off+k),c.bt=true:=λc hc=>by
        simp only[zaB] at hc;rcases hc with(hc |hc)|hc
        ·exact y2 c (za3 hc)
        ·exact c2 c hc
        exact y2 c (zb3 hc)
       have hwc:=D.wj (x:=y) zL hnc;obtain⟨d1,d2⟩:=a1.mh (e1:=⟨e.aR,e.tag,.arr ty false (es.set i (y.bc (y.cells.take off++x.cells++y.cells.drop (off+k))))⟩) (g1:=G n)
        (w':=w.setRow b (cs.toList.take (i*k0+off)++v.cells.toList++cs.toList.drop (i*k0+off+k)).toArray) eS
        (λc hc bk=>lH w b _ c (λe'=>bk ⟨e,he,by rw[e',bH];simp[bm,hG,aI]⟩)) (by simp) rfl rfl rfl
        (λc hc=> .inr ⟨e,he,by rw[bH];exact hc⟩)
        (by
         rw[bx];refine .inr ⟨b,cap,_,k0,by rw[hG,zbi],setRow_heap w b cs _ ty _ hh,u7,kq,by rw[zbi];exact Hk,tL,?_,(λh=>by cases h),?_⟩
         ·simp only[zcu];rw[e2,kM _ _ _ hval];simpa using cM
         intro m z hz;have pk: ∀j,(cs.toList.take (i*k0+off)++v.cells.toList++cs.toList.drop (i*k0+off+k)).toArray.getD j undef=if i*k0+off<=j/\j<i*k0+off+k then(v.cells.toList[j-(i*k0+off)]?).getD undef else cs.getD j undef:=λj=>by
          rw[fJ];simp only[];rw[e2,iG _ _ _ _ hval,c1];split
          ·rfl
          rw[fJ]
         by_cases hm:i=m
         ·subst hm;rw[zch hi] at hz;cases hz;rw[hwc];refine⟨by rw[zL,y1],hnc,λj c hc=> ?_⟩;rw[e3,iG _ _ _ _ hyl,hxl] at hc;rw[pk];by_cases hj:off<=j/\j<off+k
          ·rw[zaq hj] at hc;rw[zaq (by omega)];have Ez:j-off<v.cells.toList.length:=by omega
           have e4:i*k0+j-(i*k0+off)=j-off:=by omega
           rw[e4,zac Ez];exact(c3 _ _ c (zac Ez) hc).mono (λ_ h=>h) hF
          rw[zap hj] at hc;rw[zap (by omega)];exact(y3 j c hc).mono (λ_ h=>h) hF
         rw[zaY hm] at hz;obtain⟨z1,z2,z3⟩:=hE m z hz;refine⟨z1,z2,λj c hc=> ?_⟩;rw[pk];have hj:j<k0:=by have:=(zae.1 hc).1;omega
         have cU: ¬(i*k0+off<=m*k0+j/\m*k0+j<i*k0+off+k):=by
          intro hh2;rcases zcq hm with bz |hgt
          ·have:(i+1)*k0<=m*k0:=zao _ (by omega);rw[zaR,zbz] at this;omega
          have:(m+1)*k0<=i*k0:=zao _ (by omega);rw[zaR,zbz] at this;omega
         rw[zap cU];exact(z3 j c hc).mono (λ_ h=>h) hF)
        (λi hi hl=>a1.tag n e i he hi (by rw[bH];rfl))
       rw[bx] at d1 d2;exact⟨d1,a2.trans d2⟩
     cases hs
    cases hs
   cases hs
  cases hs
 cases hs
end
end Pi
