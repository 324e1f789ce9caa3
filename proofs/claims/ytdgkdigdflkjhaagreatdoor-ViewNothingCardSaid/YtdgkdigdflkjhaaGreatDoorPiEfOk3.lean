/- The text PiEfOk3. -/
import Derived.Test.YtdgkdigdflkjhaaGreatDoorPiEfOk2
namespace Pi
open Go
section
variable{Q:Program}{T:Tg}{F:Nat->Prop}{G:Nat->Value}{w:World}{a:Act}{s:S}
theorem w6{t k}(hk:sz Q t=some k){b o cs ty}(hh:w.heap[b]?=some (.cells cs ty (0,0))){v}(hl:v.cells.toList.length=k)(hle:o+k<=cs.size)(h1: ∀u∈v.cells.toList,u.oneCell'=true):
  (Instr.storeAt t (.pointer (some ⟨b,o,none⟩)) v).run Q w= .ok () (w.setRow b (cs.toList.take o++v.cells.toList++cs.toList.drop (o+k)).toArray):=by
 have kH:=run_storeCells_at Q b o ty v.cells.toList 0 cs w hh (by omega) h1;simp only[zb1,hl] at kH;have dS:v.cells.size=k:=by simpa using hl
 simp[Instr.storeAt,Instr.sureAddr,storeVar,Sem.run_bind,run_sizeOf hk,dS,kH]
theorem fW(cs:Array Value) i:cs.getD i undef=(cs.toList[i]?).getD undef:=by simp[zaF]
theorem mS(w:World) b cs c (h:c≠b):(w.setRow b cs).heap[c]?=w.heap[c]?:=setRow_other w b c cs h
theorem D.yb{x:D}{cs}(h:cs.length=x.cells.length)(hc: ∀c∈cs,c.bL=true):(x.aT cs).cells=cs:=by
 have one: ∀(y:D),cs.length=1->(cs.headD y).cells=cs:=λy h1=>by
  cases cs with
  |nil=>simp at h1
  |cons c r=>have:r=[]:=zaB (by simpa using h1);subst this;have:=hc c (by simp);cases c<;>simp_all [D.cells,D.bL]
 cases x<;>first |rfl |exact one _ (by simpa [D.cells] using h)
theorem Qt(h:aC Q T F G w a s){t pa pv s'}(hs:gU Q s t pa pv=some s'){va v}(ha:aH F w G s.rg va pa)(hv:aH F w G s.rg v pv):
  ∃w' F' G',(Instr.storeAt t va v).run Q w= .ok () w'/\aC Q T F' G' w' a s'/\Ext (Own G s.rg) (Own G' s'.rg) F F' w w':=by
 unfold gU at hs;split at hs
 ·cases hs
 rename_i k hk;split at hs
 next n aV off=>
  split at hs
  next s1 val fB=>
   split at hs
   ·rename_i ty ps ho;split at hs
    ·rename_i fy;simp only[zac,zcf] at fy;obtain⟨⟨hlen,hle⟩,ix⟩:=fy;have hlen:val.cells.length=k:=by simpa using hlen
     simp at hs;subst hs;obtain⟨G1,a1,a2,a3,a4⟩:=NS h fB hv;obtain⟨e,he,eb,b8⟩:=S.bM ho;have TO:=ha.mono (λ_ h=>h) (λ_ _=>rfl) a3;cases TO with
     |ref _ _ _ _ hr h1=>
      obtain⟨b,hG,rfl⟩:=hr.at he eb (by rw[b8];rfl);have hO:=a1.rg n e he;rw[b8] at hO;obtain⟨b',cs,rr,hh,dS,cm,sq⟩:=hO;rw[hG] at rr;simp at rr;subst rr;obtain⟨c1,c2,jk⟩:=zI a4 ix;rw[hlen] at c1;refine⟨_,F,G1,w6 hk hh c1 (by omega) jk,?_⟩;rw[S.fA he];have ya:b<w.heap.size:=(zax.1 hh).1;have hnF: ¬F b:=a1.nA n e b he (by rw[b8];simp[bB,hG,aO]);have fV:qF G1 s1.rg n ⟨e.aV,e.tag,.box ty (splice ps off val.cells)⟩ (G1 n):=λe' cR=>by rw[he] at cR;cases cR;exact .inr ⟨rfl,λ_=>⟨by rw[b8];rfl,rfl⟩⟩
      have LG:=ib fV;rw[bV] at LG;have hF: ∀c,F c->(w.setRow b (cs.toList.take off++v.cells.toList++cs.toList.drop (off+k)).toArray).heap[c]?=w.heap[c]?:=λc hc=>mS w b _ c (λe=>hnF (e▸hc));have qiv:off+val.cells.length<=ps.length:=by omega
      have hval:off+v.cells.toList.length<=cs.toList.length:=by rw[c1];simp;omega
      have e2:cs.toList.drop (off+k)=cs.toList.drop (off+v.cells.toList.length):=by rw[c1]
      obtain⟨d1,d2⟩:=a1.od (e1:=⟨e.aV,e.tag,.box ty (splice ps off val.cells)⟩) (g1:=G1 n) (w':=w.setRow b (cs.toList.take off++v.cells.toList++cs.toList.drop (off+k)).toArray) fV
       (λc hc bI=>mS w b _ c (λe'=>bI ⟨e,he,by rw[e',b8];simp[bB,hG,aO]⟩)) (by simp) rfl rfl rfl
       (λc hc=> .inr ⟨e,he,by rw[b8];exact hc⟩)
       (by
        rw[bV];refine⟨b,_,hG,setRow_heap w b cs _ ty _ hh,?_,?_,?_⟩
        ·simp only[splice,zcH];rw[e2,lL _ _ _ hval,lL _ _ _ qiv];simpa using dS
        ·intro c hc;simp only[zaz] at hc;rcases hc with(hc |hc)|hc
         ·exact cm c (zbm hc)
         ·exact jk c hc
         exact cm c (zb8 hc)
        intro i p hp;simp only[splice] at hp;rw[jn _ _ _ _ qiv] at hp;rw[fW];simp only[];rw[e2,jn _ _ _ _ hval,c1];rw[hlen] at hp;by_cases hi:off<=i/\i<off+k
        ·rw[zap hi] at hp⊢;have bK:i-off<v.cells.toList.length:=by omega
         rw[zad bK];exact(c2 _ _ p (zad bK) hp).mono (λ_ h=>h) hF LG
        rw[zan hi] at hp⊢;have:=sq i p hp;rw[fW] at this;exact this.mono (λ_ h=>h) hF LG)
       (λi hi hl=>a1.tag n e i he hi (by rw[b8];rfl))
      rw[bV] at d1 d2;exact⟨d1,a2.trans d2⟩
    cases hs
   cases hs
  cases hs
 next n aV i k0 off=>
  split at hs
  next s1 x H8=>
   split at hs
   ·rename_i ty es ho;split at hs
    ·rename_i y k2 hy qj;split at hs
     ·rename_i fy;simp only[zac,zcf] at fy;obtain⟨⟨kj,hxl⟩,hle⟩:=fy;have kj:k0=k2:=by simpa using kj
      have hxl:x.cells.length=k:=by simpa using hxl
      subst kj;simp only[zam] at hs;subst hs;obtain⟨F1,a1,a2,a3,a4,a5⟩:=yF h H8 hv;obtain⟨e,he,eb,b8⟩:=S.bM ho;have TO:=ha.mono a4 (λ_ _=>rfl) a3;cases TO with
      |dJ _ _ _ _ _ _ h1 hr=>
       obtain⟨b,N,cap,hG,rfl⟩:=hr.at he eb (by rw[b8];rfl);have hO:=a1.rg n e he;rw[b8] at hO;rcases hO with⟨rr,_⟩| ⟨b',jl,cs,k3,rr,hh,hk3,fO,KR,BR,dS,_,hE⟩
       ·rw[hG] at rr;cases rr
       rw[qj] at hk3;cases hk3;rw[hG] at rr;simp at rr;obtain⟨rfl,rfl,rfl⟩:=rr;obtain⟨c1,c2,c3⟩:=eB a5;rw[hxl] at c1;have hi:i<es.length:=(zae.1 hy).1;obtain⟨y1,y2,y3⟩:=hE i y hy;have qoS:i*k0+k0<=cs.size:=by
        rw[dS]
        calc i*k0+k0=(i+1)*k0:=by rw[za2,zbB]
         _<=cap*k0:=zar _ (by omega)
       have jk:=lK a5;refine⟨_,F1,G,w6 hk hh c1 (by omega) jk,?_⟩;rw[S.fA he];have hnF: ¬F1 b:=a1.nA n e b he (by rw[b8];simp[bB,hG,aO]);have fV:qF G s1.rg n ⟨e.aV,e.tag,.arr ty false (es.set i (y.aT (y.cells.take off++x.cells++y.cells.drop (off+k))))⟩ (G n):=λe' cR=>by rw[he] at cR;cases cR;exact .inr ⟨rfl,λ_=>⟨by rw[b8];rfl,rfl⟩⟩
       have hF: ∀c,F1 c->(w.setRow b (cs.toList.take (i*k0+off)++v.cells.toList++cs.toList.drop (i*k0+off+k)).toArray).heap[c]?=w.heap[c]?:=λc hc=>mS w b _ c (λe=>hnF (e▸hc));have hyl:off+x.cells.length<=y.cells.length:=by omega
       have hval:i*k0+off+v.cells.toList.length<=cs.toList.length:=by rw[c1];simp;omega
       have e2:cs.toList.drop (i*k0+off+k)=cs.toList.drop (i*k0+off+v.cells.toList.length):=by rw[c1]
       have e3:y.cells.drop (off+k)=y.cells.drop (off+x.cells.length):=by rw[hxl]
       have vL:(y.cells.take off++x.cells++y.cells.drop (off+k)).length=y.cells.length:=by rw[e3,lL _ _ _ hyl]
       have hnc: ∀c∈y.cells.take off++x.cells++y.cells.drop (off+k),c.bL=true:=λc hc=>by
        simp only[zaz] at hc;rcases hc with(hc |hc)|hc
        ·exact y2 c (zbm hc)
        ·exact c2 c hc
        exact y2 c (zb8 hc)
       have hwc:=D.yb (x:=y) vL hnc;obtain⟨d1,d2⟩:=a1.od (e1:=⟨e.aV,e.tag,.arr ty false (es.set i (y.aT (y.cells.take off++x.cells++y.cells.drop (off+k))))⟩) (g1:=G n)
        (w':=w.setRow b (cs.toList.take (i*k0+off)++v.cells.toList++cs.toList.drop (i*k0+off+k)).toArray) fV
        (λc hc bI=>mS w b _ c (λe'=>bI ⟨e,he,by rw[e',b8];simp[bB,hG,aO]⟩)) (by simp) rfl rfl rfl
        (λc hc=> .inr ⟨e,he,by rw[b8];exact hc⟩)
        (by
         rw[bV];refine .inr ⟨b,cap,_,k0,by rw[hG,zbp],setRow_heap w b cs _ ty _ hh,qj,fO,by rw[zbp];exact KR,BR,?_,(λh=>by cases h),?_⟩
         ·simp only[zcH];rw[e2,lL _ _ _ hval];simpa using dS
         intro m z hz;have qE: ∀j,(cs.toList.take (i*k0+off)++v.cells.toList++cs.toList.drop (i*k0+off+k)).toArray.getD j undef=if i*k0+off<=j/\j<i*k0+off+k then(v.cells.toList[j-(i*k0+off)]?).getD undef else cs.getD j undef:=λj=>by
          rw[fW];simp only[];rw[e2,jn _ _ _ _ hval,c1];split
          ·rfl
          rw[fW]
         by_cases hm:i=m
         ·subst hm;rw[zcl hi] at hz;cases hz;rw[hwc];refine⟨by rw[vL,y1],hnc,λj c hc=> ?_⟩;rw[e3,jn _ _ _ _ hyl,hxl] at hc;rw[qE];by_cases hj:off<=j/\j<off+k
          ·rw[zap hj] at hc;rw[zap (by omega)];have E9:j-off<v.cells.toList.length:=by omega
           have e4:i*k0+j-(i*k0+off)=j-off:=by omega
           rw[e4,zad E9];exact(c3 _ _ c (zad E9) hc).mono (λ_ h=>h) hF
          rw[zan hj] at hc;rw[zan (by omega)];exact(y3 j c hc).mono (λ_ h=>h) hF
         rw[zbc hm] at hz;obtain⟨z1,z2,z3⟩:=hE m z hz;refine⟨z1,z2,λj c hc=> ?_⟩;rw[qE];have hj:j<k0:=by have:=(zae.1 hc).1;omega
         have cO: ¬(i*k0+off<=m*k0+j/\m*k0+j<i*k0+off+k):=by
          intro hh2;rcases zcw hm with bK |hgt
          ·have:(i+1)*k0<=m*k0:=zar _ (by omega);rw[za2,zbB] at this;omega
          have:(m+1)*k0<=i*k0:=zar _ (by omega);rw[za2,zbB] at this;omega
         rw[zan cO];exact(z3 j c hc).mono (λ_ h=>h) hF)
        (λi hi hl=>a1.tag n e i he hi (by rw[b8];rfl))
       rw[bV] at d1 d2;exact⟨d1,a2.trans d2⟩
     cases hs
    cases hs
   cases hs
  cases hs
 cases hs
end
end Pi
