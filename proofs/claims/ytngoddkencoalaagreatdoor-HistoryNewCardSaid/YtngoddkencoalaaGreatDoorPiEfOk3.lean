/- The text PiEfOk3. -/
import Derived.Test.YtngoddkencoalaaGreatDoorPiEfOk2
namespace Pi
open Go
section
variable{Q:Program}{T:Tg}{F:Nat->Prop}{G:Nat->Value}{w:World}{a:Act}{s:S}
theorem uL{t:TypeId}{k:Nat}(hk:sz Q t=some k){b o:Nat}{cs:Array Value}{ty:TypeId}(hh:w.heap[b]?=some (.cells cs ty (0,0))){v:Value}(hl:v.cells.toList.length=k)(hle:o+k<=cs.size)(h1: ∀u∈v.cells.toList,u.oneCell'=true):
  (Instr.storeAt t (.pointer (some ⟨b,o,none⟩)) v).run Q w= .ok () (w.setRow b (cs.toList.take o++v.cells.toList++cs.toList.drop (o+k)).toArray):=by
 have kO:=run_storeCells_at Q b o ty v.cells.toList 0 cs w hh (by omega) h1;simp only[zbQ,hl] at kO;have dt:v.cells.size=k:=by simpa using hl
 simp[Instr.storeAt,Instr.sureAddr,storeVar,Sem.run_bind,run_sizeOf hk,dt,kO]
theorem fD(cs:Array Value)(i:Nat):cs.getD i undef=(cs.toList[i]?).getD undef:=by simp[zaD]
theorem lQ(w:World)(b:Nat)(cs:Array Value)(c:Nat)(h:c≠b):(w.setRow b cs).heap[c]?=w.heap[c]?:=setRow_other w b c cs h
theorem D.vN{x:D}{cs:List D}(h:cs.length=x.cells.length)(hc: ∀c∈cs,c.bF=true):(x.aW cs).cells=cs:=by
 have one: ∀(y:D),cs.length=1->(cs.headD y).cells=cs:=λy h1=>by
  cases cs with
  |nil=>simp at h1
  |cons c r=>have:r=[]:=zax (by simpa using h1);subst this;have:=hc c (by simp);cases c<;>simp_all [D.cells,D.bF]
 cases x<;>first |rfl |exact one _ (by simpa [D.cells] using h)
theorem Md(h:aD Q T F G w a s){t:TypeId}{pa pv:P}{s':S}(hs:gx Q s t pa pv=some s'){va v:Value}(ha:aF F w G s.rg va pa)(hv:aF F w G s.rg v pv):
  ∃w' F' G',(Instr.storeAt t va v).run Q w= .ok () w'/\aD Q T F' G' w' a s'/\Ext (Own G s.rg) (Own G' s'.rg) F F' w w':=by
 unfold gx at hs;split at hs
 ·cases hs
 rename_i k hk;split at hs
 next n aY off=>
  split at hs
  next s1 val fT=>
   split at hs
   ·rename_i ty ps ho;split at hs
    ·rename_i fh;simp only[zab,zb0] at fh;obtain⟨⟨hlen,hle⟩,iq⟩:=fh;have hlen:val.cells.length=k:=by simpa using hlen
     simp at hs;subst hs;obtain⟨G1,a1,a2,a3,a4⟩:=Kl h fT hv;obtain⟨e,he,dR,bV⟩:=S.bJ ho;have Pd:=ha.mono (λ_ h=>h) (λ_ _=>rfl) a3;cases Pd with
     |ref _ _ _ _ hr h1=>
      obtain⟨b,hG,rfl⟩:=hr.at he dR (by rw[bV];rfl);have hO:=a1.rg n e he;rw[bV] at hO;obtain⟨b',cs,oC,hh,dt,cc,qQ⟩:=hO;rw[hG] at oC;simp at oC;subst oC;obtain⟨c1,c2,im⟩:=xh a4 iq;rw[hlen] at c1;refine⟨_,F,G1,uL hk hh c1 (by omega) im,?_⟩;rw[S.fj he];have vM:b<w.heap.size:=(zar.1 hh).1;have Wb: ¬F b:=a1.my n e b he (by rw[bV];simp[bH,hG,aR]);have fY:qT G1 s1.rg n ⟨e.aY,e.tag,.box ty (splice ps off val.cells)⟩ (G1 n):=λe' cK=>by rw[he] at cK;cases cK;exact .inr ⟨rfl,λ_=>⟨by rw[bV];rfl,rfl⟩⟩
      have HY:=gG fY;rw[bW] at HY;have hF: ∀c,F c->(w.setRow b (cs.toList.take off++v.cells.toList++cs.toList.drop (off+k)).toArray).heap[c]?=w.heap[c]?:=λc hc=>lQ w b _ c (λe=>Wb (e▸hc));have qe5:off+val.cells.length<=ps.length:=by omega
      have hval:off+v.cells.toList.length<=cs.toList.length:=by rw[c1];simp;omega
      have e2:cs.toList.drop (off+k)=cs.toList.drop (off+v.cells.toList.length):=by rw[c1]
      obtain⟨d1,d2⟩:=a1.ni (e1:=⟨e.aY,e.tag,.box ty (splice ps off val.cells)⟩) (g1:=G1 n) (w':=w.setRow b (cs.toList.take off++v.cells.toList++cs.toList.drop (off+k)).toArray) fY
       (λc hc b7=>lQ w b _ c (λe'=>b7 ⟨e,he,by rw[e',bV];simp[bH,hG,aR]⟩)) (by simp) rfl rfl rfl
       (λc hc=> .inr ⟨e,he,by rw[bV];exact hc⟩)
       (by
        rw[bW];refine⟨b,_,hG,setRow_heap w b cs _ ty _ hh,?_,?_,?_⟩
        ·simp only[splice,zcq];rw[e2,kQ _ _ _ hval,kQ _ _ _ qe5];simpa using dt
        ·intro c hc;simp only[zaE] at hc;rcases hc with(hc |hc)|hc
         ·exact cc c (zbq hc)
         ·exact im c hc
         exact cc c (zbV hc)
        intro i p hp;simp only[splice] at hp;rw[iM _ _ _ _ qe5] at hp;rw[fD];simp only[];rw[e2,iM _ _ _ _ hval,c1];rw[hlen] at hp;by_cases hi:off<=i/\i<off+k
        ·rw[zao hi] at hp⊢;have bI:i-off<v.cells.toList.length:=by omega
         rw[zae bI];exact(c2 _ _ p (zae bI) hp).mono (λ_ h=>h) hF HY
        rw[zam hi] at hp⊢;have:=qQ i p hp;rw[fD] at this;exact this.mono (λ_ h=>h) hF HY)
       (λi hi hl=>a1.tag n e i he hi (by rw[bV];rfl))
      rw[bW] at d1 d2;exact⟨d1,a2.trans d2⟩
    cases hs
   cases hs
  cases hs
 next n aY i k0 off=>
  split at hs
  next s1 x EJ=>
   split at hs
   ·rename_i ty es ho;split at hs
    ·rename_i y k2 hy r6;split at hs
     ·rename_i fh;simp only[zab,zb0] at fh;obtain⟨⟨jJ,hxl⟩,hle⟩:=fh;have jJ:k0=k2:=by simpa using jJ
      have hxl:x.cells.length=k:=by simpa using hxl
      subst jJ;simp only[zal] at hs;subst hs;obtain⟨F1,a1,a2,a3,a4,a5⟩:=wv h EJ hv;obtain⟨e,he,dR,bV⟩:=S.bJ ho;have Pd:=ha.mono a4 (λ_ _=>rfl) a3;cases Pd with
      |dz _ _ _ _ _ _ h1 hr=>
       obtain⟨b,N,cap,hG,rfl⟩:=hr.at he dR (by rw[bV];rfl);have hO:=a1.rg n e he;rw[bV] at hO;rcases hO with⟨oC,_⟩| ⟨b',iK,cs,k3,oC,hh,hk3,gn,G6,zn,dt,_,hE⟩
       ·rw[hG] at oC;cases oC
       rw[r6] at hk3;cases hk3;rw[hG] at oC;simp at oC;obtain⟨rfl,rfl,rfl⟩:=oC;obtain⟨c1,c2,c3⟩:=dY a5;rw[hxl] at c1;have hi:i<es.length:=(zad.1 hy).1;obtain⟨y1,y2,y3⟩:=hE i y hy;have qje:i*k0+k0<=cs.size:=by
        rw[dt]
        calc i*k0+k0=(i+1)*k0:=by rw[zaV,zbt]
         _<=cap*k0:=zaq _ (by omega)
       have im:=kP a5;refine⟨_,F1,G,uL hk hh c1 (by omega) im,?_⟩;rw[S.fj he];have Wb: ¬F1 b:=a1.my n e b he (by rw[bV];simp[bH,hG,aR]);have fY:qT G s1.rg n ⟨e.aY,e.tag,.arr ty false (es.set i (y.aW (y.cells.take off++x.cells++y.cells.drop (off+k))))⟩ (G n):=λe' cK=>by rw[he] at cK;cases cK;exact .inr ⟨rfl,λ_=>⟨by rw[bV];rfl,rfl⟩⟩
       have hF: ∀c,F1 c->(w.setRow b (cs.toList.take (i*k0+off)++v.cells.toList++cs.toList.drop (i*k0+off+k)).toArray).heap[c]?=w.heap[c]?:=λc hc=>lQ w b _ c (λe=>Wb (e▸hc));have hyl:off+x.cells.length<=y.cells.length:=by omega
       have hval:i*k0+off+v.cells.toList.length<=cs.toList.length:=by rw[c1];simp;omega
       have e2:cs.toList.drop (i*k0+off+k)=cs.toList.drop (i*k0+off+v.cells.toList.length):=by rw[c1]
       have e3:y.cells.drop (off+k)=y.cells.drop (off+x.cells.length):=by rw[hxl]
       have r7:(y.cells.take off++x.cells++y.cells.drop (off+k)).length=y.cells.length:=by rw[e3,kQ _ _ _ hyl]
       have hnc: ∀c∈y.cells.take off++x.cells++y.cells.drop (off+k),c.bF=true:=λc hc=>by
        simp only[zaE] at hc;rcases hc with(hc |hc)|hc
        ·exact y2 c (zbq hc)
        ·exact c2 c hc
        exact y2 c (zbV hc)
       have hwc:=D.vN (x:=y) r7 hnc;obtain⟨d1,d2⟩:=a1.ni (e1:=⟨e.aY,e.tag,.arr ty false (es.set i (y.aW (y.cells.take off++x.cells++y.cells.drop (off+k))))⟩) (g1:=G n)
        (w':=w.setRow b (cs.toList.take (i*k0+off)++v.cells.toList++cs.toList.drop (i*k0+off+k)).toArray) fY
        (λc hc b7=>lQ w b _ c (λe'=>b7 ⟨e,he,by rw[e',bV];simp[bH,hG,aR]⟩)) (by simp) rfl rfl rfl
        (λc hc=> .inr ⟨e,he,by rw[bV];exact hc⟩)
        (by
         rw[bW];refine .inr ⟨b,cap,_,k0,by rw[hG,zbf],setRow_heap w b cs _ ty _ hh,r6,gn,by rw[zbf];exact G6,zn,?_,(λh=>by cases h),?_⟩
         ·simp only[zcq];rw[e2,kQ _ _ _ hval];simpa using dt
         intro m z hz;have pb: ∀j,(cs.toList.take (i*k0+off)++v.cells.toList++cs.toList.drop (i*k0+off+k)).toArray.getD j undef=if i*k0+off<=j/\j<i*k0+off+k then(v.cells.toList[j-(i*k0+off)]?).getD undef else cs.getD j undef:=λj=>by
          rw[fD];simp only[];rw[e2,iM _ _ _ _ hval,c1];split
          ·rfl
          rw[fD]
         by_cases hm:i=m
         ·subst hm;rw[zbO hi] at hz;cases hz;rw[hwc];refine⟨by rw[r7,y1],hnc,λj c hc=> ?_⟩;rw[e3,iM _ _ _ _ hyl,hxl] at hc;rw[pb];by_cases hj:off<=j/\j<off+k
          ·rw[zao hj] at hc;rw[zao (by omega)];have EC:j-off<v.cells.toList.length:=by omega
           have e4:i*k0+j-(i*k0+off)=j-off:=by omega
           rw[e4,zae EC];exact(c3 _ _ c (zae EC) hc).mono (λ_ h=>h) hF
          rw[zam hj] at hc;rw[zam (by omega)];exact(y3 j c hc).mono (λ_ h=>h) hF
         rw[zaX hm] at hz;obtain⟨z1,z2,z3⟩:=hE m z hz;refine⟨z1,z2,λj c hc=> ?_⟩;rw[pb];have hj:j<k0:=by have:=(zad.1 hc).1;omega
         have dI: ¬(i*k0+off<=m*k0+j/\m*k0+j<i*k0+off+k):=by
          intro hh2;rcases zci hm with bI |hgt
          ·have:(i+1)*k0<=m*k0:=zaq _ (by omega);rw[zaV,zbt] at this;omega
          have:(m+1)*k0<=i*k0:=zaq _ (by omega);rw[zaV,zbt] at this;omega
         rw[zam dI];exact(z3 j c hc).mono (λ_ h=>h) hF)
        (λi hi hl=>a1.tag n e i he hi (by rw[bV];rfl))
       rw[bW] at d1 d2;exact⟨d1,a2.trans d2⟩
     cases hs
    cases hs
   cases hs
  cases hs
 cases hs
end
end Pi
