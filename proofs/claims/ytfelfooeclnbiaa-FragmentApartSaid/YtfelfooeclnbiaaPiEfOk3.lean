/- The text PiEfOk3. -/
import Derived.Test.YtfelfooeclnbiaaPiEfOk2
namespace Pi
open Go
section
variable{Q:Program}{T:Tg}{F:Nat->Prop}{G:Nat->Value}{w:World}{a:Act}{s:S}
theorem lj{t:TypeId}{k:Nat}(hk:sz Q t=some k){b o:Nat}{cs:Array Value}{ty:TypeId}(hh:w.heap[b]?=some (.cells cs ty (0,0))){v:Value}(hl:v.cells.toList.length=k)(hle:o+k<=cs.size)(h1: ∀u∈v.cells.toList,u.oneCell'=true):
  (Instr.storeAt t (.pointer (some ⟨b,o,none⟩)) v).run Q w= .ok () (w.setRow b (cs.toList.take o++v.cells.toList++cs.toList.drop (o+k)).toArray):=by
 have gH:=run_storeCells_at Q b o ty v.cells.toList 0 cs w hh (by omega) h1;simp only[zbb,hl] at gH;have bK:v.cells.size=k:=by simpa using hl
 simp[Instr.storeAt,Instr.sureAddr,storeVar,Sem.run_bind,run_sizeOf hk,bK,gH]
theorem dt(cs:Array Value)(i:Nat):cs.getD i undef=(cs.toList[i]?).getD undef:=by simp[zak]
theorem fe(w:World)(b:Nat)(cs:Array Value)(c:Nat)(h:c≠b):(w.setRow b cs).heap[c]?=w.heap[c]?:=setRow_other w b c cs h
theorem D.lW{x:D}{cs:List D}(h:cs.length=x.cells.length)(hc: ∀c∈cs,c.aF=true):(x.a8 cs).cells=cs:=by
 have one: ∀(y:D),cs.length=1->(cs.headD y).cells=cs:=λy h1=>by
  cases cs with
  |nil=>simp at h1
  |cons c r=>have:r=[]:=zap (by simpa using h1);subst this;have:=hc c (by simp);cases c<;>simp_all [D.cells,D.aF]
 cases x<;>first |rfl |exact one _ (by simpa [D.cells] using h)
theorem uH(h:aq Q T F G w a s){t:TypeId}{pa pv:P}{s':S}(hs:cL Q s t pa pv=some s'){va v:Value}(ha:ak F w G s.rg va pa)(hv:ak F w G s.rg v pv):
  ∃w' F' G',(Instr.storeAt t va v).run Q w= .ok () w'/\aq Q T F' G' w' a s'/\Ext (Own G s.rg) (Own G' s'.rg) F F' w w':=by
 unfold cL at hs;split at hs
 ·cases hs
 rename_i k hk;split at hs
 next n aw off=>
  split at hs
  next s1 val cx=>
   split at hs
   ·rename_i ty ps ho;split at hs
    ·rename_i cc;simp only[zac,zbd] at cc;obtain⟨⟨hlen,hle⟩,dg⟩:=cc;have hlen:val.cells.length=k:=by simpa using hlen
     simp at hs;subst hs;obtain⟨G1,a1,a2,a3,a4⟩:=tR h cx hv;obtain⟨e,he,bM,aO⟩:=S.aI ho;have wG:=ha.mono (λ_ h=>h) (λ_ _=>rfl) a3;cases wG with
     |ref _ _ _ _ hr h1=>
      obtain⟨b,hG,rfl⟩:=hr.at he bM (by rw[aO];rfl);have hO:=a1.rg n e he;rw[aO] at hO;obtain⟨b',cs,fa,hh,bK,aQ,qk⟩:=hO;rw[hG] at fa;simp at fa;subst fa;obtain⟨c1,c2,cS⟩:=mA a4 dg;rw[hlen] at c1;refine⟨_,F,G1,lj hk hh c1 (by omega) cS,?_⟩;rw[S.cP he];have qQ:b<w.heap.size:=(zal.1 hh).1;have y5: ¬F b:=a1.iY n e b he (by rw[aO];simp[aG,hG,ar]);have c6:gA G1 s1.rg n ⟨e.aw,e.tag,.box ty (splice ps off val.cells)⟩ (G1 n):=λe' a7=>by rw[he] at a7;cases a7;exact .inr ⟨rfl,λ_=>⟨by rw[aO];rfl,rfl⟩⟩
      have kP:=cw c6;rw[aM] at kP;have hF: ∀c,F c->(w.setRow b (cs.toList.take off++v.cells.toList++cs.toList.drop (off+k)).toArray).heap[c]?=w.heap[c]?:=λc hc=>fe w b _ c (λe=>y5 (e▸hc));have CU:off+val.cells.length<=ps.length:=by omega
      have hval:off+v.cells.toList.length<=cs.toList.length:=by rw[c1];simp;omega
      have e2:cs.toList.drop (off+k)=cs.toList.drop (off+v.cells.toList.length):=by rw[c1]
      obtain⟨d1,d2⟩:=a1.gR (e1:=⟨e.aw,e.tag,.box ty (splice ps off val.cells)⟩) (g1:=G1 n) (w':=w.setRow b (cs.toList.take off++v.cells.toList++cs.toList.drop (off+k)).toArray) c6
       (λc hc eb=>fe w b _ c (λe'=>eb ⟨e,he,by rw[e',aO];simp[aG,hG,ar]⟩)) (by simp) rfl rfl rfl
       (λc hc=> .inr ⟨e,he,by rw[aO];exact hc⟩)
       (by
        rw[aM];refine⟨b,_,hG,setRow_heap w b cs _ ty _ hh,?_,?_,?_⟩
        ·simp only[splice,zbu];rw[e2,eN _ _ _ hval,eN _ _ _ CU];simpa using bK
        ·intro c hc;simp only[zaX] at hc;rcases hc with(hc |hc)|hc
         ·exact aQ c (zbj hc)
         ·exact cS c hc
         exact aQ c (zbi hc)
        intro i p hp;simp only[splice] at hp;rw[dq _ _ _ _ CU] at hp;rw[dt];simp only[];rw[e2,dq _ _ _ _ hval,c1];rw[hlen] at hp;by_cases hi:off<=i/\i<off+k
        ·rw[zat hi] at hp⊢;have bu:i-off<v.cells.toList.length:=by omega
         rw[zad bu];exact(c2 _ _ p (zad bu) hp).mono (λ_ h=>h) hF kP
        rw[zav hi] at hp⊢;have:=qk i p hp;rw[dt] at this;exact this.mono (λ_ h=>h) hF kP)
       (λi hi hl=>a1.tag n e i he hi (by rw[aO];rfl))
      rw[aM] at d1 d2;exact⟨d1,a2.trans d2⟩
    cases hs
   cases hs
  cases hs
 next n aw i k0 off=>
  split at hs
  next s1 x vJ=>
   split at hs
   ·rename_i ty es ho;split at hs
    ·rename_i y k2 hy wD;split at hs
     ·rename_i cc;simp only[zac,zbd] at cc;obtain⟨⟨dS,A7⟩,hle⟩:=cc;have dS:k0=k2:=by simpa using dS
      have A7:x.cells.length=k:=by simpa using A7
      subst dS;simp only[zae] at hs;subst hs;obtain⟨F1,a1,a2,a3,a4,a5⟩:=l7 h vJ hv;obtain⟨e,he,bM,aO⟩:=S.aI ho;have wG:=ha.mono a4 (λ_ _=>rfl) a3;cases wG with
      |bE _ _ _ _ _ _ h1 hr=>
       obtain⟨b,N,cap,hG,rfl⟩:=hr.at he bM (by rw[aO];rfl);have hO:=a1.rg n e he;rw[aO] at hO;rcases hO with⟨fa,_⟩| ⟨b',dR,cs,k3,fa,hh,Cc,l3,rT,nI,bK,_,hE⟩
       ·rw[hG] at fa;cases fa
       rw[wD] at Cc;cases Cc;rw[hG] at fa;simp at fa;obtain⟨rfl,rfl,rfl⟩:=fa;obtain⟨c1,c2,c3⟩:=bO a5;rw[A7] at c1;have hi:i<es.length:=(zaa.1 hy).1;obtain⟨y1,y2,y3⟩:=hE i y hy;have Hv:i*k0+k0<=cs.size:=by
        rw[bK]
        calc i*k0+k0=(i+1)*k0:=by rw[zau,zaN]
         _<=cap*k0:=zag _ (by omega)
       have cS:=eM a5;refine⟨_,F1,G,lj hk hh c1 (by omega) cS,?_⟩;rw[S.cP he];have y5: ¬F1 b:=a1.iY n e b he (by rw[aO];simp[aG,hG,ar]);have c6:gA G s1.rg n ⟨e.aw,e.tag,.arr ty false (es.set i (y.a8 (y.cells.take off++x.cells++y.cells.drop (off+k))))⟩ (G n):=λe' a7=>by rw[he] at a7;cases a7;exact .inr ⟨rfl,λ_=>⟨by rw[aO];rfl,rfl⟩⟩
       have hF: ∀c,F1 c->(w.setRow b (cs.toList.take (i*k0+off)++v.cells.toList++cs.toList.drop (i*k0+off+k)).toArray).heap[c]?=w.heap[c]?:=λc hc=>fe w b _ c (λe=>y5 (e▸hc));have Eh:off+x.cells.length<=y.cells.length:=by omega
       have hval:i*k0+off+v.cells.toList.length<=cs.toList.length:=by rw[c1];simp;omega
       have e2:cs.toList.drop (i*k0+off+k)=cs.toList.drop (i*k0+off+v.cells.toList.length):=by rw[c1]
       have e3:y.cells.drop (off+k)=y.cells.drop (off+x.cells.length):=by rw[A7]
       have y6:(y.cells.take off++x.cells++y.cells.drop (off+k)).length=y.cells.length:=by rw[e3,eN _ _ _ Eh]
       have CV: ∀c∈y.cells.take off++x.cells++y.cells.drop (off+k),c.aF=true:=λc hc=>by
        simp only[zaX] at hc;rcases hc with(hc |hc)|hc
        ·exact y2 c (zbj hc)
        ·exact c2 c hc
        exact y2 c (zbi hc)
       have Hw:=D.lW (x:=y) y6 CV;obtain⟨d1,d2⟩:=a1.gR (e1:=⟨e.aw,e.tag,.arr ty false (es.set i (y.a8 (y.cells.take off++x.cells++y.cells.drop (off+k))))⟩) (g1:=G n)
        (w':=w.setRow b (cs.toList.take (i*k0+off)++v.cells.toList++cs.toList.drop (i*k0+off+k)).toArray) c6
        (λc hc eb=>fe w b _ c (λe'=>eb ⟨e,he,by rw[e',aO];simp[aG,hG,ar]⟩)) (by simp) rfl rfl rfl
        (λc hc=> .inr ⟨e,he,by rw[aO];exact hc⟩)
        (by
         rw[aM];refine .inr ⟨b,cap,_,k0,by rw[hG,zas],setRow_heap w b cs _ ty _ hh,wD,l3,by rw[zas];exact rT,nI,?_,(λh=>by cases h),?_⟩
         ·simp only[zbu];rw[e2,eN _ _ _ hval];simpa using bK
         intro m z hz;have kK: ∀j,(cs.toList.take (i*k0+off)++v.cells.toList++cs.toList.drop (i*k0+off+k)).toArray.getD j undef=if i*k0+off<=j/\j<i*k0+off+k then(v.cells.toList[j-(i*k0+off)]?).getD undef else cs.getD j undef:=λj=>by
          rw[dt];simp only[];rw[e2,dq _ _ _ _ hval,c1];split
          ·rfl
          rw[dt]
         by_cases hm:i=m
         ·subst hm;rw[zby hi] at hz;cases hz;rw[Hw];refine⟨by rw[y6,y1],CV,λj c hc=> ?_⟩;rw[e3,dq _ _ _ _ Eh,A7] at hc;rw[kK];by_cases hj:off<=j/\j<off+k
          ·rw[zat hj] at hc;rw[zat (by omega)];have Ah:j-off<v.cells.toList.length:=by omega
           have e4:i*k0+j-(i*k0+off)=j-off:=by omega
           rw[e4,zad Ah];exact(c3 _ _ c (zad Ah) hc).mono (λ_ h=>h) hF
          rw[zav hj] at hc;rw[zav (by omega)];exact(y3 j c hc).mono (λ_ h=>h) hF
         rw[zbk hm] at hz;obtain⟨z1,z2,z3⟩:=hE m z hz;refine⟨z1,z2,λj c hc=> ?_⟩;rw[kK];have hj:j<k0:=by have:=(zaa.1 hc).1;omega
         have bY: ¬(i*k0+off<=m*k0+j/\m*k0+j<i*k0+off+k):=by
          intro IL;rcases zbo hm with bu |GL
          ·have:(i+1)*k0<=m*k0:=zag _ (by omega);rw[zau,zaN] at this;omega
          have:(m+1)*k0<=i*k0:=zag _ (by omega);rw[zau,zaN] at this;omega
         rw[zav bY];exact(z3 j c hc).mono (λ_ h=>h) hF)
        (λi hi hl=>a1.tag n e i he hi (by rw[aO];rfl))
       rw[aM] at d1 d2;exact⟨d1,a2.trans d2⟩
     cases hs
    cases hs
   cases hs
  cases hs
 cases hs
end
end Pi
