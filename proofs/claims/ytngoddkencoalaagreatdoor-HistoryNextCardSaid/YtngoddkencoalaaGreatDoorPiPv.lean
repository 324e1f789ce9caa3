/- The text PiPv. -/
import Derived.Test.YtngoddkencoalaaGreatDoorPiStr
namespace Pi
open Go
section
variable {Q:Program} {T:Tg} {F:Nat->Prop} {G:Nat->Value} {w:World} {a:Act} {s:S}
theorem gV {len l h:Nat} {lo hi:Option P} (hb:dz len lo hi=some (l,h)):l<=h/\h<=len:=by
 unfold dz at hb
 grind
theorem kR {len cap l h:Nat} {lo hi:Option P} {vl vh:Option Value} (hb:dz len lo hi=some (l,h)) (hle:hi=none\/len<=cap)
  (LW:(lo=none/\vl=none)\/ ∃p v,lo=some p/\vl=some v/\aF F w G s.rg v p) (VQ:(hi=none/\vh=none)\/ ∃p v,hi=some p/\vh=some v/\aF F w G s.rg v p):
  (Instr.sliceBounds true len cap vl vh none).run Q w= .ok (l,h,cap) w:=by
 unfold dz at hb
 rcases VQ with⟨rfl,rfl⟩| ⟨p,v,rfl,rfl,hp⟩
 ·skip
  rcases LW with⟨rfl,rfl⟩| ⟨p,v,rfl,rfl,hp⟩
  ·skip
   obtain⟨rfl,rfl⟩:=hb
   rfl
  ·cases p<;>try (simp at hb;done)
   rename_i x
   cases x<;>try (simp at hb;done)
   rename_i k j
   cases hp with
   |d hp=>
    cases hp
    simp only at hb
    split at hb
    ·rename_i hj
     obtain⟨rfl,rfl⟩:=hb
     simp[Instr.sliceBounds,Instr.sliceBound,asIntOf,hj]
    ·cases hb
 ·cases p<;>try (simp at hb;done)
  rename_i x
  cases x<;>try (simp at hb;done)
  rename_i k j
  cases hp with
  |d hp=>
   cases hp
   have qbu:len<=cap:=by grind
   simp only at hb
   by_cases hj:0<=j/\j<=(len:Int)
   ·have hj2:0<=j/\j<=(cap:Int):=⟨hj.1,by omega⟩
    rw[zao hj] at hb
    rcases LW with⟨rfl,rfl⟩| ⟨p,v,rfl,rfl,hp⟩
    ·skip
     obtain⟨rfl,rfl⟩:=hb
     simp[Instr.sliceBounds,Instr.sliceBound,asIntOf,hj2]
    ·cases p<;>try (simp at hb;done)
     rename_i x
     cases x<;>try (simp at hb;done)
     rename_i k2 j2
     cases hp with
     |d hp=>
      cases hp
      simp only at hb
      split at hb
      ·rename_i hj3
       simp[Instr.sliceBounds,Instr.sliceBound,asIntOf,hj2,hj3]
       grind
      ·cases hb
   grind
theorem uD {F':Nat->Prop} {n:Nat} {ty:TypeId} {fz:Bool} {es:List D} {k len:Nat} (hO:ot Q F w G s.rg n (.arr ty fz es)) (hk:sz Q ty=some k) {v:Value}
  (hv: ∃a N cap,G n= .slice a N cap/\v= .slice a len cap/\len<=N) (hF: ∀b,aQ (G n)=some b->F' b) (hFF: ∀b,F b->F' b):a7 F' w v (.sl k (es.take len)):=by
 obtain⟨a0,N,cap,hG,rfl,hle⟩:=hv
 rcases hO with⟨hg,rfl⟩| ⟨b,iJ,cs,k',hg,hh,mr,gm,GS,zb,dq,_,hE⟩
 ·rw[hG] at hg
  simp at hg
  have:len=0:=by omega
  subst this
  exact .N4 _ _ _
 ·rw[hk] at mr
  cases mr
  rw[hG] at hg
  obtain⟨rfl,rfl,rfl⟩:=hg
  have hlen:(es.take len).length=len:=by simp;omega
  have pc: ∀i x,(es.take len)[i]?=some x->es[i]?=some x:=fun i x hx=>by
   rw[zbe] at hx
   split at hx
   ·exact hx
   ·cases hx
  have fT: ∀x,x∈es.take len-> ∃i,es[i]?=some x:=fun x hx=>by
   obtain⟨i,hi⟩:=zaP hx
   exact⟨i,pc i x hi⟩
  have:=a7.O0 (F:=F') (w:=w) b 0 k cap (es.take len) (fun i=>cs.getD i undef) (by omega) (hF b (by simp[hG,aQ])) (fun x hx=>by obtain⟨i,hi⟩:=fT x hx;exact(hE i x hi).1)
   (fun x hx=>by obtain⟨i,hi⟩:=fT x hx;exact(hE i x hi).2.1) (fun i hi=>by
    have:i<cs.size:=by rw[dq];exact za3 hi (zaq _ (by omega))
    rw[zaF,cell_of_row w b i cs ty (0,0) hh]
    simp_all) (fun i j x c hx hc=>((hE i x (pc i x hx)).2.2 j c hc).mono hFF (fun _ _=>rfl))
  rwa [hlen] at this
theorem Cf {F':Nat->Prop} {n:Nat} {ty:TypeId} {fz:Bool} {es:List D} {k off len:Nat} (hO:ot Q F w G s.rg n (.arr ty fz es)) (hk:sz Q ty=some k) {v:Value}
  (hv: ∃a N cap,G n= .slice a N cap/\off+len<=N/\ ∃a' iJ,v= .slice a' len iJ/\len<=iJ/\(len=0\/ ∃b,a=some ⟨b,0,none⟩/\a'=some ⟨b,off*k,none⟩)) (hF: ∀b,aQ (G n)=some b->F' b) (hFF: ∀b,F b->F' b):a7 F' w v (.sl k ((es.drop off).take len)):=by
 obtain⟨a0,N,cap,hG,hle,a1,qn,rfl,O4,hz⟩:=hv
 by_cases h0:len=0
 ·subst h0
  exact .N4 _ _ _
 obtain⟨b0,ha0,O5⟩: ∃b,a0=some ⟨b,0,none⟩/\a1=some ⟨b,off*k,none⟩:=by
  grind
 subst ha0 O5
 rcases hO with⟨hg,rfl⟩| ⟨b,iJ,cs,k',hg,hh,mr,gm,GS,zb,dq,_,hE⟩
 ·rw[hG] at hg
  simp at hg
 ·rw[hk] at mr
  cases mr
  rw[hG] at hg
  obtain⟨rfl,rfl,rfl⟩:=hg
  have hlen:((es.drop off).take len).length=len:=by simp;omega
  have pc: ∀i x,((es.drop off).take len)[i]?=some x->es[off+i]?=some x:=fun i x hx=>by
   grind
  have fT: ∀x,x∈(es.drop off).take len-> ∃i,es[i]?=some x:=fun x hx=>by
   obtain⟨i,hi⟩:=zaP hx
   exact⟨off+i,pc i x hi⟩
  have:=a7.O0 (F:=F') (w:=w) b0 (off*k) k qn ((es.drop off).take len) (fun i=>cs.getD (off*k+i) undef) (by omega) (hF b0 (by simp[hG,aQ])) (fun x hx=>by obtain⟨i,hi⟩:=fT x hx;exact(hE i x hi).1)
   (fun x hx=>by obtain⟨i,hi⟩:=fT x hx;exact(hE i x hi).2.1) (fun i hi=>by
    rw[hlen] at hi
    have h2:off*k+i<cs.size:=by
     rw[dq]
     calc off*k+i<off*k+len*k:=by omega
      _=(off+len)*k:=by rw[zaT]
      _<=cap*k:=zaq _ (by omega)
    rw[cell_of_row w b0 (off*k+i) cs ty (0,0) hh]
    simp_all) (fun i j x c hx hc=>by
    have:=((hE (off+i) x (pc i x hx)).2.2 j c hc).mono hFF (fun _ _=>rfl)
    rw[zaT,zbA] at this
    exact this)
  rwa [hlen] at this
theorem Pb (h:aC Q T F G w a s) {t:TypeId} {v:Value} {p:P} {lo:Option P} (hv:aF F w G s.rg v p):aF F w G s.rg v (n0 Q s t p lo):=by
 unfold n0
 split
 ·rename_i n aX len
  split
  ·rename_i x ty es k _ ho hk
   split
   ·rename_i k' mr
    split
    ·rename_i jH
     have jH:=zaf jH
     subst jH
     obtain⟨e,he,dP,bV⟩:=S.bH ho
     have hO:=h.rg n e he
     rw[bV] at hO
     cases hv with
     |sl _ _ _ _ _ hr=>
      have Ez:=hr.at he dP (by rw[bV];rfl)
      refine .d (uD hO mr Ez (fun b hb=> ?_) (fun _ h=>h))
      rcases hO with⟨hg,_⟩| ⟨b',cap,cs,k2,hg,_,_,_,_,_,_,hf,_⟩
      ·rw[hg] at hb;cases hb
      grind [aQ]
    ·exact hv
   ·exact hv
  ·exact hv
 ·exact hv
theorem LX (h:aC Q T F G w a s) {t:TypeId} {v:Value} {p q:P} {lo hi:Option P} {vl vh:Option Value} (hv:aF F w G s.rg v p)
  (LW:(lo=none/\vl=none)\/ ∃p v,lo=some p/\vl=some v/\aF F w G s.rg v p) (VQ:(hi=none/\vh=none)\/ ∃p v,hi=some p/\vh=some v/\aF F w G s.rg v p)
  (hq:l5 Q s t p lo hi=some q): ∃x,(Instr.sliceAt t v vl vh none).run Q w= .ok x w/\aF F w G s.rg x q:=by
 unfold l5 at hq
 replace hv:=Pb h (t:=t) (lo:=lo) hv
 generalize n0 Q s t p lo=p at hq hv
 unfold v8 at hq
 split at hq
 ·cases hq
 ·rename_i e het
  have n5:=dC het
  split at hq
  ·rename_i k hk
   cases hv with
   |d hv=>
    cases hv with
    |N4 a0 k' cap=>
     simp only at hq
     split at hq
     ·split at hq
      ·rename_i l hh hb
       have:=gV hb
       have VR:l=0/\hh=0:=by grind
       obtain⟨rfl,rfl⟩:=VR
       simp at hq
       subst hq
       refine⟨.slice (if cap=0 then a0 else a0.map (·.add (0*(k+1)))) 0 cap,?_,.d (.N4 _ _ _)⟩
       have dj:=kR (Q:=Q) (s:=s) (F:=F) (w:=w) (G:=G) (cap:=cap) hb (by simp) LW VQ
       simp only[zat] at dj
       simp[Instr.sliceAt,run_underlying n5,Instr.slice,dj,run_sizeOf hk]
      ·cases hq
     ·cases hq
    |O0 b off k' cap es f B9 hb jH ca hw hr=>
     simp only at hq
     split at hq
     ·rename_i mr
      have mr:k'=k+1:=by simpa using mr
      subst mr
      split at hq
      ·rename_i l hh HM
       have hle:=gV HM
       simp at hq
       subst hq
       ·have dj:=kR (Q:=Q) (s:=s) (F:=F) (w:=w) (G:=G) (cap:=cap) HM (.inr B9) LW VQ
        refine⟨_,by simp[Instr.sliceAt,run_underlying n5,Instr.slice,dj,run_sizeOf hk];rfl,?_⟩
        by_cases h0:hh-l=0
        ·rw[h0]
         have e0:(es.take hh).drop l=[]:=zax (by simp;omega)
         rw[e0]
         exact .d (.N4 _ _ _)
        ·have dG: ¬cap=l:=by omega
         rw[zam dG]
         have hlen:((es.take hh).drop l).length=hh-l:=by simp;omega
         have pc: ∀i x,((es.take hh).drop l)[i]?=some x->es[l+i]?=some x:=fun i x hx=>by
          grind
         have fT: ∀x,x∈(es.take hh).drop l->x∈es:=fun x hx=>zbp (zbU hx)
         rw[<-hlen,addr_add]
         refine .d (.O0 b (off+l*(k+1)) (k+1) (cap-l) _ (fun i=>f (l*(k+1)+i)) (by omega) hb (fun x hx=>jH x (fT x hx)) (fun x hx=>ca x (fT x hx)) (fun i hi=> ?_) (fun i j x c hx hc=> ?_))
         ·rw[zbA]
          refine hw _ ?_
          rw[hlen] at hi
          calc l*(k+1)+i<l*(k+1)+(hh-l)*(k+1):=by omega
           _=(l+(hh-l))*(k+1):=by rw[zaT]
           _<=es.length*(k+1):=zaq _ (by omega)
         grind
      ·cases hq
     ·cases hq
    |_=>cases hq
   |sl n aX len v h1 hr=>
    simp only at hq
    split at hq
    ·rename_i ty fz es ho
     split at hq
     ·rename_i l hh HM
      simp at hq
      subst hq
      obtain⟨en,he,dP,bV⟩:=S.bH ho
      obtain⟨a0,N,cap,hG,rfl,hle⟩:=hr.at he dP (by rw[bV];rfl)
      have hO:=h.rg n en he
      rw[bV] at hO
      have hNc:N<=cap:=by
       rcases hO with⟨ou,_⟩| ⟨b',iJ,cs,k2,ou,_,_,_,qbu,_⟩
       ·grind
       grind
      have dj:=kR (Q:=Q) (s:=s) (F:=F) (w:=w) (G:=G) (cap:=cap) HM (.inr (by omega)) (.inl ⟨rfl,rfl⟩) VQ
      have hbs:=gV HM
      have VR:l=0:=by
       unfold dz at HM
       grind
      subst VR
      have hvl:vl=none:=by
       grind
      subst hvl
      refine⟨.slice a0 hh cap,?_,.sl n aX hh _ rfl ⟨en,he,by omega,fun _ _=>⟨a0,N,cap,hG,rfl,by omega⟩⟩⟩
      have hz: ∀x:Addr,x.add 0=x:=fun x=>by rfl
      simp only[Instr.sliceAt,Instr.slice,Sem.run_bind,run_underlying n5,Result.andThen_ok,dj,run_sizeOf hk]
      cases a0<;>simp[hz]
     ·cases hq
    ·rename_i ty fz es lo0 ho
     split at hq
     ·rename_i k' mr
      split at hq
      ·split at hq
       ·rename_i l hh HM
        simp at hq
        subst hq
        obtain⟨en,he,dP,bV⟩:=S.bH ho
        obtain⟨a0,N,cap,hG,rfl,hle⟩:=hr.at he dP (by rw[bV];rfl)
        have hO:=h.rg n en he
        rw[bV] at hO
        have hbs:=gV HM
        have hNc:N<=cap/\(N=0\/ ∃b,a0=some ⟨b,0,none⟩):=by
         rcases hO with⟨ou,_⟩| ⟨b',iJ,cs,k2,ou,_,_,_,qbu,_⟩
         ·grind
         grind
        have dj:=kR (Q:=Q) (s:=s) (F:=F) (w:=w) (G:=G) (cap:=cap) HM (.inr (by omega)) LW VQ
        refine⟨.slice (if cap=l then a0 else a0.map (·.add (l*(k+1)))) (hh-l) (cap-l),by simp[Instr.sliceAt,run_underlying n5,Instr.slice,dj,run_sizeOf hk],.lC n aX (k+1) l (hh-l) _ rfl ⟨en,he,by omega,fun _ _=>⟨a0,N,cap,hG,by omega,_,_,rfl,by omega,?_⟩⟩⟩
        grind [addr_add]
       ·cases hq
      ·cases hq
     ·cases hq
    ·cases hq
   |lC n aX k0 off len v h1 hr=>
    simp only at hq
    split at hq
    ·rename_i ty fz es ho
     split at hq
     ·rename_i jH
      have jH:=zaf jH
      subst jH
      split at hq
      ·rename_i l hh HM
       simp at hq
       subst hq
       obtain⟨en,he,dP,bV⟩:=S.bH ho
       obtain⟨a0,N,cap,hG,hle,a1,qn,rfl,O4,hz⟩:=hr.at he dP (by rw[bV];rfl)
       have hbs:=gV HM
       have dj:=kR (Q:=Q) (s:=s) (F:=F) (w:=w) (G:=G) (cap:=qn) HM (.inr O4) LW VQ
       refine⟨.slice (if qn=l then a1 else a1.map (·.add (l*(k+1)))) (hh-l) (qn-l),by simp[Instr.sliceAt,run_underlying n5,Instr.slice,dj,run_sizeOf hk],.lC n aX (k+1) (off+l) (hh-l) _ rfl ⟨en,he,by omega,fun _ _=>⟨a0,N,cap,hG,by omega,_,_,rfl,by omega,?_⟩⟩⟩
       by_cases h0:hh-l=0
       ·grind
       ·rcases hz with hz | ⟨b,h2,h3⟩
        ·omega
        ·refine .inr ⟨b,h2,?_⟩
         rw[zam (by omega),h3]
         simp[addr_add,zaT]
      ·cases hq
     ·cases hq
    ·cases hq
   |_=>cases hq
  ·cases hq
theorem nx {t e ty:TypeId} {at':Array TypeId} (h0:at'[0]?=some t) (n5:Q.underlying t=some (.slice e)) (b:Option Addr) (n c:Nat) (w:World):(Builtin.len_ at' ty #[.slice b n c]).run Q w= .ok (goInt n) w:=by
 simp[Builtin.len_,h0,run_underlying n5]
theorem VS {t e:TypeId} {ty:TypeId} {at':Array TypeId} (h0:at'[0]?=some t) (het:cH Q t=some e) {v:Value} {p q:P} (hv:aF F w G s.rg v p) (hq:Eg s p=some q):
  ∃x,(Builtin.len_ at' ty #[v]).run Q w= .ok x w/\aF F w G s.rg x q:=by
 have n5:=dC het
 unfold Eg at hq
 cases hv with
 |sl n aX len v h1 hr=>
  simp only at hq
  split at hq
  ·rename_i hl
   simp at hq
   subst hq
   obtain⟨en,he,dP,hl⟩:=S.dw hl
   obtain⟨a0,N,cap,hG,rfl,hle⟩:=hr.at he dP hl
   exact⟨_,nx h0 n5 a0 len cap w,.d (.int _ _)⟩
  ·cases hq
 |lC n aX k off len v h1 hr=>
  simp only at hq
  split at hq
  ·rename_i hl
   simp at hq
   subst hq
   obtain⟨en,he,dP,hl⟩:=S.dw hl
   obtain⟨a0,N,cap,hG,hle,a1,qn,rfl,_,_⟩:=hr.at he dP hl
   exact⟨_,nx h0 n5 a1 len qn w,.d (.int _ _)⟩
  ·cases hq
 |d hv=>
  cases hv with
  |N4 a0 k' cap=>
   simp at hq
   subst hq
   exact⟨_,nx h0 n5 a0 0 cap w,.d (.int _ _)⟩
  |O0 b off k' cap es f B9 hb jH ca hw hr=>
   simp at hq
   subst hq
   exact⟨_,nx h0 n5 _ _ cap w,.d (.int _ _)⟩
  |_=>cases hq
 |_=>cases hq
theorem VT (h:aC Q T F G w a s) {t:TypeId} {y:TypeId×TypeId} {ty:TypeId} {at':Array TypeId} (h0:at'[0]?=some t) (Cg:jT Q t=some y) {v:Value} {p q:P} (hv:aF F w G s.rg v p) (hq:Eh s p=some q):
  ∃x,(Builtin.len_ at' ty #[v]).run Q w= .ok x w/\aF F w G s.rg x q:=by
 have n5:=iK Cg
 unfold Eh at hq
 split at hq
 ·rename_i n aX
  split at hq
  ·rename_i kt2 get c last ho
   simp only[zal] at hq
   subst hq
   obtain⟨e0,_,_,_,AJ,b,es,clock,hG,hb,hM⟩:=Eu h hv ho
   rw[hG] at AJ
   subst AJ
   obtain⟨ks,_,hc,_⟩:=hM
   refine⟨goInt es.size,by simp[Builtin.len_,h0,run_underlying n5,MapKept.run_getObj_map hb],?_⟩
   rw[hc]
   exact .d (.int _ _)
  ·cases hq
 ·cases hq
theorem AK {x y:Value} {p q:P} {r:Bool} (hx:aF F w G s.rg x p) (hy:aF F w G s.rg y q) (hr:tG s p q=some r):
  r=false/\((∃b,x= .pointer (some b)/\y= .pointer none)\/ ∃b,x= .pointer none/\y= .pointer (some b)):=by
 unfold tG at hr
 split at hr
 ·cases hx with
  |ref n aX off v h h1=>
   cases hy with |d hy=>cases hy;(split at hr)<;>simp at hr;rename_i hl;obtain⟨e,he,dP,hl⟩:=S.dw hl;obtain⟨b,_,hv⟩:=h.at he dP hl;grind
 ·cases hx with
  |dx n aX i k off v h1 h=>
   cases hy with |d hy=>cases hy;(split at hr)<;>simp at hr;rename_i hl;obtain⟨e,he,dP,hl⟩:=S.dw hl;obtain⟨b,_,_,_,hv⟩:=h.at he dP hl;grind
 ·cases hy with
  |ref n aX off v h h1=>
   cases hx with |d hx=>cases hx;(split at hr)<;>simp at hr;rename_i hl;obtain⟨e,he,dP,hl⟩:=S.dw hl;obtain⟨b,_,hv⟩:=h.at he dP hl;grind
 ·cases hy with
  |dx n aX i k off v h1 h=>
   cases hx with |d hx=>cases hx;(split at hr)<;>simp at hr;rename_i hl;obtain⟨e,he,dP,hl⟩:=S.dw hl;obtain⟨b,_,_,_,hv⟩:=h.at he dP hl;grind
 ·cases hx with |eZ=>cases hy with |d hy=>cases hy;grind
 ·cases hy with |eZ=>cases hx with |d hx=>cases hx;grind
 ·cases hr
theorem vw (d:Nat) {t e:TypeId} (ht:Q.underlying t=some (.pointer e)) {x y:Value} (h:(∃b,x= .pointer (some b)/\y= .pointer none)\/ ∃b,x= .pointer none/\y= .pointer (some b)) (w:World):
  (Op.equalIn (d+1) t x y).run Q w= .ok false w:=by
 rcases h with⟨b,rfl,rfl⟩| ⟨b,rfl,rfl⟩<;>simp[Op.equalIn,run_underlying ht]
theorem uF {t e:TypeId} (ht:Q.underlying t=some (.pointer e)) {x y:Value} (h:(∃b,x= .pointer (some b)/\y= .pointer none)\/ ∃b,x= .pointer none/\y= .pointer (some b)) (op:BinOp) (ox oy:Operand) (w:World)
  (sr:op= .eql\/op= .neq):(do eqGuard op t ox oy x y;Go.binOp op t x y:Sem Value).run Q w= .ok (.bool (op matches .neq)) w:=by
 have he:=vw (Q:=Q) 9999 ht h w
 rcases h with⟨b,rfl,rfl⟩| ⟨b,rfl,rfl⟩<;>rcases sr with rfl |rfl<;>simp only[eqGuard,Go.binOp,Op.equal,Op.maxDepth]<;>simp[he]
theorem wb (h:aC Q T F G w a s) {g:Option (Nat×Bool)} (hg:lO a g): ∀(xs:List Operand) (vs:List Value),c7 (xs.map (s.eg g))=some vs->xs.map a.eval=vs
 | [],vs,hv=>by grind [c7]
 |x::xs,vs,hv=>by
  simp only[zbl,c7] at hv
  cases h1:(s.eg g x).cy with
  |none=>grind
  |some v=>
   cases h2:c7 (xs.map (s.eg g)) with
   |none=>grind
   |some us=>
    simp[h1,h2] at hv
    subst hv
    rw[zbl,wb h hg xs us h2,(aY h hg x).cy h1]
theorem Kc {v:Value} {p:P} {ps:List P} (hv:aF F w G s.rg v p) (h:p.Ht=some ps): ∃vs:List Value,v= .agg ⟨vs⟩/\vs.length=ps.length/\(∀u∈vs,u.oneCell'=true)/\ ∀(i:Nat) (c:P),ps[i]?=some c->aF F w G s.rg (vs.getD i undef) c:=by
 cases hv with
 |agg vs ps' hl ij hc=>
  grind [P.Ht]
 |d hd=>
  cases hd with
  |agg vs cs hl ca hc=>
   simp[P.Ht] at h
   subst h
   refine⟨vs,rfl,by grind,fun u hu=> ?_,fun i c hi=> ?_⟩
   ·obtain⟨i,hi⟩:=zaP hu
    have bG:i<cs.length:=by have:=(zad.1 hi).1;omega
    exact(hc i u cs[i] hi (zae bG)).nw (ca _ (zas bG))
   ·rw[zaJ] at hi
    cases hx:cs[i]? with
    |none=>rw[hx] at hi;cases hi
    |some x=>
     rw[hx] at hi
     cases hi
     refine .d ?_
     grind
  |_=>simp[P.Ht] at h
 |_=>simp[P.Ht] at h
theorem Kd {t:TypeId} {vs:List Value} {ps:List P} {off:Nat} {q:P} (hl:vs.length=ps.length) (ij: ∀u∈vs,u.oneCell'=true) (hc: ∀(i:Nat) (c:P),ps[i]?=some c->aF F w G s.rg (vs.getD i undef) c) (hq:As Q t ps off=some q):
  ∃r,(Go.part t ⟨vs⟩ off).run Q w= .ok r w/\aF F w G s.rg r q:=by
 obtain⟨k,hk,hb,hr⟩:=Em (R:=s.rg) hq (fun i=>vs.getD i undef) (fun i hi=>by
  grind) hc
 grind [O3]
theorem LZ {t:TypeId} {f:Nat} {v:Value} {p q:P} (hv:aF F w G s.rg v p) (hq:Hu Q t f p=some q): ∃r,(Instr.field t v f).run Q w= .ok r w/\aF F w G s.rg r q:=by
 unfold Hu at hq
 split at hq
 ·rename_i fs ps ht qK
  obtain⟨vs,rfl,hl,ij,hc⟩:=Kc hv qK
  split at hq
  ·rename_i fl vu
   obtain⟨r,h1,h2⟩:=Kd hl ij hc hq
   refine⟨r,?_,h2⟩
   simp[Instr.field,run_underlying ht,vu,asAgg,h1]
  ·cases hq
 ·cases hq
theorem L0 {t e:TypeId} {n:Nat} {v u:Value} {p i q:P} (ht:Q.underlying t=some (.array n e)) (hv:aF F w G s.rg v p) (hu:aF F w G s.rg u i) (hq:Hv Q n e p i=some q):
  ∃r,(Instr.index t v u).run Q w= .ok r w/\aF F w G s.rg r q:=by
 unfold Hv at hq
 split at hq
 ·rename_i ps kk j k qK hk
  obtain⟨vs,rfl,hl,ij,hc⟩:=Kc hv qK
  cases hu with
  |d hu=>
   cases hu
   split at hq
   ·rename_i hj
    obtain⟨r,h1,h2⟩:=Kd hl ij hc hq
    refine⟨r,?_,h2⟩
    simp[Instr.index,asIntOf,run_underlying ht,hj,run_sizeOf hk,h1]
   ·cases hq
 ·cases hq
theorem qeY (h:aC Q T F G w a s) {g:Option (Nat×Bool)} (hg:lO a g) {o:Oper} {q:P} (hq:pv Q s o g=some q):
  ∃v,(execOp a.eval o).run Q w= .ok (.value v) w/\aF F w G s.rg v q:=by
 have up: ∀{m:Sem Value} {q:P},dT Q m=some q-> ∃v,m.run Q w= .ok v w/\aF F w G s.rg v q:=fun hh=>LP hh F w G s.rg
 unfold pv at hq
 unfold execOp
 split at hq
 ·rename_i x hx
  simp at hq
  subst hq
  exact⟨a.eval x,by simp[hx],aY h hg x⟩
 ·rename_i x hx
  simp at hq
  subst hq
  exact⟨a.eval x,by simp[hx],aY h hg x⟩
 ·rename_i c x y ho
  split at hq
  ·rename_i r hc
   simp at hq
   subst hq
   have hcv:a.eval c= .bool r:=(aY h hg c).cy (by rw[hc];rfl)
   cases r with
   |true=>exact⟨a.eval x,by simp[ho,hcv,asBool],aY h hg x⟩
   |false=>exact⟨a.eval y,by simp[ho,hcv,asBool],aY h hg y⟩
  ·cases hq
 ·rename_i x ho
  obtain⟨rfl,hv⟩:=zC (aY h hg x) hq
  have hr:=aY h hg x
  rcases hv with⟨b,hv⟩| ⟨f,c1,c2,hv⟩
  ·simp_all
  simp_all
 ·rename_i op t x y yt ho
  unfold oo at hq
  split at hq
  ·rename_i u v hu hv
   obtain⟨r,h1,h2⟩:=up hq
   refine⟨r,?_,h2⟩
   simp only[ho]
   rw[(aY h hg x).cy hu,(aY h hg y).cy hv,Sem.run_bind,h1]
   rfl
  ·split at hq
   ·rename_i hh Pc
    simp at hq
    subst hq
    obtain⟨rfl,hcs⟩:=AK (aY h hg x) (aY h hg y) Pc
    refine⟨_,?_,.d (.bool _)⟩
    simp only[ho]
    rw[Sem.run_bind,uF hh hcs .eql x y w (.inl rfl)]
    rfl
   ·rename_i hh Pc
    simp at hq
    subst hq
    obtain⟨rfl,hcs⟩:=AK (aY h hg x) (aY h hg y) Pc
    refine⟨_,?_,.d (.bool _)⟩
    simp only[ho]
    rw[Sem.run_bind,uF hh hcs .neq x y w (.inr rfl)]
    rfl
   ·cases hq
 ·rename_i op t x ho
  split at hq
  ·rename_i u hu
   obtain⟨r,h1,h2⟩:=up hq
   refine⟨r,?_,h2⟩
   simp only[ho]
   rw[(aY h hg x).cy hu,Sem.run_bind,h1]
   rfl
  ·cases hq
 ·rename_i t1 t2 x ho
  split at hq
  ·rename_i u hu
   obtain⟨r,h1,h2⟩:=up hq
   refine⟨r,?_,h2⟩
   simp only[ho]
   rw[(aY h hg x).cy hu,Sem.run_bind,h1]
   rfl
  ·cases hq
 ·rename_i t x ho
  obtain⟨r,h1,h2⟩:=Ep h (aY h hg x) hq
  simp_all
 ·rename_i t x f ho
  obtain⟨r,h1,h2⟩:=zD (aY h hg x) hq
  simp_all
 ·rename_i t x i ho
  obtain⟨r,h1,h2⟩:=zF h (aY h hg x) (aY h hg i) hq
  simp_all
 ·rename_i t x i ho
  split at hq
  ·rename_i n e ht
   obtain⟨r,h1,h2⟩:=L0 ht (aY h hg x) (aY h hg i) hq
   simp_all
  ·split at hq
   ·rename_i u v hu hv
    obtain⟨r,h1,h2⟩:=up hq
    refine⟨r,?_,h2⟩
    simp only[ho]
    rw[(aY h hg x).cy hu,(aY h hg i).cy hv,Sem.run_bind,h1]
    rfl
   ·cases hq
 ·rename_i t x f ho
  obtain⟨r,h1,h2⟩:=LZ (aY h hg x) hq
  simp_all
 ·rename_i x i ho
  split at hq
  ·rename_i ps qK
   have hr:=aY h hg x
   rw[qK] at hr
   generalize hax:a.eval x=vx at hr
   cases hr with
   |cV vs _ hl hc=>
    have hi:i<ps.length:=(zad.1 hq).1
    have hiv:i<vs.length:=by omega
    refine⟨vs[i],?_,hc i _ _ (zae hiv) hq⟩
    simp[ho,hax,Instr.extract,hiv]
  ·cases hq
 ·rename_i t x i ok ho
  split at hq
  ·rename_i z hz
   obtain⟨y,ht,hz⟩:=zbL.1 hz
   obtain⟨r,h1,h2⟩:=HL h ht hz (aY h hg x) (aY h hg i) hq
   simp_all
  ·cases hq
 ·rename_i x ho
  obtain⟨r,h1,h2⟩:=LS h (aY h hg x) hq
  simp_all
 ·rename_i t x lo hi ho
  have LW:(lo.map (s.eg g)=none/\lo.map a.eval=none)\/ ∃p v,lo.map (s.eg g)=some p/\lo.map a.eval=some v/\aF F w G s.rg v p:=by
   cases lo with
   |none=>simp
   |some l=>grind [aY]
  have VQ:(hi.map (s.eg g)=none/\hi.map a.eval=none)\/ ∃p v,hi.map (s.eg g)=some p/\hi.map a.eval=some v/\aF F w G s.rg v p:=by
   cases hi with
   |none=>simp
   |some l=>grind [aY]
  split at hq
  ·rename_i b hb
   split at hq
   ·rename_i l hh hl hhh
    obtain⟨r,h1,h2⟩:=up hq
    have el:lo.map a.eval=l:=by
     cases lo with
     |none=>grind
     |some x'=>
      simp only[zaw] at hl
      obtain⟨v,hv,rfl⟩:=hl
      simp[(aY h hg x').cy hv]
    have eh:hi.map a.eval=hh:=by
     cases hi with
     |none=>grind
     |some x'=>
      simp only[zaw] at hhh
      obtain⟨v,hv,rfl⟩:=hhh
      simp[(aY h hg x').cy hv]
    refine⟨r,?_,h2⟩
    simp only[ho,zcA]
    rw[(aY h hg x).cy hb,el,eh,Sem.run_bind,h1]
    rfl
   ·cases hq
  ·obtain⟨r,h1,h2⟩:=LX h (aY h hg x) LW VQ hq
   simp_all
 ·rename_i t parts ho
  split at hq
  ·rename_i vs LQ
   obtain⟨r,h1,h2⟩:=up hq
   have e1:parts.toList.map (fun x=>a.eval x.2)=vs:=by
    have:=wb h hg (parts.toList.map (·.2)) vs (by grind [Function.comp_def])
    grind [Function.comp_def]
   have e:(parts.map fun(i,x)=>(i,a.eval x))=((parts.toList.map (·.1)).zip vs).toArray:=by
    grind
   simp_all
  ·obtain⟨r,h1,h2⟩:=Ey (vals:=parts.map fun(i,x)=>(i,a.eval x)) hq (by simp) (fun i x y hx hy=>by
    simp only[zcX,zaJ,zaw] at hx hy
    obtain⟨x1,Ch,rfl⟩:=hx
    obtain⟨y1,zG,rfl⟩:=hy
    rw[Ch] at zG
    cases zG
    exact⟨rfl,aY h hg x1.2⟩)
   simp_all
 ·rename_i f first cG ho
  split at hq
  ·rename_i qhA
   have e1:first= #[]:=by grind
   subst e1
   simp only[zal] at hq
   subst hq
   refine⟨.func (.func f) #[] (cG.map a.eval),?_,?_⟩
   ·simp[ho,Instr.makeFunc]
   ·have:=aF.fn (F:=F) (w:=w) (G:=G) (R:=s.rg) f (cG.toList.map a.eval) (cG.toList.map (s.eg g)) (by simp) (fun i v c hv hc=>by
     grind [aY])
    have e:cG.map a.eval=⟨cG.toList.map a.eval⟩:=by grind
    rw[e]
    exact this
  ·cases hq
 ·rename_i c ho
  split at hq
  ·rename_i kS
   split at hq
   ·rename_i x cN
    have ea:c.args= #[x]:=by grind
    split at hq
    ·rename_i u hu
     obtain⟨r,h1,h2⟩:=up hq
     refine⟨r,?_,h2⟩
     have hx:=(aY h hg x).cy hu
     simp[ho,resolve,kS,ea,invoke,builtin,hx,h1]
    ·split at hq
     ·rename_i e het
      obtain⟨t0,ht0,het⟩:=zbL.1 het
      obtain⟨r,h1,h2⟩:=VS (ty:=o.type) ht0 het (aY h hg x) hq
      refine⟨r,?_,h2⟩
      simp[ho,resolve,kS,ea,invoke,builtin,h1]
     ·split at hq
      ·rename_i y Cg
       obtain⟨t0,ht0,Cg⟩:=zbL.1 Cg
       obtain⟨r,h1,h2⟩:=VT (ty:=o.type) h ht0 Cg (aY h hg x) hq
       refine⟨r,?_,h2⟩
       simp[ho,resolve,kS,ea,invoke,builtin,h1]
      ·cases hq
   ·cases hq
  ·rename_i kS
   split at hq
   ·rename_i vs LQ
    obtain⟨r,h1,h2⟩:=up hq
    refine⟨r,?_,h2⟩
    have e:=wb h hg _ _ LQ
    have e2:c.args.map a.eval=vs.toArray:=by grind
    simp[ho,resolve,kS,invoke,builtin,e2,h1]
   ·cases hq
  ·rename_i kS
   split at hq
   ·rename_i vs LQ
    obtain⟨r,h1,h2⟩:=up hq
    refine⟨r,?_,h2⟩
    have e:=wb h hg _ _ LQ
    have e2:c.args.map a.eval=vs.toArray:=by grind
    simp[ho,resolve,kS,invoke,builtin,e2,h1]
   ·cases hq
  ·cases hq
 ·cases hq
end
end Pi
