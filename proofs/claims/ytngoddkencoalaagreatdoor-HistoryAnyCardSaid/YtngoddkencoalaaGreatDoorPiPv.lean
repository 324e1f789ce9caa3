/- The text PiPv. -/
import Derived.Test.YtngoddkencoalaaGreatDoorPiStr
namespace Pi
open Go
section
variable {Q:Program} {T:Tg} {F:Nat->Prop} {G:Nat->Value} {w:World} {a:Act} {s:S}
theorem gC {len l h:Nat} {lo hi:Option P} (hb:dq len lo hi=some (l,h)):l<=h/\h<=len:=by
 unfold dq at hb
 split at hb
 ·cases hb
 ·rename_i h' hh
  have h1:h'<=len:=by
   split at hh
   ·simp at hh;omega
   ·split at hh
    ·simp at hh;omega
    ·cases hh
   ·cases hh
  split at hb
  ·simp at hb;omega
  ·split at hb
   ·simp at hb;omega
   ·cases hb
  ·cases hb
theorem ke {len cap l h:Nat} {lo hi:Option P} {vl vh:Option Value} (hb:dq len lo hi=some (l,h)) (hle:hi=none\/len<=cap)
  (Im:(lo=none/\vl=none)\/ ∃p v,lo=some p/\vl=some v/\aD F w G s.rg v p) (Ta:(hi=none/\vh=none)\/ ∃p v,hi=some p/\vh=some v/\aD F w G s.rg v p):
  (Instr.sliceBounds true len cap vl vh none).run Q w= .ok (l,h,cap) w:=by
 unfold dq at hb
 rcases Ta with⟨rfl,rfl⟩| ⟨p,v,rfl,rfl,hp⟩
 ·simp only at hb
  rcases Im with⟨rfl,rfl⟩| ⟨p,v,rfl,rfl,hp⟩
  ·simp at hb
   obtain⟨rfl,rfl⟩:=hb
   simp[Instr.sliceBounds]
  ·cases p<;>try (simp at hb;done)
   rename_i x
   cases x<;>try (simp at hb;done)
   rename_i k j
   cases hp with
   |d hp=>
    cases hp
    simp only at hb
    split at hb
    ·rename_i hj
     simp at hb
     obtain⟨rfl,rfl⟩:=hb
     simp[Instr.sliceBounds,Instr.sliceBound,asIntOf,hj]
    ·cases hb
 ·cases p<;>try (simp at hb;done)
  rename_i x
  cases x<;>try (simp at hb;done)
  rename_i k j
  cases hp with
  |d hp=>
   cases hp
   have YN:len<=cap:=by rcases hle with h |h;cases h;exact h
   simp only at hb
   by_cases hj:0<=j/\j<=(len:Int)
   ·have hj2:0<=j/\j<=(cap:Int):=⟨hj.1,by omega⟩
    rw[if_pos hj] at hb
    simp only at hb
    rcases Im with⟨rfl,rfl⟩| ⟨p,v,rfl,rfl,hp⟩
    ·simp at hb
     obtain⟨rfl,rfl⟩:=hb
     simp[Instr.sliceBounds,Instr.sliceBound,asIntOf,hj2]
    ·cases p<;>try (simp at hb;done)
     rename_i x
     cases x<;>try (simp at hb;done)
     rename_i k2 j2
     cases hp with
     |d hp=>
      cases hp
      simp only at hb
      split at hb
      ·rename_i hj3
       simp at hb
       obtain⟨rfl,rfl⟩:=hb
       simp[Instr.sliceBounds,Instr.sliceBound,asIntOf,hj2,hj3]
       intro hc
       omega
      ·cases hb
   ·rw[if_neg hj] at hb
    cases hb
theorem tO {F':Nat->Prop} {n:Nat} {ty:TypeId} {fz:Bool} {es:List D} {k len:Nat} (hO:nR Q F w G s.rg n (.arr ty fz es)) (hk:sz Q ty=some k) {v:Value}
  (hv: ∃a N cap,G n= .slice a N cap/\v= .slice a len cap/\len<=N) (hF: ∀b,aL (G n)=some b->F' b) (YQ: ∀b,F b->F' b):aW F' w v (.sl k (es.take len)):=by
 obtain⟨a0,N,cap,hG,rfl,hle⟩:=hv
 rcases hO with⟨hg,rfl⟩| ⟨b,im,cs,k',hg,hh,lK,fJ,zL,yq,cJ,_,hE⟩
 ·rw[hG] at hg
  simp at hg
  obtain⟨rfl,rfl,rfl⟩:=hg
  have:len=0:=by omega
  subst this
  exact .Mm _ _ _
 ·rw[hk] at lK
  cases lK
  rw[hG] at hg
  simp at hg
  obtain⟨rfl,rfl,rfl⟩:=hg
  have hlen:(es.take len).length=len:=by simp;omega
  have r4: ∀i x,(es.take len)[i]?=some x->es[i]?=some x:=fun i x hx=>by
   rw[List.getElem?_take] at hx
   split at hx
   ·exact hx
   ·cases hx
  have iS: ∀x,x∈es.take len-> ∃i,es[i]?=some x:=fun x hx=>by
   obtain⟨i,hi⟩:=List.getElem?_of_mem hx
   exact⟨i,r4 i x hi⟩
  have:=aW.Na (F:=F') (w:=w) b 0 k cap (es.take len) (fun i=>cs.getD i undef) (by omega) (hF b (by simp[hG,aL])) (fun x hx=>by obtain⟨i,hi⟩:=iS x hx;exact(hE i x hi).1)
   (fun x hx=>by obtain⟨i,hi⟩:=iS x hx;exact(hE i x hi).2.1) (fun i hi=>by
    rw[hlen] at hi
    have:i<cs.size:=by rw[cJ];exact Nat.lt_of_lt_of_le hi (Nat.mul_le_mul_right _ (by omega))
    rw[Nat.zero_add,cell_of_row w b i cs ty (0,0) hh]
    simp[Array.getD,this]) (fun i j x c hx hc=>((hE i x (r4 i x hx)).2.2 j c hc).mono YQ (fun _ _=>rfl))
  rwa [hlen] at this
theorem Bh {F':Nat->Prop} {n:Nat} {ty:TypeId} {fz:Bool} {es:List D} {k off len:Nat} (hO:nR Q F w G s.rg n (.arr ty fz es)) (hk:sz Q ty=some k) {v:Value}
  (hv: ∃a N cap,G n= .slice a N cap/\off+len<=N/\ ∃a' im,v= .slice a' len im/\len<=im/\(len=0\/ ∃b,a=some ⟨b,0,none⟩/\a'=some ⟨b,off*k,none⟩)) (hF: ∀b,aL (G n)=some b->F' b) (YQ: ∀b,F b->F' b):aW F' w v (.sl k ((es.drop off).take len)):=by
 obtain⟨a0,N,cap,hG,hle,a1,pV,rfl,Nf,hz⟩:=hv
 by_cases h0:len=0
 ·subst h0
  rw[List.take_zero]
  exact .Mm _ _ _
 obtain⟨b0,YO,Ng⟩: ∃b,a0=some ⟨b,0,none⟩/\a1=some ⟨b,off*k,none⟩:=by
  rcases hz with hz |hz
  ·exact absurd hz h0
  ·exact hz
 subst YO Ng
 rcases hO with⟨hg,rfl⟩| ⟨b,im,cs,k',hg,hh,lK,fJ,zL,yq,cJ,_,hE⟩
 ·rw[hG] at hg
  simp at hg
 ·rw[hk] at lK
  cases lK
  rw[hG] at hg
  simp at hg
  obtain⟨rfl,rfl,rfl⟩:=hg
  have hlen:((es.drop off).take len).length=len:=by simp;omega
  have r4: ∀i x,((es.drop off).take len)[i]?=some x->es[off+i]?=some x:=fun i x hx=>by
   rw[List.getElem?_take] at hx
   split at hx
   ·rw[List.getElem?_drop] at hx;exact hx
   ·cases hx
  have iS: ∀x,x∈(es.drop off).take len-> ∃i,es[i]?=some x:=fun x hx=>by
   obtain⟨i,hi⟩:=List.getElem?_of_mem hx
   exact⟨off+i,r4 i x hi⟩
  have:=aW.Na (F:=F') (w:=w) b0 (off*k) k pV ((es.drop off).take len) (fun i=>cs.getD (off*k+i) undef) (by omega) (hF b0 (by simp[hG,aL])) (fun x hx=>by obtain⟨i,hi⟩:=iS x hx;exact(hE i x hi).1)
   (fun x hx=>by obtain⟨i,hi⟩:=iS x hx;exact(hE i x hi).2.1) (fun i hi=>by
    rw[hlen] at hi
    have h2:off*k+i<cs.size:=by
     rw[cJ]
     calc off*k+i<off*k+len*k:=by omega
      _=(off+len)*k:=by rw[Nat.add_mul]
      _<=cap*k:=Nat.mul_le_mul_right _ (by omega)
    rw[cell_of_row w b0 (off*k+i) cs ty (0,0) hh]
    simp[Array.getD,h2]) (fun i j x c hx hc=>by
    have:=((hE (off+i) x (r4 i x hx)).2.2 j c hc).mono YQ (fun _ _=>rfl)
    rw[Nat.add_mul,Nat.add_assoc] at this
    exact this)
  rwa [hlen] at this
theorem Nq (h:aB Q T F G w a s) {t:TypeId} {v:Value} {p:P} {lo:Option P} (hv:aD F w G s.rg v p):aD F w G s.rg v (nE Q s t p lo):=by
 unfold nE
 split
 ·rename_i n aU len
  split
  ·rename_i x ty es k _ ho hk
   split
   ·rename_i k' lK
    split
    ·rename_i jh
     have jh:=Nat.eq_of_beq_eq_true jh
     subst jh
     obtain⟨e,he,dI,bR⟩:=S.bF ho
     have hO:=h.rg n e he
     rw[bR] at hO
     cases hv with
     |sl _ _ _ _ _ hr=>
      have DA:=hr.at he dI (by rw[bR];rfl)
      refine .d (tO hO lK DA (fun b hb=> ?_) (fun _ h=>h))
      rcases hO with⟨hg,_⟩| ⟨b',cap,cs,k2,hg,_,_,_,_,_,_,hf,_⟩
      ·rw[hg] at hb;cases hb
      ·rw[hg] at hb
       simp[aL] at hb
       subst hb
       exact hf rfl
    ·exact hv
   ·exact hv
  ·exact hv
 ·exact hv
theorem Ka (h:aB Q T F G w a s) {t:TypeId} {v:Value} {p q:P} {lo hi:Option P} {vl vh:Option Value} (hv:aD F w G s.rg v p)
  (Im:(lo=none/\vl=none)\/ ∃p v,lo=some p/\vl=some v/\aD F w G s.rg v p) (Ta:(hi=none/\vh=none)\/ ∃p v,hi=some p/\vh=some v/\aD F w G s.rg v p)
  (hq:lj Q s t p lo hi=some q): ∃x,(Instr.sliceAt t v vl vh none).run Q w= .ok x w/\aD F w G s.rg x q:=by
 unfold lj at hq
 replace hv:=Nq h (t:=t) (lo:=lo) hv
 generalize nE Q s t p lo=p at hq hv
 unfold vg at hq
 split at hq
 ·cases hq
 ·rename_i e het
  have nF:=dv het
  split at hq
  ·rename_i k hk
   cases hv with
   |d hv=>
    cases hv with
    |Mm a0 k' cap=>
     simp only at hq
     split at hq
     ·split at hq
      ·rename_i l hh hb
       have:=gC hb
       have Tb:l=0/\hh=0:=by simp at this;omega
       obtain⟨rfl,rfl⟩:=Tb
       simp at hq
       subst hq
       refine⟨.slice (if cap=0 then a0 else a0.map (·.add (0*(k+1)))) 0 cap,?_,.d (.Mm _ _ _)⟩
       have cU:=ke (Q:=Q) (s:=s) (F:=F) (w:=w) (G:=G) (cap:=cap) hb (by simp) Im Ta
       simp only[List.length_nil] at cU
       simp[Instr.sliceAt,run_underlying nF,Instr.slice,cU,run_sizeOf hk]
      ·cases hq
     ·cases hq
    |Na b off k' cap es f A9 hb jh bY hw hr=>
     simp only at hq
     split at hq
     ·rename_i lK
      have lK:k'=k+1:=by simpa using lK
      subst lK
      split at hq
      ·rename_i l hh Bi
       have hle:=gC Bi
       simp at hq
       subst hq
       ·have cU:=ke (Q:=Q) (s:=s) (F:=F) (w:=w) (G:=G) (cap:=cap) Bi (.inr A9) Im Ta
        refine⟨_,by simp[Instr.sliceAt,run_underlying nF,Instr.slice,cU,run_sizeOf hk];rfl,?_⟩
        by_cases h0:hh-l=0
        ·rw[h0]
         have e0:(es.take hh).drop l=[]:=List.eq_nil_of_length_eq_zero (by simp;omega)
         rw[e0]
         exact .d (.Mm _ _ _)
        ·have dz: ¬cap=l:=by omega
         rw[if_neg dz]
         have hlen:((es.take hh).drop l).length=hh-l:=by simp;omega
         have r4: ∀i x,((es.take hh).drop l)[i]?=some x->es[l+i]?=some x:=fun i x hx=>by
          rw[List.getElem?_drop,List.getElem?_take] at hx
          split at hx
          ·exact hx
          ·cases hx
         have iS: ∀x,x∈(es.take hh).drop l->x∈es:=fun x hx=>List.mem_of_mem_take (List.mem_of_mem_drop hx)
         rw[<-hlen,addr_add]
         refine .d (.Na b (off+l*(k+1)) (k+1) (cap-l) _ (fun i=>f (l*(k+1)+i)) (by rw[hlen];omega) hb (fun x hx=>jh x (iS x hx)) (fun x hx=>bY x (iS x hx)) (fun i hi=> ?_) (fun i j x c hx hc=> ?_))
         ·rw[Nat.add_assoc]
          refine hw _ ?_
          rw[hlen] at hi
          calc l*(k+1)+i<l*(k+1)+(hh-l)*(k+1):=by omega
           _=(l+(hh-l))*(k+1):=by rw[Nat.add_mul]
           _<=es.length*(k+1):=Nat.mul_le_mul_right _ (by omega)
         ·have:=hr _ _ _ _ (r4 i x hx) hc
          rw[Nat.add_mul] at this
          simpa [Nat.add_assoc] using this
      ·cases hq
     ·cases hq
    |_=>cases hq
   |sl n aU len v h1 hr=>
    simp only at hq
    split at hq
    ·rename_i ty fz es ho
     split at hq
     ·rename_i l hh Bi
      simp at hq
      subst hq
      obtain⟨en,he,dI,bR⟩:=S.bF ho
      obtain⟨a0,N,cap,hG,rfl,hle⟩:=hr.at he dI (by rw[bR];rfl)
      have hO:=h.rg n en he
      rw[bR] at hO
      have hNc:N<=cap:=by
       rcases hO with⟨j8,_⟩| ⟨b',im,cs,k2,j8,_,_,_,YN,_⟩
       ·rw[hG] at j8;simp at j8;omega
       ·rw[hG] at j8;simp at j8;omega
      have cU:=ke (Q:=Q) (s:=s) (F:=F) (w:=w) (G:=G) (cap:=cap) Bi (.inr (by omega)) (.inl ⟨rfl,rfl⟩) Ta
      have hbs:=gC Bi
      have Tb:l=0:=by
       unfold dq at Bi
       split at Bi
       ·cases Bi
       ·simp at Bi;exact Bi.1.symm
      subst Tb
      have Sf:vl=none:=by
       rcases Im with⟨_,h⟩| ⟨_,_,h,_⟩
       ·exact h
       ·cases h
      subst Sf
      refine⟨.slice a0 hh cap,?_,.sl n aU hh _ rfl ⟨en,he,by omega,fun _ _=>⟨a0,N,cap,hG,rfl,by omega⟩⟩⟩
      have hz: ∀x:Addr,x.add 0=x:=fun x=>by simp[Addr.add]
      simp only[Instr.sliceAt,Instr.slice,Sem.run_bind,run_underlying nF,Result.andThen_ok,cU,run_sizeOf hk]
      cases a0<;>simp[hz]
     ·cases hq
    ·rename_i ty fz es lo0 ho
     split at hq
     ·rename_i k' lK
      split at hq
      ·split at hq
       ·rename_i l hh Bi
        simp at hq
        subst hq
        obtain⟨en,he,dI,bR⟩:=S.bF ho
        obtain⟨a0,N,cap,hG,rfl,hle⟩:=hr.at he dI (by rw[bR];rfl)
        have hO:=h.rg n en he
        rw[bR] at hO
        have hbs:=gC Bi
        have hNc:N<=cap/\(N=0\/ ∃b,a0=some ⟨b,0,none⟩):=by
         rcases hO with⟨j8,_⟩| ⟨b',im,cs,k2,j8,_,_,_,YN,_⟩
         ·rw[hG] at j8;simp at j8;exact⟨by omega,.inl j8.2.1⟩
         ·rw[hG] at j8;simp at j8;exact⟨by omega,.inr ⟨b',j8.1⟩⟩
        have cU:=ke (Q:=Q) (s:=s) (F:=F) (w:=w) (G:=G) (cap:=cap) Bi (.inr (by omega)) Im Ta
        refine⟨.slice (if cap=l then a0 else a0.map (·.add (l*(k+1)))) (hh-l) (cap-l),by simp[Instr.sliceAt,run_underlying nF,Instr.slice,cU,run_sizeOf hk],.kT n aU (k+1) l (hh-l) _ rfl ⟨en,he,by omega,fun _ _=>⟨a0,N,cap,hG,by omega,_,_,rfl,by omega,?_⟩⟩⟩
        by_cases h0:hh-l=0
        ·exact .inl h0
        ·rcases hNc.2 with h1 | ⟨b,h1⟩
         ·omega
         ·refine .inr ⟨b,h1,?_⟩
          rw[if_neg (by omega),h1]
          simp[addr_add]
       ·cases hq
      ·cases hq
     ·cases hq
    ·cases hq
   |kT n aU k0 off len v h1 hr=>
    simp only at hq
    split at hq
    ·rename_i ty fz es ho
     split at hq
     ·rename_i jh
      have jh:=Nat.eq_of_beq_eq_true jh
      subst jh
      split at hq
      ·rename_i l hh Bi
       simp at hq
       subst hq
       obtain⟨en,he,dI,bR⟩:=S.bF ho
       obtain⟨a0,N,cap,hG,hle,a1,pV,rfl,Nf,hz⟩:=hr.at he dI (by rw[bR];rfl)
       have hbs:=gC Bi
       have cU:=ke (Q:=Q) (s:=s) (F:=F) (w:=w) (G:=G) (cap:=pV) Bi (.inr Nf) Im Ta
       refine⟨.slice (if pV=l then a1 else a1.map (·.add (l*(k+1)))) (hh-l) (pV-l),by simp[Instr.sliceAt,run_underlying nF,Instr.slice,cU,run_sizeOf hk],.kT n aU (k+1) (off+l) (hh-l) _ rfl ⟨en,he,by omega,fun _ _=>⟨a0,N,cap,hG,by omega,_,_,rfl,by omega,?_⟩⟩⟩
       by_cases h0:hh-l=0
       ·exact .inl h0
       ·rcases hz with hz | ⟨b,h2,h3⟩
        ·omega
        ·refine .inr ⟨b,h2,?_⟩
         rw[if_neg (by omega),h3]
         simp[addr_add,Nat.add_mul]
      ·cases hq
     ·cases hq
    ·cases hq
   |_=>cases hq
  ·cases hq
theorem mL {t e ty:TypeId} {at':Array TypeId} (h0:at'[0]?=some t) (nF:Q.underlying t=some (.slice e)) (b:Option Addr) (n c:Nat) (w:World):(Builtin.len_ at' ty #[.slice b n c]).run Q w= .ok (goInt n) w:=by
 simp[Builtin.len_,h0,run_underlying nF]
theorem Tc {t e:TypeId} {ty:TypeId} {at':Array TypeId} (h0:at'[0]?=some t) (het:cE Q t=some e) {v:Value} {p q:P} (hv:aD F w G s.rg v p) (hq:Dk s p=some q):
  ∃x,(Builtin.len_ at' ty #[v]).run Q w= .ok x w/\aD F w G s.rg x q:=by
 have nF:=dv het
 unfold Dk at hq
 cases hv with
 |sl n aU len v h1 hr=>
  simp only at hq
  split at hq
  ·rename_i hl
   simp at hq
   subst hq
   obtain⟨en,he,dI,hl⟩:=S.dj hl
   obtain⟨a0,N,cap,hG,rfl,hle⟩:=hr.at he dI hl
   exact⟨_,mL h0 nF a0 len cap w,.d (.int _ _)⟩
  ·cases hq
 |kT n aU k off len v h1 hr=>
  simp only at hq
  split at hq
  ·rename_i hl
   simp at hq
   subst hq
   obtain⟨en,he,dI,hl⟩:=S.dj hl
   obtain⟨a0,N,cap,hG,hle,a1,pV,rfl,_,_⟩:=hr.at he dI hl
   exact⟨_,mL h0 nF a1 len pV w,.d (.int _ _)⟩
  ·cases hq
 |d hv=>
  cases hv with
  |Mm a0 k' cap=>
   simp at hq
   subst hq
   exact⟨_,mL h0 nF a0 0 cap w,.d (.int _ _)⟩
  |Na b off k' cap es f A9 hb jh bY hw hr=>
   simp at hq
   subst hq
   exact⟨_,mL h0 nF _ _ cap w,.d (.int _ _)⟩
  |_=>cases hq
 |_=>cases hq
theorem Te (h:aB Q T F G w a s) {t:TypeId} {y:TypeId×TypeId} {ty:TypeId} {at':Array TypeId} (h0:at'[0]?=some t) (wh:jt Q t=some y) {v:Value} {p q:P} (hv:aD F w G s.rg v p) (hq:Dl s p=some q):
  ∃x,(Builtin.len_ at' ty #[v]).run Q w= .ok x w/\aD F w G s.rg x q:=by
 obtain⟨kt,e⟩:=y
 have nF:=iq wh
 unfold Dl at hq
 split at hq
 ·rename_i n aU
  split at hq
  ·rename_i kt2 get c last ho
   simp only[Option.some.injEq] at hq
   subst hq
   obtain⟨e0,_,_,_,zJ,b,es,clock,hG,hb,hM⟩:=Dx h hv ho
   rw[hG] at zJ
   subst zJ
   obtain⟨ks,_,hc,_⟩:=hM
   refine⟨goInt es.size,by simp[Builtin.len_,h0,run_underlying nF,MapKept.run_getObj_map hb],?_⟩
   rw[hc]
   simp only[Array.length_toList]
   exact .d (.int _ _)
  ·cases hq
 ·cases hq
theorem zM {x y:Value} {p q:P} {r:Bool} (hx:aD F w G s.rg x p) (hy:aD F w G s.rg y q) (hr:sR s p q=some r):
  r=false/\((∃b,x= .pointer (some b)/\y= .pointer none)\/ ∃b,x= .pointer none/\y= .pointer (some b)):=by
 unfold sR at hr
 split at hr
 ·cases hx with
  |ref n aU off v h h1=>
   cases hy with |d hy=>cases hy;(split at hr)<;>simp at hr;rename_i hl;obtain⟨e,he,dI,hl⟩:=S.dj hl;obtain⟨b,_,hv⟩:=h.at he dI hl;exact⟨hr.symm▸rfl,.inl ⟨_,hv,rfl⟩⟩
 ·cases hx with
  |dn n aU i k off v h1 h=>
   cases hy with |d hy=>cases hy;(split at hr)<;>simp at hr;rename_i hl;obtain⟨e,he,dI,hl⟩:=S.dj hl;obtain⟨b,_,_,_,hv⟩:=h.at he dI hl;exact⟨hr.symm▸rfl,.inl ⟨_,hv,rfl⟩⟩
 ·cases hy with
  |ref n aU off v h h1=>
   cases hx with |d hx=>cases hx;(split at hr)<;>simp at hr;rename_i hl;obtain⟨e,he,dI,hl⟩:=S.dj hl;obtain⟨b,_,hv⟩:=h.at he dI hl;exact⟨hr.symm▸rfl,.inr ⟨_,rfl,hv⟩⟩
 ·cases hy with
  |dn n aU i k off v h1 h=>
   cases hx with |d hx=>cases hx;(split at hr)<;>simp at hr;rename_i hl;obtain⟨e,he,dI,hl⟩:=S.dj hl;obtain⟨b,_,_,_,hv⟩:=h.at he dI hl;exact⟨hr.symm▸rfl,.inr ⟨_,rfl,hv⟩⟩
 ·cases hx with |eS=>cases hy with |d hy=>cases hy;simp at hr;exact⟨hr.symm▸rfl,.inl ⟨_,rfl,rfl⟩⟩
 ·cases hy with |eS=>cases hx with |d hx=>cases hx;simp at hr;exact⟨hr.symm▸rfl,.inr ⟨_,rfl,rfl⟩⟩
 ·cases hr
theorem uP (d:Nat) {t e:TypeId} (ht:Q.underlying t=some (.pointer e)) {x y:Value} (h:(∃b,x= .pointer (some b)/\y= .pointer none)\/ ∃b,x= .pointer none/\y= .pointer (some b)) (w:World):
  (Op.equalIn (d+1) t x y).run Q w= .ok false w:=by
 rcases h with⟨b,rfl,rfl⟩| ⟨b,rfl,rfl⟩<;>simp[Op.equalIn,run_underlying ht]
theorem tP {t e:TypeId} (ht:Q.underlying t=some (.pointer e)) {x y:Value} (h:(∃b,x= .pointer (some b)/\y= .pointer none)\/ ∃b,x= .pointer none/\y= .pointer (some b)) (op:BinOp) (ox oy:Operand) (w:World)
  (tQ:op= .eql\/op= .neq):(do eqGuard op t ox oy x y;Go.binOp op t x y:Sem Value).run Q w= .ok (.bool (op matches .neq)) w:=by
 have he:=uP (Q:=Q) 9999 ht h w
 rcases h with⟨b,rfl,rfl⟩| ⟨b,rfl,rfl⟩<;>rcases tQ with rfl |rfl<;>simp only[eqGuard,Go.binOp,Op.equal,Op.maxDepth]<;>simp[he]
theorem vj (h:aB Q T F G w a s) {g:Option (Nat×Bool)} (hg:kZ a g): ∀(xs:List Operand) (vs:List Value),cR (xs.map (s.eg g))=some vs->xs.map a.eval=vs
 | [],vs,hv=>by simp[cR] at hv;simp[hv]
 |x::xs,vs,hv=>by
  simp only[List.map_cons,cR] at hv
  cases h1:(s.eg g x).cw with
  |none=>simp[h1] at hv
  |some v=>
   cases h2:cR (xs.map (s.eg g)) with
   |none=>simp[h1,h2] at hv
   |some us=>
    simp[h1,h2] at hv
    subst hv
    rw[List.map_cons,vj h hg xs us h2,(aV h hg x).cw h1]
theorem Io {v:Value} {p:P} {ps:List P} (hv:aD F w G s.rg v p) (h:p.FU=some ps): ∃vs:List Value,v= .agg ⟨vs⟩/\vs.length=ps.length/\(∀u∈vs,u.oneCell'=true)/\ ∀(i:Nat) (c:P),ps[i]?=some c->aD F w G s.rg (vs.getD i undef) c:=by
 cases hv with
 |agg vs ps' hl gm hc=>
  simp[P.FU] at h
  subst h
  refine⟨vs,rfl,hl,gm,fun i c hi=> ?_⟩
  have bk:i<vs.length:=by have:=(List.getElem?_eq_some_iff.1 hi).1;omega
  have:=hc i vs[i] c (List.getElem?_eq_getElem bk) hi
  simpa [List.getD_eq_getElem?_getD,bk] using this
 |d hd=>
  cases hd with
  |agg vs cs hl bY hc=>
   simp[P.FU] at h
   subst h
   refine⟨vs,rfl,by simpa using hl,fun u hu=> ?_,fun i c hi=> ?_⟩
   ·obtain⟨i,hi⟩:=List.getElem?_of_mem hu
    have bk:i<cs.length:=by have:=(List.getElem?_eq_some_iff.1 hi).1;omega
    exact(hc i u cs[i] hi (List.getElem?_eq_getElem bk)).mK (bY _ (List.getElem_mem bk))
   ·rw[List.getElem?_map] at hi
    cases hx:cs[i]? with
    |none=>rw[hx] at hi;cases hi
    |some x=>
     rw[hx] at hi
     cases hi
     have bk:i<vs.length:=by have:=(List.getElem?_eq_some_iff.1 hx).1;omega
     have:=hc i vs[i] x (List.getElem?_eq_getElem bk) hx
     refine .d ?_
     simpa [List.getD_eq_getElem?_getD,bk] using this
  |_=>simp[P.FU] at h
 |_=>simp[P.FU] at h
theorem Ip {t:TypeId} {vs:List Value} {ps:List P} {off:Nat} {q:P} (hl:vs.length=ps.length) (gm: ∀u∈vs,u.oneCell'=true) (hc: ∀(i:Nat) (c:P),ps[i]?=some c->aD F w G s.rg (vs.getD i undef) c) (hq:zt Q t ps off=some q):
  ∃r,(Go.part t ⟨vs⟩ off).run Q w= .ok r w/\aD F w G s.rg r q:=by
 obtain⟨k,hk,hb,hr⟩:=Dr (R:=s.rg) hq (fun i=>vs.getD i undef) (fun i hi=>by
  have bk:i<vs.length:=by omega
  simp only[List.getD_eq_getElem?_getD,List.getElem?_eq_getElem bk,Option.getD_some]
  exact gm _ (List.getElem_mem bk)) hc
 exact⟨_,Nd hk vs off (fun j hj=>by rw[hl];exact hb j hj) w,hr⟩
theorem Kb {t:TypeId} {f:Nat} {v:Value} {p q:P} (hv:aD F w G s.rg v p) (hq:FV Q t f p=some q): ∃r,(Instr.field t v f).run Q w= .ok r w/\aD F w G s.rg r q:=by
 unfold FV at hq
 split at hq
 ·rename_i fs ps ht r3
  obtain⟨vs,rfl,hl,gm,hc⟩:=Io hv r3
  split at hq
  ·rename_i fl yH
   obtain⟨r,h1,h2⟩:=Ip hl gm hc hq
   refine⟨r,?_,h2⟩
   simp[Instr.field,run_underlying ht,yH,asAgg,h1]
  ·cases hq
 ·cases hq
theorem Kc {t e:TypeId} {n:Nat} {v u:Value} {p i q:P} (ht:Q.underlying t=some (.array n e)) (hv:aD F w G s.rg v p) (hu:aD F w G s.rg u i) (hq:FW Q n e p i=some q):
  ∃r,(Instr.index t v u).run Q w= .ok r w/\aD F w G s.rg r q:=by
 unfold FW at hq
 split at hq
 ·rename_i ps kk j k r3 hk
  obtain⟨vs,rfl,hl,gm,hc⟩:=Io hv r3
  cases hu with
  |d hu=>
   cases hu
   split at hq
   ·rename_i hj
    obtain⟨r,h1,h2⟩:=Ip hl gm hc hq
    refine⟨r,?_,h2⟩
    simp[Instr.index,asIntOf,run_underlying ht,hj,run_sizeOf hk,h1]
   ·cases hq
 ·cases hq
theorem qda (h:aB Q T F G w a s) {g:Option (Nat×Bool)} (hg:kZ a g) {o:Oper} {q:P} (hq:pv Q s o g=some q):
  ∃v,(execOp a.eval o).run Q w= .ok (.value v) w/\aD F w G s.rg v q:=by
 have up: ∀{m:Sem Value} {q:P},dM Q m=some q-> ∃v,m.run Q w= .ok v w/\aD F w G s.rg v q:=fun hh=>J6 hh F w G s.rg
 unfold pv at hq
 unfold execOp
 split at hq
 ·rename_i x hx
  simp at hq
  subst hq
  exact⟨a.eval x,by simp[hx],aV h hg x⟩
 ·rename_i x hx
  simp at hq
  subst hq
  exact⟨a.eval x,by simp[hx],aV h hg x⟩
 ·rename_i c x y ho
  split at hq
  ·rename_i r hc
   simp at hq
   subst hq
   have hcv:a.eval c= .bool r:=(aV h hg c).cw (by rw[hc];rfl)
   cases r with
   |true=>exact⟨a.eval x,by simp[ho,hcv,asBool],aV h hg x⟩
   |false=>exact⟨a.eval y,by simp[ho,hcv,asBool],aV h hg y⟩
  ·cases hq
 ·rename_i x ho
  obtain⟨rfl,hv⟩:=yG (aV h hg x) hq
  have hr:=aV h hg x
  rcases hv with⟨b,hv⟩| ⟨f,c1,c2,hv⟩
  ·exact⟨a.eval x,by simp[ho,hv],hr⟩
  ·exact⟨a.eval x,by simp[ho,hv],hr⟩
 ·rename_i op t x y yt ho
  unfold nP at hq
  split at hq
  ·rename_i u v hu hv
   obtain⟨r,h1,h2⟩:=up hq
   refine⟨r,?_,h2⟩
   simp only[ho]
   rw[(aV h hg x).cw hu,(aV h hg y).cw hv,Sem.run_bind,h1]
   rfl
  ·split at hq
   ·rename_i hh Nr
    simp at hq
    subst hq
    obtain⟨rfl,hcs⟩:=zM (aV h hg x) (aV h hg y) Nr
    refine⟨_,?_,.d (.bool _)⟩
    simp only[ho]
    rw[Sem.run_bind,tP hh hcs .eql x y w (.inl rfl)]
    rfl
   ·rename_i hh Nr
    simp at hq
    subst hq
    obtain⟨rfl,hcs⟩:=zM (aV h hg x) (aV h hg y) Nr
    refine⟨_,?_,.d (.bool _)⟩
    simp only[ho]
    rw[Sem.run_bind,tP hh hcs .neq x y w (.inr rfl)]
    rfl
   ·cases hq
 ·rename_i op t x ho
  split at hq
  ·rename_i u hu
   obtain⟨r,h1,h2⟩:=up hq
   refine⟨r,?_,h2⟩
   simp only[ho]
   rw[(aV h hg x).cw hu,Sem.run_bind,h1]
   rfl
  ·cases hq
 ·rename_i t1 t2 x ho
  split at hq
  ·rename_i u hu
   obtain⟨r,h1,h2⟩:=up hq
   refine⟨r,?_,h2⟩
   simp only[ho]
   rw[(aV h hg x).cw hu,Sem.run_bind,h1]
   rfl
  ·cases hq
 ·rename_i t x ho
  obtain⟨r,h1,h2⟩:=Dt h (aV h hg x) hq
  refine⟨r,?_,h2⟩
  simp only[ho]
  rw[Sem.run_bind,h1]
  rfl
 ·rename_i t x f ho
  obtain⟨r,h1,h2⟩:=yI (aV h hg x) hq
  refine⟨r,?_,h2⟩
  simp only[ho]
  rw[Sem.run_bind,h1]
  rfl
 ·rename_i t x i ho
  obtain⟨r,h1,h2⟩:=yJ h (aV h hg x) (aV h hg i) hq
  refine⟨r,?_,h2⟩
  simp only[ho]
  rw[Sem.run_bind,h1]
  rfl
 ·rename_i t x i ho
  split at hq
  ·rename_i n e ht
   obtain⟨r,h1,h2⟩:=Kc ht (aV h hg x) (aV h hg i) hq
   refine⟨r,?_,h2⟩
   simp only[ho]
   rw[Sem.run_bind,h1]
   rfl
  ·split at hq
   ·rename_i u v hu hv
    obtain⟨r,h1,h2⟩:=up hq
    refine⟨r,?_,h2⟩
    simp only[ho]
    rw[(aV h hg x).cw hu,(aV h hg i).cw hv,Sem.run_bind,h1]
    rfl
   ·cases hq
 ·rename_i t x f ho
  obtain⟨r,h1,h2⟩:=Kb (aV h hg x) hq
  refine⟨r,?_,h2⟩
  simp only[ho]
  rw[Sem.run_bind,h1]
  rfl
 ·rename_i x i ho
  split at hq
  ·rename_i ps r3
   have hr:=aV h hg x
   rw[r3] at hr
   generalize hax:a.eval x=vx at hr
   cases hr with
   |da vs _ hl hc=>
    have hi:i<ps.length:=(List.getElem?_eq_some_iff.1 hq).1
    have hiv:i<vs.length:=by omega
    refine⟨vs[i],?_,hc i _ _ (List.getElem?_eq_getElem hiv) hq⟩
    simp[ho,hax,Instr.extract,hiv]
  ·cases hq
 ·rename_i t x i ok ho
  split at hq
  ·rename_i z hz
   obtain⟨y,ht,hz⟩:=Option.bind_eq_some_iff.1 hz
   obtain⟨kt,e⟩:=y
   obtain⟨r,h1,h2⟩:=Gf h ht hz (aV h hg x) (aV h hg i) hq
   refine⟨r,?_,h2⟩
   simp only[ho]
   rw[Sem.run_bind,h1]
   rfl
  ·cases hq
 ·rename_i x ho
  obtain⟨r,h1,h2⟩:=J7 h (aV h hg x) hq
  refine⟨r,?_,h2⟩
  simp only[ho]
  rw[Sem.run_bind,h1]
  rfl
 ·rename_i t x lo hi ho
  have Im:(lo.map (s.eg g)=none/\lo.map a.eval=none)\/ ∃p v,lo.map (s.eg g)=some p/\lo.map a.eval=some v/\aD F w G s.rg v p:=by
   cases lo with
   |none=>exact .inl ⟨rfl,rfl⟩
   |some l=>exact .inr ⟨_,_,rfl,rfl,aV h hg l⟩
  have Ta:(hi.map (s.eg g)=none/\hi.map a.eval=none)\/ ∃p v,hi.map (s.eg g)=some p/\hi.map a.eval=some v/\aD F w G s.rg v p:=by
   cases hi with
   |none=>exact .inl ⟨rfl,rfl⟩
   |some l=>exact .inr ⟨_,_,rfl,rfl,aV h hg l⟩
  split at hq
  ·rename_i b hb
   split at hq
   ·rename_i l hh hl hhh
    obtain⟨r,h1,h2⟩:=up hq
    have el:lo.map a.eval=l:=by
     cases lo with
     |none=>simp at hl;simp[<-hl]
     |some x'=>
      simp only[Option.map_eq_some_iff] at hl
      obtain⟨v,hv,rfl⟩:=hl
      simp[(aV h hg x').cw hv]
    have eh:hi.map a.eval=hh:=by
     cases hi with
     |none=>simp at hhh;simp[<-hhh]
     |some x'=>
      simp only[Option.map_eq_some_iff] at hhh
      obtain⟨v,hv,rfl⟩:=hhh
      simp[(aV h hg x').cw hv]
    refine⟨r,?_,h2⟩
    simp only[ho,Option.map_none]
    rw[(aV h hg x).cw hb,el,eh,Sem.run_bind,h1]
    rfl
   ·cases hq
  ·obtain⟨r,h1,h2⟩:=Ka h (aV h hg x) Im Ta hq
   refine⟨r,?_,h2⟩
   simp only[ho,Option.map_none]
   rw[Sem.run_bind,h1]
   rfl
 ·rename_i t parts ho
  split at hq
  ·rename_i vs Ii
   obtain⟨r,h1,h2⟩:=up hq
   have e1:parts.toList.map (fun x=>a.eval x.2)=vs:=by
    have:=vj h hg (parts.toList.map (·.2)) vs (by simpa [Function.comp_def] using Ii)
    simpa [Function.comp_def] using this
   have e:(parts.map fun(i,x)=>(i,a.eval x))=((parts.toList.map (·.1)).zip vs).toArray:=by
    rw[<-e1]
    apply Array.toList_inj.1
    simp[List.zip_map']
   refine⟨r,?_,h2⟩
   simp only[ho]
   rw[e,Sem.run_bind,h1]
   rfl
  ·obtain⟨r,h1,h2⟩:=Dz (vals:=parts.map fun(i,x)=>(i,a.eval x)) hq (by simp) (fun i x y hx hy=>by
    simp only[Array.toList_map,List.getElem?_map,Option.map_eq_some_iff] at hx hy
    obtain⟨x1,Bj,rfl⟩:=hx
    obtain⟨y1,uQ,rfl⟩:=hy
    rw[Bj] at uQ
    cases uQ
    exact⟨rfl,aV h hg x1.2⟩)
   refine⟨r,?_,h2⟩
   simp only[ho]
   rw[Sem.run_bind,h1]
   rfl
 ·rename_i f first cy ho
  split at hq
  ·rename_i YR
   have e1:first= #[]:=by apply Array.toList_inj.1;simpa using YR
   subst e1
   simp only[Option.some.injEq] at hq
   subst hq
   refine⟨.func (.func f) #[] (cy.map a.eval),?_,?_⟩
   ·simp[ho,Instr.makeFunc]
   ·have:=aD.fn (F:=F) (w:=w) (G:=G) (R:=s.rg) f (cy.toList.map a.eval) (cy.toList.map (s.eg g)) (by simp) (fun i v c hv hc=>by
     simp only[List.getElem?_map,Option.map_eq_some_iff] at hv hc
     obtain⟨x1,Bj,rfl⟩:=hv
     obtain⟨y1,uQ,rfl⟩:=hc
     rw[Bj] at uQ
     cases uQ
     exact aV h hg x1)
    have e:cy.map a.eval=⟨cy.toList.map a.eval⟩:=by apply Array.toList_inj.1;simp
    rw[e]
    exact this
  ·cases hq
 ·rename_i c ho
  split at hq
  ·rename_i gD
   split at hq
   ·rename_i x b8
    have ea:c.args= #[x]:=by apply Array.toList_inj.1;simpa using b8
    split at hq
    ·rename_i u hu
     obtain⟨r,h1,h2⟩:=up hq
     refine⟨r,?_,h2⟩
     have hx:=(aV h hg x).cw hu
     simp[ho,resolve,gD,ea,invoke,builtin,hx,h1]
    ·split at hq
     ·rename_i e het
      obtain⟨t0,ht0,het⟩:=Option.bind_eq_some_iff.1 het
      obtain⟨r,h1,h2⟩:=Tc (ty:=o.type) ht0 het (aV h hg x) hq
      refine⟨r,?_,h2⟩
      simp[ho,resolve,gD,ea,invoke,builtin,h1]
     ·split at hq
      ·rename_i y wh
       obtain⟨t0,ht0,wh⟩:=Option.bind_eq_some_iff.1 wh
       obtain⟨r,h1,h2⟩:=Te (ty:=o.type) h ht0 wh (aV h hg x) hq
       refine⟨r,?_,h2⟩
       simp[ho,resolve,gD,ea,invoke,builtin,h1]
      ·cases hq
   ·cases hq
  ·rename_i gD
   split at hq
   ·rename_i vs Ii
    obtain⟨r,h1,h2⟩:=up hq
    refine⟨r,?_,h2⟩
    have e:=vj h hg _ _ Ii
    have e2:c.args.map a.eval=vs.toArray:=by rw[<-e];apply Array.toList_inj.1;simp
    simp[ho,resolve,gD,invoke,builtin,e2,h1]
   ·cases hq
  ·rename_i gD
   split at hq
   ·rename_i vs Ii
    obtain⟨r,h1,h2⟩:=up hq
    refine⟨r,?_,h2⟩
    have e:=vj h hg _ _ Ii
    have e2:c.args.map a.eval=vs.toArray:=by rw[<-e];apply Array.toList_inj.1;simp
    simp[ho,resolve,gD,invoke,builtin,e2,h1]
   ·cases hq
  ·cases hq
 ·cases hq
end
end Pi
