/- The text PiPv. -/
import Derived.Test.YtngoddkencoalaaGreatDoorPiStr
namespace Pi
open Go
section
variable{Q:Program}{T:Tg}{F:Nat->Prop}{G:Nat->Value}{w:World}{a:Act}{s:S}
theorem gW{len l h:Nat}{lo hi:Option P}(hb:dB len lo hi=some (l,h)):l<=h/\h<=len:=by unfold dB at hb;grind
theorem kR{len cap l h:Nat}{lo hi:Option P}{vl vh:Option Value}(hb:dB len lo hi=some (l,h))(hle:hi=none\/len<=cap)
  (L7:(lo=none/\vl=none)\/ ∃p v,lo=some p/\vl=some v/\aF F w G s.rg v p) (V4:(hi=none/\vh=none)\/ ∃p v,hi=some p/\vh=some v/\aF F w G s.rg v p):
  (Instr.sliceBounds true len cap vl vh none).run Q w= .ok (l,h,cap) w:=by
 unfold dB at hb;rcases V4 with⟨rfl,rfl⟩| ⟨p,v,rfl,rfl,hp⟩
 ·skip
  rcases L7 with⟨rfl,rfl⟩| ⟨p,v,rfl,rfl,hp⟩
  ·skip
   obtain⟨rfl,rfl⟩:=hb;rfl
  cases p<;>try (simp at hb;done)
  rename_i x;cases x<;>try (simp at hb;done)
  rename_i k j;cases hp with
  |d hp=>
   cases hp;simp only at hb;split at hb
   next hj=>obtain⟨rfl,rfl⟩:=hb;simp[Instr.sliceBounds,Instr.sliceBound,asIntOf,hj]
   cases hb
 cases p<;>try (simp at hb;done)
 rename_i x;cases x<;>try (simp at hb;done)
 rename_i k j;cases hp with
 |d hp=>
  cases hp;have qbz:len<=cap:=by grind
  simp only at hb;by_cases hj:0<=j/\j<=(len:Int)
  ·have hj2:0<=j/\j<=(cap:Int):=⟨hj.1,by omega⟩
   rw[zao hj] at hb;rcases L7 with⟨rfl,rfl⟩| ⟨p,v,rfl,rfl,hp⟩
   ·skip
    obtain⟨rfl,rfl⟩:=hb;simp[Instr.sliceBounds,Instr.sliceBound,asIntOf,hj2]
   cases p<;>try (simp at hb;done)
   rename_i x;cases x<;>try (simp at hb;done)
   rename_i k2 j2;cases hp with
   |d hp=>
    cases hp;simp only at hb;split at hb
    next hj3=>simp[Instr.sliceBounds,Instr.sliceBound,asIntOf,hj2,hj3];grind
    cases hb
  grind
theorem uJ{F':Nat->Prop}{n:Nat}{ty:TypeId}{fz:Bool}{es:List D}{k len:Nat}(hO:oB Q F w G s.rg n (.arr ty fz es))(hk:sz Q ty=some k){v:Value}
  (hv: ∃a N cap,G n= .slice a N cap/\v= .slice a len cap/\len<=N) (hF: ∀b,aR (G n)=some b->F' b) (hFF: ∀b,F b->F' b):a8 F' w v (.sl k (es.take len)):=by
 obtain⟨a0,N,cap,hG,rfl,hle⟩:=hv;rcases hO with⟨hg,rfl⟩| ⟨b,iK,cs,k',hg,hh,mz,gn,G6,zn,dt,_,hE⟩
 ·rw[hG] at hg;simp at hg;have:len=0:=by omega
  subst this;exact .Og _ _ _
 rw[hk] at mz;cases mz;rw[hG] at hg;obtain⟨rfl,rfl,rfl⟩:=hg;have hlen:(es.take len).length=len:=by simp;omega
 have pb: ∀i x,(es.take len)[i]?=some x->es[i]?=some x:=λi x hx=>by
  rw[zbe] at hx;split at hx
  ·exact hx
  cases hx
 have fS: ∀x,x∈es.take len-> ∃i,es[i]?=some x:=λx hx=>by obtain⟨i,hi⟩:=zaS hx;exact⟨i,pb i x hi⟩
 have:=a8.O8 (F:=F') (w:=w) b 0 k cap (es.take len) (λi=>cs.getD i undef) (by omega) (hF b (by simp[hG,aR])) (λx hx=>by obtain⟨i,hi⟩:=fS x hx;exact(hE i x hi).1)
  (λx hx=>by obtain⟨i,hi⟩:=fS x hx;exact(hE i x hi).2.1) (λi hi=>by
   have:i<cs.size:=by rw[dt];exact za4 hi (zaq _ (by omega))
   rw[zaG,cell_of_row w b i cs ty (0,0) hh];simp_all) (λi j x c hx hc=>((hE i x (pb i x hx)).2.2 j c hc).mono hFF (λ_ _=>rfl))
 rwa [hlen] at this
theorem Ci{F':Nat->Prop}{n:Nat}{ty:TypeId}{fz:Bool}{es:List D}{k off len:Nat}(hO:oB Q F w G s.rg n (.arr ty fz es))(hk:sz Q ty=some k){v:Value}
  (hv: ∃a N cap,G n= .slice a N cap/\off+len<=N/\ ∃a' iK,v= .slice a' len iK/\len<=iK/\(len=0\/ ∃b,a=some ⟨b,0,none⟩/\a'=some ⟨b,off*k,none⟩)) (hF: ∀b,aR (G n)=some b->F' b) (hFF: ∀b,F b->F' b):a8 F' w v (.sl k ((es.drop off).take len)):=by
 obtain⟨a0,N,cap,hG,hle,a1,qt,rfl,Pc,hz⟩:=hv;by_cases h0:len=0
 ·subst h0;exact .Og _ _ _
 obtain⟨b0,ha0,Pd⟩: ∃b,a0=some ⟨b,0,none⟩/\a1=some ⟨b,off*k,none⟩:=by grind
 subst ha0 Pd;rcases hO with⟨hg,rfl⟩| ⟨b,iK,cs,k',hg,hh,mz,gn,G6,zn,dt,_,hE⟩
 ·rw[hG] at hg;simp at hg
 rw[hk] at mz;cases mz;rw[hG] at hg;obtain⟨rfl,rfl,rfl⟩:=hg;have hlen:((es.drop off).take len).length=len:=by simp;omega
 have pb: ∀i x,((es.drop off).take len)[i]?=some x->es[off+i]?=some x:=λi x hx=>by grind
 have fS: ∀x,x∈(es.drop off).take len-> ∃i,es[i]?=some x:=λx hx=>by obtain⟨i,hi⟩:=zaS hx;exact⟨off+i,pb i x hi⟩
 have:=a8.O8 (F:=F') (w:=w) b0 (off*k) k qt ((es.drop off).take len) (λi=>cs.getD (off*k+i) undef) (by omega) (hF b0 (by simp[hG,aR])) (λx hx=>by obtain⟨i,hi⟩:=fS x hx;exact(hE i x hi).1)
  (λx hx=>by obtain⟨i,hi⟩:=fS x hx;exact(hE i x hi).2.1) (λi hi=>by
   rw[hlen] at hi;have h2:off*k+i<cs.size:=by
    rw[dt]
    calc off*k+i<off*k+len*k:=by omega
     _=(off+len)*k:=by rw[zaV]
     _<=cap*k:=zaq _ (by omega)
   rw[cell_of_row w b0 (off*k+i) cs ty (0,0) hh];simp_all) (λi j x c hx hc=>by
   have:=((hE (off+i) x (pb i x hx)).2.2 j c hc).mono hFF (λ_ _=>rfl);rw[zaV,zbB] at this;exact this)
 rwa [hlen] at this
theorem Pk(h:aD Q T F G w a s){t:TypeId}{v:Value}{p:P}{lo:Option P}(hv:aF F w G s.rg v p):aF F w G s.rg v (oc Q s t p lo):=by
 unfold oc;split
 next n aY len=>
  split
  next x ty es k _ ho hk=>
   split
   ·rename_i k' mz;split
    ·rename_i jJ;have jJ:=zaf jJ;subst jJ;obtain⟨e,he,dR,bV⟩:=S.bJ ho;have hO:=h.rg n e he;rw[bV] at hO;cases hv with
     |sl _ _ _ _ _ hr=>
      have EE:=hr.at he dR (by rw[bV];rfl);refine .d (uJ hO mz EE (λb hb=> ?_) (λ_ h=>h));rcases hO with⟨hg,_⟩| ⟨b',cap,cs,k2,hg,_,_,_,_,_,_,hf,_⟩
      ·rw[hg] at hb;cases hb
      grind [aR]
    exact hv
   exact hv
  exact hv
 exact hv
theorem L8(h:aD Q T F G w a s){t:TypeId}{v:Value}{p q:P}{lo hi:Option P}{vl vh:Option Value}(hv:aF F w G s.rg v p)
  (L7:(lo=none/\vl=none)\/ ∃p v,lo=some p/\vl=some v/\aF F w G s.rg v p) (V4:(hi=none/\vh=none)\/ ∃p v,hi=some p/\vh=some v/\aF F w G s.rg v p)
  (hq:l6 Q s t p lo hi=some q): ∃x,(Instr.sliceAt t v vl vh none).run Q w= .ok x w/\aF F w G s.rg x q:=by
 unfold l6 at hq
 replace hv:=Pk h (t:=t) (lo:=lo) hv
 generalize oc Q s t p lo=p at hq hv;unfold wm at hq;split at hq
 ·cases hq
 rename_i e het;have od:=dE het;split at hq
 next k hk=>
  cases hv with
  |d hv=>
   cases hv with
   |Og a0 k' cap=>
    simp only at hq;split at hq
    ·split at hq
     ·rename_i l hh hb;have:=gW hb;have V5:l=0/\hh=0:=by grind
      obtain⟨rfl,rfl⟩:=V5;simp at hq;subst hq;refine⟨.slice (if cap=0 then a0 else a0.map (·.add (0*(k+1)))) 0 cap,?_,.d (.Og _ _ _)⟩;have dj:=kR (Q:=Q) (s:=s) (F:=F) (w:=w) (G:=G) (cap:=cap) hb (by simp) L7 V4;simp only[zat] at dj;simp[Instr.sliceAt,run_underlying od,Instr.slice,dj,run_sizeOf hk]
     cases hq
    cases hq
   |O8 b off k' cap es f Cc hb jJ cc hw hr=>
    simp only at hq;split at hq
    ·rename_i mz;have mz:k'=k+1:=by simpa using mz
     subst mz;split at hq
     ·rename_i l hh HW;have hle:=gW HW;simp at hq;subst hq;have dj:=kR (Q:=Q) (s:=s) (F:=F) (w:=w) (G:=G) (cap:=cap) HW (.inr Cc) L7 V4;refine⟨_,by simp[Instr.sliceAt,run_underlying od,Instr.slice,dj,run_sizeOf hk];rfl,?_⟩;by_cases h0:hh-l=0
      ·rw[h0];have e0:(es.take hh).drop l=[]:=zax (by simp;omega);rw[e0];exact .d (.Og _ _ _)
      have dI: ¬cap=l:=by omega
      rw[zam dI];have hlen:((es.take hh).drop l).length=hh-l:=by simp;omega
      have pb: ∀i x,((es.take hh).drop l)[i]?=some x->es[l+i]?=some x:=λi x hx=>by grind
      have fS: ∀x,x∈(es.take hh).drop l->x∈es:=λx hx=>zbq (zbV hx);rw[<-hlen,addr_add];refine .d (.O8 b (off+l*(k+1)) (k+1) (cap-l) _ (λi=>f (l*(k+1)+i)) (by omega) hb (λx hx=>jJ x (fS x hx)) (λx hx=>cc x (fS x hx)) (λi hi=> ?_) (λi j x c hx hc=> ?_))
      ·rw[zbB];refine hw _ ?_;rw[hlen] at hi
       calc l*(k+1)+i<l*(k+1)+(hh-l)*(k+1):=by omega
        _=(l+(hh-l))*(k+1):=by rw[zaV]
        _<=es.length*(k+1):=zaq _ (by omega)
      grind
     cases hq
    cases hq
   |_=>cases hq
  |sl n aY len v h1 hr=>
   simp only at hq;split at hq
   ·rename_i ty fz es ho;split at hq
    ·rename_i l hh HW;simp at hq;subst hq;obtain⟨en,he,dR,bV⟩:=S.bJ ho;obtain⟨a0,N,cap,hG,rfl,hle⟩:=hr.at he dR (by rw[bV];rfl);have hO:=h.rg n en he;rw[bV] at hO;have hNc:N<=cap:=by
      rcases hO with⟨oC,_⟩| ⟨b',iK,cs,k2,oC,_,_,_,qbz,_⟩
      ·grind
      grind
     have dj:=kR (Q:=Q) (s:=s) (F:=F) (w:=w) (G:=G) (cap:=cap) HW (.inr (by omega)) (.inl ⟨rfl,rfl⟩) V4;have hbs:=gW HW;have V5:l=0:=by unfold dB at HW;grind
     subst V5;have hvl:vl=none:=by grind
     subst hvl;refine⟨.slice a0 hh cap,?_,.sl n aY hh _ rfl ⟨en,he,by omega,λ_ _=>⟨a0,N,cap,hG,rfl,by omega⟩⟩⟩;have hz: ∀x:Addr,x.add 0=x:=λx=>by rfl
     simp only[Instr.sliceAt,Instr.slice,Sem.run_bind,run_underlying od,Result.andThen_ok,dj,run_sizeOf hk];cases a0<;>simp[hz]
    cases hq
   ·rename_i ty fz es lo0 ho;split at hq
    ·rename_i k' mz;split at hq
     ·split at hq
      ·rename_i l hh HW;simp at hq;subst hq;obtain⟨en,he,dR,bV⟩:=S.bJ ho;obtain⟨a0,N,cap,hG,rfl,hle⟩:=hr.at he dR (by rw[bV];rfl);have hO:=h.rg n en he;rw[bV] at hO;have hbs:=gW HW;have hNc:N<=cap/\(N=0\/ ∃b,a0=some ⟨b,0,none⟩):=by
        rcases hO with⟨oC,_⟩| ⟨b',iK,cs,k2,oC,_,_,_,qbz,_⟩
        ·grind
        grind
       have dj:=kR (Q:=Q) (s:=s) (F:=F) (w:=w) (G:=G) (cap:=cap) HW (.inr (by omega)) L7 V4;refine⟨.slice (if cap=l then a0 else a0.map (·.add (l*(k+1)))) (hh-l) (cap-l),by simp[Instr.sliceAt,run_underlying od,Instr.slice,dj,run_sizeOf hk],.lG n aY (k+1) l (hh-l) _ rfl ⟨en,he,by omega,λ_ _=>⟨a0,N,cap,hG,by omega,_,_,rfl,by omega,?_⟩⟩⟩;grind [addr_add]
      cases hq
     cases hq
    cases hq
   cases hq
  |lG n aY k0 off len v h1 hr=>
   simp only at hq;split at hq
   ·rename_i ty fz es ho;split at hq
    ·rename_i jJ;have jJ:=zaf jJ;subst jJ;split at hq
     ·rename_i l hh HW;simp at hq;subst hq;obtain⟨en,he,dR,bV⟩:=S.bJ ho;obtain⟨a0,N,cap,hG,hle,a1,qt,rfl,Pc,hz⟩:=hr.at he dR (by rw[bV];rfl);have hbs:=gW HW;have dj:=kR (Q:=Q) (s:=s) (F:=F) (w:=w) (G:=G) (cap:=qt) HW (.inr Pc) L7 V4;refine⟨.slice (if qt=l then a1 else a1.map (·.add (l*(k+1)))) (hh-l) (qt-l),by simp[Instr.sliceAt,run_underlying od,Instr.slice,dj,run_sizeOf hk],.lG n aY (k+1) (off+l) (hh-l) _ rfl ⟨en,he,by omega,λ_ _=>⟨a0,N,cap,hG,by omega,_,_,rfl,by omega,?_⟩⟩⟩;by_cases h0:hh-l=0
      ·grind
      rcases hz with hz | ⟨b,h2,h3⟩
      ·omega
      refine .inr ⟨b,h2,?_⟩;rw[zam (by omega),h3];simp[addr_add,zaV]
     cases hq
    cases hq
   cases hq
  |_=>cases hq
 cases hq
theorem nB{t e ty:TypeId}{at':Array TypeId}(h0:at'[0]?=some t)(od:Q.underlying t=some (.slice e))(b:Option Addr)(n c:Nat)(w:World):(Builtin.len_ at' ty #[.slice b n c]).run Q w= .ok (goInt n) w:=by simp[Builtin.len_,h0,run_underlying od]
theorem V6{t e:TypeId}{ty:TypeId}{at':Array TypeId}(h0:at'[0]?=some t)(het:cJ Q t=some e){v:Value}{p q:P}(hv:aF F w G s.rg v p)(hq:El s p=some q):
  ∃x,(Builtin.len_ at' ty #[v]).run Q w= .ok x w/\aF F w G s.rg x q:=by
 have od:=dE het;unfold El at hq;cases hv with
 |sl n aY len v h1 hr=>
  simp only at hq;split at hq
  next hl=>simp at hq;subst hq;obtain⟨en,he,dR,hl⟩:=S.dy hl;obtain⟨a0,N,cap,hG,rfl,hle⟩:=hr.at he dR hl;exact⟨_,nB h0 od a0 len cap w,.d (.int _ _)⟩
  cases hq
 |lG n aY k off len v h1 hr=>
  simp only at hq;split at hq
  next hl=>simp at hq;subst hq;obtain⟨en,he,dR,hl⟩:=S.dy hl;obtain⟨a0,N,cap,hG,hle,a1,qt,rfl,_,_⟩:=hr.at he dR hl;exact⟨_,nB h0 od a1 len qt w,.d (.int _ _)⟩
  cases hq
 |d hv=>
  cases hv with
  |Og a0 k' cap=>simp at hq;subst hq;exact⟨_,nB h0 od a0 0 cap w,.d (.int _ _)⟩
  |O8 b off k' cap es f Cc hb jJ cc hw hr=>simp at hq;subst hq;exact⟨_,nB h0 od _ _ cap w,.d (.int _ _)⟩
  |_=>cases hq
 |_=>cases hq
theorem V7(h:aD Q T F G w a s){t:TypeId}{y:TypeId×TypeId}{ty:TypeId}{at':Array TypeId}(h0:at'[0]?=some t)(Cj:jW Q t=some y){v:Value}{p q:P}(hv:aF F w G s.rg v p)(hq:Em s p=some q):
  ∃x,(Builtin.len_ at' ty #[v]).run Q w= .ok x w/\aF F w G s.rg x q:=by
 have od:=iL Cj;unfold Em at hq;split at hq
 next n aY=>
  split at hq
  next kt2 get c last ho=>simp only[zal] at hq;subst hq;obtain⟨e0,_,_,_,AQ,b,es,clock,hG,hb,hM⟩:=EA h hv ho;rw[hG] at AQ;subst AQ;obtain⟨ks,_,hc,_⟩:=hM;refine⟨goInt es.size,by simp[Builtin.len_,h0,run_underlying od,MapKept.run_getObj_map hb],?_⟩;rw[hc];exact .d (.int _ _)
  cases hq
 cases hq
theorem AR{x y:Value}{p q:P}{r:Bool}(hx:aF F w G s.rg x p)(hy:aF F w G s.rg y q)(hr:tN s p q=some r):
  r=false/\((∃b,x= .pointer (some b)/\y= .pointer none)\/ ∃b,x= .pointer none/\y= .pointer (some b)):=by
 unfold tN at hr;split at hr
 ·cases hx with
  |ref n aY off v h h1=>cases hy with |d hy=>cases hy;(split at hr)<;>simp at hr;rename_i hl;obtain⟨e,he,dR,hl⟩:=S.dy hl;obtain⟨b,_,hv⟩:=h.at he dR hl;grind
 ·cases hx with
  |dz n aY i k off v h1 h=>cases hy with |d hy=>cases hy;(split at hr)<;>simp at hr;rename_i hl;obtain⟨e,he,dR,hl⟩:=S.dy hl;obtain⟨b,_,_,_,hv⟩:=h.at he dR hl;grind
 ·cases hy with
  |ref n aY off v h h1=>cases hx with |d hx=>cases hx;(split at hr)<;>simp at hr;rename_i hl;obtain⟨e,he,dR,hl⟩:=S.dy hl;obtain⟨b,_,hv⟩:=h.at he dR hl;grind
 ·cases hy with
  |dz n aY i k off v h1 h=>cases hx with |d hx=>cases hx;(split at hr)<;>simp at hr;rename_i hl;obtain⟨e,he,dR,hl⟩:=S.dy hl;obtain⟨b,_,_,_,hv⟩:=h.at he dR hl;grind
 ·cases hx with |e8=>cases hy with |d hy=>cases hy;grind
 ·cases hy with |e8=>cases hx with |d hx=>cases hx;grind
 cases hr
theorem vJ(d:Nat){t e:TypeId}(ht:Q.underlying t=some (.pointer e)){x y:Value}(h:(∃b,x= .pointer (some b)/\y= .pointer none)\/ ∃b,x= .pointer none/\y= .pointer (some b))(w:World):
  (Op.equalIn (d+1) t x y).run Q w= .ok false w:=by
 rcases h with⟨b,rfl,rfl⟩| ⟨b,rfl,rfl⟩<;>simp[Op.equalIn,run_underlying ht]
theorem uK{t e:TypeId}(ht:Q.underlying t=some (.pointer e)){x y:Value}(h:(∃b,x= .pointer (some b)/\y= .pointer none)\/ ∃b,x= .pointer none/\y= .pointer (some b))(op:BinOp)(ox oy:Operand)(w:World)
  (sB:op= .eql\/op= .neq):(do eqGuard op t ox oy x y;Go.binOp op t x y:Sem Value).run Q w= .ok (.bool (op matches .neq)) w:=by
 have he:=vJ (Q:=Q) 9999 ht h w;rcases h with⟨b,rfl,rfl⟩| ⟨b,rfl,rfl⟩<;>rcases sB with rfl |rfl<;>simp only[eqGuard,Go.binOp,Op.equal,Op.maxDepth]<;>simp[he]
theorem wq(h:aD Q T F G w a s){g:Option (Nat×Bool)}(hg:lP a g): ∀(xs:List Operand) (vs:List Value),c8 (xs.map (s.eg g))=some vs->xs.map a.eval=vs
 | [],vs,hv=>by grind [c8]
 |x::xs,vs,hv=>by
  simp only[zbm,c8] at hv;cases h1:(s.eg g x).cA with
  |none=>grind
  |some v=>
   cases h2:c8 (xs.map (s.eg g)) with
   |none=>grind
   |some us=>simp[h1,h2] at hv;subst hv;rw[zbm,wq h hg xs us h2,(a7 h hg x).cA h1]
theorem Kh{v:Value}{p:P}{ps:List P}(hv:aF F w G s.rg v p)(h:p.HE=some ps): ∃vs:List Value,v= .agg ⟨vs⟩/\vs.length=ps.length/\(∀u∈vs,u.oneCell'=true)/\ ∀(i:Nat) (c:P),ps[i]?=some c->aF F w G s.rg (vs.getD i undef) c:=by
 cases hv with
 |agg vs ps' hl im hc=>grind [P.HE]
 |d hd=>
  cases hd with
  |agg vs cs hl cc hc=>
   simp[P.HE] at h;subst h;refine⟨vs,rfl,by grind,λu hu=> ?_,λi c hi=> ?_⟩
   ·obtain⟨i,hi⟩:=zaS hu;have bI:i<cs.length:=by have:=(zad.1 hi).1;omega
    exact(hc i u cs[i] hi (zae bI)).nA (cc _ (zas bI))
   rw[zaJ] at hi;cases hx:cs[i]? with
   |none=>rw[hx] at hi;cases hi
   |some x=>rw[hx] at hi;cases hi;refine .d ?_;grind
  |_=>simp[P.HE] at h
 |_=>simp[P.HE] at h
theorem Ki{t:TypeId}{vs:List Value}{ps:List P}{off:Nat}{q:P}(hl:vs.length=ps.length)(im: ∀u∈vs,u.oneCell'=true)(hc: ∀(i:Nat) (c:P),ps[i]?=some c->aF F w G s.rg (vs.getD i undef) c)(hq:Az Q t ps off=some q):
  ∃r,(Go.part t ⟨vs⟩ off).run Q w= .ok r w/\aF F w G s.rg r q:=by
 obtain⟨k,hk,hb,hr⟩:=Et (R:=s.rg) hq (λi=>vs.getD i undef) (λi hi=>by grind) hc;grind [Pb]
theorem L9{t:TypeId}{f:Nat}{v:Value}{p q:P}(hv:aF F w G s.rg v p)(hq:HF Q t f p=some q): ∃r,(Instr.field t v f).run Q w= .ok r w/\aF F w G s.rg r q:=by
 unfold HF at hq;split at hq
 next fs ps ht qQ=>
  obtain⟨vs,rfl,hl,im,hc⟩:=Kh hv qQ;split at hq
  next fl vH=>obtain⟨r,h1,h2⟩:=Ki hl im hc hq;refine⟨r,?_,h2⟩;simp[Instr.field,run_underlying ht,vH,asAgg,h1]
  cases hq
 cases hq
theorem Ma{t e:TypeId}{n:Nat}{v u:Value}{p i q:P}(ht:Q.underlying t=some (.array n e))(hv:aF F w G s.rg v p)(hu:aF F w G s.rg u i)(hq:HG Q n e p i=some q):
  ∃r,(Instr.index t v u).run Q w= .ok r w/\aF F w G s.rg r q:=by
 unfold HG at hq;split at hq
 next ps kk j k qQ hk=>
  obtain⟨vs,rfl,hl,im,hc⟩:=Kh hv qQ;cases hu with
  |d hu=>
   cases hu;split at hq
   next hj=>obtain⟨r,h1,h2⟩:=Ki hl im hc hq;refine⟨r,?_,h2⟩;simp[Instr.index,asIntOf,run_underlying ht,hj,run_sizeOf hk,h1]
   cases hq
 cases hq
theorem qe3(h:aD Q T F G w a s){g:Option (Nat×Bool)}(hg:lP a g){o:Oper}{q:P}(hq:pv Q s o g=some q):
  ∃v,(execOp a.eval o).run Q w= .ok (.value v) w/\aF F w G s.rg v q:=by
 have up: ∀{m:Sem Value} {q:P},dV Q m=some q-> ∃v,m.run Q w= .ok v w/\aF F w G s.rg v q:=λhh=>L1 hh F w G s.rg;unfold pv at hq;unfold execOp;split at hq
 next x hx=>simp at hq;subst hq;exact⟨a.eval x,by simp[hx],a7 h hg x⟩
 next x hx=>simp at hq;subst hq;exact⟨a.eval x,by simp[hx],a7 h hg x⟩
 next c x y ho=>
  split at hq
  next r hc=>
   simp at hq;subst hq;have hcv:a.eval c= .bool r:=(a7 h hg c).cA (by rw[hc];rfl);cases r with
   |true=>exact⟨a.eval x,by simp[ho,hcv,asBool],a7 h hg x⟩
   |false=>exact⟨a.eval y,by simp[ho,hcv,asBool],a7 h hg y⟩
  cases hq
 next x ho=>
  obtain⟨rfl,hv⟩:=zM (a7 h hg x) hq;have hr:=a7 h hg x;rcases hv with⟨b,hv⟩| ⟨f,c1,c2,hv⟩
  ·simp_all
  simp_all
 next op t x y yt ho=>
  unfold oz at hq;split at hq
  next u v hu hv=>obtain⟨r,h1,h2⟩:=up hq;refine⟨r,?_,h2⟩;simp only[ho];rw[(a7 h hg x).cA hu,(a7 h hg y).cA hv,Sem.run_bind,h1];rfl
  split at hq
  next hh Pm=>simp at hq;subst hq;obtain⟨rfl,hcs⟩:=AR (a7 h hg x) (a7 h hg y) Pm;refine⟨_,?_,.d (.bool _)⟩;simp only[ho];rw[Sem.run_bind,uK hh hcs .eql x y w (.inl rfl)];rfl
  next hh Pm=>simp at hq;subst hq;obtain⟨rfl,hcs⟩:=AR (a7 h hg x) (a7 h hg y) Pm;refine⟨_,?_,.d (.bool _)⟩;simp only[ho];rw[Sem.run_bind,uK hh hcs .neq x y w (.inr rfl)];rfl
  cases hq
 next op t x ho=>
  split at hq
  next u hu=>obtain⟨r,h1,h2⟩:=up hq;refine⟨r,?_,h2⟩;simp only[ho];rw[(a7 h hg x).cA hu,Sem.run_bind,h1];rfl
  cases hq
 next t1 t2 x ho=>
  split at hq
  next u hu=>obtain⟨r,h1,h2⟩:=up hq;refine⟨r,?_,h2⟩;simp only[ho];rw[(a7 h hg x).cA hu,Sem.run_bind,h1];rfl
  cases hq
 next t x ho=>obtain⟨r,h1,h2⟩:=Ew h (a7 h hg x) hq;simp_all
 next t x f ho=>obtain⟨r,h1,h2⟩:=zN (a7 h hg x) hq;simp_all
 next t x i ho=>obtain⟨r,h1,h2⟩:=zO h (a7 h hg x) (a7 h hg i) hq;simp_all
 next t x i ho=>
  split at hq
  next n e ht=>obtain⟨r,h1,h2⟩:=Ma ht (a7 h hg x) (a7 h hg i) hq;simp_all
  split at hq
  next u v hu hv=>obtain⟨r,h1,h2⟩:=up hq;refine⟨r,?_,h2⟩;simp only[ho];rw[(a7 h hg x).cA hu,(a7 h hg i).cA hv,Sem.run_bind,h1];rfl
  cases hq
 next t x f ho=>obtain⟨r,h1,h2⟩:=L9 (a7 h hg x) hq;simp_all
 next x i ho=>
  split at hq
  next ps qQ=>
   have hr:=a7 h hg x;rw[qQ] at hr;generalize hax:a.eval x=vx at hr;cases hr with
   |cX vs _ hl hc=>
    have hi:i<ps.length:=(zad.1 hq).1;have hiv:i<vs.length:=by omega
    refine⟨vs[i],?_,hc i _ _ (zae hiv) hq⟩;simp[ho,hax,Instr.extract,hiv]
  cases hq
 next t x i ok ho=>
  split at hq
  next z hz=>obtain⟨y,ht,hz⟩:=zbL.1 hz;obtain⟨r,h1,h2⟩:=HV h ht hz (a7 h hg x) (a7 h hg i) hq;simp_all
  cases hq
 next x ho=>obtain⟨r,h1,h2⟩:=L4 h (a7 h hg x) hq;simp_all
 next t x lo hi ho=>
  have L7:(lo.map (s.eg g)=none/\lo.map a.eval=none)\/ ∃p v,lo.map (s.eg g)=some p/\lo.map a.eval=some v/\aF F w G s.rg v p:=by
   cases lo with
   |none=>simp
   |some l=>grind [a7]
  have V4:(hi.map (s.eg g)=none/\hi.map a.eval=none)\/ ∃p v,hi.map (s.eg g)=some p/\hi.map a.eval=some v/\aF F w G s.rg v p:=by
   cases hi with
   |none=>simp
   |some l=>grind [a7]
  split at hq
  next b hb=>
   split at hq
   ·rename_i l hh hl hhh;obtain⟨r,h1,h2⟩:=up hq;have el:lo.map a.eval=l:=by
     cases lo with
     |none=>grind
     |some x'=>simp only[zaw] at hl;obtain⟨v,hv,rfl⟩:=hl;simp[(a7 h hg x').cA hv]
    have eh:hi.map a.eval=hh:=by
     cases hi with
     |none=>grind
     |some x'=>simp only[zaw] at hhh;obtain⟨v,hv,rfl⟩:=hhh;simp[(a7 h hg x').cA hv]
    refine⟨r,?_,h2⟩;simp only[ho,zcB];rw[(a7 h hg x).cA hb,el,eh,Sem.run_bind,h1];rfl
   cases hq
  obtain⟨r,h1,h2⟩:=L8 h (a7 h hg x) L7 V4 hq;simp_all
 next t parts ho=>
  split at hq
  next vs L2=>
   obtain⟨r,h1,h2⟩:=up hq;have e1:parts.toList.map (λx=>a.eval x.2)=vs:=by have:=wq h hg (parts.toList.map (·.2)) vs (by grind [Function.comp_def]);grind [Function.comp_def]
   have e:(parts.map λ(i,x)=>(i,a.eval x))=((parts.toList.map (·.1)).zip vs).toArray:=by grind
   simp_all
  obtain⟨r,h1,h2⟩:=ED (vals:=parts.map λ(i,x)=>(i,a.eval x)) hq (by simp) (λi x y hx hy=>by simp only[zcZ,zaJ,zaw] at hx hy;obtain⟨x1,Ck,rfl⟩:=hx;obtain⟨y1,zP,rfl⟩:=hy;rw[Ck] at zP;cases zP;exact⟨rfl,a7 h hg x1.2⟩);simp_all
 next f first cI ho=>
  split at hq
  next qhF=>
   have e1:first= #[]:=by grind
   subst e1;simp only[zal] at hq;subst hq;refine⟨.func (.func f) #[] (cI.map a.eval),?_,?_⟩
   ·simp[ho,Instr.makeFunc]
   have:=aF.fn (F:=F) (w:=w) (G:=G) (R:=s.rg) f (cI.toList.map a.eval) (cI.toList.map (s.eg g)) (by simp) (λi v c hv hc=>by grind [a7]);have e:cI.map a.eval=⟨cI.toList.map a.eval⟩:=by grind
   rw[e];exact this
  cases hq
 next c ho=>
  split at hq
  next kS=>
   split at hq
   ·rename_i x cP;have ea:c.args= #[x]:=by grind
    split at hq
    next u hu=>obtain⟨r,h1,h2⟩:=up hq;refine⟨r,?_,h2⟩;have hx:=(a7 h hg x).cA hu;simp[ho,resolve,kS,ea,invoke,builtin,hx,h1]
    split at hq
    next e het=>obtain⟨t0,ht0,het⟩:=zbL.1 het;obtain⟨r,h1,h2⟩:=V6 (ty:=o.type) ht0 het (a7 h hg x) hq;refine⟨r,?_,h2⟩;simp[ho,resolve,kS,ea,invoke,builtin,h1]
    split at hq
    next y Cj=>obtain⟨t0,ht0,Cj⟩:=zbL.1 Cj;obtain⟨r,h1,h2⟩:=V7 (ty:=o.type) h ht0 Cj (a7 h hg x) hq;refine⟨r,?_,h2⟩;simp[ho,resolve,kS,ea,invoke,builtin,h1]
    cases hq
   cases hq
  next kS=>
   split at hq
   ·rename_i vs L2;obtain⟨r,h1,h2⟩:=up hq;refine⟨r,?_,h2⟩;have e:=wq h hg _ _ L2;have e2:c.args.map a.eval=vs.toArray:=by grind
    simp[ho,resolve,kS,invoke,builtin,e2,h1]
   cases hq
  next kS=>
   split at hq
   ·rename_i vs L2;obtain⟨r,h1,h2⟩:=up hq;refine⟨r,?_,h2⟩;have e:=wq h hg _ _ L2;have e2:c.args.map a.eval=vs.toArray:=by grind
    simp[ho,resolve,kS,invoke,builtin,e2,h1]
   cases hq
  cases hq
 cases hq
end
end Pi
