/- The text PiPv. -/
import Derived.Test.YtdgkdigdflkjhaaGreatDoorPiStr
namespace Pi
open Go
section
variable{Q:Program}{T:Tg}{F:Nat->Prop}{G:Nat->Value}{w:World}{a:Act}{s:S}
theorem iG{len l h lo hi}(hb:dK len lo hi=some (l,h)):l<=h/\h<=len:=by unfold dK at hb;grind
theorem lM{len cap l h lo hi vl vh}(hb:dK len lo hi=some (l,h))(hle:hi=none\/len<=cap)
  (Qn:(lo=none/\vl=none)\/ ∃p v,lo=some p/\vl=some v/\aH F w G s.rg v p) (hhi:(hi=none/\vh=none)\/ ∃p v,hi=some p/\vh=some v/\aH F w G s.rg v p):
  (Instr.sliceBounds true len cap vl vh none).run Q w= .ok (l,h,cap) w:=by
 unfold dK at hb;rcases hhi with⟨rfl,rfl⟩| ⟨p,v,rfl,rfl,hp⟩
 ·skip
  rcases Qn with⟨rfl,rfl⟩| ⟨p,v,rfl,rfl,hp⟩
  ·skip
   obtain⟨rfl,rfl⟩:=hb;rfl
  cases p<;>try (simp at hb;done)
  rename_i x;cases x<;>try (simp at hb;done)
  rename_i k j;cases hp with
  |d hp=>
   cases hp;simp only at hb;split at hb
   next hj=>obtain⟨rfl,rfl⟩:=hb;simp[Instr.sliceBounds,Instr.sliceBound,asIntOf,hj]
   cases hb
 cases p<;>try (simp at hb;done)
 rename_i x;cases x<;>try (simp at hb;done)
 rename_i k j;cases hp with
 |d hp=>
  cases hp;have qfq:len<=cap:=by grind
  simp only at hb;by_cases hj:0<=j/\j<=(len:Int)
  ·have hj2:0<=j/\j<=(cap:Int):=⟨hj.1,by omega⟩
   rw[zap hj] at hb;rcases Qn with⟨rfl,rfl⟩| ⟨p,v,rfl,rfl,hp⟩
   ·skip
    obtain⟨rfl,rfl⟩:=hb;simp[Instr.sliceBounds,Instr.sliceBound,asIntOf,hj2]
   cases p<;>try (simp at hb;done)
   rename_i x;cases x<;>try (simp at hb;done)
   rename_i k2 j2;cases hp with
   |d hp=>
    cases hp;simp only at hb;split at hb
    next hj3=>simp[Instr.sliceBounds,Instr.sliceBound,asIntOf,hj2,hj3];grind
    cases hb
  grind
theorem wZ{F' n ty fz}{es k len}(hO:pZ Q F w G s.rg n (.arr ty fz es))(hk:sz Q ty=some k){v}
  (hv: ∃a N cap,G n= .slice a N cap/\v= .slice a len cap/\len<=N) (hF: ∀b,aO (G n)=some b->F' b) (hFF: ∀b,F b->F' b):aY F' w v (.sl k (es.take len)):=by
 obtain⟨a0,N,cap,hG,rfl,hle⟩:=hv;rcases hO with⟨hg,rfl⟩| ⟨b,jl,cs,k',hg,hh,iB,fO,KR,BR,dS,_,hE⟩
 ·rw[hG] at hg;simp at hg;have:len=0:=by omega
  subst this;exact .Qf _ _ _
 rw[hk] at iB;cases iB;rw[hG] at hg;obtain⟨rfl,rfl,rfl⟩:=hg;have hlen:(es.take len).length=len:=by simp;omega
 have qE: ∀i x,(es.take len)[i]?=some x->es[i]?=some x:=λi x hx=>by
  rw[zbK] at hx;split at hx
  ·exact hx
  cases hx
 have dB: ∀x,x∈es.take len-> ∃i,es[i]?=some x:=λx hx=>by obtain⟨i,hi⟩:=zaV hx;exact⟨i,qE i x hi⟩
 have:=aY.Sv (F:=F') (w:=w) b 0 k cap (es.take len) (λi=>cs.getD i undef) (by omega) (hF b (by simp[hG,aO])) (λx hx=>by obtain⟨i,hi⟩:=dB x hx;exact(hE i x hi).1)
  (λx hx=>by obtain⟨i,hi⟩:=dB x hx;exact(hE i x hi).2.1) (λi hi=>by
   have:i<cs.size:=by rw[dS];exact zbf hi (zar _ (by omega))
   rw[zaD,cell_of_row w b i cs ty (0,0) hh];simp_all) (λi j x c hx hc=>((hE i x (qE i x hx)).2.2 j c hc).mono hFF (λ_ _=>rfl))
 rwa [hlen] at this
theorem Fa{F' n ty fz}{es k off len}(hO:pZ Q F w G s.rg n (.arr ty fz es))(hk:sz Q ty=some k){v}
  (hv: ∃a N cap,G n= .slice a N cap/\off+len<=N/\ ∃a' jl,v= .slice a' len jl/\len<=jl/\(len=0\/ ∃b,a=some ⟨b,0,none⟩/\a'=some ⟨b,off*k,none⟩)) (hF: ∀b,aO (G n)=some b->F' b) (hFF: ∀b,F b->F' b):aY F' w v (.sl k ((es.drop off).take len)):=by
 obtain⟨a0,N,cap,hG,hle,a1,rW,rfl,TN,hz⟩:=hv;by_cases h0:len=0
 ·subst h0;exact .Qf _ _ _
 obtain⟨b0,ha0,TO⟩: ∃b,a0=some ⟨b,0,none⟩/\a1=some ⟨b,off*k,none⟩:=by grind
 subst ha0 TO;rcases hO with⟨hg,rfl⟩| ⟨b,jl,cs,k',hg,hh,iB,fO,KR,BR,dS,_,hE⟩
 ·rw[hG] at hg;simp at hg
 rw[hk] at iB;cases iB;rw[hG] at hg;obtain⟨rfl,rfl,rfl⟩:=hg;have hlen:((es.drop off).take len).length=len:=by simp;omega
 have qE: ∀i x,((es.drop off).take len)[i]?=some x->es[off+i]?=some x:=λi x hx=>by grind
 have dB: ∀x,x∈(es.drop off).take len-> ∃i,es[i]?=some x:=λx hx=>by obtain⟨i,hi⟩:=zaV hx;exact⟨off+i,qE i x hi⟩
 have:=aY.Sv (F:=F') (w:=w) b0 (off*k) k rW ((es.drop off).take len) (λi=>cs.getD (off*k+i) undef) (by omega) (hF b0 (by simp[hG,aO])) (λx hx=>by obtain⟨i,hi⟩:=dB x hx;exact(hE i x hi).1)
  (λx hx=>by obtain⟨i,hi⟩:=dB x hx;exact(hE i x hi).2.1) (λi hi=>by
   rw[hlen] at hi;have h2:off*k+i<cs.size:=by
    rw[dS]
    calc off*k+i<off*k+len*k:=by omega
     _=(off+len)*k:=by rw[za2]
     _<=cap*k:=zar _ (by omega)
   rw[cell_of_row w b0 (off*k+i) cs ty (0,0) hh];simp_all) (λi j x c hx hc=>by
   have:=((hE (off+i) x (qE i x hx)).2.2 j c hc).mono hFF (λ_ _=>rfl);rw[za2,zbI] at this;exact this)
 rwa [hlen] at this
theorem TU(h:aC Q T F G w a s){t v p lo}(hv:aH F w G s.rg v p):aH F w G s.rg v (pP Q s t p lo):=by
 unfold pP;split
 next n aV len=>
  split
  next x ty es k _ ho hk=>
   split
   ·rename_i k' iB;split
    ·rename_i kj;have kj:=zag kj;subst kj;obtain⟨e,he,eb,b8⟩:=S.bM ho;have hO:=h.rg n e he;rw[b8] at hO;cases hv with
     |sl _ _ _ _ _ hr=>
      have H4:=hr.at he eb (by rw[b8];rfl);refine .d (wZ hO iB H4 (λb hb=> ?_) (λ_ h=>h));rcases hO with⟨hg,_⟩| ⟨b',cap,cs,k2,hg,_,_,_,_,_,_,hf,_⟩
      ·rw[hg] at hb;cases hb
      grind [aO]
    exact hv
   exact hv
  exact hv
 exact hv
theorem Qo(h:aC Q T F G w a s){t v p q lo hi}{vl vh}(hv:aH F w G s.rg v p)
  (Qn:(lo=none/\vl=none)\/ ∃p v,lo=some p/\vl=some v/\aH F w G s.rg v p) (hhi:(hi=none/\vh=none)\/ ∃p v,hi=some p/\vh=some v/\aH F w G s.rg v p)
  (hq:nt Q s t p lo hi=some q): ∃x,(Instr.sliceAt t v vl vh none).run Q w= .ok x w/\aH F w G s.rg x q:=by
 unfold nt at hq
 replace hv:=TU h (t:=t) (lo:=lo) hv
 generalize pP Q s t p lo=p at hq hv;unfold yB at hq;split at hq
 ·cases hq
 rename_i e het;have nC:=dM het;split at hq
 next k hk=>
  cases hv with
  |d hv=>
   cases hv with
   |Qf a0 k' cap=>
    simp only at hq;split at hq
    ·split at hq
     ·rename_i l hh hb;have:=iG hb;have hl0:l=0/\hh=0:=by grind
      obtain⟨rfl,rfl⟩:=hl0;simp at hq;subst hq;refine⟨.slice (if cap=0 then a0 else a0.map (·.add (0*(k+1)))) 0 cap,?_,.d (.Qf _ _ _)⟩;have dq:=lM (Q:=Q) (s:=s) (F:=F) (w:=w) (G:=G) (cap:=cap) hb (by simp) Qn hhi;simp only[zav] at dq;simp[Instr.sliceAt,run_underlying nC,Instr.slice,dq,run_sizeOf hk]
     cases hq
    cases hq
   |Sv b off k' cap es f vU hb kj cm hw hr=>
    simp only at hq;split at hq
    ·rename_i iB;have iB:k'=k+1:=by simpa using iB
     subst iB;split at hq
     ·rename_i l hh LB;have hle:=iG LB;simp at hq;subst hq;have dq:=lM (Q:=Q) (s:=s) (F:=F) (w:=w) (G:=G) (cap:=cap) LB (.inr vU) Qn hhi;refine⟨_,by simp[Instr.sliceAt,run_underlying nC,Instr.slice,dq,run_sizeOf hk];rfl,?_⟩;by_cases h0:hh-l=0
      ·rw[h0];have e0:(es.take hh).drop l=[]:=zaB (by simp;omega);rw[e0];exact .d (.Qf _ _ _)
      have cO: ¬cap=l:=by omega
      rw[zan cO];have hlen:((es.take hh).drop l).length=hh-l:=by simp;omega
      have qE: ∀i x,((es.take hh).drop l)[i]?=some x->es[l+i]?=some x:=λi x hx=>by grind
      have dB: ∀x,x∈(es.take hh).drop l->x∈es:=λx hx=>zbm (zb8 hx);rw[<-hlen,addr_add];refine .d (.Sv b (off+l*(k+1)) (k+1) (cap-l) _ (λi=>f (l*(k+1)+i)) (by omega) hb (λx hx=>kj x (dB x hx)) (λx hx=>cm x (dB x hx)) (λi hi=> ?_) (λi j x c hx hc=> ?_))
      ·rw[zbI];refine hw _ ?_;rw[hlen] at hi
       calc l*(k+1)+i<l*(k+1)+(hh-l)*(k+1):=by omega
        _=(l+(hh-l))*(k+1):=by rw[za2]
        _<=es.length*(k+1):=zar _ (by omega)
      grind
     cases hq
    cases hq
   |_=>cases hq
  |sl n aV len v h1 hr=>
   simp only at hq;split at hq
   ·rename_i ty fz es ho;split at hq
    ·rename_i l hh LB;simp at hq;subst hq;obtain⟨en,he,eb,b8⟩:=S.bM ho;obtain⟨a0,N,cap,hG,rfl,hle⟩:=hr.at he eb (by rw[b8];rfl);have hO:=h.rg n en he;rw[b8] at hO;have hNc:N<=cap:=by
      rcases hO with⟨rr,_⟩| ⟨b',jl,cs,k2,rr,_,_,_,qfq,_⟩
      ·grind
      grind
     have dq:=lM (Q:=Q) (s:=s) (F:=F) (w:=w) (G:=G) (cap:=cap) LB (.inr (by omega)) (.inl ⟨rfl,rfl⟩) hhi;have hbs:=iG LB;have hl0:l=0:=by unfold dK at LB;grind
     subst hl0;have hvl:vl=none:=by grind
     subst hvl;refine⟨.slice a0 hh cap,?_,.sl n aV hh _ rfl ⟨en,he,by omega,λ_ _=>⟨a0,N,cap,hG,rfl,by omega⟩⟩⟩;have hz: ∀x:Addr,x.add 0=x:=λx=>by rfl
     simp only[Instr.sliceAt,Instr.slice,Sem.run_bind,run_underlying nC,Result.andThen_ok,dq,run_sizeOf hk];cases a0<;>simp[hz]
    cases hq
   ·rename_i ty fz es lo0 ho;split at hq
    ·rename_i k' iB;split at hq
     ·split at hq
      ·rename_i l hh LB;simp at hq;subst hq;obtain⟨en,he,eb,b8⟩:=S.bM ho;obtain⟨a0,N,cap,hG,rfl,hle⟩:=hr.at he eb (by rw[b8];rfl);have hO:=h.rg n en he;rw[b8] at hO;have hbs:=iG LB;have hNc:N<=cap/\(N=0\/ ∃b,a0=some ⟨b,0,none⟩):=by
        rcases hO with⟨rr,_⟩| ⟨b',jl,cs,k2,rr,_,_,_,qfq,_⟩
        ·grind
        grind
       have dq:=lM (Q:=Q) (s:=s) (F:=F) (w:=w) (G:=G) (cap:=cap) LB (.inr (by omega)) Qn hhi;refine⟨.slice (if cap=l then a0 else a0.map (·.add (l*(k+1)))) (hh-l) (cap-l),by simp[Instr.sliceAt,run_underlying nC,Instr.slice,dq,run_sizeOf hk],.mG n aV (k+1) l (hh-l) _ rfl ⟨en,he,by omega,λ_ _=>⟨a0,N,cap,hG,by omega,_,_,rfl,by omega,?_⟩⟩⟩;grind [addr_add]
      cases hq
     cases hq
    cases hq
   cases hq
  |mG n aV k0 off len v h1 hr=>
   simp only at hq;split at hq
   ·rename_i ty fz es ho;split at hq
    ·rename_i kj;have kj:=zag kj;subst kj;split at hq
     ·rename_i l hh LB;simp at hq;subst hq;obtain⟨en,he,eb,b8⟩:=S.bM ho;obtain⟨a0,N,cap,hG,hle,a1,rW,rfl,TN,hz⟩:=hr.at he eb (by rw[b8];rfl);have hbs:=iG LB;have dq:=lM (Q:=Q) (s:=s) (F:=F) (w:=w) (G:=G) (cap:=rW) LB (.inr TN) Qn hhi;refine⟨.slice (if rW=l then a1 else a1.map (·.add (l*(k+1)))) (hh-l) (rW-l),by simp[Instr.sliceAt,run_underlying nC,Instr.slice,dq,run_sizeOf hk],.mG n aV (k+1) (off+l) (hh-l) _ rfl ⟨en,he,by omega,λ_ _=>⟨a0,N,cap,hG,by omega,_,_,rfl,by omega,?_⟩⟩⟩;by_cases h0:hh-l=0
      ·grind
      rcases hz with hz | ⟨b,h2,h3⟩
      ·omega
      refine .inr ⟨b,h2,?_⟩;rw[zan (by omega),h3];simp[addr_add,za2]
     cases hq
    cases hq
   cases hq
  |_=>cases hq
 cases hq
theorem o6{t e ty at'}(h0:at'[0]?=some t)(nC:Q.underlying t=some (.slice e)) b n c w:(Builtin.len_ at' ty #[.slice b n c]).run Q w= .ok (goInt n) w:=by simp[Builtin.len_,h0,run_underlying nC]
theorem qaj{t e ty at'}(h0:at'[0]?=some t)(het:cX Q t=some e){v p q}(hv:aH F w G s.rg v p)(hq:HP s p=some q):
  ∃x,(Builtin.len_ at' ty #[v]).run Q w= .ok x w/\aH F w G s.rg x q:=by
 have nC:=dM het;unfold HP at hq;cases hv with
 |sl n aV len v h1 hr=>
  simp only at hq;split at hq
  next hl=>simp at hq;subst hq;obtain⟨en,he,eb,hl⟩:=S.dG hl;obtain⟨a0,N,cap,hG,rfl,hle⟩:=hr.at he eb hl;exact⟨_,o6 h0 nC a0 len cap w,.d (.int _ _)⟩
  cases hq
 |mG n aV k off len v h1 hr=>
  simp only at hq;split at hq
  next hl=>simp at hq;subst hq;obtain⟨en,he,eb,hl⟩:=S.dG hl;obtain⟨a0,N,cap,hG,hle,a1,rW,rfl,_,_⟩:=hr.at he eb hl;exact⟨_,o6 h0 nC a1 len rW w,.d (.int _ _)⟩
  cases hq
 |d hv=>
  cases hv with
  |Qf a0 k' cap=>simp at hq;subst hq;exact⟨_,o6 h0 nC a0 0 cap w,.d (.int _ _)⟩
  |Sv b off k' cap es f vU hb kj cm hw hr=>simp at hq;subst hq;exact⟨_,o6 h0 nC _ _ cap w,.d (.int _ _)⟩
  |_=>cases hq
 |_=>cases hq
theorem qak(h:aC Q T F G w a s){t y ty at'}(h0:at'[0]?=some t)(Hg:jJ Q t=some y){v p q}(hv:aH F w G s.rg v p)(hq:HQ s p=some q):
  ∃x,(Builtin.len_ at' ty #[v]).run Q w= .ok x w/\aH F w G s.rg x q:=by
 have nC:=gX Hg;unfold HQ at hq;split at hq
 next n aV=>
  split at hq
  next kt2 get c last ho=>simp only[zam] at hq;subst hq;obtain⟨e0,_,_,_,zG,b,es,clock,hG,hb,hM⟩:=Ds h hv ho;rw[hG] at zG;subst zG;obtain⟨ks,_,hc,_⟩:=hM;refine⟨goInt es.size,by simp[Builtin.len_,h0,run_underlying nC,MapKept.run_getObj_map hb],?_⟩;rw[hc];exact .d (.int _ _)
  cases hq
 cases hq
theorem Dv{x y p q r}(hx:aH F w G s.rg x p)(hy:aH F w G s.rg y q)(hr:vR s p q=some r):
  r=false/\((∃b,x= .pointer (some b)/\y= .pointer none)\/ ∃b,x= .pointer none/\y= .pointer (some b)):=by
 unfold vR at hr;split at hr
 ·cases hx with
  |ref n aV off v h h1=>cases hy with |d hy=>cases hy;(split at hr)<;>simp at hr;rename_i hl;obtain⟨e,he,eb,hl⟩:=S.dG hl;obtain⟨b,_,hv⟩:=h.at he eb hl;grind
 ·cases hx with
  |dJ n aV i k off v h1 h=>cases hy with |d hy=>cases hy;(split at hr)<;>simp at hr;rename_i hl;obtain⟨e,he,eb,hl⟩:=S.dG hl;obtain⟨b,_,_,_,hv⟩:=h.at he eb hl;grind
 ·cases hy with
  |ref n aV off v h h1=>cases hx with |d hx=>cases hx;(split at hr)<;>simp at hr;rename_i hl;obtain⟨e,he,eb,hl⟩:=S.dG hl;obtain⟨b,_,hv⟩:=h.at he eb hl;grind
 ·cases hy with
  |dJ n aV i k off v h1 h=>cases hx with |d hx=>cases hx;(split at hr)<;>simp at hr;rename_i hl;obtain⟨e,he,eb,hl⟩:=S.dG hl;obtain⟨b,_,_,_,hv⟩:=h.at he eb hl;grind
 ·cases hx with |fh=>cases hy with |d hy=>cases hy;grind
 ·cases hy with |fh=>cases hx with |d hx=>cases hx;grind
 cases hr
theorem x7 d {t e}(ht:Q.underlying t=some (.pointer e)){x y}(h:(∃b,x= .pointer (some b)/\y= .pointer none)\/ ∃b,x= .pointer none/\y= .pointer (some b)) w:
  (Op.equalIn (d+1) t x y).run Q w= .ok false w:=by
 rcases h with⟨b,rfl,rfl⟩| ⟨b,rfl,rfl⟩<;>simp[Op.equalIn,run_underlying ht]
theorem w5{t e}(ht:Q.underlying t=some (.pointer e)){x y}(h:(∃b,x= .pointer (some b)/\y= .pointer none)\/ ∃b,x= .pointer none/\y= .pointer (some b)) op ox oy w
  (ux:op= .eql\/op= .neq):(do eqGuard op t ox oy x y;Go.binOp op t x y:Sem Value).run Q w= .ok (.bool (op matches .neq)) w:=by
 have he:=x7 (Q:=Q) 9999 ht h w;rcases h with⟨b,rfl,rfl⟩| ⟨b,rfl,rfl⟩<;>rcases ux with rfl |rfl<;>simp only[eqGuard,Go.binOp,Op.equal,Op.maxDepth]<;>simp[he]
theorem yD(h:aC Q T F G w a s){g}(hg:mR a g): ∀(xs:List Operand) (vs:List Value),dt (xs.map (s.eg g))=some vs->xs.map a.eval=vs
 | [],vs,hv=>by grind [dt]
 |x::xs,vs,hv=>by
  simp only[za4,dt] at hv;cases h1:(s.eg g x).cD with
  |none=>grind
  |some v=>
   cases h2:dt (xs.map (s.eg g)) with
   |none=>grind
   |some us=>simp[h1,h2] at hv;subst hv;rw[za4,yD h hg xs us h2,(aU h hg x).cD h1]
theorem NM{v p ps}(hv:aH F w G s.rg v p)(h:p.Li=some ps): ∃vs,v= .agg ⟨vs⟩/\vs.length=ps.length/\(∀u∈vs,u.oneCell'=true)/\ ∀i c,ps[i]?=some c->aH F w G s.rg (vs.getD i undef) c:=by
 cases hv with
 |agg vs ps' hl jk hc=>grind [P.Li]
 |d hd=>
  cases hd with
  |agg vs cs hl cm hc=>
   simp[P.Li] at h;subst h;refine⟨vs,rfl,by grind,λu hu=> ?_,λi c hi=> ?_⟩
   ·obtain⟨i,hi⟩:=zaV hu;have bK:i<cs.length:=by have:=(zae.1 hi).1;omega
    exact(hc i u cs[i] hi (zad bK)).o5 (cm _ (zas bK))
   rw[zaN] at hi;cases hx:cs[i]? with
   |none=>rw[hx] at hi;cases hi
   |some x=>rw[hx] at hi;cases hi;refine .d ?_;grind
  |_=>simp[P.Li] at h
 |_=>simp[P.Li] at h
theorem NN{t vs ps off}{q}(hl:vs.length=ps.length)(jk: ∀u∈vs,u.oneCell'=true)(hc: ∀i c,ps[i]?=some c->aH F w G s.rg (vs.getD i undef) c)(hq:Dd Q t ps off=some q):
  ∃r,(Go.part t ⟨vs⟩ off).run Q w= .ok r w/\aH F w G s.rg r q:=by
 obtain⟨k,hk,hb,hr⟩:=HV (R:=s.rg) hq (λi=>vs.getD i undef) (λi hi=>by grind) hc;grind [TM]
theorem Qp{t f v p q}(hv:aH F w G s.rg v p)(hq:Lj Q t f p=some q): ∃r,(Instr.field t v f).run Q w= .ok r w/\aH F w G s.rg r q:=by
 unfold Lj at hq;split at hq
 next fs ps ht sq=>
  obtain⟨vs,rfl,hl,jk,hc⟩:=NM hv sq;split at hq
  next fl xZ=>obtain⟨r,h1,h2⟩:=NN hl jk hc hq;refine⟨r,?_,h2⟩;simp[Instr.field,run_underlying ht,xZ,asAgg,h1]
  cases hq
 cases hq
theorem Qq{t e n v u p i q}(ht:Q.underlying t=some (.array n e))(hv:aH F w G s.rg v p)(hu:aH F w G s.rg u i)(hq:Lk Q n e p i=some q):
  ∃r,(Instr.index t v u).run Q w= .ok r w/\aH F w G s.rg r q:=by
 unfold Lk at hq;split at hq
 next ps kk j k sq hk=>
  obtain⟨vs,rfl,hl,jk,hc⟩:=NM hv sq;cases hu with
  |d hu=>
   cases hu;split at hq
   next hj=>obtain⟨r,h1,h2⟩:=NN hl jk hc hq;refine⟨r,?_,h2⟩;simp[Instr.index,asIntOf,run_underlying ht,hj,run_sizeOf hk,h1]
   cases hq
 cases hq
theorem qit(h:aC Q T F G w a s){g}(hg:mR a g){o q}(hq:pv Q s o g=some q):
  ∃v,(execOp a.eval o).run Q w= .ok (.value v) w/\aH F w G s.rg v q:=by
 have up: ∀{m:Sem Value} {q:P},ey Q m=some q-> ∃v,m.run Q w= .ok v w/\aH F w G s.rg v q:=λhh=>Qi hh F w G s.rg;unfold pv at hq;unfold execOp;split at hq
 next x hx=>simp at hq;subst hq;exact⟨a.eval x,by simp[hx],aU h hg x⟩
 next x hx=>simp at hq;subst hq;exact⟨a.eval x,by simp[hx],aU h hg x⟩
 next c x y ho=>
  split at hq
  next r hc=>
   simp at hq;subst hq;have hcv:a.eval c= .bool r:=(aU h hg c).cD (by rw[hc];rfl);cases r with
   |true=>exact⟨a.eval x,by simp[ho,hcv,asBool],aU h hg x⟩
   |false=>exact⟨a.eval y,by simp[ho,hcv,asBool],aU h hg y⟩
  cases hq
 next x ho=>
  obtain⟨rfl,hv⟩:=Cl (aU h hg x) hq;have hr:=aU h hg x;rcases hv with⟨b,hv⟩| ⟨f,c1,c2,hv⟩
  ·simp_all
  simp_all
 next op t x y yt ho=>
  unfold pY at hq;split at hq
  next u v hu hv=>obtain⟨r,h1,h2⟩:=up hq;refine⟨r,?_,h2⟩;simp only[ho];rw[(aU h hg x).cD hu,(aU h hg y).cD hv,Sem.run_bind,h1];rfl
  split at hq
  next hh TV=>simp at hq;subst hq;obtain⟨rfl,hcs⟩:=Dv (aU h hg x) (aU h hg y) TV;refine⟨_,?_,.d (.bool _)⟩;simp only[ho];rw[Sem.run_bind,w5 hh hcs .eql x y w (.inl rfl)];rfl
  next hh TV=>simp at hq;subst hq;obtain⟨rfl,hcs⟩:=Dv (aU h hg x) (aU h hg y) TV;refine⟨_,?_,.d (.bool _)⟩;simp only[ho];rw[Sem.run_bind,w5 hh hcs .neq x y w (.inr rfl)];rfl
  cases hq
 next op t x ho=>
  split at hq
  next u hu=>obtain⟨r,h1,h2⟩:=up hq;refine⟨r,?_,h2⟩;simp only[ho];rw[(aU h hg x).cD hu,Sem.run_bind,h1];rfl
  cases hq
 next t1 t2 x ho=>
  split at hq
  next u hu=>obtain⟨r,h1,h2⟩:=up hq;refine⟨r,?_,h2⟩;simp only[ho];rw[(aU h hg x).cD hu,Sem.run_bind,h1];rfl
  cases hq
 next t x ho=>obtain⟨r,h1,h2⟩:=HX h (aU h hg x) hq;simp_all
 next t x f ho=>obtain⟨r,h1,h2⟩:=Cm (aU h hg x) hq;simp_all
 next t x i ho=>obtain⟨r,h1,h2⟩:=Cn h (aU h hg x) (aU h hg i) hq;simp_all
 next t x i ho=>
  split at hq
  next n e ht=>obtain⟨r,h1,h2⟩:=Qq ht (aU h hg x) (aU h hg i) hq;simp_all
  split at hq
  next u v hu hv=>obtain⟨r,h1,h2⟩:=up hq;refine⟨r,?_,h2⟩;simp only[ho];rw[(aU h hg x).cD hu,(aU h hg i).cD hv,Sem.run_bind,h1];rfl
  cases hq
 next t x f ho=>obtain⟨r,h1,h2⟩:=Qp (aU h hg x) hq;simp_all
 next x i ho=>
  split at hq
  next ps sq=>
   have hr:=aU h hg x;rw[sq] at hr;generalize hax:a.eval x=vx at hr;cases hr with
   |dz vs _ hl hc=>
    have hi:i<ps.length:=(zae.1 hq).1;have hiv:i<vs.length:=by omega
    refine⟨vs[i],?_,hc i _ _ (zad hiv) hq⟩;simp[ho,hax,Instr.extract,hiv]
  cases hq
 next t x i ok ho=>
  split at hq
  next z hz=>obtain⟨y,ht,hz⟩:=zbU.1 hz;obtain⟨r,h1,h2⟩:=LA h ht hz (aU h hg x) (aU h hg i) hq;simp_all
  cases hq
 next x ho=>obtain⟨r,h1,h2⟩:=Qk h (aU h hg x) hq;simp_all
 next t x lo hi ho=>
  have Qn:(lo.map (s.eg g)=none/\lo.map a.eval=none)\/ ∃p v,lo.map (s.eg g)=some p/\lo.map a.eval=some v/\aH F w G s.rg v p:=by
   cases lo with
   |none=>simp
   |some l=>grind [aU]
  have hhi:(hi.map (s.eg g)=none/\hi.map a.eval=none)\/ ∃p v,hi.map (s.eg g)=some p/\hi.map a.eval=some v/\aH F w G s.rg v p:=by
   cases hi with
   |none=>simp
   |some l=>grind [aU]
  split at hq
  next b hb=>
   split at hq
   ·rename_i l hh hl hhh;obtain⟨r,h1,h2⟩:=up hq;have el:lo.map a.eval=l:=by
     cases lo with
     |none=>grind
     |some x'=>simp only[zay] at hl;obtain⟨v,hv,rfl⟩:=hl;simp[(aU h hg x').cD hv]
    have eh:hi.map a.eval=hh:=by
     cases hi with
     |none=>grind
     |some x'=>simp only[zay] at hhh;obtain⟨v,hv,rfl⟩:=hhh;simp[(aU h hg x').cD hv]
    refine⟨r,?_,h2⟩;simp only[ho,zb2];rw[(aU h hg x).cD hb,el,eh,Sem.run_bind,h1];rfl
   cases hq
  obtain⟨r,h1,h2⟩:=Qo h (aU h hg x) Qn hhi hq;simp_all
 next t parts ho=>
  split at hq
  next vs Qj=>
   obtain⟨r,h1,h2⟩:=up hq;have e1:parts.toList.map (λx=>a.eval x.2)=vs:=by have:=yD h hg (parts.toList.map (·.2)) vs (by grind [Function.comp_def]);grind [Function.comp_def]
   have e:(parts.map λ(i,x)=>(i,a.eval x))=((parts.toList.map (·.1)).zip vs).toArray:=by grind
   simp_all
  obtain⟨r,h1,h2⟩:=H3 (vals:=parts.map λ(i,x)=>(i,a.eval x)) hq (by simp) (λi x y hx hy=>by simp only[zdq,zaN,zay] at hx hy;obtain⟨x1,Co,rfl⟩:=hx;obtain⟨y1,Cp,rfl⟩:=hy;rw[Co] at Cp;cases Cp;exact⟨rfl,aU h hg x1.2⟩);simp_all
 next f first cW ho=>
  split at hq
  next qm9=>
   have e1:first= #[]:=by grind
   subst e1;simp only[zam] at hq;subst hq;refine⟨.func (.func f) #[] (cW.map a.eval),?_,?_⟩
   ·simp[ho,Instr.makeFunc]
   have:=aH.fn (F:=F) (w:=w) (G:=G) (R:=s.rg) f (cW.toList.map a.eval) (cW.toList.map (s.eg g)) (by simp) (λi v c hv hc=>by grind [aU]);have e:cW.map a.eval=⟨cW.toList.map a.eval⟩:=by grind
   rw[e];exact this
  cases hq
 next c ho=>
  split at hq
  next ko=>
   split at hq
   ·rename_i x cx;have ea:c.args= #[x]:=by grind
    split at hq
    next u hu=>obtain⟨r,h1,h2⟩:=up hq;refine⟨r,?_,h2⟩;have hx:=(aU h hg x).cD hu;simp[ho,resolve,ko,ea,invoke,builtin,hx,h1]
    split at hq
    next e het=>obtain⟨t0,ht0,het⟩:=zbU.1 het;obtain⟨r,h1,h2⟩:=qaj (ty:=o.type) ht0 het (aU h hg x) hq;refine⟨r,?_,h2⟩;simp[ho,resolve,ko,ea,invoke,builtin,h1]
    split at hq
    next y Hg=>obtain⟨t0,ht0,Hg⟩:=zbU.1 Hg;obtain⟨r,h1,h2⟩:=qak (ty:=o.type) h ht0 Hg (aU h hg x) hq;refine⟨r,?_,h2⟩;simp[ho,resolve,ko,ea,invoke,builtin,h1]
    cases hq
   cases hq
  next ko=>
   split at hq
   ·rename_i vs Qj;obtain⟨r,h1,h2⟩:=up hq;refine⟨r,?_,h2⟩;have e:=yD h hg _ _ Qj;have e2:c.args.map a.eval=vs.toArray:=by grind
    simp[ho,resolve,ko,invoke,builtin,e2,h1]
   cases hq
  next ko=>
   split at hq
   ·rename_i vs Qj;obtain⟨r,h1,h2⟩:=up hq;refine⟨r,?_,h2⟩;have e:=yD h hg _ _ Qj;have e2:c.args.map a.eval=vs.toArray:=by grind
    simp[ho,resolve,ko,invoke,builtin,e2,h1]
   cases hq
  cases hq
 cases hq
end
end Pi
