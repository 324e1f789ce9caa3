/- The text PiPv. -/
import Derived.Test.YtfelfooeclnbiaaPiStr
namespace Pi
open Go
section
variable{Q:Program}{T:Tg}{F:Nat->Prop}{G:Nat->Value}{w:World}{a:Act}{s:S}
theorem db{len l h:Nat}{lo hi:Option P}(hb:bI len lo hi=some (l,h)):l<=h/\h<=len:=by unfold bI at hb;grind
theorem eP{len cap l h:Nat}{lo hi:Option P}{vl vh:Option Value}(hb:bI len lo hi=some (l,h))(hle:hi=none\/len<=cap)
  (uy:(lo=none/\vl=none)\/ ∃p v,lo=some p/\vl=some v/\ao F w G s.rg v p) (yL:(hi=none/\vh=none)\/ ∃p v,hi=some p/\vh=some v/\ao F w G s.rg v p):
  (Instr.sliceBounds true len cap vl vh none).run Q w= .ok (l,h,cap) w:=by
 unfold bI at hb;rcases yL with⟨rfl,rfl⟩| ⟨p,v,rfl,rfl,hp⟩
 ·skip
  rcases uy with⟨rfl,rfl⟩| ⟨p,v,rfl,rfl,hp⟩
  ·skip
   obtain⟨rfl,rfl⟩:=hb;rfl
  cases p<;>try (simp at hb;done)
  rename_i x;cases x<;>try (simp at hb;done)
  rename_i k j;cases hp with
  |d hp=>
   cases hp;simp only at hb;split at hb
   next hj=>obtain⟨rfl,rfl⟩:=hb;simp[Instr.sliceBounds,Instr.sliceBound,asIntOf,hj]
   cases hb
 cases p<;>try (simp at hb;done)
 rename_i x;cases x<;>try (simp at hb;done)
 rename_i k j;cases hp with
 |d hp=>
  cases hp;have AA:len<=cap:=by grind
  simp only at hb;by_cases hj:0<=j/\j<=(len:Int)
  ·have wI:0<=j/\j<=(cap:Int):=⟨hj.1,by omega⟩
   rw[zau hj] at hb;rcases uy with⟨rfl,rfl⟩| ⟨p,v,rfl,rfl,hp⟩
   ·skip
    obtain⟨rfl,rfl⟩:=hb;simp[Instr.sliceBounds,Instr.sliceBound,asIntOf,wI]
   cases p<;>try (simp at hb;done)
   rename_i x;cases x<;>try (simp at hb;done)
   rename_i k2 j2;cases hp with
   |d hp=>
    cases hp;simp only at hb;split at hb
    next FY=>simp[Instr.sliceBounds,Instr.sliceBound,asIntOf,wI,FY];grind
    cases hb
  grind
theorem kY{F':Nat->Prop}{n:Nat}{ty:TypeId}{fz:Bool}{es:List D}{k len:Nat}(hO:gY Q F w G s.rg n (.arr ty fz es))(hk:sz Q ty=some k){v:Value}
  (hv: ∃a N cap,G n= .slice a N cap/\v= .slice a len cap/\len<=N) (hF: ∀b,au (G n)=some b->F' b) (AJ: ∀b,F b->F' b):az F' w v (.sl k (es.take len)):=by
 obtain⟨a0,N,cap,hG,rfl,hle⟩:=hv;rcases hO with⟨hg,rfl⟩| ⟨b,dS,cs,k',hg,hh,ga,fR,rF,nx,bM,_,hE⟩
 ·rw[hG] at hg;simp at hg;have:len=0:=by omega
  subst this;exact .ur _ _ _
 rw[hk] at ga;cases ga;rw[hG] at hg;obtain⟨rfl,rfl,rfl⟩:=hg;have hlen:(es.take len).length=len:=by simp;omega
 have kA: ∀i x,(es.take len)[i]?=some x->es[i]?=some x:=λi x hx=>by
  rw[zaZ] at hx;split at hx
  ·exact hx
  cases hx
 have jX: ∀x,x∈es.take len-> ∃i,es[i]?=some x:=λx hx=>by obtain⟨i,hi⟩:=zas hx;exact⟨i,kA i x hi⟩
 have:=az.vI (F:=F') (w:=w) b 0 k cap (es.take len) (λi=>cs.getD i undef) (by omega) (hF b (by simp[hG,au])) (λx hx=>by obtain⟨i,hi⟩:=jX x hx;exact(hE i x hi).1)
  (λx hx=>by obtain⟨i,hi⟩:=jX x hx;exact(hE i x hi).2.1) (λi hi=>by
   have:i<cs.size:=by rw[bM];exact zbm hi (zag _ (by omega))
   rw[zbk,cell_of_row w b i cs ty (0,0) hh];simp_all) (λi j x c hx hc=>((hE i x (kA i x hx)).2.2 j c hc).mono AJ (λ_ _=>rfl))
 rwa [hlen] at this
theorem pn{F':Nat->Prop}{n:Nat}{ty:TypeId}{fz:Bool}{es:List D}{k off len:Nat}(hO:gY Q F w G s.rg n (.arr ty fz es))(hk:sz Q ty=some k){v:Value}
  (hv: ∃a N cap,G n= .slice a N cap/\off+len<=N/\ ∃a' dS,v= .slice a' len dS/\len<=dS/\(len=0\/ ∃b,a=some ⟨b,0,none⟩/\a'=some ⟨b,off*k,none⟩)) (hF: ∀b,au (G n)=some b->F' b) (AJ: ∀b,F b->F' b):az F' w v (.sl k ((es.drop off).take len)):=by
 obtain⟨a0,N,cap,hG,hle,a1,iP,rfl,wD,hz⟩:=hv;by_cases h0:len=0
 ·subst h0;exact .ur _ _ _
 obtain⟨b0,AB,wE⟩: ∃b,a0=some ⟨b,0,none⟩/\a1=some ⟨b,off*k,none⟩:=by grind
 subst AB wE;rcases hO with⟨hg,rfl⟩| ⟨b,dS,cs,k',hg,hh,ga,fR,rF,nx,bM,_,hE⟩
 ·rw[hG] at hg;simp at hg
 rw[hk] at ga;cases ga;rw[hG] at hg;obtain⟨rfl,rfl,rfl⟩:=hg;have hlen:((es.drop off).take len).length=len:=by simp;omega
 have kA: ∀i x,((es.drop off).take len)[i]?=some x->es[off+i]?=some x:=λi x hx=>by grind
 have jX: ∀x,x∈(es.drop off).take len-> ∃i,es[i]?=some x:=λx hx=>by obtain⟨i,hi⟩:=zas hx;exact⟨off+i,kA i x hi⟩
 have:=az.vI (F:=F') (w:=w) b0 (off*k) k iP ((es.drop off).take len) (λi=>cs.getD (off*k+i) undef) (by omega) (hF b0 (by simp[hG,au])) (λx hx=>by obtain⟨i,hi⟩:=jX x hx;exact(hE i x hi).1)
  (λx hx=>by obtain⟨i,hi⟩:=jX x hx;exact(hE i x hi).2.1) (λi hi=>by
   rw[hlen] at hi;have h2:off*k+i<cs.size:=by
    rw[bM]
    calc off*k+i<off*k+len*k:=by omega
     _=(off+len)*k:=by rw[zaw]
     _<=cap*k:=zag _ (by omega)
   rw[cell_of_row w b0 (off*k+i) cs ty (0,0) hh];simp_all) (λi j x c hx hc=>by
   have:=((hE (off+i) x (kA i x hx)).2.2 j c hc).mono AJ (λ_ _=>rfl);rw[zaw,za3] at this;exact this)
 rwa [hlen] at this
theorem wJ(h:ar Q T F G w a s){t:TypeId}{v:Value}{p:P}{lo:Option P}(hv:ao F w G s.rg v p):ao F w G s.rg v (gu Q s t p lo):=by
 unfold gu;split
 next n ay len=>
  split
  next x ty es k _ ho hk=>
   split
   ·rename_i k' ga;split
    ·rename_i dT;have dT:=zab dT;subst dT;obtain⟨e,he,bP,aO⟩:=S.aJ ho;have hO:=h.rg n e he;rw[aO] at hO;cases hv with
     |sl _ _ _ _ _ hr=>
      have GK:=hr.at he bP (by rw[aO];rfl);refine .d (kY hO ga GK (λb hb=> ?_) (λ_ h=>h));rcases hO with⟨hg,_⟩| ⟨b',cap,cs,k2,hg,_,_,_,_,_,_,hf,_⟩
      ·rw[hg] at hb;cases hb
      grind [au]
    exact hv
   exact hv
  exact hv
 exact hv
theorem uz(h:ar Q T F G w a s){t:TypeId}{v:Value}{p q:P}{lo hi:Option P}{vl vh:Option Value}(hv:ao F w G s.rg v p)
  (uy:(lo=none/\vl=none)\/ ∃p v,lo=some p/\vl=some v/\ao F w G s.rg v p) (yL:(hi=none/\vh=none)\/ ∃p v,hi=some p/\vh=some v/\ao F w G s.rg v p)
  (hq:fh Q s t p lo hi=some q): ∃x,(Instr.sliceAt t v vl vh none).run Q w= .ok x w/\ao F w G s.rg x q:=by
 unfold fh at hq
 replace hv:=wJ h (t:=t) (lo:=lo) hv
 generalize gu Q s t p lo=p at hq hv;unfold lT at hq;split at hq
 ·cases hq
 rename_i e het;have eo:=bJ het;split at hq
 next k hk=>
  cases hv with
  |d hv=>
   cases hv with
   |ur a0 k' cap=>
    simp only at hq;split at hq
    ·split at hq
     ·rename_i l hh hb;have:=db hb;have yi:l=0/\hh=0:=by grind
      obtain⟨rfl,rfl⟩:=yi;simp at hq;subst hq;refine⟨.slice (if cap=0 then a0 else a0.map (·.add (0*(k+1)))) 0 cap,?_,.d (.ur _ _ _)⟩;have bX:=eP (Q:=Q) (s:=s) (F:=F) (w:=w) (G:=G) (cap:=cap) hb (by simp) uy yL;simp only[zbv] at bX;simp[Instr.sliceAt,run_underlying eo,Instr.slice,bX,run_sizeOf hk]
     cases hq
    cases hq
   |vI b off k' cap es f jT hb dT aP hw hr=>
    simp only at hq;split at hq
    ·rename_i ga;have ga:k'=k+1:=by simpa using ga
     subst ga;split at hq
     ·rename_i l hh sd;have hle:=db sd;simp at hq;subst hq;have bX:=eP (Q:=Q) (s:=s) (F:=F) (w:=w) (G:=G) (cap:=cap) sd (.inr jT) uy yL;refine⟨_,by simp[Instr.sliceAt,run_underlying eo,Instr.slice,bX,run_sizeOf hk];rfl,?_⟩;by_cases h0:hh-l=0
      ·rw[h0];have e0:(es.take hh).drop l=[]:=zar (by simp;omega);rw[e0];exact .d (.ur _ _ _)
      have cc: ¬cap=l:=by omega
      rw[zay cc];have hlen:((es.take hh).drop l).length=hh-l:=by simp;omega
      have kA: ∀i x,((es.take hh).drop l)[i]?=some x->es[l+i]?=some x:=λi x hx=>by grind
      have jX: ∀x,x∈(es.take hh).drop l->x∈es:=λx hx=>zbs (zbr hx);rw[<-hlen,bs];refine .d (.vI b (off+l*(k+1)) (k+1) (cap-l) _ (λi=>f (l*(k+1)+i)) (by omega) hb (λx hx=>dT x (jX x hx)) (λx hx=>aP x (jX x hx)) (λi hi=> ?_) (λi j x c hx hc=> ?_))
      ·rw[za3];refine hw _ ?_;rw[hlen] at hi
       calc l*(k+1)+i<l*(k+1)+(hh-l)*(k+1):=by omega
        _=(l+(hh-l))*(k+1):=by rw[zaw]
        _<=es.length*(k+1):=zag _ (by omega)
      grind
     cases hq
    cases hq
   |_=>cases hq
  |sl n ay len v h1 hr=>
   simp only at hq;split at hq
   ·rename_i ty fz es ho;split at hq
    ·rename_i l hh sd;simp at hq;subst hq;obtain⟨en,he,bP,aO⟩:=S.aJ ho;obtain⟨a0,N,cap,hG,rfl,hle⟩:=hr.at he bP (by rw[aO];rfl);have hO:=h.rg n en he;rw[aO] at hO;have GL:N<=cap:=by
      rcases hO with⟨e7,_⟩| ⟨b',dS,cs,k2,e7,_,_,_,AA,_⟩
      ·grind
      grind
     have bX:=eP (Q:=Q) (s:=s) (F:=F) (w:=w) (G:=G) (cap:=cap) sd (.inr (by omega)) (.inl ⟨rfl,rfl⟩) yL;have FZ:=db sd;have yi:l=0:=by unfold bI at sd;grind
     subst yi;have DA:vl=none:=by grind
     subst DA;refine⟨.slice a0 hh cap,?_,.sl n ay hh _ rfl ⟨en,he,by omega,λ_ _=>⟨a0,N,cap,hG,rfl,by omega⟩⟩⟩;have hz: ∀x:Addr,x.add 0=x:=λx=>by rfl
     simp only[Instr.sliceAt,Instr.slice,Sem.run_bind,run_underlying eo,Result.andThen_ok,bX,run_sizeOf hk];cases a0<;>simp[hz]
    cases hq
   ·rename_i ty fz es GM ho;split at hq
    ·rename_i k' ga;split at hq
     ·split at hq
      ·rename_i l hh sd;simp at hq;subst hq;obtain⟨en,he,bP,aO⟩:=S.aJ ho;obtain⟨a0,N,cap,hG,rfl,hle⟩:=hr.at he bP (by rw[aO];rfl);have hO:=h.rg n en he;rw[aO] at hO;have FZ:=db sd;have GL:N<=cap/\(N=0\/ ∃b,a0=some ⟨b,0,none⟩):=by
        rcases hO with⟨e7,_⟩| ⟨b',dS,cs,k2,e7,_,_,_,AA,_⟩
        ·grind
        grind
       have bX:=eP (Q:=Q) (s:=s) (F:=F) (w:=w) (G:=G) (cap:=cap) sd (.inr (by omega)) uy yL;refine⟨.slice (if cap=l then a0 else a0.map (·.add (l*(k+1)))) (hh-l) (cap-l),by simp[Instr.sliceAt,run_underlying eo,Instr.slice,bX,run_sizeOf hk],.eZ n ay (k+1) l (hh-l) _ rfl ⟨en,he,by omega,λ_ _=>⟨a0,N,cap,hG,by omega,_,_,rfl,by omega,?_⟩⟩⟩;grind [bs]
      cases hq
     cases hq
    cases hq
   cases hq
  |eZ n ay k0 off len v h1 hr=>
   simp only at hq;split at hq
   ·rename_i ty fz es ho;split at hq
    ·rename_i dT;have dT:=zab dT;subst dT;split at hq
     ·rename_i l hh sd;simp at hq;subst hq;obtain⟨en,he,bP,aO⟩:=S.aJ ho;obtain⟨a0,N,cap,hG,hle,a1,iP,rfl,wD,hz⟩:=hr.at he bP (by rw[aO];rfl);have FZ:=db sd;have bX:=eP (Q:=Q) (s:=s) (F:=F) (w:=w) (G:=G) (cap:=iP) sd (.inr wD) uy yL;refine⟨.slice (if iP=l then a1 else a1.map (·.add (l*(k+1)))) (hh-l) (iP-l),by simp[Instr.sliceAt,run_underlying eo,Instr.slice,bX,run_sizeOf hk],.eZ n ay (k+1) (off+l) (hh-l) _ rfl ⟨en,he,by omega,λ_ _=>⟨a0,N,cap,hG,by omega,_,_,rfl,by omega,?_⟩⟩⟩;by_cases h0:hh-l=0
      ·grind
      rcases hz with hz | ⟨b,h2,h3⟩
      ·omega
      refine .inr ⟨b,h2,?_⟩;rw[zay (by omega),h3];simp[bs,zaw]
     cases hq
    cases hq
   cases hq
  |_=>cases hq
 cases hq
theorem gb{t e ty:TypeId}{vK:Array TypeId}(h0:vK[0]?=some t)(eo:Q.underlying t=some (.slice e))(b:Option Addr)(n c:Nat)(w:World):(Builtin.len_ vK ty #[.slice b n c]).run Q w= .ok (goInt n) w:=by simp[Builtin.len_,h0,run_underlying eo]
theorem yM{t e:TypeId}{ty:TypeId}{vK:Array TypeId}(h0:vK[0]?=some t)(het:bd Q t=some e){v:Value}{p q:P}(hv:ao F w G s.rg v p)(hq:qf s p=some q):
  ∃x,(Builtin.len_ vK ty #[v]).run Q w= .ok x w/\ao F w G s.rg x q:=by
 have eo:=bJ het;unfold qf at hq;cases hv with
 |sl n ay len v h1 hr=>
  simp only at hq;split at hq
  next hl=>simp at hq;subst hq;obtain⟨en,he,bP,hl⟩:=S.bE hl;obtain⟨a0,N,cap,hG,rfl,hle⟩:=hr.at he bP hl;exact⟨_,gb h0 eo a0 len cap w,.d (.int _ _)⟩
  cases hq
 |eZ n ay k off len v h1 hr=>
  simp only at hq;split at hq
  next hl=>simp at hq;subst hq;obtain⟨en,he,bP,hl⟩:=S.bE hl;obtain⟨a0,N,cap,hG,hle,a1,iP,rfl,_,_⟩:=hr.at he bP hl;exact⟨_,gb h0 eo a1 len iP w,.d (.int _ _)⟩
  cases hq
 |d hv=>
  cases hv with
  |ur a0 k' cap=>simp at hq;subst hq;exact⟨_,gb h0 eo a0 0 cap w,.d (.int _ _)⟩
  |vI b off k' cap es f jT hb dT aP hw hr=>simp at hq;subst hq;exact⟨_,gb h0 eo _ _ cap w,.d (.int _ _)⟩
  |_=>cases hq
 |_=>cases hq
theorem yN(h:ar Q T F G w a s){t:TypeId}{y:TypeId×TypeId}{ty:TypeId}{vK:Array TypeId}(h0:vK[0]?=some t)(nK:cC Q t=some y){v:Value}{p q:P}(hv:ao F w G s.rg v p)(hq:qg s p=some q):
  ∃x,(Builtin.len_ vK ty #[v]).run Q w= .ok x w/\ao F w G s.rg x q:=by
 have eo:=ct nK;unfold qg at hq;split at hq
 next n ay=>
  split at hq
  next yK get c last ho=>simp only[zae] at hq;subst hq;obtain⟨e0,_,_,_,jc,b,es,clock,hG,hb,hM⟩:=qu h hv ho;rw[hG] at jc;subst jc;obtain⟨ks,_,hc,_⟩:=hM;refine⟨goInt es.size,by simp[Builtin.len_,h0,run_underlying eo,MapKept.run_getObj_map hb],?_⟩;rw[hc];exact .d (.int _ _)
  next yK ks ho=>simp only[zae] at hq;subst hq;obtain⟨e0,_,_,_,jc,b,es,clock,hG,hb,hM⟩:=qv h hv ho;rw[hG] at jc;subst jc;refine⟨goInt es.size,by simp[Builtin.len_,h0,run_underlying eo,MapKept.run_getObj_map hb],?_⟩;have:ks.length=es.size:=hM.1;rw[this];exact .d (.int _ _)
  cases hq
 cases hq
theorem ou{x y:Value}{p q:P}{r:Bool}(hx:ao F w G s.rg x p)(hy:ao F w G s.rg y q)(hr:kr s p q=some r):
  r=false/\((∃b,x= .pointer (some b)/\y= .pointer none)\/ ∃b,x= .pointer none/\y= .pointer (some b)):=by
 unfold kr at hr;split at hr
 ·cases hx with
  |ref n ay off v h h1=>cases hy with |d hy=>cases hy;(split at hr)<;>simp at hr;rename_i hl;obtain⟨e,he,bP,hl⟩:=S.bE hl;obtain⟨b,_,hv⟩:=h.at he bP hl;grind
 ·cases hx with
  |bG n ay i k off v h1 h=>cases hy with |d hy=>cases hy;(split at hr)<;>simp at hr;rename_i hl;obtain⟨e,he,bP,hl⟩:=S.bE hl;obtain⟨b,_,_,_,hv⟩:=h.at he bP hl;grind
 ·cases hy with
  |ref n ay off v h h1=>cases hx with |d hx=>cases hx;(split at hr)<;>simp at hr;rename_i hl;obtain⟨e,he,bP,hl⟩:=S.bE hl;obtain⟨b,_,hv⟩:=h.at he bP hl;grind
 ·cases hy with
  |bG n ay i k off v h1 h=>cases hx with |d hx=>cases hx;(split at hr)<;>simp at hr;rename_i hl;obtain⟨e,he,bP,hl⟩:=S.bE hl;obtain⟨b,_,_,_,hv⟩:=h.at he bP hl;grind
 ·cases hx with |cl=>cases hy with |d hy=>cases hy;grind
 ·cases hy with |cl=>cases hx with |d hx=>cases hx;grind
 cases hr
theorem lO(d:Nat){t e:TypeId}(ht:Q.underlying t=some (.pointer e)){x y:Value}(h:(∃b,x= .pointer (some b)/\y= .pointer none)\/ ∃b,x= .pointer none/\y= .pointer (some b))(w:World):
  (Op.equalIn (d+1) t x y).run Q w= .ok false w:=by
 rcases h with⟨b,rfl,rfl⟩| ⟨b,rfl,rfl⟩<;>simp[Op.equalIn,run_underlying ht]
theorem kZ{t e:TypeId}(ht:Q.underlying t=some (.pointer e)){x y:Value}(h:(∃b,x= .pointer (some b)/\y= .pointer none)\/ ∃b,x= .pointer none/\y= .pointer (some b))(op:BinOp)(ox oy:Operand)(w:World)
  (Er:op= .eql\/op= .neq):(do eqGuard op t ox oy x y;Go.binOp op t x y:Sem Value).run Q w= .ok (.bool (op matches .neq)) w:=by
 have he:=lO (Q:=Q) 9999 ht h w;rcases h with⟨b,rfl,rfl⟩| ⟨b,rfl,rfl⟩<;>rcases Er with rfl |rfl<;>simp only[eqGuard,Go.binOp,Op.equal,Op.maxDepth]<;>simp[he]
theorem lW(h:ar Q T F G w a s){g:Option (Nat×Bool)}(hg:e9 a g): ∀(xs:List Operand) (vs:List Value),bq (xs.map (s.eg g))=some vs->xs.map a.eval=vs
 | [],vs,hv=>by grind [bq]
 |x::xs,vs,hv=>by
  simp only[za7,bq] at hv;cases h1:(s.eg g x).aX with
  |none=>grind
  |some v=>
   cases h2:bq (xs.map (s.eg g)) with
   |none=>grind
   |some us=>simp[h1,h2] at hv;subst hv;rw[za7,lW h hg xs us h2,(aw h hg x).aX h1]
theorem tB{v:Value}{p:P}{ps:List P}(hv:ao F w G s.rg v p)(h:p.rP=some ps): ∃vs:List Value,v= .agg ⟨vs⟩/\vs.length=ps.length/\(∀u∈vs,u.oneCell'=true)/\ ∀(i:Nat) (c:P),ps[i]?=some c->ao F w G s.rg (vs.getD i undef) c:=by
 cases hv with
 |agg vs H2 hl cW hc=>grind [P.rP]
 |d hd=>
  cases hd with
  |agg vs cs hl aP hc=>
   simp[P.rP] at h;subst h;refine⟨vs,rfl,by grind,λu hu=> ?_,λi c hi=> ?_⟩
   ·obtain⟨i,hi⟩:=zas hu;have bA:i<cs.length:=by have:=(zaa.1 hi).1;omega
    exact(hc i u cs[i] hi (zad bA)).iB (aP _ (zal bA))
   rw[zao] at hi;cases hx:cs[i]? with
   |none=>rw[hx] at hi;cases hi
   |some x=>rw[hx] at hi;cases hi;refine .d ?_;grind
  |_=>simp[P.rP] at h
 |_=>simp[P.rP] at h
theorem tC{t:TypeId}{vs:List Value}{ps:List P}{off:Nat}{q:P}(hl:vs.length=ps.length)(cW: ∀u∈vs,u.oneCell'=true)(hc: ∀(i:Nat) (c:P),ps[i]?=some c->ao F w G s.rg (vs.getD i undef) c)(hq:n4 Q t ps off=some q):
  ∃r,(Go.part t ⟨vs⟩ off).run Q w= .ok r w/\ao F w G s.rg r q:=by
 obtain⟨k,hk,hb,hr⟩:=ql (R:=s.rg) hq (λi=>vs.getD i undef) (λi hi=>by grind) hc;grind [wB]
theorem uA{t:TypeId}{f:Nat}{v:Value}{p q:P}(hv:ao F w G s.rg v p)(hq:rQ Q t f p=some q): ∃r,(Instr.field t v f).run Q w= .ok r w/\ao F w G s.rg r q:=by
 unfold rQ at hq;split at hq
 next fs ps ht oe=>
  obtain⟨vs,rfl,hl,cW,hc⟩:=tB hv oe;split at hq
  next fl z6=>obtain⟨r,h1,h2⟩:=tC hl cW hc hq;refine⟨r,?_,h2⟩;simp[Instr.field,run_underlying ht,z6,asAgg,h1]
  cases hq
 cases hq
theorem uB{t e:TypeId}{n:Nat}{v u:Value}{p i q:P}(ht:Q.underlying t=some (.array n e))(hv:ao F w G s.rg v p)(hu:ao F w G s.rg u i)(hq:rR Q n e p i=some q):
  ∃r,(Instr.index t v u).run Q w= .ok r w/\ao F w G s.rg r q:=by
 unfold rR at hq;split at hq
 next ps kk j k oe hk=>
  obtain⟨vs,rfl,hl,cW,hc⟩:=tB hv oe;cases hu with
  |d hu=>
   cases hu;split at hq
   next hj=>obtain⟨r,h1,h2⟩:=tC hl cW hc hq;refine⟨r,?_,h2⟩;simp[Instr.index,asIntOf,run_underlying ht,hj,run_sizeOf hk,h1]
   cases hq
 cases hq
theorem Cm(h:ar Q T F G w a s){g:Option (Nat×Bool)}(hg:e9 a g){o:Oper}{q:P}(hq:pv Q s o g=some q):
  ∃v,(execOp a.eval o).run Q w= .ok (.value v) w/\ao F w G s.rg v q:=by
 have up: ∀{m:Sem Value} {q:P},bO Q m=some q-> ∃v,m.run Q w= .ok v w/\ao F w G s.rg v q:=λhh=>uv hh F w G s.rg;unfold pv at hq;unfold execOp;split at hq
 next x hx=>simp at hq;subst hq;exact⟨a.eval x,by simp[hx],aw h hg x⟩
 next x hx=>simp at hq;subst hq;exact⟨a.eval x,by simp[hx],aw h hg x⟩
 next c x y ho=>
  split at hq
  next r hc=>
   simp at hq;subst hq;have F4:a.eval c= .bool r:=(aw h hg c).aX (by rw[hc];rfl);cases r with
   |true=>exact⟨a.eval x,by simp[ho,F4,asBool],aw h hg x⟩
   |false=>exact⟨a.eval y,by simp[ho,F4,asBool],aw h hg y⟩
  cases hq
 next x ho=>
  obtain⟨rfl,hv⟩:=nH (aw h hg x) hq;have hr:=aw h hg x;rcases hv with⟨b,hv⟩| ⟨f,c1,c2,hv⟩
  ·simp_all
  simp_all
 next op t x y yt ho=>
  unfold gD at hq;split at hq
  next u v hu hv=>obtain⟨r,h1,h2⟩:=up hq;refine⟨r,?_,h2⟩;simp only[ho];rw[(aw h hg x).aX hu,(aw h hg y).aX hv,Sem.run_bind,h1];rfl
  split at hq
  next hh AK=>simp at hq;subst hq;obtain⟨rfl,hcs⟩:=ou (aw h hg x) (aw h hg y) AK;refine⟨_,?_,.d (.bool _)⟩;simp only[ho];rw[Sem.run_bind,kZ hh hcs .eql x y w (.inl rfl)];rfl
  next hh AK=>simp at hq;subst hq;obtain⟨rfl,hcs⟩:=ou (aw h hg x) (aw h hg y) AK;refine⟨_,?_,.d (.bool _)⟩;simp only[ho];rw[Sem.run_bind,kZ hh hcs .neq x y w (.inr rfl)];rfl
  cases hq
 next op t x ho=>
  split at hq
  next u hu=>obtain⟨r,h1,h2⟩:=up hq;refine⟨r,?_,h2⟩;simp only[ho];rw[(aw h hg x).aX hu,Sem.run_bind,h1];rfl
  cases hq
 next t1 t2 x ho=>
  split at hq
  next u hu=>obtain⟨r,h1,h2⟩:=up hq;refine⟨r,?_,h2⟩;simp only[ho];rw[(aw h hg x).aX hu,Sem.run_bind,h1];rfl
  cases hq
 next t x ho=>obtain⟨r,h1,h2⟩:=qn h (aw h hg x) hq;simp_all
 next t x f ho=>obtain⟨r,h1,h2⟩:=nI (aw h hg x) hq;simp_all
 next t x i ho=>obtain⟨r,h1,h2⟩:=nJ h (aw h hg x) (aw h hg i) hq;simp_all
 next t x i ho=>
  split at hq
  next n e ht=>obtain⟨r,h1,h2⟩:=uB ht (aw h hg x) (aw h hg i) hq;simp_all
  split at hq
  next u v hu hv=>obtain⟨r,h1,h2⟩:=up hq;refine⟨r,?_,h2⟩;simp only[ho];rw[(aw h hg x).aX hu,(aw h hg i).aX hv,Sem.run_bind,h1];rfl
  cases hq
 next t x f ho=>obtain⟨r,h1,h2⟩:=uA (aw h hg x) hq;simp_all
 next x i ho=>
  split at hq
  next ps oe=>
   have hr:=aw h hg x;rw[oe] at hr;generalize GN:a.eval x=vx at hr;cases hr with
   |dW vs _ hl hc=>
    have hi:i<ps.length:=(zaa.1 hq).1;have F5:i<vs.length:=by omega
    refine⟨vs[i],?_,hc i _ _ (zad F5) hq⟩;simp[ho,GN,Instr.extract,F5]
  cases hq
 next t x i ok ho=>
  split at hq
  next z hz=>obtain⟨y,ht,hz⟩:=za8.1 hz;obtain⟨r,h1,h2⟩:=sa h ht hz (aw h hg x) (aw h hg i) hq;simp_all
  cases hq
 next x ho=>obtain⟨r,h1,h2⟩:=uw h (aw h hg x) hq;simp_all
 next t x lo hi ho=>
  have uy:(lo.map (s.eg g)=none/\lo.map a.eval=none)\/ ∃p v,lo.map (s.eg g)=some p/\lo.map a.eval=some v/\ao F w G s.rg v p:=by
   cases lo with
   |none=>simp
   |some l=>grind [aw]
  have yL:(hi.map (s.eg g)=none/\hi.map a.eval=none)\/ ∃p v,hi.map (s.eg g)=some p/\hi.map a.eval=some v/\ao F w G s.rg v p:=by
   cases hi with
   |none=>simp
   |some l=>grind [aw]
  split at hq
  next b hb=>
   split at hq
   ·rename_i l hh hl F6;obtain⟨r,h1,h2⟩:=up hq;have el:lo.map a.eval=l:=by
     cases lo with
     |none=>grind
     |some x'=>simp only[zak] at hl;obtain⟨v,hv,rfl⟩:=hl;simp[(aw h hg x').aX hv]
    have eh:hi.map a.eval=hh:=by
     cases hi with
     |none=>grind
     |some x'=>simp only[zak] at F6;obtain⟨v,hv,rfl⟩:=F6;simp[(aw h hg x').aX hv]
    refine⟨r,?_,h2⟩;simp only[ho,zbL];rw[(aw h hg x).aX hb,el,eh,Sem.run_bind,h1];rfl
   cases hq
  obtain⟨r,h1,h2⟩:=uz h (aw h hg x) uy yL hq;simp_all
 next t parts ho=>
  split at hq
  next vs r8=>
   obtain⟨r,h1,h2⟩:=up hq;have e1:parts.toList.map (λx=>a.eval x.2)=vs:=by have:=lW h hg (parts.toList.map (·.2)) vs (by grind [Function.comp_def]);grind [Function.comp_def]
   have e:(parts.map λ(i,x)=>(i,a.eval x))=((parts.toList.map (·.1)).zip vs).toArray:=by grind
   simp_all
  obtain⟨r,h1,h2⟩:=qx (vals:=parts.map λ(i,x)=>(i,a.eval x)) hq (by simp) (λi x y hx hy=>by simp only[zb3,zao,zak] at hx hy;obtain⟨x1,Ab,rfl⟩:=hx;obtain⟨y1,uC,rfl⟩:=hy;rw[Ab] at uC;cases uC;exact⟨rfl,aw h hg x1.2⟩);simp_all
 next f first cn ho=>
  split at hq
  next Es=>
   have e1:first= #[]:=by grind
   subst e1;simp only[zae] at hq;subst hq;refine⟨.func (.func f) #[] (cn.map a.eval),?_,?_⟩
   ·simp[ho,Instr.makeFunc]
   have:=ao.fn (F:=F) (w:=w) (G:=G) (R:=s.rg) f (cn.toList.map a.eval) (cn.toList.map (s.eg g)) (by simp) (λi v c hv hc=>by grind [aw]);have e:cn.map a.eval=⟨cn.toList.map a.eval⟩:=by grind
   rw[e];exact this
  cases hq
 next c ho=>
  split at hq
  next ft=>
   split at hq
   ·rename_i x bt;have ea:c.args= #[x]:=by grind
    split at hq
    next u hu=>obtain⟨r,h1,h2⟩:=up hq;refine⟨r,?_,h2⟩;have hx:=(aw h hg x).aX hu;simp[ho,resolve,ft,ea,invoke,builtin,hx,h1]
    split at hq
    next e het=>obtain⟨t0,AL,het⟩:=za8.1 het;obtain⟨r,h1,h2⟩:=yM (ty:=o.type) AL het (aw h hg x) hq;refine⟨r,?_,h2⟩;simp[ho,resolve,ft,ea,invoke,builtin,h1]
    split at hq
    next y nK=>obtain⟨t0,AL,nK⟩:=za8.1 nK;obtain⟨r,h1,h2⟩:=yN (ty:=o.type) h AL nK (aw h hg x) hq;refine⟨r,?_,h2⟩;simp[ho,resolve,ft,ea,invoke,builtin,h1]
    cases hq
   cases hq
  next ft=>
   split at hq
   ·rename_i vs r8;obtain⟨r,h1,h2⟩:=up hq;refine⟨r,?_,h2⟩;have e:=lW h hg _ _ r8;have e2:c.args.map a.eval=vs.toArray:=by grind
    simp[ho,resolve,ft,invoke,builtin,e2,h1]
   cases hq
  next ft=>
   split at hq
   ·rename_i vs r8;obtain⟨r,h1,h2⟩:=up hq;refine⟨r,?_,h2⟩;have e:=lW h hg _ _ r8;have e2:c.args.map a.eval=vs.toArray:=by grind
    simp[ho,resolve,ft,invoke,builtin,e2,h1]
   cases hq
  cases hq
 cases hq
end
end Pi
