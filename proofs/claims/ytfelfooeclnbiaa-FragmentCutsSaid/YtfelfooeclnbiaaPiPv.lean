/- The text PiPv. -/
import Derived.Test.YtfelfooeclnbiaaPiStr
namespace Pi
open Go
section
variable{Q:Program}{T:Tg}{F:Nat->Prop}{G:Nat->Value}{w:World}{a:Act}{s:S}
theorem cQ{len l h:Nat}{lo hi:Option P}(hb:bw len lo hi=some (l,h)):l<=h/\h<=len:=by unfold bw at hb;grind
theorem eA{len cap l h:Nat}{lo hi:Option P}{vl vh:Option Value}(hb:bw len lo hi=some (l,h))(hle:hi=none\/len<=cap)
  (sY:(lo=none/\vl=none)\/ ∃p v,lo=some p/\vl=some v/\ao F w G s.rg v p) (w9:(hi=none/\vh=none)\/ ∃p v,hi=some p/\vh=some v/\ao F w G s.rg v p):
  (Instr.sliceBounds true len cap vl vh none).run Q w= .ok (l,h,cap) w:=by
 unfold bw at hb;rcases w9 with⟨rfl,rfl⟩| ⟨p,v,rfl,rfl,hp⟩
 ·skip
  rcases sY with⟨rfl,rfl⟩| ⟨p,v,rfl,rfl,hp⟩
  ·skip
   obtain⟨rfl,rfl⟩:=hb;rfl
  cases p<;>try (simp at hb;done)
  rename_i x;cases x<;>try (simp at hb;done)
  rename_i k j;cases hp with
  |d hp=>
   cases hp;simp only at hb;split at hb
   next hj=>obtain⟨rfl,rfl⟩:=hb;simp[Instr.sliceBounds,Instr.sliceBound,asIntOf,hj]
   cases hb
 cases p<;>try (simp at hb;done)
 rename_i x;cases x<;>try (simp at hb;done)
 rename_i k j;cases hp with
 |d hp=>
  cases hp;have yz:len<=cap:=by grind
  simp only at hb;by_cases hj:0<=j/\j<=(len:Int)
  ·have CO:0<=j/\j<=(cap:Int):=⟨hj.1,by omega⟩
   rw[zax hj] at hb;rcases sY with⟨rfl,rfl⟩| ⟨p,v,rfl,rfl,hp⟩
   ·skip
    obtain⟨rfl,rfl⟩:=hb;simp[Instr.sliceBounds,Instr.sliceBound,asIntOf,CO]
   cases p<;>try (simp at hb;done)
   rename_i x;cases x<;>try (simp at hb;done)
   rename_i k2 j2;cases hp with
   |d hp=>
    cases hp;simp only at hb;split at hb
    next CP=>simp[Instr.sliceBounds,Instr.sliceBound,asIntOf,CO,CP];grind
    cases hb
  grind
theorem kj{F':Nat->Prop}{n:Nat}{ty:TypeId}{fz:Bool}{es:List D}{k len:Nat}(hO:gi Q F w G s.rg n (.arr ty fz es))(hk:sz Q ty=some k){v:Value}
  (hv: ∃a N cap,G n= .slice a N cap/\v= .slice a len cap/\len<=N) (hF: ∀b,au (G n)=some b->F' b) (yG: ∀b,F b->F' b):ay F' w v (.sl k (es.take len)):=by
 obtain⟨a0,N,cap,hG,rfl,hle⟩:=hv;rcases hO with⟨hg,rfl⟩| ⟨b,cX,cs,k',hg,hh,eO,jt,qF,kl,bn,_,hE⟩
 ·rw[hG] at hg;simp at hg;have:len=0:=by omega
  subst this;exact .sS _ _ _
 rw[hk] at eO;cases eO;rw[hG] at hg;obtain⟨rfl,rfl,rfl⟩:=hg;have hlen:(es.take len).length=len:=by simp;omega
 have jQ: ∀i x,(es.take len)[i]?=some x->es[i]?=some x:=λi x hx=>by
  rw[zaO] at hx;split at hx
  ·exact hx
  cases hx
 have jv: ∀x,x∈es.take len-> ∃i,es[i]?=some x:=λx hx=>by obtain⟨i,hi⟩:=zar hx;exact⟨i,jQ i x hi⟩
 have:=ay.ui (F:=F') (w:=w) b 0 k cap (es.take len) (λi=>cs.getD i undef) (by omega) (hF b (by simp[hG,au])) (λx hx=>by obtain⟨i,hi⟩:=jv x hx;exact(hE i x hi).1)
  (λx hx=>by obtain⟨i,hi⟩:=jv x hx;exact(hE i x hi).2.1) (λi hi=>by
   have:i<cs.size:=by rw[bn];exact zaS hi (zaf _ (by omega))
   rw[za4,cell_of_row w b i cs ty (0,0) hh];simp_all) (λi j x c hx hc=>((hE i x (jQ i x hx)).2.2 j c hc).mono yG (λ_ _=>rfl))
 rwa [hlen] at this
theorem oz{F':Nat->Prop}{n:Nat}{ty:TypeId}{fz:Bool}{es:List D}{k off len:Nat}(hO:gi Q F w G s.rg n (.arr ty fz es))(hk:sz Q ty=some k){v:Value}
  (hv: ∃a N cap,G n= .slice a N cap/\off+len<=N/\ ∃a' cX,v= .slice a' len cX/\len<=cX/\(len=0\/ ∃b,a=some ⟨b,0,none⟩/\a'=some ⟨b,off*k,none⟩)) (hF: ∀b,au (G n)=some b->F' b) (yG: ∀b,F b->F' b):ay F' w v (.sl k ((es.drop off).take len)):=by
 obtain⟨a0,N,cap,hG,hle,a1,ie,rfl,uX,hz⟩:=hv;by_cases h0:len=0
 ·subst h0;exact .sS _ _ _
 obtain⟨b0,yA,uY⟩: ∃b,a0=some ⟨b,0,none⟩/\a1=some ⟨b,off*k,none⟩:=by grind
 subst yA uY;rcases hO with⟨hg,rfl⟩| ⟨b,cX,cs,k',hg,hh,eO,jt,qF,kl,bn,_,hE⟩
 ·rw[hG] at hg;simp at hg
 rw[hk] at eO;cases eO;rw[hG] at hg;obtain⟨rfl,rfl,rfl⟩:=hg;have hlen:((es.drop off).take len).length=len:=by simp;omega
 have jQ: ∀i x,((es.drop off).take len)[i]?=some x->es[off+i]?=some x:=λi x hx=>by grind
 have jv: ∀x,x∈(es.drop off).take len-> ∃i,es[i]?=some x:=λx hx=>by obtain⟨i,hi⟩:=zar hx;exact⟨off+i,jQ i x hi⟩
 have:=ay.ui (F:=F') (w:=w) b0 (off*k) k ie ((es.drop off).take len) (λi=>cs.getD (off*k+i) undef) (by omega) (hF b0 (by simp[hG,au])) (λx hx=>by obtain⟨i,hi⟩:=jv x hx;exact(hE i x hi).1)
  (λx hx=>by obtain⟨i,hi⟩:=jv x hx;exact(hE i x hi).2.1) (λi hi=>by
   rw[hlen] at hi;have h2:off*k+i<cs.size:=by
    rw[bn]
    calc off*k+i<off*k+len*k:=by omega
     _=(off+len)*k:=by rw[zas]
     _<=cap*k:=zaf _ (by omega)
   rw[cell_of_row w b0 (off*k+i) cs ty (0,0) hh];simp_all) (λi j x c hx hc=>by
   have:=((hE (off+i) x (jQ i x hx)).2.2 j c hc).mono yG (λ_ _=>rfl);rw[zas,zaT] at this;exact this)
 rwa [hlen] at this
theorem u7(h:ar Q T F G w a s){t:TypeId}{v:Value}{p:P}{lo:Option P}(hv:ao F w G s.rg v p):ao F w G s.rg v (fX Q s t p lo):=by
 unfold fX;split
 next n aw len=>
  split
  next x ty es k _ ho hk=>
   split
   ·rename_i k' eO;split
    ·rename_i dK;have dK:=zac dK;subst dK;obtain⟨e,he,bE,aN⟩:=S.aJ ho;have hO:=h.rg n e he;rw[aN] at hO;cases hv with
     |sl _ _ _ _ _ hr=>
      have DA:=hr.at he bE (by rw[aN];rfl);refine .d (kj hO eO DA (λb hb=> ?_) (λ_ h=>h));rcases hO with⟨hg,_⟩| ⟨b',cap,cs,k2,hg,_,_,_,_,_,_,hf,_⟩
      ·rw[hg] at hb;cases hb
      grind [au]
    exact hv
   exact hv
  exact hv
 exact hv
theorem sZ(h:ar Q T F G w a s){t:TypeId}{v:Value}{p q:P}{lo hi:Option P}{vl vh:Option Value}(hv:ao F w G s.rg v p)
  (sY:(lo=none/\vl=none)\/ ∃p v,lo=some p/\vl=some v/\ao F w G s.rg v p) (w9:(hi=none/\vh=none)\/ ∃p v,hi=some p/\vh=some v/\ao F w G s.rg v p)
  (hq:eV Q s t p lo hi=some q): ∃x,(Instr.sliceAt t v vl vh none).run Q w= .ok x w/\ao F w G s.rg x q:=by
 unfold eV at hq
 replace hv:=u7 h (t:=t) (lo:=lo) hv
 generalize fX Q s t p lo=p at hq hv;unfold lg at hq;split at hq
 ·cases hq
 rename_i e het;have dW:=bx het;split at hq
 next k hk=>
  cases hv with
  |d hv=>
   cases hv with
   |sS a0 k' cap=>
    simp only at hq;split at hq
    ·split at hq
     ·rename_i l hh hb;have:=cQ hb;have wL:l=0/\hh=0:=by grind
      obtain⟨rfl,rfl⟩:=wL;simp at hq;subst hq;refine⟨.slice (if cap=0 then a0 else a0.map (·.add (0*(k+1)))) 0 cap,?_,.d (.sS _ _ _)⟩;have bM:=eA (Q:=Q) (s:=s) (F:=F) (w:=w) (G:=G) (cap:=cap) hb (by simp) sY w9;simp only[zbY] at bM;simp[Instr.sliceAt,run_underlying dW,Instr.slice,bM,run_sizeOf hk]
     cases hq
    cases hq
   |ui b off k' cap es f jq hb dK aO hw hr=>
    simp only at hq;split at hq
    ·rename_i eO;have eO:k'=k+1:=by simpa using eO
     subst eO;split at hq
     ·rename_i l hh q9;have hle:=cQ q9;simp at hq;subst hq;have bM:=eA (Q:=Q) (s:=s) (F:=F) (w:=w) (G:=G) (cap:=cap) q9 (.inr jq) sY w9;refine⟨_,by simp[Instr.sliceAt,run_underlying dW,Instr.slice,bM,run_sizeOf hk];rfl,?_⟩;by_cases h0:hh-l=0
      ·rw[h0];have e0:(es.take hh).drop l=[]:=zam (by simp;omega);rw[e0];exact .d (.sS _ _ _)
      have bz: ¬cap=l:=by omega
      rw[zaB bz];have hlen:((es.take hh).drop l).length=hh-l:=by simp;omega
      have jQ: ∀i x,((es.take hh).drop l)[i]?=some x->es[l+i]?=some x:=λi x hx=>by grind
      have jv: ∀x,x∈(es.take hh).drop l->x∈es:=λx hx=>zbk (zbj hx);rw[<-hlen,addr_add];refine .d (.ui b (off+l*(k+1)) (k+1) (cap-l) _ (λi=>f (l*(k+1)+i)) (by omega) hb (λx hx=>dK x (jv x hx)) (λx hx=>aO x (jv x hx)) (λi hi=> ?_) (λi j x c hx hc=> ?_))
      ·rw[zaT];refine hw _ ?_;rw[hlen] at hi
       calc l*(k+1)+i<l*(k+1)+(hh-l)*(k+1):=by omega
        _=(l+(hh-l))*(k+1):=by rw[zas]
        _<=es.length*(k+1):=zaf _ (by omega)
      grind
     cases hq
    cases hq
   |_=>cases hq
  |sl n aw len v h1 hr=>
   simp only at hq;split at hq
   ·rename_i ty fz es ho;split at hq
    ·rename_i l hh q9;simp at hq;subst hq;obtain⟨en,he,bE,aN⟩:=S.aJ ho;obtain⟨a0,N,cap,hG,rfl,hle⟩:=hr.at he bE (by rw[aN];rfl);have hO:=h.rg n en he;rw[aN] at hO;have DB:N<=cap:=by
      rcases hO with⟨dO,_⟩| ⟨b',cX,cs,k2,dO,_,_,_,yz,_⟩
      ·grind
      grind
     have bM:=eA (Q:=Q) (s:=s) (F:=F) (w:=w) (G:=G) (cap:=cap) q9 (.inr (by omega)) (.inl ⟨rfl,rfl⟩) w9;have CQ:=cQ q9;have wL:l=0:=by unfold bw at q9;grind
     subst wL;have Bj:vl=none:=by grind
     subst Bj;refine⟨.slice a0 hh cap,?_,.sl n aw hh _ rfl ⟨en,he,by omega,λ_ _=>⟨a0,N,cap,hG,rfl,by omega⟩⟩⟩;have hz: ∀x:Addr,x.add 0=x:=λx=>by rfl
     simp only[Instr.sliceAt,Instr.slice,Sem.run_bind,run_underlying dW,Result.andThen_ok,bM,run_sizeOf hk];cases a0<;>simp[hz]
    cases hq
   ·rename_i ty fz es DC ho;split at hq
    ·rename_i k' eO;split at hq
     ·split at hq
      ·rename_i l hh q9;simp at hq;subst hq;obtain⟨en,he,bE,aN⟩:=S.aJ ho;obtain⟨a0,N,cap,hG,rfl,hle⟩:=hr.at he bE (by rw[aN];rfl);have hO:=h.rg n en he;rw[aN] at hO;have CQ:=cQ q9;have DB:N<=cap/\(N=0\/ ∃b,a0=some ⟨b,0,none⟩):=by
        rcases hO with⟨dO,_⟩| ⟨b',cX,cs,k2,dO,_,_,_,yz,_⟩
        ·grind
        grind
       have bM:=eA (Q:=Q) (s:=s) (F:=F) (w:=w) (G:=G) (cap:=cap) q9 (.inr (by omega)) sY w9;refine⟨.slice (if cap=l then a0 else a0.map (·.add (l*(k+1)))) (hh-l) (cap-l),by simp[Instr.sliceAt,run_underlying dW,Instr.slice,bM,run_sizeOf hk],.eL n aw (k+1) l (hh-l) _ rfl ⟨en,he,by omega,λ_ _=>⟨a0,N,cap,hG,by omega,_,_,rfl,by omega,?_⟩⟩⟩;grind [addr_add]
      cases hq
     cases hq
    cases hq
   cases hq
  |eL n aw k0 off len v h1 hr=>
   simp only at hq;split at hq
   ·rename_i ty fz es ho;split at hq
    ·rename_i dK;have dK:=zac dK;subst dK;split at hq
     ·rename_i l hh q9;simp at hq;subst hq;obtain⟨en,he,bE,aN⟩:=S.aJ ho;obtain⟨a0,N,cap,hG,hle,a1,ie,rfl,uX,hz⟩:=hr.at he bE (by rw[aN];rfl);have CQ:=cQ q9;have bM:=eA (Q:=Q) (s:=s) (F:=F) (w:=w) (G:=G) (cap:=ie) q9 (.inr uX) sY w9;refine⟨.slice (if ie=l then a1 else a1.map (·.add (l*(k+1)))) (hh-l) (ie-l),by simp[Instr.sliceAt,run_underlying dW,Instr.slice,bM,run_sizeOf hk],.eL n aw (k+1) (off+l) (hh-l) _ rfl ⟨en,he,by omega,λ_ _=>⟨a0,N,cap,hG,by omega,_,_,rfl,by omega,?_⟩⟩⟩;by_cases h0:hh-l=0
      ·grind
      rcases hz with hz | ⟨b,h2,h3⟩
      ·omega
      refine .inr ⟨b,h2,?_⟩;rw[zaB (by omega),h3];simp[addr_add,zas]
     cases hq
    cases hq
   cases hq
  |_=>cases hq
 cases hq
theorem fM{t e ty:TypeId}{uk:Array TypeId}(h0:uk[0]?=some t)(dW:Q.underlying t=some (.slice e))(b:Option Addr)(n c:Nat)(w:World):(Builtin.len_ uk ty #[.slice b n c]).run Q w= .ok (goInt n) w:=by simp[Builtin.len_,h0,run_underlying dW]
theorem xa{t e:TypeId}{ty:TypeId}{uk:Array TypeId}(h0:uk[0]?=some t)(het:aX Q t=some e){v:Value}{p q:P}(hv:ao F w G s.rg v p)(hq:pk s p=some q):
  ∃x,(Builtin.len_ uk ty #[v]).run Q w= .ok x w/\ao F w G s.rg x q:=by
 have dW:=bx het;unfold pk at hq;cases hv with
 |sl n aw len v h1 hr=>
  simp only at hq;split at hq
  next hl=>simp at hq;subst hq;obtain⟨en,he,bE,hl⟩:=S.bq hl;obtain⟨a0,N,cap,hG,rfl,hle⟩:=hr.at he bE hl;exact⟨_,fM h0 dW a0 len cap w,.d (.int _ _)⟩
  cases hq
 |eL n aw k off len v h1 hr=>
  simp only at hq;split at hq
  next hl=>simp at hq;subst hq;obtain⟨en,he,bE,hl⟩:=S.bq hl;obtain⟨a0,N,cap,hG,hle,a1,ie,rfl,_,_⟩:=hr.at he bE hl;exact⟨_,fM h0 dW a1 len ie w,.d (.int _ _)⟩
  cases hq
 |d hv=>
  cases hv with
  |sS a0 k' cap=>simp at hq;subst hq;exact⟨_,fM h0 dW a0 0 cap w,.d (.int _ _)⟩
  |ui b off k' cap es f jq hb dK aO hw hr=>simp at hq;subst hq;exact⟨_,fM h0 dW _ _ cap w,.d (.int _ _)⟩
  |_=>cases hq
 |_=>cases hq
theorem xb(h:ar Q T F G w a s){t:TypeId}{y:TypeId×TypeId}{ty:TypeId}{uk:Array TypeId}(h0:uk[0]?=some t)(mR:cm Q t=some y){v:Value}{p q:P}(hv:ao F w G s.rg v p)(hq:pn s p=some q):
  ∃x,(Builtin.len_ uk ty #[v]).run Q w= .ok x w/\ao F w G s.rg x q:=by
 have dW:=bZ mR;unfold pn at hq;split at hq
 next n aw=>
  split at hq
  next w8 get c last ho=>simp only[zae] at hq;subst hq;obtain⟨e0,_,_,_,iy,b,es,clock,hG,hb,hM⟩:=pF h hv ho;rw[hG] at iy;subst iy;obtain⟨ks,_,hc,_⟩:=hM;refine⟨goInt es.size,by simp[Builtin.len_,h0,run_underlying dW,MapKept.run_getObj_map hb],?_⟩;rw[hc];exact .d (.int _ _)
  next w8 ks ho=>simp only[zae] at hq;subst hq;obtain⟨e0,_,_,_,iy,b,es,clock,hG,hb,hM⟩:=pG h hv ho;rw[hG] at iy;subst iy;refine⟨goInt es.size,by simp[Builtin.len_,h0,run_underlying dW,MapKept.run_getObj_map hb],?_⟩;have:ks.length=es.size:=hM.1;rw[this];exact .d (.int _ _)
  cases hq
 cases hq
theorem nC{x y:Value}{p q:P}{r:Bool}(hx:ao F w G s.rg x p)(hy:ao F w G s.rg y q)(hr:jL s p q=some r):
  r=false/\((∃b,x= .pointer (some b)/\y= .pointer none)\/ ∃b,x= .pointer none/\y= .pointer (some b)):=by
 unfold jL at hr;split at hr
 ·cases hx with
  |ref n aw off v h h1=>cases hy with |d hy=>cases hy;(split at hr)<;>simp at hr;rename_i hl;obtain⟨e,he,bE,hl⟩:=S.bq hl;obtain⟨b,_,hv⟩:=h.at he bE hl;grind
 ·cases hx with
  |bs n aw i k off v h1 h=>cases hy with |d hy=>cases hy;(split at hr)<;>simp at hr;rename_i hl;obtain⟨e,he,bE,hl⟩:=S.bq hl;obtain⟨b,_,_,_,hv⟩:=h.at he bE hl;grind
 ·cases hy with
  |ref n aw off v h h1=>cases hx with |d hx=>cases hx;(split at hr)<;>simp at hr;rename_i hl;obtain⟨e,he,bE,hl⟩:=S.bq hl;obtain⟨b,_,hv⟩:=h.at he bE hl;grind
 ·cases hy with
  |bs n aw i k off v h1 h=>cases hx with |d hx=>cases hx;(split at hr)<;>simp at hr;rename_i hl;obtain⟨e,he,bE,hl⟩:=S.bq hl;obtain⟨b,_,_,_,hv⟩:=h.at he bE hl;grind
 ·cases hx with |bT=>cases hy with |d hy=>cases hy;grind
 ·cases hy with |bT=>cases hx with |d hx=>cases hx;grind
 cases hr
theorem kY(d:Nat){t e:TypeId}(ht:Q.underlying t=some (.pointer e)){x y:Value}(h:(∃b,x= .pointer (some b)/\y= .pointer none)\/ ∃b,x= .pointer none/\y= .pointer (some b))(w:World):
  (Op.equalIn (d+1) t x y).run Q w= .ok false w:=by
 rcases h with⟨b,rfl,rfl⟩| ⟨b,rfl,rfl⟩<;>simp[Op.equalIn,run_underlying ht]
theorem km{t e:TypeId}(ht:Q.underlying t=some (.pointer e)){x y:Value}(h:(∃b,x= .pointer (some b)/\y= .pointer none)\/ ∃b,x= .pointer none/\y= .pointer (some b))(op:BinOp)(ox oy:Operand)(w:World)
  (BP:op= .eql\/op= .neq):(do eqGuard op t ox oy x y;Go.binOp op t x y:Sem Value).run Q w= .ok (.bool (op matches .neq)) w:=by
 have he:=kY (Q:=Q) 9999 ht h w;rcases h with⟨b,rfl,rfl⟩| ⟨b,rfl,rfl⟩<;>rcases BP with rfl |rfl<;>simp only[eqGuard,Go.binOp,Op.equal,Op.maxDepth]<;>simp[he]
theorem ll(h:ar Q T F G w a s){g:Option (Nat×Bool)}(hg:eN a g): ∀(xs:List Operand) (vs:List Value),bc (xs.map (s.eg g))=some vs->xs.map a.eval=vs
 | [],vs,hv=>by grind [bc]
 |x::xs,vs,hv=>by
  simp only[zaZ,bc] at hv;cases h1:(s.eg g x).aV with
  |none=>grind
  |some v=>
   cases h2:bc (xs.map (s.eg g)) with
   |none=>grind
   |some us=>simp[h1,h2] at hv;subst hv;rw[zaZ,ll h hg xs us h2,(av h hg x).aV h1]
theorem sg{v:Value}{p:P}{ps:List P}(hv:ao F w G s.rg v p)(h:p.qK=some ps): ∃vs:List Value,v= .agg ⟨vs⟩/\vs.length=ps.length/\(∀u∈vs,u.oneCell'=true)/\ ∀(i:Nat) (c:P),ps[i]?=some c->ao F w G s.rg (vs.getD i undef) c:=by
 cases hv with
 |agg vs EO hl cK hc=>grind [P.qK]
 |d hd=>
  cases hd with
  |agg vs cs hl aO hc=>
   simp[P.qK] at h;subst h;refine⟨vs,rfl,by grind,λu hu=> ?_,λi c hi=> ?_⟩
   ·obtain⟨i,hi⟩:=zar hu;have bm:i<cs.length:=by have:=(zaa.1 hi).1;omega
    exact(hc i u cs[i] hi (zab bm)).fK (aO _ (za2 bm))
   rw[zap] at hi;cases hx:cs[i]? with
   |none=>rw[hx] at hi;cases hi
   |some x=>rw[hx] at hi;cases hi;refine .d ?_;grind
  |_=>simp[P.qK] at h
 |_=>simp[P.qK] at h
theorem si{t:TypeId}{vs:List Value}{ps:List P}{off:Nat}{q:P}(hl:vs.length=ps.length)(cK: ∀u∈vs,u.oneCell'=true)(hc: ∀(i:Nat) (c:P),ps[i]?=some c->ao F w G s.rg (vs.getD i undef) c)(hq:nj Q t ps off=some q):
  ∃r,(Go.part t ⟨vs⟩ off).run Q w= .ok r w/\ao F w G s.rg r q:=by
 obtain⟨k,hk,hb,hr⟩:=py (R:=s.rg) hq (λi=>vs.getD i undef) (λi hi=>by grind) hc;grind [uV]
theorem s4{t:TypeId}{f:Nat}{v:Value}{p q:P}(hv:ao F w G s.rg v p)(hq:qL Q t f p=some q): ∃r,(Instr.field t v f).run Q w= .ok r w/\ao F w G s.rg r q:=by
 unfold qL at hq;split at hq
 next fs ps ht pg=>
  obtain⟨vs,rfl,hl,cK,hc⟩:=sg hv pg;split at hq
  next fl BM=>obtain⟨r,h1,h2⟩:=si hl cK hc hq;refine⟨r,?_,h2⟩;simp[Instr.field,run_underlying ht,BM,asAgg,h1]
  cases hq
 cases hq
theorem s5{t e:TypeId}{n:Nat}{v u:Value}{p i q:P}(ht:Q.underlying t=some (.array n e))(hv:ao F w G s.rg v p)(hu:ao F w G s.rg u i)(hq:qM Q n e p i=some q):
  ∃r,(Instr.index t v u).run Q w= .ok r w/\ao F w G s.rg r q:=by
 unfold qM at hq;split at hq
 next ps kk j k pg hk=>
  obtain⟨vs,rfl,hl,cK,hc⟩:=sg hv pg;cases hu with
  |d hu=>
   cases hu;split at hq
   next hj=>obtain⟨r,h1,h2⟩:=si hl cK hc hq;refine⟨r,?_,h2⟩;simp[Instr.index,asIntOf,run_underlying ht,hj,run_sizeOf hk,h1]
   cases hq
 cases hq
theorem Ai(h:ar Q T F G w a s){g:Option (Nat×Bool)}(hg:eN a g){o:Oper}{q:P}(hq:pv Q s o g=some q):
  ∃v,(execOp a.eval o).run Q w= .ok (.value v) w/\ao F w G s.rg v q:=by
 have up: ∀{m:Sem Value} {q:P},bC Q m=some q-> ∃v,m.run Q w= .ok v w/\ao F w G s.rg v q:=λhh=>sU hh F w G s.rg;unfold pv at hq;unfold execOp;split at hq
 next x hx=>simp at hq;subst hq;exact⟨a.eval x,by simp[hx],av h hg x⟩
 next x hx=>simp at hq;subst hq;exact⟨a.eval x,by simp[hx],av h hg x⟩
 next c x y ho=>
  split at hq
  next r hc=>
   simp at hq;subst hq;have CR:a.eval c= .bool r:=(av h hg c).aV (by rw[hc];rfl);cases r with
   |true=>exact⟨a.eval x,by simp[ho,CR,asBool],av h hg x⟩
   |false=>exact⟨a.eval y,by simp[ho,CR,asBool],av h hg y⟩
  cases hq
 next x ho=>
  obtain⟨rfl,hv⟩:=mO (av h hg x) hq;have hr:=av h hg x;rcases hv with⟨b,hv⟩| ⟨f,c1,c2,hv⟩
  ·simp_all
  simp_all
 next op t x y yt ho=>
  unfold gg at hq;split at hq
  next u v hu hv=>obtain⟨r,h1,h2⟩:=up hq;refine⟨r,?_,h2⟩;simp only[ho];rw[(av h hg x).aV hu,(av h hg y).aV hv,Sem.run_bind,h1];rfl
  split at hq
  next hh vb=>simp at hq;subst hq;obtain⟨rfl,hcs⟩:=nC (av h hg x) (av h hg y) vb;refine⟨_,?_,.d (.bool _)⟩;simp only[ho];rw[Sem.run_bind,km hh hcs .eql x y w (.inl rfl)];rfl
  next hh vb=>simp at hq;subst hq;obtain⟨rfl,hcs⟩:=nC (av h hg x) (av h hg y) vb;refine⟨_,?_,.d (.bool _)⟩;simp only[ho];rw[Sem.run_bind,km hh hcs .neq x y w (.inr rfl)];rfl
  cases hq
 next op t x ho=>
  split at hq
  next u hu=>obtain⟨r,h1,h2⟩:=up hq;refine⟨r,?_,h2⟩;simp only[ho];rw[(av h hg x).aV hu,Sem.run_bind,h1];rfl
  cases hq
 next t1 t2 x ho=>
  split at hq
  next u hu=>obtain⟨r,h1,h2⟩:=up hq;refine⟨r,?_,h2⟩;simp only[ho];rw[(av h hg x).aV hu,Sem.run_bind,h1];rfl
  cases hq
 next t x ho=>obtain⟨r,h1,h2⟩:=pA h (av h hg x) hq;simp_all
 next t x f ho=>obtain⟨r,h1,h2⟩:=mP (av h hg x) hq;simp_all
 next t x i ho=>obtain⟨r,h1,h2⟩:=mQ h (av h hg x) (av h hg i) hq;simp_all
 next t x i ho=>
  split at hq
  next n e ht=>obtain⟨r,h1,h2⟩:=s5 ht (av h hg x) (av h hg i) hq;simp_all
  split at hq
  next u v hu hv=>obtain⟨r,h1,h2⟩:=up hq;refine⟨r,?_,h2⟩;simp only[ho];rw[(av h hg x).aV hu,(av h hg i).aV hv,Sem.run_bind,h1];rfl
  cases hq
 next t x f ho=>obtain⟨r,h1,h2⟩:=s4 (av h hg x) hq;simp_all
 next x i ho=>
  split at hq
  next ps pg=>
   have hr:=av h hg x;rw[pg] at hr;generalize DE:a.eval x=vx at hr;cases hr with
   |dR vs _ hl hc=>
    have hi:i<ps.length:=(zaa.1 hq).1;have CS:i<vs.length:=by omega
    refine⟨vs[i],?_,hc i _ _ (zab CS) hq⟩;simp[ho,DE,Instr.extract,CS]
  cases hq
 next t x i ok ho=>
  split at hq
  next z hz=>obtain⟨y,ht,hz⟩:=za0.1 hz;obtain⟨r,h1,h2⟩:=q7 h ht hz (av h hg x) (av h hg i) hq;simp_all
  cases hq
 next x ho=>obtain⟨r,h1,h2⟩:=sV h (av h hg x) hq;simp_all
 next t x lo hi ho=>
  have sY:(lo.map (s.eg g)=none/\lo.map a.eval=none)\/ ∃p v,lo.map (s.eg g)=some p/\lo.map a.eval=some v/\ao F w G s.rg v p:=by
   cases lo with
   |none=>simp
   |some l=>grind [av]
  have w9:(hi.map (s.eg g)=none/\hi.map a.eval=none)\/ ∃p v,hi.map (s.eg g)=some p/\hi.map a.eval=some v/\ao F w G s.rg v p:=by
   cases hi with
   |none=>simp
   |some l=>grind [av]
  split at hq
  next b hb=>
   split at hq
   ·rename_i l hh hl CT;obtain⟨r,h1,h2⟩:=up hq;have el:lo.map a.eval=l:=by
     cases lo with
     |none=>grind
     |some x'=>simp only[zaj] at hl;obtain⟨v,hv,rfl⟩:=hl;simp[(av h hg x').aV hv]
    have eh:hi.map a.eval=hh:=by
     cases hi with
     |none=>grind
     |some x'=>simp only[zaj] at CT;obtain⟨v,hv,rfl⟩:=CT;simp[(av h hg x').aV hv]
    refine⟨r,?_,h2⟩;simp only[ho,zbz];rw[(av h hg x).aV hb,el,eh,Sem.run_bind,h1];rfl
   cases hq
  obtain⟨r,h1,h2⟩:=sZ h (av h hg x) sY w9 hq;simp_all
 next t parts ho=>
  split at hq
  next vs q5=>
   obtain⟨r,h1,h2⟩:=up hq;have e1:parts.toList.map (λx=>a.eval x.2)=vs:=by have:=ll h hg (parts.toList.map (·.2)) vs (by grind [Function.comp_def]);grind [Function.comp_def]
   have e:(parts.map λ(i,x)=>(i,a.eval x))=((parts.toList.map (·.1)).zip vs).toArray:=by grind
   simp_all
  obtain⟨r,h1,h2⟩:=pI (vals:=parts.map λ(i,x)=>(i,a.eval x)) hq (by simp) (λi x y hx hy=>by simp only[zbT,zap,zaj] at hx hy;obtain⟨x1,yc,rfl⟩:=hx;obtain⟨y1,s6,rfl⟩:=hy;rw[yc] at s6;cases s6;exact⟨rfl,av h hg x1.2⟩);simp_all
 next f first bV ho=>
  split at hq
  next BQ=>
   have e1:first= #[]:=by grind
   subst e1;simp only[zae] at hq;subst hq;refine⟨.func (.func f) #[] (bV.map a.eval),?_,?_⟩
   ·simp[ho,Instr.makeFunc]
   have:=ao.fn (F:=F) (w:=w) (G:=G) (R:=s.rg) f (bV.toList.map a.eval) (bV.toList.map (s.eg g)) (by simp) (λi v c hv hc=>by grind [av]);have e:bV.map a.eval=⟨bV.toList.map a.eval⟩:=by grind
   rw[e];exact this
  cases hq
 next c ho=>
  split at hq
  next fb=>
   split at hq
   ·rename_i x bf;have ea:c.args= #[x]:=by grind
    split at hq
    next u hu=>obtain⟨r,h1,h2⟩:=up hq;refine⟨r,?_,h2⟩;have hx:=(av h hg x).aV hu;simp[ho,resolve,fb,ea,invoke,builtin,hx,h1]
    split at hq
    next e het=>obtain⟨t0,yH,het⟩:=za0.1 het;obtain⟨r,h1,h2⟩:=xa (ty:=o.type) yH het (av h hg x) hq;refine⟨r,?_,h2⟩;simp[ho,resolve,fb,ea,invoke,builtin,h1]
    split at hq
    next y mR=>obtain⟨t0,yH,mR⟩:=za0.1 mR;obtain⟨r,h1,h2⟩:=xb (ty:=o.type) h yH mR (av h hg x) hq;refine⟨r,?_,h2⟩;simp[ho,resolve,fb,ea,invoke,builtin,h1]
    cases hq
   cases hq
  next fb=>
   split at hq
   ·rename_i vs q5;obtain⟨r,h1,h2⟩:=up hq;refine⟨r,?_,h2⟩;have e:=ll h hg _ _ q5;have e2:c.args.map a.eval=vs.toArray:=by grind
    simp[ho,resolve,fb,invoke,builtin,e2,h1]
   cases hq
  next fb=>
   split at hq
   ·rename_i vs q5;obtain⟨r,h1,h2⟩:=up hq;refine⟨r,?_,h2⟩;have e:=ll h hg _ _ q5;have e2:c.args.map a.eval=vs.toArray:=by grind
    simp[ho,resolve,fb,invoke,builtin,e2,h1]
   cases hq
  cases hq
 cases hq
end
end Pi
