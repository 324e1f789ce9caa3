/- The text PiPv. -/
import Derived.Test.YtpiohccneeblhaaPiStr
namespace Pi
open Go
section
variable{Q:Program}{T:Tg}{F:Nat->Prop}{G:Nat->Value}{w:World}{a:Act}{s:S}
theorem eP{len l h:Nat}{lo hi:Option P}(hb:cq len lo hi=some (l,h)):l<=h/\h<=len:=by unfold cq at hb;grind
theorem gK{len cap l h:Nat}{lo hi:Option P}{vl vh:Option Value}(hb:cq len lo hi=some (l,h))(hle:hi=none\/len<=cap)
  (zP:(lo=none/\vl=none)\/ ∃p v,lo=some p/\vl=some v/\ao F w G s.rg v p) (Es:(hi=none/\vh=none)\/ ∃p v,hi=some p/\vh=some v/\ao F w G s.rg v p):
  (Instr.sliceBounds true len cap vl vh none).run Q w= .ok (l,h,cap) w:=by
 unfold cq at hb;rcases Es with⟨rfl,rfl⟩| ⟨p,v,rfl,rfl,hp⟩
 ·skip
  rcases zP with⟨rfl,rfl⟩| ⟨p,v,rfl,rfl,hp⟩
  ·skip
   obtain⟨rfl,rfl⟩:=hb;rfl
  cases p<;>try (simp at hb;done)
  rename_i x;cases x<;>try (simp at hb;done)
  rename_i k j;cases hp with
  |d hp=>
   cases hp;simp only at hb;split at hb
   next hj=>obtain⟨rfl,rfl⟩:=hb;simp[Instr.sliceBounds,Instr.sliceBound,asIntOf,hj]
   cases hb
 cases p<;>try (simp at hb;done)
 rename_i x;cases x<;>try (simp at hb;done)
 rename_i k j;cases hp with
 |d hp=>
  cases hp;have Em:len<=cap:=by grind
  simp only at hb;by_cases hj:0<=j/\j<=(len:Int)
  ·have KL:0<=j/\j<=(cap:Int):=⟨hj.1,by omega⟩
   rw[zat hj] at hb;rcases zP with⟨rfl,rfl⟩| ⟨p,v,rfl,rfl,hp⟩
   ·skip
    obtain⟨rfl,rfl⟩:=hb;simp[Instr.sliceBounds,Instr.sliceBound,asIntOf,KL]
   cases p<;>try (simp at hb;done)
   rename_i x;cases x<;>try (simp at hb;done)
   rename_i k2 j2;cases hp with
   |d hp=>
    cases hp;simp only at hb;split at hb
    next NJ=>simp[Instr.sliceBounds,Instr.sliceBound,asIntOf,KL,NJ];grind
    cases hb
  grind
theorem ku{F':Nat->Prop}{n:Nat}{ty:TypeId}{fz:Bool}{es:List D}{k len:Nat}(hO:eN Q F w G s.rg n (.arr ty fz es))(hk:sz Q ty=some k){v:Value}
  (hv: ∃a N cap,G n= .slice a N cap/\v= .slice a len cap/\len<=N) (hF: ∀b,aj (G n)=some b->F' b) (GJ: ∀b,F b->F' b):az F' w v (.sl k (es.take len)):=by
 obtain⟨a0,N,cap,hG,rfl,hle⟩:=hv;rcases hO with⟨hg,rfl⟩| ⟨b,dU,cs,k',hg,hh,ig,je,sb,qU,cm,_,hE⟩
 ·rw[hG] at hg;simp at hg;have:len=0:=by omega
  subst this;exact .A9 _ _ _
 rw[hk] at ig;cases ig;rw[hG] at hg;obtain⟨rfl,rfl,rfl⟩:=hg;have hlen:(es.take len).length=len:=by simp;omega
 have lq: ∀i x,(es.take len)[i]?=some x->es[i]?=some x:=λi x hx=>by
  rw[zaS] at hx;split at hx
  ·exact hx
  cases hx
 have eC: ∀x,x∈es.take len-> ∃i,es[i]?=some x:=λx hx=>by obtain⟨i,hi⟩:=zao hx;exact⟨i,lq i x hi⟩
 have:=az.Ba (F:=F') (w:=w) b 0 k cap (es.take len) (λi=>cs.getD i undef) (by omega) (hF b (by simp[hG,aj])) (λx hx=>by obtain⟨i,hi⟩:=eC x hx;exact(hE i x hi).1)
  (λx hx=>by obtain⟨i,hi⟩:=eC x hx;exact(hE i x hi).2.1) (λi hi=>by
   have:i<cs.size:=by rw[cm];exact zaK hi (zag _ (by omega))
   rw[zbK,cell_of_row w b i cs ty (0,0) hh];simp_all) (λi j x c hx hc=>((hE i x (lq i x hx)).2.2 j c hc).mono GJ (λ_ _=>rfl))
 rwa [hlen] at this
theorem tD{F':Nat->Prop}{n:Nat}{ty:TypeId}{fz:Bool}{es:List D}{k off len:Nat}(hO:eN Q F w G s.rg n (.arr ty fz es))(hk:sz Q ty=some k){v:Value}
  (hv: ∃a N cap,G n= .slice a N cap/\off+len<=N/\ ∃a' dU,v= .slice a' len dU/\len<=dU/\(len=0\/ ∃b,a=some ⟨b,0,none⟩/\a'=some ⟨b,off*k,none⟩)) (hF: ∀b,aj (G n)=some b->F' b) (GJ: ∀b,F b->F' b):az F' w v (.sl k ((es.drop off).take len)):=by
 obtain⟨a0,N,cap,hG,hle,a1,lj,rfl,BW,hz⟩:=hv;by_cases h0:len=0
 ·subst h0;exact .A9 _ _ _
 obtain⟨b0,GF,BX⟩: ∃b,a0=some ⟨b,0,none⟩/\a1=some ⟨b,off*k,none⟩:=by grind
 subst GF BX;rcases hO with⟨hg,rfl⟩| ⟨b,dU,cs,k',hg,hh,ig,je,sb,qU,cm,_,hE⟩
 ·rw[hG] at hg;simp at hg
 rw[hk] at ig;cases ig;rw[hG] at hg;obtain⟨rfl,rfl,rfl⟩:=hg;have hlen:((es.drop off).take len).length=len:=by simp;omega
 have lq: ∀i x,((es.drop off).take len)[i]?=some x->es[off+i]?=some x:=λi x hx=>by grind
 have eC: ∀x,x∈(es.drop off).take len-> ∃i,es[i]?=some x:=λx hx=>by obtain⟨i,hi⟩:=zao hx;exact⟨off+i,lq i x hi⟩
 have:=az.Ba (F:=F') (w:=w) b0 (off*k) k lj ((es.drop off).take len) (λi=>cs.getD (off*k+i) undef) (by omega) (hF b0 (by simp[hG,aj])) (λx hx=>by obtain⟨i,hi⟩:=eC x hx;exact(hE i x hi).1)
  (λx hx=>by obtain⟨i,hi⟩:=eC x hx;exact(hE i x hi).2.1) (λi hi=>by
   rw[hlen] at hi;have h2:off*k+i<cs.size:=by
    rw[cm]
    calc off*k+i<off*k+len*k:=by omega
     _=(off+len)*k:=by rw[zaz]
     _<=cap*k:=zag _ (by omega)
   rw[cell_of_row w b0 (off*k+i) cs ty (0,0) hh];simp_all) (λi j x c hx hc=>by
   have:=((hE (off+i) x (lq i x hx)).2.2 j c hc).mono GJ (λ_ _=>rfl);rw[zaz,zbf] at this;exact this)
 rwa [hlen] at this
theorem B5(h:aq Q T F G w a s){t:TypeId}{v:Value}{p:P}{lo:Option P}(hv:ao F w G s.rg v p):ao F w G s.rg v (jI Q s t p lo):=by
 unfold jI;split
 next n ay len=>
  split
  next x ty es k _ ho hk=>
   split
   ·rename_i k' ig;split
    ·rename_i dV;have dV:=zab dV;subst dV;obtain⟨e,he,bL,aP⟩:=S.aI ho;have hO:=h.rg n e he;rw[aP] at hO;cases hv with
     |sl _ _ _ _ _ hr=>
      have B2:=hr.at he bL (by rw[aP];rfl);refine .d (ku hO ig B2 (λb hb=> ?_) (λ_ h=>h));rcases hO with⟨hg,_⟩| ⟨b',cap,cs,k2,hg,_,_,_,_,_,_,hf,_⟩
      ·rw[hg] at hb;cases hb
      grind [aj]
    exact hv
   exact hv
  exact hv
 exact hv
theorem zQ(h:aq Q T F G w a s){t:TypeId}{v:Value}{p q:P}{lo hi:Option P}{vl vh:Option Value}(hv:ao F w G s.rg v p)
  (zP:(lo=none/\vl=none)\/ ∃p v,lo=some p/\vl=some v/\ao F w G s.rg v p) (Es:(hi=none/\vh=none)\/ ∃p v,hi=some p/\vh=some v/\ao F w G s.rg v p)
  (hq:iw Q s t p lo hi=some q): ∃x,(Instr.sliceAt t v vl vh none).run Q w= .ok x w/\ao F w G s.rg x q:=by
 unfold iw at hq
 replace hv:=B5 h (t:=t) (lo:=lo) hv
 generalize jI Q s t p lo=p at hq hv;unfold oQ at hq;split at hq
 ·cases hq
 rename_i e het;have gb:=ct het;split at hq
 next k hk=>
  cases hv with
  |d hv=>
   cases hv with
   |A9 a0 k' cap=>
    simp only at hq;split at hq
    ·split at hq
     ·rename_i l hh hb;have:=eP hb;have B6:l=0/\hh=0:=by grind
      obtain⟨rfl,rfl⟩:=B6;simp at hq;subst hq;refine⟨.slice (if cap=0 then a0 else a0.map (·.add (0*(k+1)))) 0 cap,?_,.d (.A9 _ _ _)⟩;have ca:=gK (Q:=Q) (s:=s) (F:=F) (w:=w) (G:=G) (cap:=cap) hb (by simp) zP Es;simp only[zbu] at ca;simp[Instr.sliceAt,run_underlying gb,Instr.slice,ca,run_sizeOf hk]
     cases hq
    cases hq
   |Ba b off k' cap es f lN hb dV aW hw hr=>
    simp only at hq;split at hq
    ·rename_i ig;have ig:k'=k+1:=by simpa using ig
     subst ig;split at hq
     ·rename_i l hh xA;have hle:=eP xA;simp at hq;subst hq;have ca:=gK (Q:=Q) (s:=s) (F:=F) (w:=w) (G:=G) (cap:=cap) xA (.inr lN) zP Es;refine⟨_,by simp[Instr.sliceAt,run_underlying gb,Instr.slice,ca,run_sizeOf hk];rfl,?_⟩;by_cases h0:hh-l=0
      ·rw[h0];have e0:(es.take hh).drop l=[]:=zaJ (by simp;omega);rw[e0];exact .d (.A9 _ _ _)
      have b9: ¬cap=l:=by omega
      rw[zaC b9];have hlen:((es.take hh).drop l).length=hh-l:=by simp;omega
      have lq: ∀i x,((es.take hh).drop l)[i]?=some x->es[l+i]?=some x:=λi x hx=>by grind
      have eC: ∀x,x∈(es.take hh).drop l->x∈es:=λx hx=>zbO (zbN hx);rw[<-hlen,bK];refine .d (.Ba b (off+l*(k+1)) (k+1) (cap-l) _ (λi=>f (l*(k+1)+i)) (by omega) hb (λx hx=>dV x (eC x hx)) (λx hx=>aW x (eC x hx)) (λi hi=> ?_) (λi j x c hx hc=> ?_))
      ·rw[zbf];refine hw _ ?_;rw[hlen] at hi
       calc l*(k+1)+i<l*(k+1)+(hh-l)*(k+1):=by omega
        _=(l+(hh-l))*(k+1):=by rw[zaz]
        _<=es.length*(k+1):=zag _ (by omega)
      grind
     cases hq
    cases hq
   |_=>cases hq
  |sl n ay len v h1 hr=>
   simp only at hq;split at hq
   ·rename_i ty fz es ho;split at hq
    ·rename_i l hh xA;simp at hq;subst hq;obtain⟨en,he,bL,aP⟩:=S.aI ho;obtain⟨a0,N,cap,hG,rfl,hle⟩:=hr.at he bL (by rw[aP];rfl);have hO:=h.rg n en he;rw[aP] at hO;have Ox:N<=cap:=by
      rcases hO with⟨gH,_⟩| ⟨b',dU,cs,k2,gH,_,_,_,Em,_⟩
      ·grind
      grind
     have ca:=gK (Q:=Q) (s:=s) (F:=F) (w:=w) (G:=G) (cap:=cap) xA (.inr (by omega)) (.inl ⟨rfl,rfl⟩) Es;have FW:=eP xA;have B6:l=0:=by unfold cq at xA;grind
     subst B6;have KK:vl=none:=by grind
     subst KK;refine⟨.slice a0 hh cap,?_,.sl n ay hh _ rfl ⟨en,he,by omega,λ_ _=>⟨a0,N,cap,hG,rfl,by omega⟩⟩⟩;have hz: ∀x:Addr,x.add 0=x:=λx=>by rfl
     simp only[Instr.sliceAt,Instr.slice,Sem.run_bind,run_underlying gb,Result.andThen_ok,ca,run_sizeOf hk];cases a0<;>simp[hz]
    cases hq
   ·rename_i ty fz es Oy ho;split at hq
    ·rename_i k' ig;split at hq
     ·split at hq
      ·rename_i l hh xA;simp at hq;subst hq;obtain⟨en,he,bL,aP⟩:=S.aI ho;obtain⟨a0,N,cap,hG,rfl,hle⟩:=hr.at he bL (by rw[aP];rfl);have hO:=h.rg n en he;rw[aP] at hO;have FW:=eP xA;have Ox:N<=cap/\(N=0\/ ∃b,a0=some ⟨b,0,none⟩):=by
        rcases hO with⟨gH,_⟩| ⟨b',dU,cs,k2,gH,_,_,_,Em,_⟩
        ·grind
        grind
       have ca:=gK (Q:=Q) (s:=s) (F:=F) (w:=w) (G:=G) (cap:=cap) xA (.inr (by omega)) zP Es;refine⟨.slice (if cap=l then a0 else a0.map (·.add (l*(k+1)))) (hh-l) (cap-l),by simp[Instr.sliceAt,run_underlying gb,Instr.slice,ca,run_sizeOf hk],.hZ n ay (k+1) l (hh-l) _ rfl ⟨en,he,by omega,λ_ _=>⟨a0,N,cap,hG,by omega,_,_,rfl,by omega,?_⟩⟩⟩;grind [bK]
      cases hq
     cases hq
    cases hq
   cases hq
  |hZ n ay k0 off len v h1 hr=>
   simp only at hq;split at hq
   ·rename_i ty fz es ho;split at hq
    ·rename_i dV;have dV:=zab dV;subst dV;split at hq
     ·rename_i l hh xA;simp at hq;subst hq;obtain⟨en,he,bL,aP⟩:=S.aI ho;obtain⟨a0,N,cap,hG,hle,a1,lj,rfl,BW,hz⟩:=hr.at he bL (by rw[aP];rfl);have FW:=eP xA;have ca:=gK (Q:=Q) (s:=s) (F:=F) (w:=w) (G:=G) (cap:=lj) xA (.inr BW) zP Es;refine⟨.slice (if lj=l then a1 else a1.map (·.add (l*(k+1)))) (hh-l) (lj-l),by simp[Instr.sliceAt,run_underlying gb,Instr.slice,ca,run_sizeOf hk],.hZ n ay (k+1) (off+l) (hh-l) _ rfl ⟨en,he,by omega,λ_ _=>⟨a0,N,cap,hG,by omega,_,_,rfl,by omega,?_⟩⟩⟩;by_cases h0:hh-l=0
      ·grind
      rcases hz with hz | ⟨b,h2,h3⟩
      ·omega
      refine .inr ⟨b,h2,?_⟩;rw[zaC (by omega),h3];simp[bK,zaz]
     cases hq
    cases hq
   cases hq
  |_=>cases hq
 cases hq
theorem gL{t e ty:TypeId}{Bc:Array TypeId}(h0:Bc[0]?=some t)(gb:Q.underlying t=some (.slice e))(b:Option Addr)(n c:Nat)(w:World):(Builtin.len_ Bc ty #[.slice b n c]).run Q w= .ok (goInt n) w:=by simp[Builtin.len_,h0,run_underlying gb]
theorem Et{t e:TypeId}{ty:TypeId}{Bc:Array TypeId}(h0:Bc[0]?=some t)(het:bG Q t=some e){v:Value}{p q:P}(hv:ao F w G s.rg v p)(hq:uX s p=some q):
  ∃x,(Builtin.len_ Bc ty #[v]).run Q w= .ok x w/\ao F w G s.rg x q:=by
 have gb:=ct het;unfold uX at hq;cases hv with
 |sl n ay len v h1 hr=>
  simp only at hq;split at hq
  next hl=>simp at hq;subst hq;obtain⟨en,he,bL,hl⟩:=S.bx hl;obtain⟨a0,N,cap,hG,rfl,hle⟩:=hr.at he bL hl;exact⟨_,gL h0 gb a0 len cap w,.d (.int _ _)⟩
  cases hq
 |hZ n ay k off len v h1 hr=>
  simp only at hq;split at hq
  next hl=>simp at hq;subst hq;obtain⟨en,he,bL,hl⟩:=S.bx hl;obtain⟨a0,N,cap,hG,hle,a1,lj,rfl,_,_⟩:=hr.at he bL hl;exact⟨_,gL h0 gb a1 len lj w,.d (.int _ _)⟩
  cases hq
 |rT n ay len v h1 hr=>
  simp only at hq;split at hq
  next hl=>simp at hq;subst hq;obtain⟨en,he,bL,hl⟩:=S.bx hl;obtain⟨a0,N,cap,l,hG,rfl,hle⟩:=hr.at he bL hl;exact⟨_,gL h0 gb a0 len cap w,.d (.int _ _)⟩
  cases hq
 |d hv=>
  cases hv with
  |A9 a0 k' cap=>simp at hq;subst hq;exact⟨_,gL h0 gb a0 0 cap w,.d (.int _ _)⟩
  |Ba b off k' cap es f lN hb dV aW hw hr=>simp at hq;subst hq;exact⟨_,gL h0 gb _ _ cap w,.d (.int _ _)⟩
  |_=>cases hq
 |_=>cases hq
theorem Eu(h:aq Q T F G w a s){t:TypeId}{y:TypeId×TypeId}{ty:TypeId}{Bc:Array TypeId}(h0:Bc[0]?=some t)(rn:dE Q t=some y){v:Value}{p q:P}(hv:ao F w G s.rg v p)(hq:uY s p=some q):
  ∃x,(Builtin.len_ Bc ty #[v]).run Q w= .ok x w/\ao F w G s.rg x q:=by
 have gb:=dp rn;unfold uY at hq;split at hq
 next n ay=>
  split at hq
  next Er get c last ho=>simp only[zaf] at hq;subst hq;obtain⟨e0,_,_,_,lD,b,es,clock,hG,hb,hM⟩:=vn h hv ho;rw[hG] at lD;subst lD;obtain⟨ks,_,hc,_⟩:=hM;refine⟨goInt es.size,by simp[Builtin.len_,h0,run_underlying gb,MapKept.run_getObj_map hb],?_⟩;rw[hc];exact .d (.int _ _)
  next Er vals c hand ho=>simp only[zaf] at hq;subst hq;obtain⟨e0,_,_,_,lD,b,es,clock,hG,hb,ks,hM,hc,_⟩:=vp h hv ho;rw[hG] at lD;subst lD;refine⟨goInt es.size,by simp[Builtin.len_,h0,run_underlying gb,MapKept.run_getObj_map hb],?_⟩;have:ks.length=es.size:=hM.1;rw[hc,this];exact .d (.int _ _)
  cases hq
 cases hq
theorem sc{x y:Value}{p q:P}{r:Bool}(hx:ao F w G s.rg x p)(hy:ao F w G s.rg y q)(hr:ng s p q=some r):
  r=false/\((∃b,x= .pointer (some b)/\y= .pointer none)\/ ∃b,x= .pointer none/\y= .pointer (some b)):=by
 unfold ng at hr;split at hr
 ·cases hx with
  |ref n ay off v h h1=>cases hy with |d hy=>cases hy;(split at hr)<;>simp at hr;rename_i hl;obtain⟨e,he,bL,hl⟩:=S.bx hl;obtain⟨b,_,hv⟩:=h.at he bL hl;grind
 ·cases hx with
  |bP n ay i k off v h1 h=>cases hy with |d hy=>cases hy;(split at hr)<;>simp at hr;rename_i hl;obtain⟨e,he,bL,hl⟩:=S.bx hl;obtain⟨b,_,_,_,hv⟩:=h.at he bL hl;grind
 ·cases hy with
  |ref n ay off v h h1=>cases hx with |d hx=>cases hx;(split at hr)<;>simp at hr;rename_i hl;obtain⟨e,he,bL,hl⟩:=S.bx hl;obtain⟨b,_,hv⟩:=h.at he bL hl;grind
 ·cases hy with
  |bP n ay i k off v h1 h=>cases hx with |d hx=>cases hx;(split at hr)<;>simp at hr;rename_i hl;obtain⟨e,he,bL,hl⟩:=S.bx hl;obtain⟨b,_,_,_,hv⟩:=h.at he bL hl;grind
 ·cases hx with
  |hd n ay v h1 h=>cases hy with |d hy=>cases hy;(split at hr)<;>simp at hr;rename_i hl;obtain⟨e,he,bL,hl⟩:=S.bx hl;obtain⟨b,_,_,hv⟩:=h.at he bL hl;grind
 ·cases hy with
  |hd n ay v h1 h=>cases hx with |d hx=>cases hx;(split at hr)<;>simp at hr;rename_i hl;obtain⟨e,he,bL,hl⟩:=S.bx hl;obtain⟨b,_,_,hv⟩:=h.at he bL hl;grind
 ·cases hx with |dg=>cases hy with |d hy=>cases hy;grind
 ·cases hy with |dg=>cases hx with |d hx=>cases hx;grind
 cases hr
theorem oH(d:Nat){t e:TypeId}(ht:Q.underlying t=some (.pointer e)){x y:Value}(h:(∃b,x= .pointer (some b)/\y= .pointer none)\/ ∃b,x= .pointer none/\y= .pointer (some b))(w:World):
  (Op.equalIn (d+1) t x y).run Q w= .ok false w:=by
 rcases h with⟨b,rfl,rfl⟩| ⟨b,rfl,rfl⟩<;>simp[Op.equalIn,run_underlying ht]
theorem nH{t e:TypeId}(ht:Q.underlying t=some (.pointer e)){x y:Value}(h:(∃b,x= .pointer (some b)/\y= .pointer none)\/ ∃b,x= .pointer none/\y= .pointer (some b))(op:BinOp)(ox oy:Operand)(w:World)
  (mZ:op= .eql\/op= .neq):(do eqGuard op t ox oy x y;Go.binOp op t x y:Sem Value).run Q w= .ok (.bool (op matches .neq)) w:=by
 have he:=oH (Q:=Q) 9999 ht h w;rcases h with⟨b,rfl,rfl⟩| ⟨b,rfl,rfl⟩<;>rcases mZ with rfl |rfl<;>simp only[eqGuard,Go.binOp,Op.equal,Op.maxDepth]<;>simp[he]
theorem oT(h:aq Q T F G w a s){g:Option (Nat×Bool)}(hg:ie a g): ∀(xs:List Operand) (vs:List Value),bS (xs.map (s.eg g))=some vs->xs.map a.eval=vs
 | [],vs,hv=>by grind [bS]
 |x::xs,vs,hv=>by
  simp only[zaO,bS] at hv;cases h1:(s.eg g x).bq with
  |none=>grind
  |some v=>
   cases h2:bS (xs.map (s.eg g)) with
   |none=>grind
   |some us=>simp[h1,h2] at hv;subst hv;rw[zaO,oT h hg xs us h2,(aA h hg x).bq h1]
theorem yM{v:Value}{p:P}{ps:List P}(hv:ao F w G s.rg v p)(h:p.xe=some ps): ∃vs:List Value,v= .agg ⟨vs⟩/\vs.length=ps.length/\(∀u∈vs,u.oneCell'=true)/\ ∀(i:Nat) (c:P),ps[i]?=some c->ao F w G s.rg (vs.getD i undef) c:=by
 cases hv with
 |agg vs Qh hl fc hc=>grind [P.xe]
 |d hd=>
  cases hd with
  |agg vs cs hl aW hc=>
   simp[P.xe] at h;subst h;refine⟨vs,rfl,by grind,λu hu=> ?_,λi c hi=> ?_⟩
   ·obtain⟨i,hi⟩:=zao hu;have bj:i<cs.length:=by have:=(zaa.1 hi).1;omega
    exact(hc i u cs[i] hi (zac bj)).ic (aW _ (za6 bj))
   rw[zah] at hi;cases hx:cs[i]? with
   |none=>rw[hx] at hi;cases hi
   |some x=>rw[hx] at hi;cases hi;refine .d ?_;grind
  |_=>simp[P.xe] at h
 |_=>simp[P.xe] at h
theorem yN{t:TypeId}{vs:List Value}{ps:List P}{off:Nat}{q:P}(hl:vs.length=ps.length)(fc: ∀u∈vs,u.oneCell'=true)(hc: ∀(i:Nat) (c:P),ps[i]?=some c->ao F w G s.rg (vs.getD i undef) c)(hq:gw Q t ps off=some q):
  ∃r,(Go.part t ⟨vs⟩ off).run Q w= .ok r w/\ao F w G s.rg r q:=by
 obtain⟨k,hk,hb,hr⟩:=py (R:=s.rg) hq (λi=>vs.getD i undef) (λi hi=>by grind) hc;grind [BT]
theorem zR{t:TypeId}{f:Nat}{v:Value}{p q:P}(hv:ao F w G s.rg v p)(hq:xf Q t f p=some q): ∃r,(Instr.field t v f).run Q w= .ok r w/\ao F w G s.rg r q:=by
 unfold xf at hq;split at hq
 next fs ps ht km=>
  obtain⟨vs,rfl,hl,fc,hc⟩:=yM hv km;split at hq
  next fl LH=>obtain⟨r,h1,h2⟩:=yN hl fc hc hq;refine⟨r,?_,h2⟩;simp[Instr.field,run_underlying ht,LH,asAgg,h1]
  cases hq
 cases hq
theorem zS{t e:TypeId}{n:Nat}{v u:Value}{p i q:P}(ht:Q.underlying t=some (.array n e))(hv:ao F w G s.rg v p)(hu:ao F w G s.rg u i)(hq:xg Q n e p i=some q):
  ∃r,(Instr.index t v u).run Q w= .ok r w/\ao F w G s.rg r q:=by
 unfold xg at hq;split at hq
 next ps kk j k km hk=>
  obtain⟨vs,rfl,hl,fc,hc⟩:=yM hv km;cases hu with
  |d hu=>
   cases hu;split at hq
   next hj=>obtain⟨r,h1,h2⟩:=yN hl fc hc hq;refine⟨r,?_,h2⟩;simp[Instr.index,asIntOf,run_underlying ht,hj,run_sizeOf hk,h1]
   cases hq
 cases hq
theorem I8(h:aq Q T F G w a s){g:Option (Nat×Bool)}(hg:ie a g){o:Oper}{q:P}(hq:pv Q s o g=some q):
  ∃v,(execOp a.eval o).run Q w= .ok (.value v) w/\ao F w G s.rg v q:=by
 have up: ∀{m:Sem Value} {q:P},cC Q m=some q-> ∃v,m.run Q w= .ok v w/\ao F w G s.rg v q:=λhh=>zM hh F w G s.rg;unfold pv at hq;unfold execOp;split at hq
 next x hx=>simp at hq;subst hq;exact⟨a.eval x,by simp[hx],aA h hg x⟩
 next x hx=>simp at hq;subst hq;exact⟨a.eval x,by simp[hx],aA h hg x⟩
 next c x y ho=>
  split at hq
  next r hc=>
   simp at hq;subst hq;have NK:a.eval c= .bool r:=(aA h hg c).bq (by rw[hc];rfl);cases r with
   |true=>exact⟨a.eval x,by simp[ho,NK,asBool],aA h hg x⟩
   |false=>exact⟨a.eval y,by simp[ho,NK,asBool],aA h hg y⟩
  cases hq
 next x ho=>
  obtain⟨rfl,hv⟩:=rk (aA h hg x) hq;have hr:=aA h hg x;rcases hv with⟨b,hv⟩| ⟨f,c1,c2,hv⟩
  ·simp_all
  simp_all
 next op t x y yt ho=>
  unfold jR at hq;split at hq
  next u v hu hv=>obtain⟨r,h1,h2⟩:=up hq;refine⟨r,?_,h2⟩;simp only[ho];rw[(aA h hg x).bq hu,(aA h hg y).bq hv,Sem.run_bind,h1];rfl
  split at hq
  next hh GK=>simp at hq;subst hq;obtain⟨rfl,hcs⟩:=sc (aA h hg x) (aA h hg y) GK;refine⟨_,?_,.d (.bool _)⟩;simp only[ho];rw[Sem.run_bind,nH hh hcs .eql x y w (.inl rfl)];rfl
  next hh GK=>simp at hq;subst hq;obtain⟨rfl,hcs⟩:=sc (aA h hg x) (aA h hg y) GK;refine⟨_,?_,.d (.bool _)⟩;simp only[ho];rw[Sem.run_bind,nH hh hcs .neq x y w (.inr rfl)];rfl
  cases hq
 next op t x ho=>
  split at hq
  next u hu=>obtain⟨r,h1,h2⟩:=up hq;refine⟨r,?_,h2⟩;simp only[ho];rw[(aA h hg x).bq hu,Sem.run_bind,h1];rfl
  cases hq
 next t1 t2 x ho=>
  split at hq
  next u hu=>obtain⟨r,h1,h2⟩:=up hq;refine⟨r,?_,h2⟩;simp only[ho];rw[(aA h hg x).bq hu,Sem.run_bind,h1];rfl
  cases hq
 next t x ho=>obtain⟨r,h1,h2⟩:=ve h (aA h hg x) hq;simp_all
 next t x f ho=>obtain⟨r,h1,h2⟩:=rl (aA h hg x) hq;simp_all
 next t x i ho=>obtain⟨r,h1,h2⟩:=rm h (aA h hg x) (aA h hg i) hq;simp_all
 next t x i ho=>
  split at hq
  next n e ht=>obtain⟨r,h1,h2⟩:=zS ht (aA h hg x) (aA h hg i) hq;simp_all
  split at hq
  next u v hu hv=>obtain⟨r,h1,h2⟩:=up hq;refine⟨r,?_,h2⟩;simp only[ho];rw[(aA h hg x).bq hu,(aA h hg i).bq hv,Sem.run_bind,h1];rfl
  cases hq
 next t x f ho=>obtain⟨r,h1,h2⟩:=zR (aA h hg x) hq;simp_all
 next x i ho=>
  split at hq
  next ps km=>
   have hr:=aA h hg x;rw[km] at hr;generalize Oz:a.eval x=vx at hr;cases hr with
   |fL vs _ hl hc=>
    have hi:i<ps.length:=(zaa.1 hq).1;have NL:i<vs.length:=by omega
    refine⟨vs[i],?_,hc i _ _ (zac NL) hq⟩;simp[ho,Oz,Instr.extract,NL]
  cases hq
 next t x i ok ho=>
  split at hq
  next z hz=>obtain⟨y,ht,hz⟩:=zbm.1 hz;obtain⟨r,h1,h2⟩:=xx h ht hz (aA h hg x) (aA h hg i) hq;simp_all
  cases hq
 next x ho=>obtain⟨r,h1,h2⟩:=zN h (aA h hg x) hq;simp_all
 next t x lo hi ho=>
  have zP:(lo.map (s.eg g)=none/\lo.map a.eval=none)\/ ∃p v,lo.map (s.eg g)=some p/\lo.map a.eval=some v/\ao F w G s.rg v p:=by
   cases lo with
   |none=>simp
   |some l=>grind [aA]
  have Es:(hi.map (s.eg g)=none/\hi.map a.eval=none)\/ ∃p v,hi.map (s.eg g)=some p/\hi.map a.eval=some v/\ao F w G s.rg v p:=by
   cases hi with
   |none=>simp
   |some l=>grind [aA]
  split at hq
  next b hb=>
   split at hq
   ·rename_i l hh hl NM;obtain⟨r,h1,h2⟩:=up hq;have el:lo.map a.eval=l:=by
     cases lo with
     |none=>grind
     |some x'=>simp only[zaj] at hl;obtain⟨v,hv,rfl⟩:=hl;simp[(aA h hg x').bq hv]
    have eh:hi.map a.eval=hh:=by
     cases hi with
     |none=>grind
     |some x'=>simp only[zaj] at NM;obtain⟨v,hv,rfl⟩:=NM;simp[(aA h hg x').bq hv]
    refine⟨r,?_,h2⟩;simp only[ho,zbR];rw[(aA h hg x).bq hb,el,eh,Sem.run_bind,h1];rfl
   cases hq
  obtain⟨r,h1,h2⟩:=zQ h (aA h hg x) zP Es hq;simp_all
 next t parts ho=>
  split at hq
  next vs xu=>
   obtain⟨r,h1,h2⟩:=up hq;have e1:parts.toList.map (λx=>a.eval x.2)=vs:=by have:=oT h hg (parts.toList.map (·.2)) vs (by grind [Function.comp_def]);grind [Function.comp_def]
   have e:(parts.map λ(i,x)=>(i,a.eval x))=((parts.toList.map (·.1)).zip vs).toArray:=by grind
   simp_all
  obtain⟨r,h1,h2⟩:=vr (vals:=parts.map λ(i,x)=>(i,a.eval x)) hq (by simp) (λi x y hx hy=>by simp only[zcq,zah,zaj] at hx hy;obtain⟨x1,Bd,rfl⟩:=hx;obtain⟨y1,rp,rfl⟩:=hy;rw[Bd] at rp;cases rp;exact⟨rfl,aA h hg x1.2⟩);simp_all
 next f first bF ho=>
  split at hq
  next LK=>
   have e1:first= #[]:=by grind
   subst e1;simp only[zaf] at hq;subst hq;refine⟨.func (.func f) #[] (bF.map a.eval),?_,?_⟩
   ·simp[ho,Instr.makeFunc]
   have:=ao.fn (F:=F) (w:=w) (G:=G) (R:=s.rg) f (bF.toList.map a.eval) (bF.toList.map (s.eg g)) (by simp) (λi v c hv hc=>by grind [aA]);have e:bF.map a.eval=⟨bF.toList.map a.eval⟩:=by grind
   rw[e];exact this
  cases hq
 next c ho=>
  split at hq
  next fR=>
   split at hq
   ·rename_i x bp;have ea:c.args= #[x]:=by grind
    split at hq
    next u hu=>obtain⟨r,h1,h2⟩:=up hq;refine⟨r,?_,h2⟩;have hx:=(aA h hg x).bq hu;simp[ho,resolve,fR,ea,invoke,builtin,hx,h1]
    split at hq
    next e het=>obtain⟨t0,GM,het⟩:=zbm.1 het;obtain⟨r,h1,h2⟩:=Et (ty:=o.type) GM het (aA h hg x) hq;refine⟨r,?_,h2⟩;simp[ho,resolve,fR,ea,invoke,builtin,h1]
    split at hq
    next y rn=>obtain⟨t0,GM,rn⟩:=zbm.1 rn;obtain⟨r,h1,h2⟩:=Eu (ty:=o.type) h GM rn (aA h hg x) hq;refine⟨r,?_,h2⟩;simp[ho,resolve,fR,ea,invoke,builtin,h1]
    cases hq
   cases hq
  next fR=>
   split at hq
   ·rename_i vs xu;obtain⟨r,h1,h2⟩:=up hq;refine⟨r,?_,h2⟩;have e:=oT h hg _ _ xu;have e2:c.args.map a.eval=vs.toArray:=by grind
    simp[ho,resolve,fR,invoke,builtin,e2,h1]
   cases hq
  next fR=>
   split at hq
   ·rename_i vs xu;obtain⟨r,h1,h2⟩:=up hq;refine⟨r,?_,h2⟩;have e:=oT h hg _ _ xu;have e2:c.args.map a.eval=vs.toArray:=by grind
    simp[ho,resolve,fR,invoke,builtin,e2,h1]
   cases hq
  cases hq
 cases hq
end
end Pi
