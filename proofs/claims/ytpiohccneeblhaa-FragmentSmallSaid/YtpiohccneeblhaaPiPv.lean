/- The text PiPv. -/
import Derived.Test.YtpiohccneeblhaaPiStr
namespace Pi
open Go
section
variable{Q:Program}{T:Tg}{F:Nat->Prop}{G:Nat->Value}{w:World}{a:Act}{s:S}
theorem eQ{len l h:Nat}{lo hi:Option P}(hb:cr len lo hi=some (l,h)):l<=h/\h<=len:=by unfold cr at hb;grind
theorem gK{len cap l h:Nat}{lo hi:Option P}{vl vh:Option Value}(hb:cr len lo hi=some (l,h))(hle:hi=none\/len<=cap)
  (Ab:(lo=none/\vl=none)\/ ∃p v,lo=some p/\vl=some v/\ao F w G s.rg v p) (EJ:(hi=none/\vh=none)\/ ∃p v,hi=some p/\vh=some v/\ao F w G s.rg v p):
  (Instr.sliceBounds true len cap vl vh none).run Q w= .ok (l,h,cap) w:=by
 unfold cr at hb;rcases EJ with⟨rfl,rfl⟩| ⟨p,v,rfl,rfl,hp⟩
 ·skip
  rcases Ab with⟨rfl,rfl⟩| ⟨p,v,rfl,rfl,hp⟩
  ·skip
   obtain⟨rfl,rfl⟩:=hb;rfl
  cases p<;>try (simp at hb;done)
  rename_i x;cases x<;>try (simp at hb;done)
  rename_i k j;cases hp with
  |d hp=>
   cases hp;simp only at hb;split at hb
   next hj=>obtain⟨rfl,rfl⟩:=hb;simp[Instr.sliceBounds,Instr.sliceBound,asIntOf,hj]
   cases hb
 cases p<;>try (simp at hb;done)
 rename_i x;cases x<;>try (simp at hb;done)
 rename_i k j;cases hp with
 |d hp=>
  cases hp;have EF:len<=cap:=by grind
  simp only at hb;by_cases hj:0<=j/\j<=(len:Int)
  ·have Lg:0<=j/\j<=(cap:Int):=⟨hj.1,by omega⟩
   rw[zat hj] at hb;rcases Ab with⟨rfl,rfl⟩| ⟨p,v,rfl,rfl,hp⟩
   ·skip
    obtain⟨rfl,rfl⟩:=hb;simp[Instr.sliceBounds,Instr.sliceBound,asIntOf,Lg]
   cases p<;>try (simp at hb;done)
   rename_i x;cases x<;>try (simp at hb;done)
   rename_i k2 j2;cases hp with
   |d hp=>
    cases hp;simp only at hb;split at hb
    next Oi=>simp[Instr.sliceBounds,Instr.sliceBound,asIntOf,Lg,Oi];grind
    cases hb
  grind
theorem ku{F':Nat->Prop}{n:Nat}{ty:TypeId}{fz:Bool}{es:List D}{k len:Nat}(hO:eO Q F w G s.rg n (.arr ty fz es))(hk:sz Q ty=some k){v:Value}
  (hv: ∃a N cap,G n= .slice a N cap/\v= .slice a len cap/\len<=N) (hF: ∀b,aj (G n)=some b->F' b) (G6: ∀b,F b->F' b):aA F' w v (.sl k (es.take len)):=by
 obtain⟨a0,N,cap,hG,rfl,hle⟩:=hv;rcases hO with⟨hg,rfl⟩| ⟨b,dV,cs,k',hg,hh,ij,jS,sg,qX,cp,_,hE⟩
 ·rw[hG] at hg;simp at hg;have:len=0:=by omega
  subst this;exact .Bp _ _ _
 rw[hk] at ij;cases ij;rw[hG] at hg;obtain⟨rfl,rfl,rfl⟩:=hg;have hlen:(es.take len).length=len:=by simp;omega
 have lr: ∀i x,(es.take len)[i]?=some x->es[i]?=some x:=λi x hx=>by
  rw[zaS] at hx;split at hx
  ·exact hx
  cases hx
 have eD: ∀x,x∈es.take len-> ∃i,es[i]?=some x:=λx hx=>by obtain⟨i,hi⟩:=zao hx;exact⟨i,lr i x hi⟩
 have:=aA.Bq (F:=F') (w:=w) b 0 k cap (es.take len) (λi=>cs.getD i undef) (by omega) (hF b (by simp[hG,aj])) (λx hx=>by obtain⟨i,hi⟩:=eD x hx;exact(hE i x hi).1)
  (λx hx=>by obtain⟨i,hi⟩:=eD x hx;exact(hE i x hi).2.1) (λi hi=>by
   have:i<cs.size:=by rw[cp];exact zaK hi (zah _ (by omega))
   rw[zbK,cell_of_row w b i cs ty (0,0) hh];simp_all) (λi j x c hx hc=>((hE i x (lr i x hx)).2.2 j c hc).mono G6 (λ_ _=>rfl))
 rwa [hlen] at this
theorem tK{F':Nat->Prop}{n:Nat}{ty:TypeId}{fz:Bool}{es:List D}{k off len:Nat}(hO:eO Q F w G s.rg n (.arr ty fz es))(hk:sz Q ty=some k){v:Value}
  (hv: ∃a N cap,G n= .slice a N cap/\off+len<=N/\ ∃a' dV,v= .slice a' len dV/\len<=dV/\(len=0\/ ∃b,a=some ⟨b,0,none⟩/\a'=some ⟨b,off*k,none⟩)) (hF: ∀b,aj (G n)=some b->F' b) (G6: ∀b,F b->F' b):aA F' w v (.sl k ((es.drop off).take len)):=by
 obtain⟨a0,N,cap,hG,hle,a1,ll,rfl,Cc,hz⟩:=hv;by_cases h0:len=0
 ·subst h0;exact .Bp _ _ _
 obtain⟨b0,GW,Cd⟩: ∃b,a0=some ⟨b,0,none⟩/\a1=some ⟨b,off*k,none⟩:=by grind
 subst GW Cd;rcases hO with⟨hg,rfl⟩| ⟨b,dV,cs,k',hg,hh,ij,jS,sg,qX,cp,_,hE⟩
 ·rw[hG] at hg;simp at hg
 rw[hk] at ij;cases ij;rw[hG] at hg;obtain⟨rfl,rfl,rfl⟩:=hg;have hlen:((es.drop off).take len).length=len:=by simp;omega
 have lr: ∀i x,((es.drop off).take len)[i]?=some x->es[off+i]?=some x:=λi x hx=>by grind
 have eD: ∀x,x∈(es.drop off).take len-> ∃i,es[i]?=some x:=λx hx=>by obtain⟨i,hi⟩:=zao hx;exact⟨off+i,lr i x hi⟩
 have:=aA.Bq (F:=F') (w:=w) b0 (off*k) k ll ((es.drop off).take len) (λi=>cs.getD (off*k+i) undef) (by omega) (hF b0 (by simp[hG,aj])) (λx hx=>by obtain⟨i,hi⟩:=eD x hx;exact(hE i x hi).1)
  (λx hx=>by obtain⟨i,hi⟩:=eD x hx;exact(hE i x hi).2.1) (λi hi=>by
   rw[hlen] at hi;have h2:off*k+i<cs.size:=by
    rw[cp]
    calc off*k+i<off*k+len*k:=by omega
     _=(off+len)*k:=by rw[zaz]
     _<=cap*k:=zah _ (by omega)
   rw[cell_of_row w b0 (off*k+i) cs ty (0,0) hh];simp_all) (λi j x c hx hc=>by
   have:=((hE (off+i) x (lr i x hx)).2.2 j c hc).mono G6 (λ_ _=>rfl);rw[zaz,zbf] at this;exact this)
 rwa [hlen] at this
theorem Cl(h:aq Q T F G w a s){t:TypeId}{v:Value}{p:P}{lo:Option P}(hv:ao F w G s.rg v p):ao F w G s.rg v (jH Q s t p lo):=by
 unfold jH;split
 next n az len=>
  split
  next x ty es k _ ho hk=>
   split
   ·rename_i k' ij;split
    ·rename_i dW;have dW:=zab dW;subst dW;obtain⟨e,he,bN,aP⟩:=S.aJ ho;have hO:=h.rg n e he;rw[aP] at hO;cases hv with
     |sl _ _ _ _ _ hr=>
      have Ci:=hr.at he bN (by rw[aP];rfl);refine .d (ku hO ij Ci (λb hb=> ?_) (λ_ h=>h));rcases hO with⟨hg,_⟩| ⟨b',cap,cs,k2,hg,_,_,_,_,_,_,hf,_⟩
      ·rw[hg] at hb;cases hb
      grind [aj]
    exact hv
   exact hv
  exact hv
 exact hv
theorem Ac(h:aq Q T F G w a s){t:TypeId}{v:Value}{p q:P}{lo hi:Option P}{vl vh:Option Value}(hv:ao F w G s.rg v p)
  (Ab:(lo=none/\vl=none)\/ ∃p v,lo=some p/\vl=some v/\ao F w G s.rg v p) (EJ:(hi=none/\vh=none)\/ ∃p v,hi=some p/\vh=some v/\ao F w G s.rg v p)
  (hq:ix Q s t p lo hi=some q): ∃x,(Instr.sliceAt t v vl vh none).run Q w= .ok x w/\ao F w G s.rg x q:=by
 unfold ix at hq
 replace hv:=Cl h (t:=t) (lo:=lo) hv
 generalize jH Q s t p lo=p at hq hv;unfold oS at hq;split at hq
 ·cases hq
 rename_i e het;have gf:=cu het;split at hq
 next k hk=>
  cases hv with
  |d hv=>
   cases hv with
   |Bp a0 k' cap=>
    simp only at hq;split at hq
    ·split at hq
     ·rename_i l hh hb;have:=eQ hb;have Cm:l=0/\hh=0:=by grind
      obtain⟨rfl,rfl⟩:=Cm;simp at hq;subst hq;refine⟨.slice (if cap=0 then a0 else a0.map (·.add (0*(k+1)))) 0 cap,?_,.d (.Bp _ _ _)⟩;have cb:=gK (Q:=Q) (s:=s) (F:=F) (w:=w) (G:=G) (cap:=cap) hb (by simp) Ab EJ;simp only[zbg] at cb;simp[Instr.sliceAt,run_underlying gf,Instr.slice,cb,run_sizeOf hk]
     cases hq
    cases hq
   |Bq b off k' cap es f lP hb dW aW hw hr=>
    simp only at hq;split at hq
    ·rename_i ij;have ij:k'=k+1:=by simpa using ij
     subst ij;split at hq
     ·rename_i l hh xM;have hle:=eQ xM;simp at hq;subst hq;have cb:=gK (Q:=Q) (s:=s) (F:=F) (w:=w) (G:=G) (cap:=cap) xM (.inr lP) Ab EJ;refine⟨_,by simp[Instr.sliceAt,run_underlying gf,Instr.slice,cb,run_sizeOf hk];rfl,?_⟩;by_cases h0:hh-l=0
      ·rw[h0];have e0:(es.take hh).drop l=[]:=zaJ (by simp;omega);rw[e0];exact .d (.Bp _ _ _)
      have ca: ¬cap=l:=by omega
      rw[zaB ca];have hlen:((es.take hh).drop l).length=hh-l:=by simp;omega
      have lr: ∀i x,((es.take hh).drop l)[i]?=some x->es[l+i]?=some x:=λi x hx=>by grind
      have eD: ∀x,x∈(es.take hh).drop l->x∈es:=λx hx=>zbP (zbO hx);rw[<-hlen,bM];refine .d (.Bq b (off+l*(k+1)) (k+1) (cap-l) _ (λi=>f (l*(k+1)+i)) (by omega) hb (λx hx=>dW x (eD x hx)) (λx hx=>aW x (eD x hx)) (λi hi=> ?_) (λi j x c hx hc=> ?_))
      ·rw[zbf];refine hw _ ?_;rw[hlen] at hi
       calc l*(k+1)+i<l*(k+1)+(hh-l)*(k+1):=by omega
        _=(l+(hh-l))*(k+1):=by rw[zaz]
        _<=es.length*(k+1):=zah _ (by omega)
      grind
     cases hq
    cases hq
   |_=>cases hq
  |sl n az len v h1 hr=>
   simp only at hq;split at hq
   ·rename_i ty fz es ho;split at hq
    ·rename_i l hh xM;simp at hq;subst hq;obtain⟨en,he,bN,aP⟩:=S.aJ ho;obtain⟨a0,N,cap,hG,rfl,hle⟩:=hr.at he bN (by rw[aP];rfl);have hO:=h.rg n en he;rw[aP] at hO;have O7:N<=cap:=by
      rcases hO with⟨gH,_⟩| ⟨b',dV,cs,k2,gH,_,_,_,EF,_⟩
      ·grind
      grind
     have cb:=gK (Q:=Q) (s:=s) (F:=F) (w:=w) (G:=G) (cap:=cap) xM (.inr (by omega)) (.inl ⟨rfl,rfl⟩) EJ;have Ge:=eQ xM;have Cm:l=0:=by unfold cr at xM;grind
     subst Cm;have Lf:vl=none:=by grind
     subst Lf;refine⟨.slice a0 hh cap,?_,.sl n az hh _ rfl ⟨en,he,by omega,λ_ _=>⟨a0,N,cap,hG,rfl,by omega⟩⟩⟩;have hz: ∀x:Addr,x.add 0=x:=λx=>by rfl
     simp only[Instr.sliceAt,Instr.slice,Sem.run_bind,run_underlying gf,Result.andThen_ok,cb,run_sizeOf hk];cases a0<;>simp[hz]
    cases hq
   ·rename_i ty fz es O8 ho;split at hq
    ·rename_i k' ij;split at hq
     ·split at hq
      ·rename_i l hh xM;simp at hq;subst hq;obtain⟨en,he,bN,aP⟩:=S.aJ ho;obtain⟨a0,N,cap,hG,rfl,hle⟩:=hr.at he bN (by rw[aP];rfl);have hO:=h.rg n en he;rw[aP] at hO;have Ge:=eQ xM;have O7:N<=cap/\(N=0\/ ∃b,a0=some ⟨b,0,none⟩):=by
        rcases hO with⟨gH,_⟩| ⟨b',dV,cs,k2,gH,_,_,_,EF,_⟩
        ·grind
        grind
       have cb:=gK (Q:=Q) (s:=s) (F:=F) (w:=w) (G:=G) (cap:=cap) xM (.inr (by omega)) Ab EJ;refine⟨.slice (if cap=l then a0 else a0.map (·.add (l*(k+1)))) (hh-l) (cap-l),by simp[Instr.sliceAt,run_underlying gf,Instr.slice,cb,run_sizeOf hk],.hZ n az (k+1) l (hh-l) _ rfl ⟨en,he,by omega,λ_ _=>⟨a0,N,cap,hG,by omega,_,_,rfl,by omega,?_⟩⟩⟩;grind [bM]
      cases hq
     cases hq
    cases hq
   cases hq
  |hZ n az k0 off len v h1 hr=>
   simp only at hq;split at hq
   ·rename_i ty fz es ho;split at hq
    ·rename_i dW;have dW:=zab dW;subst dW;split at hq
     ·rename_i l hh xM;simp at hq;subst hq;obtain⟨en,he,bN,aP⟩:=S.aJ ho;obtain⟨a0,N,cap,hG,hle,a1,ll,rfl,Cc,hz⟩:=hr.at he bN (by rw[aP];rfl);have Ge:=eQ xM;have cb:=gK (Q:=Q) (s:=s) (F:=F) (w:=w) (G:=G) (cap:=ll) xM (.inr Cc) Ab EJ;refine⟨.slice (if ll=l then a1 else a1.map (·.add (l*(k+1)))) (hh-l) (ll-l),by simp[Instr.sliceAt,run_underlying gf,Instr.slice,cb,run_sizeOf hk],.hZ n az (k+1) (off+l) (hh-l) _ rfl ⟨en,he,by omega,λ_ _=>⟨a0,N,cap,hG,by omega,_,_,rfl,by omega,?_⟩⟩⟩;by_cases h0:hh-l=0
      ·grind
      rcases hz with hz | ⟨b,h2,h3⟩
      ·omega
      refine .inr ⟨b,h2,?_⟩;rw[zaB (by omega),h3];simp[bM,zaz]
     cases hq
    cases hq
   cases hq
  |_=>cases hq
 cases hq
theorem gL{t e ty:TypeId}{Bs:Array TypeId}(h0:Bs[0]?=some t)(gf:Q.underlying t=some (.slice e))(b:Option Addr)(n c:Nat)(w:World):(Builtin.len_ Bs ty #[.slice b n c]).run Q w= .ok (goInt n) w:=by simp[Builtin.len_,h0,run_underlying gf]
theorem EK{t e:TypeId}{ty:TypeId}{Bs:Array TypeId}(h0:Bs[0]?=some t)(het:bI Q t=some e){v:Value}{p q:P}(hv:ao F w G s.rg v p)(hq:vg s p=some q):
  ∃x,(Builtin.len_ Bs ty #[v]).run Q w= .ok x w/\ao F w G s.rg x q:=by
 have gf:=cu het;unfold vg at hq;cases hv with
 |sl n az len v h1 hr=>
  simp only at hq;split at hq
  next hl=>simp at hq;subst hq;obtain⟨en,he,bN,hl⟩:=S.bz hl;obtain⟨a0,N,cap,hG,rfl,hle⟩:=hr.at he bN hl;exact⟨_,gL h0 gf a0 len cap w,.d (.int _ _)⟩
  cases hq
 |hZ n az k off len v h1 hr=>
  simp only at hq;split at hq
  next hl=>simp at hq;subst hq;obtain⟨en,he,bN,hl⟩:=S.bz hl;obtain⟨a0,N,cap,hG,hle,a1,ll,rfl,_,_⟩:=hr.at he bN hl;exact⟨_,gL h0 gf a1 len ll w,.d (.int _ _)⟩
  cases hq
 |rf n az len v h1 hr=>
  simp only at hq;split at hq
  next hl=>simp at hq;subst hq;obtain⟨en,he,bN,hl⟩:=S.bz hl;obtain⟨a0,N,cap,l,hG,rfl,hle⟩:=hr.at he bN hl;exact⟨_,gL h0 gf a0 len cap w,.d (.int _ _)⟩
  cases hq
 |d hv=>
  cases hv with
  |Bp a0 k' cap=>simp at hq;subst hq;exact⟨_,gL h0 gf a0 0 cap w,.d (.int _ _)⟩
  |Bq b off k' cap es f lP hb dW aW hw hr=>simp at hq;subst hq;exact⟨_,gL h0 gf _ _ cap w,.d (.int _ _)⟩
  |_=>cases hq
 |_=>cases hq
theorem EL(h:aq Q T F G w a s){t:TypeId}{y:TypeId×TypeId}{ty:TypeId}{Bs:Array TypeId}(h0:Bs[0]?=some t)(ru:dF Q t=some y){v:Value}{p q:P}(hv:ao F w G s.rg v p)(hq:vi s p=some q):
  ∃x,(Builtin.len_ Bs ty #[v]).run Q w= .ok x w/\ao F w G s.rg x q:=by
 have gf:=dp ru;unfold vi at hq;split at hq
 next n az=>
  split at hq
  next EI get c last ho=>simp only[zaf] at hq;subst hq;obtain⟨e0,_,_,_,lF,b,es,clock,hG,hb,hM⟩:=vB h hv ho;rw[hG] at lF;subst lF;obtain⟨ks,_,hc,_⟩:=hM;refine⟨goInt es.size,by simp[Builtin.len_,h0,run_underlying gf,MapKept.run_getObj_map hb],?_⟩;rw[hc];exact .d (.int _ _)
  next EI vals c hand ho=>simp only[zaf] at hq;subst hq;obtain⟨e0,_,_,_,lF,b,es,clock,hG,hb,ks,hM,hc,_⟩:=vD h hv ho;rw[hG] at lF;subst lF;refine⟨goInt es.size,by simp[Builtin.len_,h0,run_underlying gf,MapKept.run_getObj_map hb],?_⟩;have:ks.length=es.size:=hM.1;rw[hc,this];exact .d (.int _ _)
  cases hq
 cases hq
theorem sj{x y:Value}{p q:P}{r:Bool}(hx:ao F w G s.rg x p)(hy:ao F w G s.rg y q)(hr:nj s p q=some r):
  r=false/\((∃b,x= .pointer (some b)/\y= .pointer none)\/ ∃b,x= .pointer none/\y= .pointer (some b)):=by
 unfold nj at hr;split at hr
 ·cases hx with
  |ref n az off v h h1=>cases hy with |d hy=>cases hy;(split at hr)<;>simp at hr;rename_i hl;obtain⟨e,he,bN,hl⟩:=S.bz hl;obtain⟨b,_,hv⟩:=h.at he bN hl;grind
 ·cases hx with
  |bR n az i k off v h1 h=>cases hy with |d hy=>cases hy;(split at hr)<;>simp at hr;rename_i hl;obtain⟨e,he,bN,hl⟩:=S.bz hl;obtain⟨b,_,_,_,hv⟩:=h.at he bN hl;grind
 ·cases hy with
  |ref n az off v h h1=>cases hx with |d hx=>cases hx;(split at hr)<;>simp at hr;rename_i hl;obtain⟨e,he,bN,hl⟩:=S.bz hl;obtain⟨b,_,hv⟩:=h.at he bN hl;grind
 ·cases hy with
  |bR n az i k off v h1 h=>cases hx with |d hx=>cases hx;(split at hr)<;>simp at hr;rename_i hl;obtain⟨e,he,bN,hl⟩:=S.bz hl;obtain⟨b,_,_,_,hv⟩:=h.at he bN hl;grind
 ·cases hx with
  |hd n az v h1 h=>cases hy with |d hy=>cases hy;(split at hr)<;>simp at hr;rename_i hl;obtain⟨e,he,bN,hl⟩:=S.bz hl;obtain⟨b,_,_,hv⟩:=h.at he bN hl;grind
 ·cases hy with
  |hd n az v h1 h=>cases hx with |d hx=>cases hx;(split at hr)<;>simp at hr;rename_i hl;obtain⟨e,he,bN,hl⟩:=S.bz hl;obtain⟨b,_,_,hv⟩:=h.at he bN hl;grind
 ·cases hx with |dg=>cases hy with |d hy=>cases hy;grind
 ·cases hy with |dg=>cases hx with |d hx=>cases hx;grind
 cases hr
theorem oI(d:Nat){t e:TypeId}(ht:Q.underlying t=some (.pointer e)){x y:Value}(h:(∃b,x= .pointer (some b)/\y= .pointer none)\/ ∃b,x= .pointer none/\y= .pointer (some b))(w:World):
  (Op.equalIn (d+1) t x y).run Q w= .ok false w:=by
 rcases h with⟨b,rfl,rfl⟩| ⟨b,rfl,rfl⟩<;>simp[Op.equalIn,run_underlying ht]
theorem nJ{t e:TypeId}(ht:Q.underlying t=some (.pointer e)){x y:Value}(h:(∃b,x= .pointer (some b)/\y= .pointer none)\/ ∃b,x= .pointer none/\y= .pointer (some b))(op:BinOp)(ox oy:Operand)(w:World)
  (nc:op= .eql\/op= .neq):(do eqGuard op t ox oy x y;Go.binOp op t x y:Sem Value).run Q w= .ok (.bool (op matches .neq)) w:=by
 have he:=oI (Q:=Q) 9999 ht h w;rcases h with⟨b,rfl,rfl⟩| ⟨b,rfl,rfl⟩<;>rcases nc with rfl |rfl<;>simp only[eqGuard,Go.binOp,Op.equal,Op.maxDepth]<;>simp[he]
theorem oV(h:aq Q T F G w a s){g:Option (Nat×Bool)}(hg:ig a g): ∀(xs:List Operand) (vs:List Value),bU (xs.map (s.eg g))=some vs->xs.map a.eval=vs
 | [],vs,hv=>by grind [bU]
 |x::xs,vs,hv=>by
  simp only[zaO,bU] at hv;cases h1:(s.eg g x).br with
  |none=>grind
  |some v=>
   cases h2:bU (xs.map (s.eg g)) with
   |none=>grind
   |some us=>simp[h1,h2] at hv;subst hv;rw[zaO,oV h hg xs us h2,(aB h hg x).br h1]
theorem y8{v:Value}{p:P}{ps:List P}(hv:ao F w G s.rg v p)(h:p.xq=some ps): ∃vs:List Value,v= .agg ⟨vs⟩/\vs.length=ps.length/\(∀u∈vs,u.oneCell'=true)/\ ∀(i:Nat) (c:P),ps[i]?=some c->ao F w G s.rg (vs.getD i undef) c:=by
 cases hv with
 |agg vs QP hl fc hc=>grind [P.xq]
 |d hd=>
  cases hd with
  |agg vs cs hl aW hc=>
   simp[P.xq] at h;subst h;refine⟨vs,rfl,by grind,λu hu=> ?_,λi c hi=> ?_⟩
   ·obtain⟨i,hi⟩:=zao hu;have bj:i<cs.length:=by have:=(zaa.1 hi).1;omega
    exact(hc i u cs[i] hi (zac bj)).ie (aW _ (zaX bj))
   rw[zai] at hi;cases hx:cs[i]? with
   |none=>rw[hx] at hi;cases hi
   |some x=>rw[hx] at hi;cases hi;refine .d ?_;grind
  |_=>simp[P.xq] at h
 |_=>simp[P.xq] at h
theorem y9{t:TypeId}{vs:List Value}{ps:List P}{off:Nat}{q:P}(hl:vs.length=ps.length)(fc: ∀u∈vs,u.oneCell'=true)(hc: ∀(i:Nat) (c:P),ps[i]?=some c->ao F w G s.rg (vs.getD i undef) c)(hq:gw Q t ps off=some q):
  ∃r,(Go.part t ⟨vs⟩ off).run Q w= .ok r w/\ao F w G s.rg r q:=by
 obtain⟨k,hk,hb,hr⟩:=pD (R:=s.rg) hq (λi=>vs.getD i undef) (λi hi=>by grind) hc;grind [B9]
theorem Ad{t:TypeId}{f:Nat}{v:Value}{p q:P}(hv:ao F w G s.rg v p)(hq:xr Q t f p=some q): ∃r,(Instr.field t v f).run Q w= .ok r w/\ao F w G s.rg r q:=by
 unfold xr at hq;split at hq
 next fs ps ht km=>
  obtain⟨vs,rfl,hl,fc,hc⟩:=y8 hv km;split at hq
  next fl Ma=>obtain⟨r,h1,h2⟩:=y9 hl fc hc hq;refine⟨r,?_,h2⟩;simp[Instr.field,run_underlying ht,Ma,asAgg,h1]
  cases hq
 cases hq
theorem Ae{t e:TypeId}{n:Nat}{v u:Value}{p i q:P}(ht:Q.underlying t=some (.array n e))(hv:ao F w G s.rg v p)(hu:ao F w G s.rg u i)(hq:xt Q n e p i=some q):
  ∃r,(Instr.index t v u).run Q w= .ok r w/\ao F w G s.rg r q:=by
 unfold xt at hq;split at hq
 next ps kk j k km hk=>
  obtain⟨vs,rfl,hl,fc,hc⟩:=y8 hv km;cases hu with
  |d hu=>
   cases hu;split at hq
   next hj=>obtain⟨r,h1,h2⟩:=y9 hl fc hc hq;refine⟨r,?_,h2⟩;simp[Instr.index,asIntOf,run_underlying ht,hj,run_sizeOf hk,h1]
   cases hq
 cases hq
theorem JC(h:aq Q T F G w a s){g:Option (Nat×Bool)}(hg:ig a g){o:Oper}{q:P}(hq:pv Q s o g=some q):
  ∃v,(execOp a.eval o).run Q w= .ok (.value v) w/\ao F w G s.rg v q:=by
 have up: ∀{m:Sem Value} {q:P},cD Q m=some q-> ∃v,m.run Q w= .ok v w/\ao F w G s.rg v q:=λhh=>z7 hh F w G s.rg;unfold pv at hq;unfold execOp;split at hq
 next x hx=>simp at hq;subst hq;exact⟨a.eval x,by simp[hx],aB h hg x⟩
 next x hx=>simp at hq;subst hq;exact⟨a.eval x,by simp[hx],aB h hg x⟩
 next c x y ho=>
  split at hq
  next r hc=>
   simp at hq;subst hq;have Oj:a.eval c= .bool r:=(aB h hg c).br (by rw[hc];rfl);cases r with
   |true=>exact⟨a.eval x,by simp[ho,Oj,asBool],aB h hg x⟩
   |false=>exact⟨a.eval y,by simp[ho,Oj,asBool],aB h hg y⟩
  cases hq
 next x ho=>
  obtain⟨rfl,hv⟩:=rp (aB h hg x) hq;have hr:=aB h hg x;rcases hv with⟨b,hv⟩| ⟨f,c1,c2,hv⟩
  ·simp_all
  simp_all
 next op t x y yt ho=>
  unfold jQ at hq;split at hq
  next u v hu hv=>obtain⟨r,h1,h2⟩:=up hq;refine⟨r,?_,h2⟩;simp only[ho];rw[(aB h hg x).br hu,(aB h hg y).br hv,Sem.run_bind,h1];rfl
  split at hq
  next hh G7=>simp at hq;subst hq;obtain⟨rfl,hcs⟩:=sj (aB h hg x) (aB h hg y) G7;refine⟨_,?_,.d (.bool _)⟩;simp only[ho];rw[Sem.run_bind,nJ hh hcs .eql x y w (.inl rfl)];rfl
  next hh G7=>simp at hq;subst hq;obtain⟨rfl,hcs⟩:=sj (aB h hg x) (aB h hg y) G7;refine⟨_,?_,.d (.bool _)⟩;simp only[ho];rw[Sem.run_bind,nJ hh hcs .neq x y w (.inr rfl)];rfl
  cases hq
 next op t x ho=>
  split at hq
  next u hu=>obtain⟨r,h1,h2⟩:=up hq;refine⟨r,?_,h2⟩;simp only[ho];rw[(aB h hg x).br hu,Sem.run_bind,h1];rfl
  cases hq
 next t1 t2 x ho=>
  split at hq
  next u hu=>obtain⟨r,h1,h2⟩:=up hq;refine⟨r,?_,h2⟩;simp only[ho];rw[(aB h hg x).br hu,Sem.run_bind,h1];rfl
  cases hq
 next t x ho=>obtain⟨r,h1,h2⟩:=vu h (aB h hg x) hq;simp_all
 next t x f ho=>obtain⟨r,h1,h2⟩:=rq (aB h hg x) hq;simp_all
 next t x i ho=>obtain⟨r,h1,h2⟩:=rr h (aB h hg x) (aB h hg i) hq;simp_all
 next t x i ho=>
  split at hq
  next n e ht=>obtain⟨r,h1,h2⟩:=Ae ht (aB h hg x) (aB h hg i) hq;simp_all
  split at hq
  next u v hu hv=>obtain⟨r,h1,h2⟩:=up hq;refine⟨r,?_,h2⟩;simp only[ho];rw[(aB h hg x).br hu,(aB h hg i).br hv,Sem.run_bind,h1];rfl
  cases hq
 next t x f ho=>obtain⟨r,h1,h2⟩:=Ad (aB h hg x) hq;simp_all
 next x i ho=>
  split at hq
  next ps km=>
   have hr:=aB h hg x;rw[km] at hr;generalize O9:a.eval x=vx at hr;cases hr with
   |fL vs _ hl hc=>
    have hi:i<ps.length:=(zaa.1 hq).1;have Ok:i<vs.length:=by omega
    refine⟨vs[i],?_,hc i _ _ (zac Ok) hq⟩;simp[ho,O9,Instr.extract,Ok]
  cases hq
 next t x i ok ho=>
  split at hq
  next z hz=>obtain⟨y,ht,hz⟩:=zbp.1 hz;obtain⟨r,h1,h2⟩:=xJ h ht hz (aB h hg x) (aB h hg i) hq;simp_all
  cases hq
 next x ho=>obtain⟨r,h1,h2⟩:=z8 h (aB h hg x) hq;simp_all
 next t x lo hi ho=>
  have Ab:(lo.map (s.eg g)=none/\lo.map a.eval=none)\/ ∃p v,lo.map (s.eg g)=some p/\lo.map a.eval=some v/\ao F w G s.rg v p:=by
   cases lo with
   |none=>simp
   |some l=>grind [aB]
  have EJ:(hi.map (s.eg g)=none/\hi.map a.eval=none)\/ ∃p v,hi.map (s.eg g)=some p/\hi.map a.eval=some v/\ao F w G s.rg v p:=by
   cases hi with
   |none=>simp
   |some l=>grind [aB]
  split at hq
  next b hb=>
   split at hq
   ·rename_i l hh hl Ol;obtain⟨r,h1,h2⟩:=up hq;have el:lo.map a.eval=l:=by
     cases lo with
     |none=>grind
     |some x'=>simp only[zaj] at hl;obtain⟨v,hv,rfl⟩:=hl;simp[(aB h hg x').br hv]
    have eh:hi.map a.eval=hh:=by
     cases hi with
     |none=>grind
     |some x'=>simp only[zaj] at Ol;obtain⟨v,hv,rfl⟩:=Ol;simp[(aB h hg x').br hv]
    refine⟨r,?_,h2⟩;simp only[ho,zbS];rw[(aB h hg x).br hb,el,eh,Sem.run_bind,h1];rfl
   cases hq
  obtain⟨r,h1,h2⟩:=Ac h (aB h hg x) Ab EJ hq;simp_all
 next t parts ho=>
  split at hq
  next vs xG=>
   obtain⟨r,h1,h2⟩:=up hq;have e1:parts.toList.map (λx=>a.eval x.2)=vs:=by have:=oV h hg (parts.toList.map (·.2)) vs (by grind [Function.comp_def]);grind [Function.comp_def]
   have e:(parts.map λ(i,x)=>(i,a.eval x))=((parts.toList.map (·.1)).zip vs).toArray:=by grind
   simp_all
  obtain⟨r,h1,h2⟩:=vF (vals:=parts.map λ(i,x)=>(i,a.eval x)) hq (by simp) (λi x y hx hy=>by simp only[zcr,zai,zaj] at hx hy;obtain⟨x1,Bt,rfl⟩:=hx;obtain⟨y1,rv,rfl⟩:=hy;rw[Bt] at rv;cases rv;exact⟨rfl,aB h hg x1.2⟩);simp_all
 next f first bH ho=>
  split at hq
  next Md=>
   have e1:first= #[]:=by grind
   subst e1;simp only[zaf] at hq;subst hq;refine⟨.func (.func f) #[] (bH.map a.eval),?_,?_⟩
   ·simp[ho,Instr.makeFunc]
   have:=ao.fn (F:=F) (w:=w) (G:=G) (R:=s.rg) f (bH.toList.map a.eval) (bH.toList.map (s.eg g)) (by simp) (λi v c hv hc=>by grind [aB]);have e:bH.map a.eval=⟨bH.toList.map a.eval⟩:=by grind
   rw[e];exact this
  cases hq
 next c ho=>
  split at hq
  next fR=>
   split at hq
   ·rename_i x bq;have ea:c.args= #[x]:=by grind
    split at hq
    next u hu=>obtain⟨r,h1,h2⟩:=up hq;refine⟨r,?_,h2⟩;have hx:=(aB h hg x).br hu;simp[ho,resolve,fR,ea,invoke,builtin,hx,h1]
    split at hq
    next e het=>obtain⟨t0,G8,het⟩:=zbp.1 het;obtain⟨r,h1,h2⟩:=EK (ty:=o.type) G8 het (aB h hg x) hq;refine⟨r,?_,h2⟩;simp[ho,resolve,fR,ea,invoke,builtin,h1]
    split at hq
    next y ru=>obtain⟨t0,G8,ru⟩:=zbp.1 ru;obtain⟨r,h1,h2⟩:=EL (ty:=o.type) h G8 ru (aB h hg x) hq;refine⟨r,?_,h2⟩;simp[ho,resolve,fR,ea,invoke,builtin,h1]
    cases hq
   cases hq
  next fR=>
   split at hq
   ·rename_i vs xG;obtain⟨r,h1,h2⟩:=up hq;refine⟨r,?_,h2⟩;have e:=oV h hg _ _ xG;have e2:c.args.map a.eval=vs.toArray:=by grind
    simp[ho,resolve,fR,invoke,builtin,e2,h1]
   cases hq
  next fR=>
   split at hq
   ·rename_i vs xG;obtain⟨r,h1,h2⟩:=up hq;refine⟨r,?_,h2⟩;have e:=oV h hg _ _ xG;have e2:c.args.map a.eval=vs.toArray:=by grind
    simp[ho,resolve,fR,invoke,builtin,e2,h1]
   cases hq
  cases hq
 cases hq
end
end Pi
