/- The text PiPv. -/
import Derived.Test.YtfelfooeclnbiaaPiStr
namespace Pi
open Go
section
variable{Q:Program}{T:Tg}{F:Nat->Prop}{G:Nat->Value}{w:World}{a:Act}{s:S}
theorem cY{len l h:Nat}{lo hi:Option P}(hb:bH len lo hi=some (l,h)):l<=h/\h<=len:=by unfold bH at hb;grind
theorem eO{len cap l h:Nat}{lo hi:Option P}{vl vh:Option Value}(hb:bH len lo hi=some (l,h))(hle:hi=none\/len<=cap)
  (uA:(lo=none/\vl=none)\/ ∃p v,lo=some p/\vl=some v/\ak F w G s.rg v p) (yT:(hi=none/\vh=none)\/ ∃p v,hi=some p/\vh=some v/\ak F w G s.rg v p):
  (Instr.sliceBounds true len cap vl vh none).run Q w= .ok (l,h,cap) w:=by
 unfold bH at hb;rcases yT with⟨rfl,rfl⟩| ⟨p,v,rfl,rfl,hp⟩
 ·skip
  rcases uA with⟨rfl,rfl⟩| ⟨p,v,rfl,rfl,hp⟩
  ·skip
   obtain⟨rfl,rfl⟩:=hb;rfl
  cases p<;>try (simp at hb;done)
  rename_i x;cases x<;>try (simp at hb;done)
  rename_i k j;cases hp with
  |d hp=>
   cases hp;simp only at hb;split at hb
   next hj=>obtain⟨rfl,rfl⟩:=hb;simp[Instr.sliceBounds,Instr.sliceBound,asIntOf,hj]
   cases hb
 cases p<;>try (simp at hb;done)
 rename_i x;cases x<;>try (simp at hb;done)
 rename_i k j;cases hp with
 |d hp=>
  cases hp;have AV:len<=cap:=by grind
  simp only at hb;by_cases hj:0<=j/\j<=(len:Int)
  ·have GB:0<=j/\j<=(cap:Int):=⟨hj.1,by omega⟩
   rw[zat hj] at hb;rcases uA with⟨rfl,rfl⟩| ⟨p,v,rfl,rfl,hp⟩
   ·skip
    obtain⟨rfl,rfl⟩:=hb;simp[Instr.sliceBounds,Instr.sliceBound,asIntOf,GB]
   cases p<;>try (simp at hb;done)
   rename_i x;cases x<;>try (simp at hb;done)
   rename_i k2 j2;cases hp with
   |d hp=>
    cases hp;simp only at hb;split at hb
    next GC=>simp[Instr.sliceBounds,Instr.sliceBound,asIntOf,GB,GC];grind
    cases hb
  grind
theorem ld{F':Nat->Prop}{n:Nat}{ty:TypeId}{fz:Bool}{es:List D}{k len:Nat}(hO:hZ Q F w G s.rg n (.arr ty fz es))(hk:sz Q ty=some k){v:Value}
  (hv: ∃a N cap,G n= .slice a N cap/\v= .slice a len cap/\len<=N) (hF: ∀b,ar (G n)=some b->F' b) (A2: ∀b,F b->F' b):ax F' w v (.sl k (es.take len)):=by
 obtain⟨a0,N,cap,hG,rfl,hle⟩:=hv;rcases hO with⟨hg,rfl⟩| ⟨b,dR,cs,k',hg,hh,gf,l3,rT,nI,bK,_,hE⟩
 ·rw[hG] at hg;simp at hg;have:len=0:=by omega
  subst this;exact .uu _ _ _
 rw[hk] at gf;cases gf;rw[hG] at hg;obtain⟨rfl,rfl,rfl⟩:=hg;have hlen:(es.take len).length=len:=by simp;omega
 have kK: ∀i x,(es.take len)[i]?=some x->es[i]?=some x:=λi x hx=>by
  rw[zaQ] at hx;split at hx
  ·exact hx
  cases hx
 have kg: ∀x,x∈es.take len-> ∃i,es[i]?=some x:=λx hx=>by obtain⟨i,hi⟩:=zaq hx;exact⟨i,kK i x hi⟩
 have:=ax.vG (F:=F') (w:=w) b 0 k cap (es.take len) (λi=>cs.getD i undef) (by omega) (hF b (by simp[hG,ar])) (λx hx=>by obtain⟨i,hi⟩:=kg x hx;exact(hE i x hi).1)
  (λx hx=>by obtain⟨i,hi⟩:=kg x hx;exact(hE i x hi).2.1) (λi hi=>by
   have:i<cs.size:=by rw[bK];exact zbe hi (zag _ (by omega))
   rw[zbc,cell_of_row w b i cs ty (0,0) hh];simp_all) (λi j x c hx hc=>((hE i x (kK i x hx)).2.2 j c hc).mono A2 (λ_ _=>rfl))
 rwa [hlen] at this
theorem py{F':Nat->Prop}{n:Nat}{ty:TypeId}{fz:Bool}{es:List D}{k off len:Nat}(hO:hZ Q F w G s.rg n (.arr ty fz es))(hk:sz Q ty=some k){v:Value}
  (hv: ∃a N cap,G n= .slice a N cap/\off+len<=N/\ ∃a' dR,v= .slice a' len dR/\len<=dR/\(len=0\/ ∃b,a=some ⟨b,0,none⟩/\a'=some ⟨b,off*k,none⟩)) (hF: ∀b,ar (G n)=some b->F' b) (A2: ∀b,F b->F' b):ax F' w v (.sl k ((es.drop off).take len)):=by
 obtain⟨a0,N,cap,hG,hle,a1,iZ,rfl,wF,hz⟩:=hv;by_cases h0:len=0
 ·subst h0;exact .uu _ _ _
 obtain⟨b0,AW,wG⟩: ∃b,a0=some ⟨b,0,none⟩/\a1=some ⟨b,off*k,none⟩:=by grind
 subst AW wG;rcases hO with⟨hg,rfl⟩| ⟨b,dR,cs,k',hg,hh,gf,l3,rT,nI,bK,_,hE⟩
 ·rw[hG] at hg;simp at hg
 rw[hk] at gf;cases gf;rw[hG] at hg;obtain⟨rfl,rfl,rfl⟩:=hg;have hlen:((es.drop off).take len).length=len:=by simp;omega
 have kK: ∀i x,((es.drop off).take len)[i]?=some x->es[off+i]?=some x:=λi x hx=>by grind
 have kg: ∀x,x∈(es.drop off).take len-> ∃i,es[i]?=some x:=λx hx=>by obtain⟨i,hi⟩:=zaq hx;exact⟨off+i,kK i x hi⟩
 have:=ax.vG (F:=F') (w:=w) b0 (off*k) k iZ ((es.drop off).take len) (λi=>cs.getD (off*k+i) undef) (by omega) (hF b0 (by simp[hG,ar])) (λx hx=>by obtain⟨i,hi⟩:=kg x hx;exact(hE i x hi).1)
  (λx hx=>by obtain⟨i,hi⟩:=kg x hx;exact(hE i x hi).2.1) (λi hi=>by
   rw[hlen] at hi;have h2:off*k+i<cs.size:=by
    rw[bK]
    calc off*k+i<off*k+len*k:=by omega
     _=(off+len)*k:=by rw[zau]
     _<=cap*k:=zag _ (by omega)
   rw[cell_of_row w b0 (off*k+i) cs ty (0,0) hh];simp_all) (λi j x c hx hc=>by
   have:=((hE (off+i) x (kK i x hx)).2.2 j c hc).mono A2 (λ_ _=>rfl);rw[zau,zaU] at this;exact this)
 rwa [hlen] at this
theorem wK(h:aq Q T F G w a s){t:TypeId}{v:Value}{p:P}{lo:Option P}(hv:ak F w G s.rg v p):ak F w G s.rg v (gw Q s t p lo):=by
 unfold gw;split
 next n aw len=>
  split
  next x ty es k _ ho hk=>
   split
   ·rename_i k' gf;split
    ·rename_i dS;have dS:=zab dS;subst dS;obtain⟨e,he,bM,aO⟩:=S.aI ho;have hO:=h.rg n e he;rw[aO] at hO;cases hv with
     |sl _ _ _ _ _ hr=>
      have Hq:=hr.at he bM (by rw[aO];rfl);refine .d (ld hO gf Hq (λb hb=> ?_) (λ_ h=>h));rcases hO with⟨hg,_⟩| ⟨b',cap,cs,k2,hg,_,_,_,_,_,_,hf,_⟩
      ·rw[hg] at hb;cases hb
      grind [ar]
    exact hv
   exact hv
  exact hv
 exact hv
theorem uB(h:aq Q T F G w a s){t:TypeId}{v:Value}{p q:P}{lo hi:Option P}{vl vh:Option Value}(hv:ak F w G s.rg v p)
  (uA:(lo=none/\vl=none)\/ ∃p v,lo=some p/\vl=some v/\ak F w G s.rg v p) (yT:(hi=none/\vh=none)\/ ∃p v,hi=some p/\vh=some v/\ak F w G s.rg v p)
  (hq:fj Q s t p lo hi=some q): ∃x,(Instr.sliceAt t v vl vh none).run Q w= .ok x w/\ak F w G s.rg x q:=by
 unfold fj at hq
 replace hv:=wK h (t:=t) (lo:=lo) hv
 generalize gw Q s t p lo=p at hq hv;unfold lZ at hq;split at hq
 ·cases hq
 rename_i e het;have ew:=bI het;split at hq
 next k hk=>
  cases hv with
  |d hv=>
   cases hv with
   |uu a0 k' cap=>
    simp only at hq;split at hq
    ·split at hq
     ·rename_i l hh hb;have:=cY hb;have yi:l=0/\hh=0:=by grind
      obtain⟨rfl,rfl⟩:=yi;simp at hq;subst hq;refine⟨.slice (if cap=0 then a0 else a0.map (·.add (0*(k+1)))) 0 cap,?_,.d (.uu _ _ _)⟩;have bU:=eO (Q:=Q) (s:=s) (F:=F) (w:=w) (G:=G) (cap:=cap) hb (by simp) uA yT;simp only[zbB] at bU;simp[Instr.sliceAt,run_underlying ew,Instr.slice,bU,run_sizeOf hk]
     cases hq
    cases hq
   |vG b off k' cap es f j9 hb dS aQ hw hr=>
    simp only at hq;split at hq
    ·rename_i gf;have gf:k'=k+1:=by simpa using gf
     subst gf;split at hq
     ·rename_i l hh sw;have hle:=cY sw;simp at hq;subst hq;have bU:=eO (Q:=Q) (s:=s) (F:=F) (w:=w) (G:=G) (cap:=cap) sw (.inr j9) uA yT;refine⟨_,by simp[Instr.sliceAt,run_underlying ew,Instr.slice,bU,run_sizeOf hk];rfl,?_⟩;by_cases h0:hh-l=0
      ·rw[h0];have e0:(es.take hh).drop l=[]:=zap (by simp;omega);rw[e0];exact .d (.uu _ _ _)
      have bY: ¬cap=l:=by omega
      rw[zav bY];have hlen:((es.take hh).drop l).length=hh-l:=by simp;omega
      have kK: ∀i x,((es.take hh).drop l)[i]?=some x->es[l+i]?=some x:=λi x hx=>by grind
      have kg: ∀x,x∈(es.take hh).drop l->x∈es:=λx hx=>zbj (zbi hx);rw[<-hlen,bp];refine .d (.vG b (off+l*(k+1)) (k+1) (cap-l) _ (λi=>f (l*(k+1)+i)) (by omega) hb (λx hx=>dS x (kg x hx)) (λx hx=>aQ x (kg x hx)) (λi hi=> ?_) (λi j x c hx hc=> ?_))
      ·rw[zaU];refine hw _ ?_;rw[hlen] at hi
       calc l*(k+1)+i<l*(k+1)+(hh-l)*(k+1):=by omega
        _=(l+(hh-l))*(k+1):=by rw[zau]
        _<=es.length*(k+1):=zag _ (by omega)
      grind
     cases hq
    cases hq
   |_=>cases hq
  |sl n aw len v h1 hr=>
   simp only at hq;split at hq
   ·rename_i ty fz es ho;split at hq
    ·rename_i l hh sw;simp at hq;subst hq;obtain⟨en,he,bM,aO⟩:=S.aI ho;obtain⟨a0,N,cap,hG,rfl,hle⟩:=hr.at he bM (by rw[aO];rfl);have hO:=h.rg n en he;rw[aO] at hO;have Hr:N<=cap:=by
      rcases hO with⟨fa,_⟩| ⟨b',dR,cs,k2,fa,_,_,_,AV,_⟩
      ·grind
      grind
     have bU:=eO (Q:=Q) (s:=s) (F:=F) (w:=w) (G:=G) (cap:=cap) sw (.inr (by omega)) (.inl ⟨rfl,rfl⟩) yT;have GD:=cY sw;have yi:l=0:=by unfold bH at sw;grind
     subst yi;have Ee:vl=none:=by grind
     subst Ee;refine⟨.slice a0 hh cap,?_,.sl n aw hh _ rfl ⟨en,he,by omega,λ_ _=>⟨a0,N,cap,hG,rfl,by omega⟩⟩⟩;have hz: ∀x:Addr,x.add 0=x:=λx=>by rfl
     simp only[Instr.sliceAt,Instr.slice,Sem.run_bind,run_underlying ew,Result.andThen_ok,bU,run_sizeOf hk];cases a0<;>simp[hz]
    cases hq
   ·rename_i ty fz es Hs ho;split at hq
    ·rename_i k' gf;split at hq
     ·split at hq
      ·rename_i l hh sw;simp at hq;subst hq;obtain⟨en,he,bM,aO⟩:=S.aI ho;obtain⟨a0,N,cap,hG,rfl,hle⟩:=hr.at he bM (by rw[aO];rfl);have hO:=h.rg n en he;rw[aO] at hO;have GD:=cY sw;have Hr:N<=cap/\(N=0\/ ∃b,a0=some ⟨b,0,none⟩):=by
        rcases hO with⟨fa,_⟩| ⟨b',dR,cs,k2,fa,_,_,_,AV,_⟩
        ·grind
        grind
       have bU:=eO (Q:=Q) (s:=s) (F:=F) (w:=w) (G:=G) (cap:=cap) sw (.inr (by omega)) uA yT;refine⟨.slice (if cap=l then a0 else a0.map (·.add (l*(k+1)))) (hh-l) (cap-l),by simp[Instr.sliceAt,run_underlying ew,Instr.slice,bU,run_sizeOf hk],.e9 n aw (k+1) l (hh-l) _ rfl ⟨en,he,by omega,λ_ _=>⟨a0,N,cap,hG,by omega,_,_,rfl,by omega,?_⟩⟩⟩;grind [bp]
      cases hq
     cases hq
    cases hq
   cases hq
  |e9 n aw k0 off len v h1 hr=>
   simp only at hq;split at hq
   ·rename_i ty fz es ho;split at hq
    ·rename_i dS;have dS:=zab dS;subst dS;split at hq
     ·rename_i l hh sw;simp at hq;subst hq;obtain⟨en,he,bM,aO⟩:=S.aI ho;obtain⟨a0,N,cap,hG,hle,a1,iZ,rfl,wF,hz⟩:=hr.at he bM (by rw[aO];rfl);have GD:=cY sw;have bU:=eO (Q:=Q) (s:=s) (F:=F) (w:=w) (G:=G) (cap:=iZ) sw (.inr wF) uA yT;refine⟨.slice (if iZ=l then a1 else a1.map (·.add (l*(k+1)))) (hh-l) (iZ-l),by simp[Instr.sliceAt,run_underlying ew,Instr.slice,bU,run_sizeOf hk],.e9 n aw (k+1) (off+l) (hh-l) _ rfl ⟨en,he,by omega,λ_ _=>⟨a0,N,cap,hG,by omega,_,_,rfl,by omega,?_⟩⟩⟩;by_cases h0:hh-l=0
      ·grind
      rcases hz with hz | ⟨b,h2,h3⟩
      ·omega
      refine .inr ⟨b,h2,?_⟩;rw[zav (by omega),h3];simp[bp,zau]
     cases hq
    cases hq
   cases hq
  |_=>cases hq
 cases hq
theorem gg{t e ty:TypeId}{vI:Array TypeId}(h0:vI[0]?=some t)(ew:Q.underlying t=some (.slice e))(b:Option Addr)(n c:Nat)(w:World):(Builtin.len_ vI ty #[.slice b n c]).run Q w= .ok (goInt n) w:=by simp[Builtin.len_,h0,run_underlying ew]
theorem yU{t e:TypeId}{ty:TypeId}{vI:Array TypeId}(h0:vI[0]?=some t)(het:bc Q t=some e){v:Value}{p q:P}(hv:ak F w G s.rg v p)(hq:qy s p=some q):
  ∃x,(Builtin.len_ vI ty #[v]).run Q w= .ok x w/\ak F w G s.rg x q:=by
 have ew:=bI het;unfold qy at hq;cases hv with
 |sl n aw len v h1 hr=>
  simp only at hq;split at hq
  next hl=>simp at hq;subst hq;obtain⟨en,he,bM,hl⟩:=S.bB hl;obtain⟨a0,N,cap,hG,rfl,hle⟩:=hr.at he bM hl;exact⟨_,gg h0 ew a0 len cap w,.d (.int _ _)⟩
  cases hq
 |e9 n aw k off len v h1 hr=>
  simp only at hq;split at hq
  next hl=>simp at hq;subst hq;obtain⟨en,he,bM,hl⟩:=S.bB hl;obtain⟨a0,N,cap,hG,hle,a1,iZ,rfl,_,_⟩:=hr.at he bM hl;exact⟨_,gg h0 ew a1 len iZ w,.d (.int _ _)⟩
  cases hq
 |d hv=>
  cases hv with
  |uu a0 k' cap=>simp at hq;subst hq;exact⟨_,gg h0 ew a0 0 cap w,.d (.int _ _)⟩
  |vG b off k' cap es f j9 hb dS aQ hw hr=>simp at hq;subst hq;exact⟨_,gg h0 ew _ _ cap w,.d (.int _ _)⟩
  |_=>cases hq
 |_=>cases hq
theorem yV(h:aq Q T F G w a s){t:TypeId}{y:TypeId×TypeId}{ty:TypeId}{vI:Array TypeId}(h0:vI[0]?=some t)(nR:cy Q t=some y){v:Value}{p q:P}(hv:ak F w G s.rg v p)(hq:qz s p=some q):
  ∃x,(Builtin.len_ vI ty #[v]).run Q w= .ok x w/\ak F w G s.rg x q:=by
 have ew:=cp nR;unfold qz at hq;split at hq
 next n aw=>
  split at hq
  next yS get c last ho=>simp only[zae] at hq;subst hq;obtain⟨e0,_,_,_,jm,b,es,clock,hG,hb,hM⟩:=qL h hv ho;rw[hG] at jm;subst jm;obtain⟨ks,_,hc,_⟩:=hM;refine⟨goInt es.size,by simp[Builtin.len_,h0,run_underlying ew,MapKept.run_getObj_map hb],?_⟩;rw[hc];exact .d (.int _ _)
  next yS ks ho=>simp only[zae] at hq;subst hq;obtain⟨e0,_,_,_,jm,b,es,clock,hG,hb,hM⟩:=qM h hv ho;rw[hG] at jm;subst jm;refine⟨goInt es.size,by simp[Builtin.len_,h0,run_underlying ew,MapKept.run_getObj_map hb],?_⟩;have:ks.length=es.size:=hM.1;rw[this];exact .d (.int _ _)
  cases hq
 cases hq
theorem oA{x y:Value}{p q:P}{r:Bool}(hx:ak F w G s.rg x p)(hy:ak F w G s.rg y q)(hr:kF s p q=some r):
  r=false/\((∃b,x= .pointer (some b)/\y= .pointer none)\/ ∃b,x= .pointer none/\y= .pointer (some b)):=by
 unfold kF at hr;split at hr
 ·cases hx with
  |ref n aw off v h h1=>cases hy with |d hy=>cases hy;(split at hr)<;>simp at hr;rename_i hl;obtain⟨e,he,bM,hl⟩:=S.bB hl;obtain⟨b,_,hv⟩:=h.at he bM hl;grind
 ·cases hx with
  |bE n aw i k off v h1 h=>cases hy with |d hy=>cases hy;(split at hr)<;>simp at hr;rename_i hl;obtain⟨e,he,bM,hl⟩:=S.bB hl;obtain⟨b,_,_,_,hv⟩:=h.at he bM hl;grind
 ·cases hy with
  |ref n aw off v h h1=>cases hx with |d hx=>cases hx;(split at hr)<;>simp at hr;rename_i hl;obtain⟨e,he,bM,hl⟩:=S.bB hl;obtain⟨b,_,hv⟩:=h.at he bM hl;grind
 ·cases hy with
  |bE n aw i k off v h1 h=>cases hx with |d hx=>cases hx;(split at hr)<;>simp at hr;rename_i hl;obtain⟨e,he,bM,hl⟩:=S.bB hl;obtain⟨b,_,_,_,hv⟩:=h.at he bM hl;grind
 ·cases hx with |cd=>cases hy with |d hy=>cases hy;grind
 ·cases hy with |cd=>cases hx with |d hx=>cases hx;grind
 cases hr
theorem lT(d:Nat){t e:TypeId}(ht:Q.underlying t=some (.pointer e)){x y:Value}(h:(∃b,x= .pointer (some b)/\y= .pointer none)\/ ∃b,x= .pointer none/\y= .pointer (some b))(w:World):
  (Op.equalIn (d+1) t x y).run Q w= .ok false w:=by
 rcases h with⟨b,rfl,rfl⟩| ⟨b,rfl,rfl⟩<;>simp[Op.equalIn,run_underlying ht]
theorem lg{t e:TypeId}(ht:Q.underlying t=some (.pointer e)){x y:Value}(h:(∃b,x= .pointer (some b)/\y= .pointer none)\/ ∃b,x= .pointer none/\y= .pointer (some b))(op:BinOp)(ox oy:Operand)(w:World)
  (E6:op= .eql\/op= .neq):(do eqGuard op t ox oy x y;Go.binOp op t x y:Sem Value).run Q w= .ok (.bool (op matches .neq)) w:=by
 have he:=lT (Q:=Q) 9999 ht h w;rcases h with⟨b,rfl,rfl⟩| ⟨b,rfl,rfl⟩<;>rcases E6 with rfl |rfl<;>simp only[eqGuard,Go.binOp,Op.equal,Op.maxDepth]<;>simp[he]
theorem l5(h:aq Q T F G w a s){g:Option (Nat×Bool)}(hg:fc a g): ∀(xs:List Operand) (vs:List Value),bm (xs.map (s.eg g))=some vs->xs.map a.eval=vs
 | [],vs,hv=>by grind [bm]
 |x::xs,vs,hv=>by
  simp only[zaY,bm] at hv;cases h1:(s.eg g x).aW with
  |none=>grind
  |some v=>
   cases h2:bm (xs.map (s.eg g)) with
   |none=>grind
   |some us=>simp[h1,h2] at hv;subst hv;rw[zaY,l5 h hg xs us h2,(au h hg x).aW h1]
theorem tL{v:Value}{p:P}{ps:List P}(hv:ak F w G s.rg v p)(h:p.r4=some ps): ∃vs:List Value,v= .agg ⟨vs⟩/\vs.length=ps.length/\(∀u∈vs,u.oneCell'=true)/\ ∀(i:Nat) (c:P),ps[i]?=some c->ak F w G s.rg (vs.getD i undef) c:=by
 cases hv with
 |agg vs IJ hl cS hc=>grind [P.r4]
 |d hd=>
  cases hd with
  |agg vs cs hl aQ hc=>
   simp[P.r4] at h;subst h;refine⟨vs,rfl,by grind,λu hu=> ?_,λi c hi=> ?_⟩
   ·obtain⟨i,hi⟩:=zaq hu;have bu:i<cs.length:=by have:=(zaa.1 hi).1;omega
    exact(hc i u cs[i] hi (zad bu)).iM (aQ _ (zaH bu))
   rw[zao] at hi;cases hx:cs[i]? with
   |none=>rw[hx] at hi;cases hi
   |some x=>rw[hx] at hi;cases hi;refine .d ?_;grind
  |_=>simp[P.r4] at h
 |_=>simp[P.r4] at h
theorem tM{t:TypeId}{vs:List Value}{ps:List P}{off:Nat}{q:P}(hl:vs.length=ps.length)(cS: ∀u∈vs,u.oneCell'=true)(hc: ∀(i:Nat) (c:P),ps[i]?=some c->ak F w G s.rg (vs.getD i undef) c)(hq:oa Q t ps off=some q):
  ∃r,(Go.part t ⟨vs⟩ off).run Q w= .ok r w/\ak F w G s.rg r q:=by
 obtain⟨k,hk,hb,hr⟩:=qF (R:=s.rg) hq (λi=>vs.getD i undef) (λi hi=>by grind) hc;grind [wC]
theorem uC{t:TypeId}{f:Nat}{v:Value}{p q:P}(hv:ak F w G s.rg v p)(hq:r5 Q t f p=some q): ∃r,(Instr.field t v f).run Q w= .ok r w/\ak F w G s.rg r q:=by
 unfold r5 at hq;split at hq
 next fs ps ht qk=>
  obtain⟨vs,rfl,hl,cS,hc⟩:=tL hv qk;split at hq
  next fl E3=>obtain⟨r,h1,h2⟩:=tM hl cS hc hq;refine⟨r,?_,h2⟩;simp[Instr.field,run_underlying ht,E3,asAgg,h1]
  cases hq
 cases hq
theorem uD{t e:TypeId}{n:Nat}{v u:Value}{p i q:P}(ht:Q.underlying t=some (.array n e))(hv:ak F w G s.rg v p)(hu:ak F w G s.rg u i)(hq:r6 Q n e p i=some q):
  ∃r,(Instr.index t v u).run Q w= .ok r w/\ak F w G s.rg r q:=by
 unfold r6 at hq;split at hq
 next ps kk j k qk hk=>
  obtain⟨vs,rfl,hl,cS,hc⟩:=tL hv qk;cases hu with
  |d hu=>
   cases hu;split at hq
   next hj=>obtain⟨r,h1,h2⟩:=tM hl cS hc hq;refine⟨r,?_,h2⟩;simp[Instr.index,asIntOf,run_underlying ht,hj,run_sizeOf hk,h1]
   cases hq
 cases hq
theorem CR(h:aq Q T F G w a s){g:Option (Nat×Bool)}(hg:fc a g){o:Oper}{q:P}(hq:pv Q s o g=some q):
  ∃v,(execOp a.eval o).run Q w= .ok (.value v) w/\ak F w G s.rg v q:=by
 have up: ∀{m:Sem Value} {q:P},bL Q m=some q-> ∃v,m.run Q w= .ok v w/\ak F w G s.rg v q:=λhh=>uw hh F w G s.rg;unfold pv at hq;unfold execOp;split at hq
 next x hx=>simp at hq;subst hq;exact⟨a.eval x,by simp[hx],au h hg x⟩
 next x hx=>simp at hq;subst hq;exact⟨a.eval x,by simp[hx],au h hg x⟩
 next c x y ho=>
  split at hq
  next r hc=>
   simp at hq;subst hq;have GF:a.eval c= .bool r:=(au h hg c).aW (by rw[hc];rfl);cases r with
   |true=>exact⟨a.eval x,by simp[ho,GF,asBool],au h hg x⟩
   |false=>exact⟨a.eval y,by simp[ho,GF,asBool],au h hg y⟩
  cases hq
 next x ho=>
  obtain⟨rfl,hv⟩:=nO (au h hg x) hq;have hr:=au h hg x;rcases hv with⟨b,hv⟩| ⟨f,c1,c2,hv⟩
  ·simp_all
  simp_all
 next op t x y yt ho=>
  unfold gF at hq;split at hq
  next u v hu hv=>obtain⟨r,h1,h2⟩:=up hq;refine⟨r,?_,h2⟩;simp only[ho];rw[(au h hg x).aW hu,(au h hg y).aW hv,Sem.run_bind,h1];rfl
  split at hq
  next hh A3=>simp at hq;subst hq;obtain⟨rfl,hcs⟩:=oA (au h hg x) (au h hg y) A3;refine⟨_,?_,.d (.bool _)⟩;simp only[ho];rw[Sem.run_bind,lg hh hcs .eql x y w (.inl rfl)];rfl
  next hh A3=>simp at hq;subst hq;obtain⟨rfl,hcs⟩:=oA (au h hg x) (au h hg y) A3;refine⟨_,?_,.d (.bool _)⟩;simp only[ho];rw[Sem.run_bind,lg hh hcs .neq x y w (.inr rfl)];rfl
  cases hq
 next op t x ho=>
  split at hq
  next u hu=>obtain⟨r,h1,h2⟩:=up hq;refine⟨r,?_,h2⟩;simp only[ho];rw[(au h hg x).aW hu,Sem.run_bind,h1];rfl
  cases hq
 next t1 t2 x ho=>
  split at hq
  next u hu=>obtain⟨r,h1,h2⟩:=up hq;refine⟨r,?_,h2⟩;simp only[ho];rw[(au h hg x).aW hu,Sem.run_bind,h1];rfl
  cases hq
 next t x ho=>obtain⟨r,h1,h2⟩:=qH h (au h hg x) hq;simp_all
 next t x f ho=>obtain⟨r,h1,h2⟩:=nP (au h hg x) hq;simp_all
 next t x i ho=>obtain⟨r,h1,h2⟩:=nQ h (au h hg x) (au h hg i) hq;simp_all
 next t x i ho=>
  split at hq
  next n e ht=>obtain⟨r,h1,h2⟩:=uD ht (au h hg x) (au h hg i) hq;simp_all
  split at hq
  next u v hu hv=>obtain⟨r,h1,h2⟩:=up hq;refine⟨r,?_,h2⟩;simp only[ho];rw[(au h hg x).aW hu,(au h hg i).aW hv,Sem.run_bind,h1];rfl
  cases hq
 next t x f ho=>obtain⟨r,h1,h2⟩:=uC (au h hg x) hq;simp_all
 next x i ho=>
  split at hq
  next ps qk=>
   have hr:=au h hg x;rw[qk] at hr;generalize Ht:a.eval x=vx at hr;cases hr with
   |dX vs _ hl hc=>
    have hi:i<ps.length:=(zaa.1 hq).1;have GG:i<vs.length:=by omega
    refine⟨vs[i],?_,hc i _ _ (zad GG) hq⟩;simp[ho,Ht,Instr.extract,GG]
  cases hq
 next t x i ok ho=>
  split at hq
  next z hz=>obtain⟨y,ht,hz⟩:=zaZ.1 hz;obtain⟨r,h1,h2⟩:=su h ht hz (au h hg x) (au h hg i) hq;simp_all
  cases hq
 next x ho=>obtain⟨r,h1,h2⟩:=ux h (au h hg x) hq;simp_all
 next t x lo hi ho=>
  have uA:(lo.map (s.eg g)=none/\lo.map a.eval=none)\/ ∃p v,lo.map (s.eg g)=some p/\lo.map a.eval=some v/\ak F w G s.rg v p:=by
   cases lo with
   |none=>simp
   |some l=>grind [au]
  have yT:(hi.map (s.eg g)=none/\hi.map a.eval=none)\/ ∃p v,hi.map (s.eg g)=some p/\hi.map a.eval=some v/\ak F w G s.rg v p:=by
   cases hi with
   |none=>simp
   |some l=>grind [au]
  split at hq
  next b hb=>
   split at hq
   ·rename_i l hh hl GH;obtain⟨r,h1,h2⟩:=up hq;have el:lo.map a.eval=l:=by
     cases lo with
     |none=>grind
     |some x'=>simp only[zaj] at hl;obtain⟨v,hv,rfl⟩:=hl;simp[(au h hg x').aW hv]
    have eh:hi.map a.eval=hh:=by
     cases hi with
     |none=>grind
     |some x'=>simp only[zaj] at GH;obtain⟨v,hv,rfl⟩:=GH;simp[(au h hg x').aW hv]
    refine⟨r,?_,h2⟩;simp only[ho,zbC];rw[(au h hg x).aW hb,el,eh,Sem.run_bind,h1];rfl
   cases hq
  obtain⟨r,h1,h2⟩:=uB h (au h hg x) uA yT hq;simp_all
 next t parts ho=>
  split at hq
  next vs sq=>
   obtain⟨r,h1,h2⟩:=up hq;have e1:parts.toList.map (λx=>a.eval x.2)=vs:=by have:=l5 h hg (parts.toList.map (·.2)) vs (by grind [Function.comp_def]);grind [Function.comp_def]
   have e:(parts.map λ(i,x)=>(i,a.eval x))=((parts.toList.map (·.1)).zip vs).toArray:=by grind
   simp_all
  obtain⟨r,h1,h2⟩:=qO (vals:=parts.map λ(i,x)=>(i,a.eval x)) hq (by simp) (λi x y hx hy=>by simp only[zbR,zao,zaj] at hx hy;obtain⟨x1,Ai,rfl⟩:=hx;obtain⟨y1,uE,rfl⟩:=hy;rw[Ai] at uE;cases uE;exact⟨rfl,au h hg x1.2⟩);simp_all
 next f first cl ho=>
  split at hq
  next E7=>
   have e1:first= #[]:=by grind
   subst e1;simp only[zae] at hq;subst hq;refine⟨.func (.func f) #[] (cl.map a.eval),?_,?_⟩
   ·simp[ho,Instr.makeFunc]
   have:=ak.fn (F:=F) (w:=w) (G:=G) (R:=s.rg) f (cl.toList.map a.eval) (cl.toList.map (s.eg g)) (by simp) (λi v c hv hc=>by grind [au]);have e:cl.map a.eval=⟨cl.toList.map a.eval⟩:=by grind
   rw[e];exact this
  cases hq
 next c ho=>
  split at hq
  next fx=>
   split at hq
   ·rename_i x bq;have ea:c.args= #[x]:=by grind
    split at hq
    next u hu=>obtain⟨r,h1,h2⟩:=up hq;refine⟨r,?_,h2⟩;have hx:=(au h hg x).aW hu;simp[ho,resolve,fx,ea,invoke,builtin,hx,h1]
    split at hq
    next e het=>obtain⟨t0,A4,het⟩:=zaZ.1 het;obtain⟨r,h1,h2⟩:=yU (ty:=o.type) A4 het (au h hg x) hq;refine⟨r,?_,h2⟩;simp[ho,resolve,fx,ea,invoke,builtin,h1]
    split at hq
    next y nR=>obtain⟨t0,A4,nR⟩:=zaZ.1 nR;obtain⟨r,h1,h2⟩:=yV (ty:=o.type) h A4 nR (au h hg x) hq;refine⟨r,?_,h2⟩;simp[ho,resolve,fx,ea,invoke,builtin,h1]
    cases hq
   cases hq
  next fx=>
   split at hq
   ·rename_i vs sq;obtain⟨r,h1,h2⟩:=up hq;refine⟨r,?_,h2⟩;have e:=l5 h hg _ _ sq;have e2:c.args.map a.eval=vs.toArray:=by grind
    simp[ho,resolve,fx,invoke,builtin,e2,h1]
   cases hq
  next fx=>
   split at hq
   ·rename_i vs sq;obtain⟨r,h1,h2⟩:=up hq;refine⟨r,?_,h2⟩;have e:=l5 h hg _ _ sq;have e2:c.args.map a.eval=vs.toArray:=by grind
    simp[ho,resolve,fx,invoke,builtin,e2,h1]
   cases hq
  cases hq
 cases hq
end
end Pi
