/- The text PiPv. -/
import Derived.Test.YtngoddkencoalaaGreatDoorPiStr
namespace Pi
open Go
section
variable{Q:Program}{T:Tg}{F:Nat->Prop}{G:Nat->Value}{w:World}{a:Act}{s:S}
theorem hY{len l h:Nat}{lo hi:Option P}(hb:dI len lo hi=some (l,h)):l<=h/\h<=len:=by unfold dI at hb;grind
theorem lu{len cap l h:Nat}{lo hi:Option P}{vl vh:Option Value}(hb:dI len lo hi=some (l,h))(hle:hi=none\/len<=cap)
  (MG:(lo=none/\vl=none)\/ ∃p v,lo=some p/\vl=some v/\aH F w G s.rg v p) (WN:(hi=none/\vh=none)\/ ∃p v,hi=some p/\vh=some v/\aH F w G s.rg v p):
  (Instr.sliceBounds true len cap vl vh none).run Q w= .ok (l,h,cap) w:=by
 unfold dI at hb;rcases WN with⟨rfl,rfl⟩| ⟨p,v,rfl,rfl,hp⟩
 ·skip
  rcases MG with⟨rfl,rfl⟩| ⟨p,v,rfl,rfl,hp⟩
  ·skip
   obtain⟨rfl,rfl⟩:=hb;rfl
  cases p<;>try (simp at hb;done)
  rename_i x;cases x<;>try (simp at hb;done)
  rename_i k j;cases hp with
  |d hp=>
   cases hp;simp only at hb;split at hb
   next hj=>obtain⟨rfl,rfl⟩:=hb;simp[Instr.sliceBounds,Instr.sliceBound,asIntOf,hj]
   cases hb
 cases p<;>try (simp at hb;done)
 rename_i x;cases x<;>try (simp at hb;done)
 rename_i k j;cases hp with
 |d hp=>
  cases hp;have qck:len<=cap:=by grind
  simp only at hb;by_cases hj:0<=j/\j<=(len:Int)
  ·have hj2:0<=j/\j<=(cap:Int):=⟨hj.1,by omega⟩
   rw[zao hj] at hb;rcases MG with⟨rfl,rfl⟩| ⟨p,v,rfl,rfl,hp⟩
   ·skip
    obtain⟨rfl,rfl⟩:=hb;simp[Instr.sliceBounds,Instr.sliceBound,asIntOf,hj2]
   cases p<;>try (simp at hb;done)
   rename_i x;cases x<;>try (simp at hb;done)
   rename_i k2 j2;cases hp with
   |d hp=>
    cases hp;simp only at hb;split at hb
    next hj3=>simp[Instr.sliceBounds,Instr.sliceBound,asIntOf,hj2,hj3];grind
    cases hb
  grind
theorem vN{F':Nat->Prop}{n:Nat}{ty:TypeId}{fz:Bool}{es:List D}{k len:Nat}(hO:o6 Q F w G s.rg n (.arr ty fz es))(hk:sz Q ty=some k){v:Value}
  (hv: ∃a N cap,G n= .slice a N cap/\v= .slice a len cap/\len<=N) (hF: ∀b,aR (G n)=some b->F' b) (hFF: ∀b,F b->F' b):bc F' w v (.sl k (es.take len)):=by
 obtain⟨a0,N,cap,hG,rfl,hle⟩:=hv;rcases hO with⟨hg,rfl⟩| ⟨b,iV,cs,k',hg,hh,mV,gB,HK,zY,dB,_,hE⟩
 ·rw[hG] at hg;simp at hg;have:len=0:=by omega
  subst this;exact .OZ _ _ _
 rw[hk] at mV;cases mV;rw[hG] at hg;obtain⟨rfl,rfl,rfl⟩:=hg;have hlen:(es.take len).length=len:=by simp;omega
 have pK: ∀i x,(es.take len)[i]?=some x->es[i]?=some x:=λi x hx=>by
  rw[zbg] at hx;split at hx
  ·exact hx
  cases hx
 have ga: ∀x,x∈es.take len-> ∃i,es[i]?=some x:=λx hx=>by obtain⟨i,hi⟩:=zaQ hx;exact⟨i,pK i x hi⟩
 have:=bc.PW (F:=F') (w:=w) b 0 k cap (es.take len) (λi=>cs.getD i undef) (by omega) (hF b (by simp[hG,aR])) (λx hx=>by obtain⟨i,hi⟩:=ga x hx;exact(hE i x hi).1)
  (λx hx=>by obtain⟨i,hi⟩:=ga x hx;exact(hE i x hi).2.1) (λi hi=>by
   have:i<cs.size:=by rw[dB];exact za4 hi (zaq _ (by omega))
   rw[zaF,cell_of_row w b i cs ty (0,0) hh];simp_all) (λi j x c hx hc=>((hE i x (pK i x hx)).2.2 j c hc).mono hFF (λ_ _=>rfl))
 rwa [hlen] at this
theorem CU{F':Nat->Prop}{n:Nat}{ty:TypeId}{fz:Bool}{es:List D}{k off len:Nat}(hO:o6 Q F w G s.rg n (.arr ty fz es))(hk:sz Q ty=some k){v:Value}
  (hv: ∃a N cap,G n= .slice a N cap/\off+len<=N/\ ∃a' iV,v= .slice a' len iV/\len<=iV/\(len=0\/ ∃b,a=some ⟨b,0,none⟩/\a'=some ⟨b,off*k,none⟩)) (hF: ∀b,aR (G n)=some b->F' b) (hFF: ∀b,F b->F' b):bc F' w v (.sl k ((es.drop off).take len)):=by
 obtain⟨a0,N,cap,hG,hle,a1,qZ,rfl,P9,hz⟩:=hv;by_cases h0:len=0
 ·subst h0;exact .OZ _ _ _
 obtain⟨b0,ha0,Qa⟩: ∃b,a0=some ⟨b,0,none⟩/\a1=some ⟨b,off*k,none⟩:=by grind
 subst ha0 Qa;rcases hO with⟨hg,rfl⟩| ⟨b,iV,cs,k',hg,hh,mV,gB,HK,zY,dB,_,hE⟩
 ·rw[hG] at hg;simp at hg
 rw[hk] at mV;cases mV;rw[hG] at hg;obtain⟨rfl,rfl,rfl⟩:=hg;have hlen:((es.drop off).take len).length=len:=by simp;omega
 have pK: ∀i x,((es.drop off).take len)[i]?=some x->es[off+i]?=some x:=λi x hx=>by grind
 have ga: ∀x,x∈(es.drop off).take len-> ∃i,es[i]?=some x:=λx hx=>by obtain⟨i,hi⟩:=zaQ hx;exact⟨off+i,pK i x hi⟩
 have:=bc.PW (F:=F') (w:=w) b0 (off*k) k qZ ((es.drop off).take len) (λi=>cs.getD (off*k+i) undef) (by omega) (hF b0 (by simp[hG,aR])) (λx hx=>by obtain⟨i,hi⟩:=ga x hx;exact(hE i x hi).1)
  (λx hx=>by obtain⟨i,hi⟩:=ga x hx;exact(hE i x hi).2.1) (λi hi=>by
   rw[hlen] at hi;have h2:off*k+i<cs.size:=by
    rw[dB]
    calc off*k+i<off*k+len*k:=by omega
     _=(off+len)*k:=by rw[zaV]
     _<=cap*k:=zaq _ (by omega)
   rw[cell_of_row w b0 (off*k+i) cs ty (0,0) hh];simp_all) (λi j x c hx hc=>by
   have:=((hE (off+i) x (pK i x hx)).2.2 j c hc).mono hFF (λ_ _=>rfl);rw[zaV,zbB] at this;exact this)
 rwa [hlen] at this
theorem Qh(h:aG Q T F G w a s){t:TypeId}{v:Value}{p:P}{lo:Option P}(hv:aH F w G s.rg v p):aH F w G s.rg v (oP Q s t p lo):=by
 unfold oP;split
 next n aZ len=>
  split
  next x ty es k _ ho hk=>
   split
   ·rename_i k' mV;split
    ·rename_i jV;have jV:=zaf jV;subst jV;obtain⟨e,he,dY,ca⟩:=S.bM ho;have hO:=h.rg n e he;rw[ca] at hO;cases hv with
     |sl _ _ _ _ _ hr=>
      have Fh:=hr.at he dY (by rw[ca];rfl);refine .d (vN hO mV Fh (λb hb=> ?_) (λ_ h=>h));rcases hO with⟨hg,_⟩| ⟨b',cap,cs,k2,hg,_,_,_,_,_,_,hf,_⟩
      ·rw[hg] at hb;cases hb
      grind [aR]
    exact hv
   exact hv
  exact hv
 exact hv
theorem MH(h:aG Q T F G w a s){t:TypeId}{v:Value}{p q:P}{lo hi:Option P}{vl vh:Option Value}(hv:aH F w G s.rg v p)
  (MG:(lo=none/\vl=none)\/ ∃p v,lo=some p/\vl=some v/\aH F w G s.rg v p) (WN:(hi=none/\vh=none)\/ ∃p v,hi=some p/\vh=some v/\aH F w G s.rg v p)
  (hq:mD Q s t p lo hi=some q): ∃x,(Instr.sliceAt t v vl vh none).run Q w= .ok x w/\aH F w G s.rg x q:=by
 unfold mD at hq
 replace hv:=Qh h (t:=t) (lo:=lo) hv
 generalize oP Q s t p lo=p at hq hv;unfold xd at hq;split at hq
 ·cases hq
 rename_i e het;have oQ:=dL het;split at hq
 next k hk=>
  cases hv with
  |d hv=>
   cases hv with
   |OZ a0 k' cap=>
    simp only at hq;split at hq
    ·split at hq
     ·rename_i l hh hb;have:=hY hb;have WO:l=0/\hh=0:=by grind
      obtain⟨rfl,rfl⟩:=WO;simp at hq;subst hq;refine⟨.slice (if cap=0 then a0 else a0.map (·.add (0*(k+1)))) 0 cap,?_,.d (.OZ _ _ _)⟩;have du:=lu (Q:=Q) (s:=s) (F:=F) (w:=w) (G:=G) (cap:=cap) hb (by simp) MG WN;simp only[zat] at du;simp[Instr.sliceAt,run_underlying oQ,Instr.slice,du,run_sizeOf hk]
     cases hq
    cases hq
   |PW b off k' cap es f CO hb jV cj hw hr=>
    simp only at hq;split at hq
    ·rename_i mV;have mV:k'=k+1:=by simpa using mV
     subst mV;split at hq
     ·rename_i l hh IA;have hle:=hY IA;simp at hq;subst hq;have du:=lu (Q:=Q) (s:=s) (F:=F) (w:=w) (G:=G) (cap:=cap) IA (.inr CO) MG WN;refine⟨_,by simp[Instr.sliceAt,run_underlying oQ,Instr.slice,du,run_sizeOf hk];rfl,?_⟩;by_cases h0:hh-l=0
      ·rw[h0];have e0:(es.take hh).drop l=[]:=zau (by simp;omega);rw[e0];exact .d (.OZ _ _ _)
      have dP: ¬cap=l:=by omega
      rw[zal dP];have hlen:((es.take hh).drop l).length=hh-l:=by simp;omega
      have pK: ∀i x,((es.take hh).drop l)[i]?=some x->es[l+i]?=some x:=λi x hx=>by grind
      have ga: ∀x,x∈(es.take hh).drop l->x∈es:=λx hx=>zbq (zbV hx);rw[<-hlen,addr_add];refine .d (.PW b (off+l*(k+1)) (k+1) (cap-l) _ (λi=>f (l*(k+1)+i)) (by omega) hb (λx hx=>jV x (ga x hx)) (λx hx=>cj x (ga x hx)) (λi hi=> ?_) (λi j x c hx hc=> ?_))
      ·rw[zbB];refine hw _ ?_;rw[hlen] at hi
       calc l*(k+1)+i<l*(k+1)+(hh-l)*(k+1):=by omega
        _=(l+(hh-l))*(k+1):=by rw[zaV]
        _<=es.length*(k+1):=zaq _ (by omega)
      grind
     cases hq
    cases hq
   |_=>cases hq
  |sl n aZ len v h1 hr=>
   simp only at hq;split at hq
   ·rename_i ty fz es ho;split at hq
    ·rename_i l hh IA;simp at hq;subst hq;obtain⟨en,he,dY,ca⟩:=S.bM ho;obtain⟨a0,N,cap,hG,rfl,hle⟩:=hr.at he dY (by rw[ca];rfl);have hO:=h.rg n en he;rw[ca] at hO;have hNc:N<=cap:=by
      rcases hO with⟨o7,_⟩| ⟨b',iV,cs,k2,o7,_,_,_,qck,_⟩
      ·grind
      grind
     have du:=lu (Q:=Q) (s:=s) (F:=F) (w:=w) (G:=G) (cap:=cap) IA (.inr (by omega)) (.inl ⟨rfl,rfl⟩) WN;have hbs:=hY IA;have WO:l=0:=by unfold dI at IA;grind
     subst WO;have Qg:vl=none:=by grind
     subst Qg;refine⟨.slice a0 hh cap,?_,.sl n aZ hh _ rfl ⟨en,he,by omega,λ_ _=>⟨a0,N,cap,hG,rfl,by omega⟩⟩⟩;have hz: ∀x:Addr,x.add 0=x:=λx=>by rfl
     simp only[Instr.sliceAt,Instr.slice,Sem.run_bind,run_underlying oQ,Result.andThen_ok,du,run_sizeOf hk];cases a0<;>simp[hz]
    cases hq
   ·rename_i ty fz es lo0 ho;split at hq
    ·rename_i k' mV;split at hq
     ·split at hq
      ·rename_i l hh IA;simp at hq;subst hq;obtain⟨en,he,dY,ca⟩:=S.bM ho;obtain⟨a0,N,cap,hG,rfl,hle⟩:=hr.at he dY (by rw[ca];rfl);have hO:=h.rg n en he;rw[ca] at hO;have hbs:=hY IA;have hNc:N<=cap/\(N=0\/ ∃b,a0=some ⟨b,0,none⟩):=by
        rcases hO with⟨o7,_⟩| ⟨b',iV,cs,k2,o7,_,_,_,qck,_⟩
        ·grind
        grind
       have du:=lu (Q:=Q) (s:=s) (F:=F) (w:=w) (G:=G) (cap:=cap) IA (.inr (by omega)) MG WN;refine⟨.slice (if cap=l then a0 else a0.map (·.add (l*(k+1)))) (hh-l) (cap-l),by simp[Instr.sliceAt,run_underlying oQ,Instr.slice,du,run_sizeOf hk],.l0 n aZ (k+1) l (hh-l) _ rfl ⟨en,he,by omega,λ_ _=>⟨a0,N,cap,hG,by omega,_,_,rfl,by omega,?_⟩⟩⟩;grind [addr_add]
      cases hq
     cases hq
    cases hq
   cases hq
  |l0 n aZ k0 off len v h1 hr=>
   simp only at hq;split at hq
   ·rename_i ty fz es ho;split at hq
    ·rename_i jV;have jV:=zaf jV;subst jV;split at hq
     ·rename_i l hh IA;simp at hq;subst hq;obtain⟨en,he,dY,ca⟩:=S.bM ho;obtain⟨a0,N,cap,hG,hle,a1,qZ,rfl,P9,hz⟩:=hr.at he dY (by rw[ca];rfl);have hbs:=hY IA;have du:=lu (Q:=Q) (s:=s) (F:=F) (w:=w) (G:=G) (cap:=qZ) IA (.inr P9) MG WN;refine⟨.slice (if qZ=l then a1 else a1.map (·.add (l*(k+1)))) (hh-l) (qZ-l),by simp[Instr.sliceAt,run_underlying oQ,Instr.slice,du,run_sizeOf hk],.l0 n aZ (k+1) (off+l) (hh-l) _ rfl ⟨en,he,by omega,λ_ _=>⟨a0,N,cap,hG,by omega,_,_,rfl,by omega,?_⟩⟩⟩;by_cases h0:hh-l=0
      ·grind
      rcases hz with hz | ⟨b,h2,h3⟩
      ·omega
      refine .inr ⟨b,h2,?_⟩;rw[zal (by omega),h3];simp[addr_add,zaV]
     cases hq
    cases hq
   cases hq
  |_=>cases hq
 cases hq
theorem nZ{t e ty:TypeId}{at':Array TypeId}(h0:at'[0]?=some t)(oQ:Q.underlying t=some (.slice e))(b:Option Addr)(n c:Nat)(w:World):(Builtin.len_ at' ty #[.slice b n c]).run Q w= .ok (goInt n) w:=by simp[Builtin.len_,h0,run_underlying oQ]
theorem WQ{t e:TypeId}{ty:TypeId}{at':Array TypeId}(h0:at'[0]?=some t)(het:cQ Q t=some e){v:Value}{p q:P}(hv:aH F w G s.rg v p)(hq:E0 s p=some q):
  ∃x,(Builtin.len_ at' ty #[v]).run Q w= .ok x w/\aH F w G s.rg x q:=by
 have oQ:=dL het;unfold E0 at hq;cases hv with
 |sl n aZ len v h1 hr=>
  simp only at hq;split at hq
  next hl=>simp at hq;subst hq;obtain⟨en,he,dY,hl⟩:=S.dF hl;obtain⟨a0,N,cap,hG,rfl,hle⟩:=hr.at he dY hl;exact⟨_,nZ h0 oQ a0 len cap w,.d (.int _ _)⟩
  cases hq
 |l0 n aZ k off len v h1 hr=>
  simp only at hq;split at hq
  next hl=>simp at hq;subst hq;obtain⟨en,he,dY,hl⟩:=S.dF hl;obtain⟨a0,N,cap,hG,hle,a1,qZ,rfl,_,_⟩:=hr.at he dY hl;exact⟨_,nZ h0 oQ a1 len qZ w,.d (.int _ _)⟩
  cases hq
 |d hv=>
  cases hv with
  |OZ a0 k' cap=>simp at hq;subst hq;exact⟨_,nZ h0 oQ a0 0 cap w,.d (.int _ _)⟩
  |PW b off k' cap es f CO hb jV cj hw hr=>simp at hq;subst hq;exact⟨_,nZ h0 oQ _ _ cap w,.d (.int _ _)⟩
  |_=>cases hq
 |_=>cases hq
theorem WR(h:aG Q T F G w a s){t:TypeId}{y:TypeId×TypeId}{ty:TypeId}{at':Array TypeId}(h0:at'[0]?=some t)(zZ:kq Q t=some y){v:Value}{p q:P}(hv:aH F w G s.rg v p)(hq:E1 s p=some q):
  ∃x,(Builtin.len_ at' ty #[v]).run Q w= .ok x w/\aH F w G s.rg x q:=by
 have oQ:=iW zZ;unfold E1 at hq;split at hq
 next n aZ=>
  split at hq
  next kt2 get c last ho=>simp only[zam] at hq;subst hq;obtain⟨e0,_,_,_,Bv,b,es,clock,hG,hb,hM⟩:=Fc h hv ho;rw[hG] at Bv;subst Bv;obtain⟨ks,_,hc,_⟩:=hM;refine⟨goInt es.size,by simp[Builtin.len_,h0,run_underlying oQ,MapKept.run_getObj_map hb],?_⟩;rw[hc];exact .d (.int _ _)
  cases hq
 cases hq
theorem Bw{x y:Value}{p q:P}{r:Bool}(hx:aH F w G s.rg x p)(hy:aH F w G s.rg y q)(hr:uL s p q=some r):
  r=false/\((∃b,x= .pointer (some b)/\y= .pointer none)\/ ∃b,x= .pointer none/\y= .pointer (some b)):=by
 unfold uL at hr;split at hr
 ·cases hx with
  |ref n aZ off v h h1=>cases hy with |d hy=>cases hy;(split at hr)<;>simp at hr;rename_i hl;obtain⟨e,he,dY,hl⟩:=S.dF hl;obtain⟨b,_,hv⟩:=h.at he dY hl;grind
 ·cases hx with
  |dG n aZ i k off v h1 h=>cases hy with |d hy=>cases hy;(split at hr)<;>simp at hr;rename_i hl;obtain⟨e,he,dY,hl⟩:=S.dF hl;obtain⟨b,_,_,_,hv⟩:=h.at he dY hl;grind
 ·cases hy with
  |ref n aZ off v h h1=>cases hx with |d hx=>cases hx;(split at hr)<;>simp at hr;rename_i hl;obtain⟨e,he,dY,hl⟩:=S.dF hl;obtain⟨b,_,hv⟩:=h.at he dY hl;grind
 ·cases hy with
  |dG n aZ i k off v h1 h=>cases hx with |d hx=>cases hx;(split at hr)<;>simp at hr;rename_i hl;obtain⟨e,he,dY,hl⟩:=S.dF hl;obtain⟨b,_,_,_,hv⟩:=h.at he dY hl;grind
 ·cases hx with |fe=>cases hy with |d hy=>cases hy;grind
 ·cases hy with |fe=>cases hx with |d hx=>cases hx;grind
 cases hr
theorem wK(d:Nat){t e:TypeId}(ht:Q.underlying t=some (.pointer e)){x y:Value}(h:(∃b,x= .pointer (some b)/\y= .pointer none)\/ ∃b,x= .pointer none/\y= .pointer (some b))(w:World):
  (Op.equalIn (d+1) t x y).run Q w= .ok false w:=by
 rcases h with⟨b,rfl,rfl⟩| ⟨b,rfl,rfl⟩<;>simp[Op.equalIn,run_underlying ht]
theorem vO{t e:TypeId}(ht:Q.underlying t=some (.pointer e)){x y:Value}(h:(∃b,x= .pointer (some b)/\y= .pointer none)\/ ∃b,x= .pointer none/\y= .pointer (some b))(op:BinOp)(ox oy:Operand)(w:World)
  (tE:op= .eql\/op= .neq):(do eqGuard op t ox oy x y;Go.binOp op t x y:Sem Value).run Q w= .ok (.bool (op matches .neq)) w:=by
 have he:=wK (Q:=Q) 9999 ht h w;rcases h with⟨b,rfl,rfl⟩| ⟨b,rfl,rfl⟩<;>rcases tE with rfl |rfl<;>simp only[eqGuard,Go.binOp,Op.equal,Op.maxDepth]<;>simp[he]
theorem xf(h:aG Q T F G w a s){g:Option (Nat×Bool)}(hg:mf a g): ∀(xs:List Operand) (vs:List Value),dj (xs.map (s.eg g))=some vs->xs.map a.eval=vs
 | [],vs,hv=>by grind [dj]
 |x::xs,vs,hv=>by
  simp only[zbm,dj] at hv;cases h1:(s.eg g x).cG with
  |none=>grind
  |some v=>
   cases h2:dj (xs.map (s.eg g)) with
   |none=>grind
   |some us=>simp[h1,h2] at hv;subst hv;rw[zbm,xf h hg xs us h2,(a7 h hg x).cG h1]
theorem KQ{v:Value}{p:P}{ps:List P}(hv:aH F w G s.rg v p)(h:p.Ii=some ps): ∃vs:List Value,v= .agg ⟨vs⟩/\vs.length=ps.length/\(∀u∈vs,u.oneCell'=true)/\ ∀(i:Nat) (c:P),ps[i]?=some c->aH F w G s.rg (vs.getD i undef) c:=by
 cases hv with
 |agg vs ps' hl iC hc=>grind [P.Ii]
 |d hd=>
  cases hd with
  |agg vs cs hl cj hc=>
   simp[P.Ii] at h;subst h;refine⟨vs,rfl,by grind,λu hu=> ?_,λi c hi=> ?_⟩
   ·obtain⟨i,hi⟩:=zaQ hu;have bG:i<cs.length:=by have:=(zad.1 hi).1;omega
    exact(hc i u cs[i] hi (zae bG)).nY (cj _ (zas bG))
   rw[zaK] at hi;cases hx:cs[i]? with
   |none=>rw[hx] at hi;cases hi
   |some x=>rw[hx] at hi;cases hi;refine .d ?_;grind
  |_=>simp[P.Ii] at h
 |_=>simp[P.Ii] at h
theorem KR{t:TypeId}{vs:List Value}{ps:List P}{off:Nat}{q:P}(hl:vs.length=ps.length)(iC: ∀u∈vs,u.oneCell'=true)(hc: ∀(i:Nat) (c:P),ps[i]?=some c->aH F w G s.rg (vs.getD i undef) c)(hq:Bh Q t ps off=some q):
  ∃r,(Go.part t ⟨vs⟩ off).run Q w= .ok r w/\aH F w G s.rg r q:=by
 obtain⟨k,hk,hb,hr⟩:=E6 (R:=s.rg) hq (λi=>vs.getD i undef) (λi hi=>by grind) hc;grind [P0]
theorem MI{t:TypeId}{f:Nat}{v:Value}{p q:P}(hv:aH F w G s.rg v p)(hq:Ij Q t f p=some q): ∃r,(Instr.field t v f).run Q w= .ok r w/\aH F w G s.rg r q:=by
 unfold Ij at hq;split at hq
 next fs ps ht rD=>
  obtain⟨vs,rfl,hl,iC,hc⟩:=KQ hv rD;split at hq
  next fl wI=>obtain⟨r,h1,h2⟩:=KR hl iC hc hq;refine⟨r,?_,h2⟩;simp[Instr.field,run_underlying ht,wI,asAgg,h1]
  cases hq
 cases hq
theorem MJ{t e:TypeId}{n:Nat}{v u:Value}{p i q:P}(ht:Q.underlying t=some (.array n e))(hv:aH F w G s.rg v p)(hu:aH F w G s.rg u i)(hq:Ik Q n e p i=some q):
  ∃r,(Instr.index t v u).run Q w= .ok r w/\aH F w G s.rg r q:=by
 unfold Ik at hq;split at hq
 next ps kk j k rD hk=>
  obtain⟨vs,rfl,hl,iC,hc⟩:=KQ hv rD;cases hu with
  |d hu=>
   cases hu;split at hq
   next hj=>obtain⟨r,h1,h2⟩:=KR hl iC hc hq;refine⟨r,?_,h2⟩;simp[Instr.index,asIntOf,run_underlying ht,hj,run_sizeOf hk,h1]
   cases hq
 cases hq
theorem qfX(h:aG Q T F G w a s){g:Option (Nat×Bool)}(hg:mf a g){o:Oper}{q:P}(hq:pv Q s o g=some q):
  ∃v,(execOp a.eval o).run Q w= .ok (.value v) w/\aH F w G s.rg v q:=by
 have up: ∀{m:Sem Value} {q:P},eo Q m=some q-> ∃v,m.run Q w= .ok v w/\aH F w G s.rg v q:=λhh=>MA hh F w G s.rg;unfold pv at hq;unfold execOp;split at hq
 next x hx=>simp at hq;subst hq;exact⟨a.eval x,by simp[hx],a7 h hg x⟩
 next x hx=>simp at hq;subst hq;exact⟨a.eval x,by simp[hx],a7 h hg x⟩
 next c x y ho=>
  split at hq
  next r hc=>
   simp at hq;subst hq;have hcv:a.eval c= .bool r:=(a7 h hg c).cG (by rw[hc];rfl);cases r with
   |true=>exact⟨a.eval x,by simp[ho,hcv,asBool],a7 h hg x⟩
   |false=>exact⟨a.eval y,by simp[ho,hcv,asBool],a7 h hg y⟩
  cases hq
 next x ho=>
  obtain⟨rfl,hv⟩:=Aw (a7 h hg x) hq;have hr:=a7 h hg x;rcases hv with⟨b,hv⟩| ⟨f,c1,c2,hv⟩
  ·simp_all
  simp_all
 next op t x y yt ho=>
  unfold o4 at hq;split at hq
  next u v hu hv=>obtain⟨r,h1,h2⟩:=up hq;refine⟨r,?_,h2⟩;simp only[ho];rw[(a7 h hg x).cG hu,(a7 h hg y).cG hv,Sem.run_bind,h1];rfl
  split at hq
  next hh Qi=>simp at hq;subst hq;obtain⟨rfl,hcs⟩:=Bw (a7 h hg x) (a7 h hg y) Qi;refine⟨_,?_,.d (.bool _)⟩;simp only[ho];rw[Sem.run_bind,vO hh hcs .eql x y w (.inl rfl)];rfl
  next hh Qi=>simp at hq;subst hq;obtain⟨rfl,hcs⟩:=Bw (a7 h hg x) (a7 h hg y) Qi;refine⟨_,?_,.d (.bool _)⟩;simp only[ho];rw[Sem.run_bind,vO hh hcs .neq x y w (.inr rfl)];rfl
  cases hq
 next op t x ho=>
  split at hq
  next u hu=>obtain⟨r,h1,h2⟩:=up hq;refine⟨r,?_,h2⟩;simp only[ho];rw[(a7 h hg x).cG hu,Sem.run_bind,h1];rfl
  cases hq
 next t1 t2 x ho=>
  split at hq
  next u hu=>obtain⟨r,h1,h2⟩:=up hq;refine⟨r,?_,h2⟩;simp only[ho];rw[(a7 h hg x).cG hu,Sem.run_bind,h1];rfl
  cases hq
 next t x ho=>obtain⟨r,h1,h2⟩:=E8 h (a7 h hg x) hq;simp_all
 next t x f ho=>obtain⟨r,h1,h2⟩:=Ax (a7 h hg x) hq;simp_all
 next t x i ho=>obtain⟨r,h1,h2⟩:=Ay h (a7 h hg x) (a7 h hg i) hq;simp_all
 next t x i ho=>
  split at hq
  next n e ht=>obtain⟨r,h1,h2⟩:=MJ ht (a7 h hg x) (a7 h hg i) hq;simp_all
  split at hq
  next u v hu hv=>obtain⟨r,h1,h2⟩:=up hq;refine⟨r,?_,h2⟩;simp only[ho];rw[(a7 h hg x).cG hu,(a7 h hg i).cG hv,Sem.run_bind,h1];rfl
  cases hq
 next t x f ho=>obtain⟨r,h1,h2⟩:=MI (a7 h hg x) hq;simp_all
 next x i ho=>
  split at hq
  next ps rD=>
   have hr:=a7 h hg x;rw[rD] at hr;generalize hax:a.eval x=vx at hr;cases hr with
   |cT vs _ hl hc=>
    have hi:i<ps.length:=(zad.1 hq).1;have hiv:i<vs.length:=by omega
    refine⟨vs[i],?_,hc i _ _ (zae hiv) hq⟩;simp[ho,hax,Instr.extract,hiv]
  cases hq
 next t x i ok ho=>
  split at hq
  next z hz=>obtain⟨y,ht,hz⟩:=zbM.1 hz;obtain⟨r,h1,h2⟩:=Iz h ht hz (a7 h hg x) (a7 h hg i) hq;simp_all
  cases hq
 next x ho=>obtain⟨r,h1,h2⟩:=MD h (a7 h hg x) hq;simp_all
 next t x lo hi ho=>
  have MG:(lo.map (s.eg g)=none/\lo.map a.eval=none)\/ ∃p v,lo.map (s.eg g)=some p/\lo.map a.eval=some v/\aH F w G s.rg v p:=by
   cases lo with
   |none=>simp
   |some l=>grind [a7]
  have WN:(hi.map (s.eg g)=none/\hi.map a.eval=none)\/ ∃p v,hi.map (s.eg g)=some p/\hi.map a.eval=some v/\aH F w G s.rg v p:=by
   cases hi with
   |none=>simp
   |some l=>grind [a7]
  split at hq
  next b hb=>
   split at hq
   ·rename_i l hh hl hhh;obtain⟨r,h1,h2⟩:=up hq;have el:lo.map a.eval=l:=by
     cases lo with
     |none=>grind
     |some x'=>simp only[zax] at hl;obtain⟨v,hv,rfl⟩:=hl;simp[(a7 h hg x').cG hv]
    have eh:hi.map a.eval=hh:=by
     cases hi with
     |none=>grind
     |some x'=>simp only[zax] at hhh;obtain⟨v,hv,rfl⟩:=hhh;simp[(a7 h hg x').cG hv]
    refine⟨r,?_,h2⟩;simp only[ho,zcE];rw[(a7 h hg x).cG hb,el,eh,Sem.run_bind,h1];rfl
   cases hq
  obtain⟨r,h1,h2⟩:=MH h (a7 h hg x) MG WN hq;simp_all
 next t parts ho=>
  split at hq
  next vs MB=>
   obtain⟨r,h1,h2⟩:=up hq;have e1:parts.toList.map (λx=>a.eval x.2)=vs:=by have:=xf h hg (parts.toList.map (·.2)) vs (by grind [Function.comp_def]);grind [Function.comp_def]
   have e:(parts.map λ(i,x)=>(i,a.eval x))=((parts.toList.map (·.1)).zip vs).toArray:=by grind
   simp_all
  obtain⟨r,h1,h2⟩:=Fg (vals:=parts.map λ(i,x)=>(i,a.eval x)) hq (by simp) (λi x y hx hy=>by simp only[zc1,zaK,zax] at hx hy;obtain⟨x1,CV,rfl⟩:=hx;obtain⟨y1,Az,rfl⟩:=hy;rw[CV] at Az;cases Az;exact⟨rfl,a7 h hg x1.2⟩);simp_all
 next f first cP ho=>
  split at hq
  next qiJ=>
   have e1:first= #[]:=by grind
   subst e1;simp only[zam] at hq;subst hq;refine⟨.func (.func f) #[] (cP.map a.eval),?_,?_⟩
   ·simp[ho,Instr.makeFunc]
   have:=aH.fn (F:=F) (w:=w) (G:=G) (R:=s.rg) f (cP.toList.map a.eval) (cP.toList.map (s.eg g)) (by simp) (λi v c hv hc=>by grind [a7]);have e:cP.map a.eval=⟨cP.toList.map a.eval⟩:=by grind
   rw[e];exact this
  cases hq
 next c ho=>
  split at hq
  next lv=>
   split at hq
   ·rename_i x cW;have ea:c.args= #[x]:=by grind
    split at hq
    next u hu=>obtain⟨r,h1,h2⟩:=up hq;refine⟨r,?_,h2⟩;have hx:=(a7 h hg x).cG hu;simp[ho,resolve,lv,ea,invoke,builtin,hx,h1]
    split at hq
    next e het=>obtain⟨t0,ht0,het⟩:=zbM.1 het;obtain⟨r,h1,h2⟩:=WQ (ty:=o.type) ht0 het (a7 h hg x) hq;refine⟨r,?_,h2⟩;simp[ho,resolve,lv,ea,invoke,builtin,h1]
    split at hq
    next y zZ=>obtain⟨t0,ht0,zZ⟩:=zbM.1 zZ;obtain⟨r,h1,h2⟩:=WR (ty:=o.type) h ht0 zZ (a7 h hg x) hq;refine⟨r,?_,h2⟩;simp[ho,resolve,lv,ea,invoke,builtin,h1]
    cases hq
   cases hq
  next lv=>
   split at hq
   ·rename_i vs MB;obtain⟨r,h1,h2⟩:=up hq;refine⟨r,?_,h2⟩;have e:=xf h hg _ _ MB;have e2:c.args.map a.eval=vs.toArray:=by grind
    simp[ho,resolve,lv,invoke,builtin,e2,h1]
   cases hq
  next lv=>
   split at hq
   ·rename_i vs MB;obtain⟨r,h1,h2⟩:=up hq;refine⟨r,?_,h2⟩;have e:=xf h hg _ _ MB;have e2:c.args.map a.eval=vs.toArray:=by grind
    simp[ho,resolve,lv,invoke,builtin,e2,h1]
   cases hq
  cases hq
 cases hq
end
end Pi
