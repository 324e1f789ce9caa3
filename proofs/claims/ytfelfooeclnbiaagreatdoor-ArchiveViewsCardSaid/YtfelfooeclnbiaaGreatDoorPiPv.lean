/- The text PiPv. -/
import Derived.Test.YtfelfooeclnbiaaGreatDoorPiStr
namespace Pi
open Go
section
variable{Q:Program}{T:Tg}{F:Nat->Prop}{G:Nat->Value}{w:World}{a:Act}{s:S}
theorem gV{len l h:Nat}{lo hi:Option P}(hb:dm len lo hi=some (l,h)):l<=h/\h<=len:=by unfold dm at hb;grind
theorem kN{len cap l h:Nat}{lo hi:Option P}{vl vh:Option Value}(hb:dm len lo hi=some (l,h))(hle:hi=none\/len<=cap)
  (L9:(lo=none/\vl=none)\/ ∃p v,lo=some p/\vl=some v/\aF F w G s.rg v p) (V5:(hi=none/\vh=none)\/ ∃p v,hi=some p/\vh=some v/\aF F w G s.rg v p):
  (Instr.sliceBounds true len cap vl vh none).run Q w= .ok (l,h,cap) w:=by
 unfold dm at hb;rcases V5 with⟨rfl,rfl⟩| ⟨p,v,rfl,rfl,hp⟩
 ·skip
  rcases L9 with⟨rfl,rfl⟩| ⟨p,v,rfl,rfl,hp⟩
  ·skip
   obtain⟨rfl,rfl⟩:=hb;rfl
  cases p<;>try (simp at hb;done)
  rename_i x;cases x<;>try (simp at hb;done)
  rename_i k j;cases hp with
  |d hp=>
   cases hp;simp only at hb;split at hb
   next hj=>obtain⟨rfl,rfl⟩:=hb;simp[Instr.sliceBounds,Instr.sliceBound,asIntOf,hj]
   cases hb
 cases p<;>try (simp at hb;done)
 rename_i x;cases x<;>try (simp at hb;done)
 rename_i k j;cases hp with
 |d hp=>
  cases hp;have qbL:len<=cap:=by grind
  simp only at hb;by_cases hj:0<=j/\j<=(len:Int)
  ·have hj2:0<=j/\j<=(cap:Int):=⟨hj.1,by omega⟩
   rw[zaq hj] at hb;rcases L9 with⟨rfl,rfl⟩| ⟨p,v,rfl,rfl,hp⟩
   ·skip
    obtain⟨rfl,rfl⟩:=hb;simp[Instr.sliceBounds,Instr.sliceBound,asIntOf,hj2]
   cases p<;>try (simp at hb;done)
   rename_i x;cases x<;>try (simp at hb;done)
   rename_i k2 j2;cases hp with
   |d hp=>
    cases hp;simp only at hb;split at hb
    next hj3=>simp[Instr.sliceBounds,Instr.sliceBound,asIntOf,hj2,hj3];grind
    cases hb
  grind
theorem vf{F':Nat->Prop}{n:Nat}{ty:TypeId}{fz:Bool}{es:List D}{k len:Nat}(hO:oJ Q F w G s.rg n (.arr ty fz es))(hk:sz Q ty=some k){v:Value}
  (hv: ∃a N cap,G n= .slice a N cap/\v= .slice a len cap/\len<=N) (hF: ∀b,aI (G n)=some b->F' b) (hFF: ∀b,F b->F' b):aU F' w v (.sl k (es.take len)):=by
 obtain⟨a0,N,cap,hG,rfl,hle⟩:=hv;rcases hO with⟨hg,rfl⟩| ⟨b,ig,cs,k',hg,hh,mY,kq,Hk,tL,cM,_,hE⟩
 ·rw[hG] at hg;simp at hg;have:len=0:=by omega
  subst this;exact .Oe _ _ _
 rw[hk] at mY;cases mY;rw[hG] at hg;obtain⟨rfl,rfl,rfl⟩:=hg;have hlen:(es.take len).length=len:=by simp;omega
 have pk: ∀i x,(es.take len)[i]?=some x->es[i]?=some x:=λi x hx=>by
  rw[zbr] at hx;split at hx
  ·exact hx
  cases hx
 have b9: ∀x,x∈es.take len-> ∃i,es[i]?=some x:=λx hx=>by obtain⟨i,hi⟩:=zaP hx;exact⟨i,pk i x hi⟩
 have:=aU.Pg (F:=F') (w:=w) b 0 k cap (es.take len) (λi=>cs.getD i undef) (by omega) (hF b (by simp[hG,aI])) (λx hx=>by obtain⟨i,hi⟩:=b9 x hx;exact(hE i x hi).1)
  (λx hx=>by obtain⟨i,hi⟩:=b9 x hx;exact(hE i x hi).2.1) (λi hi=>by
   have:i<cs.size:=by rw[cM];exact zaW hi (zao _ (by omega))
   rw[zaI,cell_of_row w b i cs ty (0,0) hh];simp_all) (λi j x c hx hc=>((hE i x (pk i x hx)).2.2 j c hc).mono hFF (λ_ _=>rfl))
 rwa [hlen] at this
theorem Cc{F':Nat->Prop}{n:Nat}{ty:TypeId}{fz:Bool}{es:List D}{k off len:Nat}(hO:oJ Q F w G s.rg n (.arr ty fz es))(hk:sz Q ty=some k){v:Value}
  (hv: ∃a N cap,G n= .slice a N cap/\off+len<=N/\ ∃a' ig,v= .slice a' len ig/\len<=ig/\(len=0\/ ∃b,a=some ⟨b,0,none⟩/\a'=some ⟨b,off*k,none⟩)) (hF: ∀b,aI (G n)=some b->F' b) (hFF: ∀b,F b->F' b):aU F' w v (.sl k ((es.drop off).take len)):=by
 obtain⟨a0,N,cap,hG,hle,a1,qo,rfl,Pm,hz⟩:=hv;by_cases h0:len=0
 ·subst h0;exact .Oe _ _ _
 obtain⟨b0,ha0,Pn⟩: ∃b,a0=some ⟨b,0,none⟩/\a1=some ⟨b,off*k,none⟩:=by grind
 subst ha0 Pn;rcases hO with⟨hg,rfl⟩| ⟨b,ig,cs,k',hg,hh,mY,kq,Hk,tL,cM,_,hE⟩
 ·rw[hG] at hg;simp at hg
 rw[hk] at mY;cases mY;rw[hG] at hg;obtain⟨rfl,rfl,rfl⟩:=hg;have hlen:((es.drop off).take len).length=len:=by simp;omega
 have pk: ∀i x,((es.drop off).take len)[i]?=some x->es[off+i]?=some x:=λi x hx=>by grind
 have b9: ∀x,x∈(es.drop off).take len-> ∃i,es[i]?=some x:=λx hx=>by obtain⟨i,hi⟩:=zaP hx;exact⟨off+i,pk i x hi⟩
 have:=aU.Pg (F:=F') (w:=w) b0 (off*k) k qo ((es.drop off).take len) (λi=>cs.getD (off*k+i) undef) (by omega) (hF b0 (by simp[hG,aI])) (λx hx=>by obtain⟨i,hi⟩:=b9 x hx;exact(hE i x hi).1)
  (λx hx=>by obtain⟨i,hi⟩:=b9 x hx;exact(hE i x hi).2.1) (λi hi=>by
   rw[hlen] at hi;have h2:off*k+i<cs.size:=by
    rw[cM]
    calc off*k+i<off*k+len*k:=by omega
     _=(off+len)*k:=by rw[zaR]
     _<=cap*k:=zao _ (by omega)
   rw[cell_of_row w b0 (off*k+i) cs ty (0,0) hh];simp_all) (λi j x c hx hc=>by
   have:=((hE (off+i) x (pk i x hx)).2.2 j c hc).mono hFF (λ_ _=>rfl);rw[zaR,zbH] at this;exact this)
 rwa [hlen] at this
theorem Ps(h:aB Q T F G w a s){t:TypeId}{v:Value}{p:P}{lo:Option P}(hv:aF F w G s.rg v p):aF F w G s.rg v (og Q s t p lo):=by
 unfold og;split
 next n aR len=>
  split
  next x ty es k _ ho hk=>
   split
   ·rename_i k' mY;split
    ·rename_i jG;have jG:=zah jG;subst jG;obtain⟨e,he,dw,bH⟩:=S.bw ho;have hO:=h.rg n e he;rw[bH] at hO;cases hv with
     |sl _ _ _ _ _ hr=>
      have AK:=hr.at he dw (by rw[bH];rfl);refine .d (vf hO mY AK (λb hb=> ?_) (λ_ h=>h));rcases hO with⟨hg,_⟩| ⟨b',cap,cs,k2,hg,_,_,_,_,_,_,hf,_⟩
      ·rw[hg] at hb;cases hb
      grind [aI]
    exact hv
   exact hv
  exact hv
 exact hv
theorem Ma(h:aB Q T F G w a s){t:TypeId}{v:Value}{p q:P}{lo hi:Option P}{vl vh:Option Value}(hv:aF F w G s.rg v p)
  (L9:(lo=none/\vl=none)\/ ∃p v,lo=some p/\vl=some v/\aF F w G s.rg v p) (V5:(hi=none/\vh=none)\/ ∃p v,hi=some p/\vh=some v/\aF F w G s.rg v p)
  (hq:lU Q s t p lo hi=some q): ∃x,(Instr.sliceAt t v vl vh none).run Q w= .ok x w/\aF F w G s.rg x q:=by
 unfold lU at hq
 replace hv:=Ps h (t:=t) (lo:=lo) hv
 generalize og Q s t p lo=p at hq hv;unfold wz at hq;split at hq
 ·cases hq
 rename_i e het;have oh:=dp het;split at hq
 next k hk=>
  cases hv with
  |d hv=>
   cases hv with
   |Oe a0 k' cap=>
    simp only at hq;split at hq
    ·split at hq
     ·rename_i l hh hb;have:=gV hb;have Kj:l=0/\hh=0:=by grind
      obtain⟨rfl,rfl⟩:=Kj;simp at hq;subst hq;refine⟨.slice (if cap=0 then a0 else a0.map (·.add (0*(k+1)))) 0 cap,?_,.d (.Oe _ _ _)⟩;have cV:=kN (Q:=Q) (s:=s) (F:=F) (w:=w) (G:=G) (cap:=cap) hb (by simp) L9 V5;simp only[zay] at cV;simp[Instr.sliceAt,run_underlying oh,Instr.slice,cV,run_sizeOf hk]
     cases hq
    cases hq
   |Pg b off k' cap es f zC hb jG bU hw hr=>
    simp only at hq;split at hq
    ·rename_i mY;have mY:k'=k+1:=by simpa using mY
     subst mY;split at hq
     ·rename_i l hh EB;have hle:=gV EB;simp at hq;subst hq;have cV:=kN (Q:=Q) (s:=s) (F:=F) (w:=w) (G:=G) (cap:=cap) EB (.inr zC) L9 V5;refine⟨_,by simp[Instr.sliceAt,run_underlying oh,Instr.slice,cV,run_sizeOf hk];rfl,?_⟩;by_cases h0:hh-l=0
      ·rw[h0];have e0:(es.take hh).drop l=[]:=zax (by simp;omega);rw[e0];exact .d (.Oe _ _ _)
      have cU: ¬cap=l:=by omega
      rw[zap cU];have hlen:((es.take hh).drop l).length=hh-l:=by simp;omega
      have pk: ∀i x,((es.take hh).drop l)[i]?=some x->es[l+i]?=some x:=λi x hx=>by grind
      have b9: ∀x,x∈(es.take hh).drop l->x∈es:=λx hx=>za3 (zb3 hx);rw[<-hlen,addr_add];refine .d (.Pg b (off+l*(k+1)) (k+1) (cap-l) _ (λi=>f (l*(k+1)+i)) (by omega) hb (λx hx=>jG x (b9 x hx)) (λx hx=>bU x (b9 x hx)) (λi hi=> ?_) (λi j x c hx hc=> ?_))
      ·rw[zbH];refine hw _ ?_;rw[hlen] at hi
       calc l*(k+1)+i<l*(k+1)+(hh-l)*(k+1):=by omega
        _=(l+(hh-l))*(k+1):=by rw[zaR]
        _<=es.length*(k+1):=zao _ (by omega)
      grind
     cases hq
    cases hq
   |_=>cases hq
  |sl n aR len v h1 hr=>
   simp only at hq;split at hq
   ·rename_i ty fz es ho;split at hq
    ·rename_i l hh EB;simp at hq;subst hq;obtain⟨en,he,dw,bH⟩:=S.bw ho;obtain⟨a0,N,cap,hG,rfl,hle⟩:=hr.at he dw (by rw[bH];rfl);have hO:=h.rg n en he;rw[bH] at hO;have hNc:N<=cap:=by
      rcases hO with⟨jR,_⟩| ⟨b',ig,cs,k2,jR,_,_,_,qbL,_⟩
      ·grind
      grind
     have cV:=kN (Q:=Q) (s:=s) (F:=F) (w:=w) (G:=G) (cap:=cap) EB (.inr (by omega)) (.inl ⟨rfl,rfl⟩) V5;have hbs:=gV EB;have Kj:l=0:=by unfold dm at EB;grind
     subst Kj;have hvl:vl=none:=by grind
     subst hvl;refine⟨.slice a0 hh cap,?_,.sl n aR hh _ rfl ⟨en,he,by omega,λ_ _=>⟨a0,N,cap,hG,rfl,by omega⟩⟩⟩;have hz: ∀x:Addr,x.add 0=x:=λx=>by rfl
     simp only[Instr.sliceAt,Instr.slice,Sem.run_bind,run_underlying oh,Result.andThen_ok,cV,run_sizeOf hk];cases a0<;>simp[hz]
    cases hq
   ·rename_i ty fz es lo0 ho;split at hq
    ·rename_i k' mY;split at hq
     ·split at hq
      ·rename_i l hh EB;simp at hq;subst hq;obtain⟨en,he,dw,bH⟩:=S.bw ho;obtain⟨a0,N,cap,hG,rfl,hle⟩:=hr.at he dw (by rw[bH];rfl);have hO:=h.rg n en he;rw[bH] at hO;have hbs:=gV EB;have hNc:N<=cap/\(N=0\/ ∃b,a0=some ⟨b,0,none⟩):=by
        rcases hO with⟨jR,_⟩| ⟨b',ig,cs,k2,jR,_,_,_,qbL,_⟩
        ·grind
        grind
       have cV:=kN (Q:=Q) (s:=s) (F:=F) (w:=w) (G:=G) (cap:=cap) EB (.inr (by omega)) L9 V5;refine⟨.slice (if cap=l then a0 else a0.map (·.add (l*(k+1)))) (hh-l) (cap-l),by simp[Instr.sliceAt,run_underlying oh,Instr.slice,cV,run_sizeOf hk],.lu n aR (k+1) l (hh-l) _ rfl ⟨en,he,by omega,λ_ _=>⟨a0,N,cap,hG,by omega,_,_,rfl,by omega,?_⟩⟩⟩;grind [addr_add]
      cases hq
     cases hq
    cases hq
   cases hq
  |lu n aR k0 off len v h1 hr=>
   simp only at hq;split at hq
   ·rename_i ty fz es ho;split at hq
    ·rename_i jG;have jG:=zah jG;subst jG;split at hq
     ·rename_i l hh EB;simp at hq;subst hq;obtain⟨en,he,dw,bH⟩:=S.bw ho;obtain⟨a0,N,cap,hG,hle,a1,qo,rfl,Pm,hz⟩:=hr.at he dw (by rw[bH];rfl);have hbs:=gV EB;have cV:=kN (Q:=Q) (s:=s) (F:=F) (w:=w) (G:=G) (cap:=qo) EB (.inr Pm) L9 V5;refine⟨.slice (if qo=l then a1 else a1.map (·.add (l*(k+1)))) (hh-l) (qo-l),by simp[Instr.sliceAt,run_underlying oh,Instr.slice,cV,run_sizeOf hk],.lu n aR (k+1) (off+l) (hh-l) _ rfl ⟨en,he,by omega,λ_ _=>⟨a0,N,cap,hG,by omega,_,_,rfl,by omega,?_⟩⟩⟩;by_cases h0:hh-l=0
      ·grind
      rcases hz with hz | ⟨b,h2,h3⟩
      ·omega
      refine .inr ⟨b,h2,?_⟩;rw[zap (by omega),h3];simp[addr_add,zaR]
     cases hq
    cases hq
   cases hq
  |_=>cases hq
 cases hq
theorem ny{t e ty:TypeId}{at':Array TypeId}(h0:at'[0]?=some t)(oh:Q.underlying t=some (.slice e))(b:Option Addr)(n c:Nat)(w:World):(Builtin.len_ at' ty #[.slice b n c]).run Q w= .ok (goInt n) w:=by simp[Builtin.len_,h0,run_underlying oh]
theorem V6{t e:TypeId}{ty:TypeId}{at':Array TypeId}(h0:at'[0]?=some t)(het:cG Q t=some e){v:Value}{p q:P}(hv:aF F w G s.rg v p)(hq:Eh s p=some q):
  ∃x,(Builtin.len_ at' ty #[v]).run Q w= .ok x w/\aF F w G s.rg x q:=by
 have oh:=dp het;unfold Eh at hq;cases hv with
 |sl n aR len v h1 hr=>
  simp only at hq;split at hq
  next hl=>simp at hq;subst hq;obtain⟨en,he,dw,hl⟩:=S.df hl;obtain⟨a0,N,cap,hG,rfl,hle⟩:=hr.at he dw hl;exact⟨_,ny h0 oh a0 len cap w,.d (.int _ _)⟩
  cases hq
 |lu n aR k off len v h1 hr=>
  simp only at hq;split at hq
  next hl=>simp at hq;subst hq;obtain⟨en,he,dw,hl⟩:=S.df hl;obtain⟨a0,N,cap,hG,hle,a1,qo,rfl,_,_⟩:=hr.at he dw hl;exact⟨_,ny h0 oh a1 len qo w,.d (.int _ _)⟩
  cases hq
 |d hv=>
  cases hv with
  |Oe a0 k' cap=>simp at hq;subst hq;exact⟨_,ny h0 oh a0 0 cap w,.d (.int _ _)⟩
  |Pg b off k' cap es f zC hb jG bU hw hr=>simp at hq;subst hq;exact⟨_,ny h0 oh _ _ cap w,.d (.int _ _)⟩
  |_=>cases hq
 |_=>cases hq
theorem V7(h:aB Q T F G w a s){t:TypeId}{y:TypeId×TypeId}{ty:TypeId}{at':Array TypeId}(h0:at'[0]?=some t)(Hl:jQ Q t=some y){v:Value}{p q:P}(hv:aF F w G s.rg v p)(hq:Ei s p=some q):
  ∃x,(Builtin.len_ at' ty #[v]).run Q w= .ok x w/\aF F w G s.rg x q:=by
 have oh:=iF Hl;unfold Ei at hq;split at hq
 next n aR=>
  split at hq
  next kt2 get c last ho=>simp only[zak] at hq;subst hq;obtain⟨e0,_,_,_,AI,b,es,clock,hG,hb,hM⟩:=Ex h hv ho;rw[hG] at AI;subst AI;obtain⟨ks,_,hc,_⟩:=hM;refine⟨goInt es.size,by simp[Builtin.len_,h0,run_underlying oh,MapKept.run_getObj_map hb],?_⟩;rw[hc];exact .d (.int _ _)
  cases hq
 cases hq
theorem AL{x y:Value}{p q:P}{r:Bool}(hx:aF F w G s.rg x p)(hy:aF F w G s.rg y q)(hr:tZ s p q=some r):
  r=false/\((∃b,x= .pointer (some b)/\y= .pointer none)\/ ∃b,x= .pointer none/\y= .pointer (some b)):=by
 unfold tZ at hr;split at hr
 ·cases hx with
  |ref n aR off v h h1=>cases hy with |d hy=>cases hy;(split at hr)<;>simp at hr;rename_i hl;obtain⟨e,he,dw,hl⟩:=S.df hl;obtain⟨b,_,hv⟩:=h.at he dw hl;grind
 ·cases hx with
  |dj n aR i k off v h1 h=>cases hy with |d hy=>cases hy;(split at hr)<;>simp at hr;rename_i hl;obtain⟨e,he,dw,hl⟩:=S.df hl;obtain⟨b,_,_,_,hv⟩:=h.at he dw hl;grind
 ·cases hy with
  |ref n aR off v h h1=>cases hx with |d hx=>cases hx;(split at hr)<;>simp at hr;rename_i hl;obtain⟨e,he,dw,hl⟩:=S.df hl;obtain⟨b,_,hv⟩:=h.at he dw hl;grind
 ·cases hy with
  |dj n aR i k off v h1 h=>cases hx with |d hx=>cases hx;(split at hr)<;>simp at hr;rename_i hl;obtain⟨e,he,dw,hl⟩:=S.df hl;obtain⟨b,_,_,_,hv⟩:=h.at he dw hl;grind
 ·cases hx with |eX=>cases hy with |d hy=>cases hy;grind
 ·cases hy with |eX=>cases hx with |d hx=>cases hx;grind
 cases hr
theorem wg(d:Nat){t e:TypeId}(ht:Q.underlying t=some (.pointer e)){x y:Value}(h:(∃b,x= .pointer (some b)/\y= .pointer none)\/ ∃b,x= .pointer none/\y= .pointer (some b))(w:World):
  (Op.equalIn (d+1) t x y).run Q w= .ok false w:=by
 rcases h with⟨b,rfl,rfl⟩| ⟨b,rfl,rfl⟩<;>simp[Op.equalIn,run_underlying ht]
theorem vg{t e:TypeId}(ht:Q.underlying t=some (.pointer e)){x y:Value}(h:(∃b,x= .pointer (some b)/\y= .pointer none)\/ ∃b,x= .pointer none/\y= .pointer (some b))(op:BinOp)(ox oy:Operand)(w:World)
  (tM:op= .eql\/op= .neq):(do eqGuard op t ox oy x y;Go.binOp op t x y:Sem Value).run Q w= .ok (.bool (op matches .neq)) w:=by
 have he:=wg (Q:=Q) 9999 ht h w;rcases h with⟨b,rfl,rfl⟩| ⟨b,rfl,rfl⟩<;>rcases tM with rfl |rfl<;>simp only[eqGuard,Go.binOp,Op.equal,Op.maxDepth]<;>simp[he]
theorem wB(h:aB Q T F G w a s){g:Option (Nat×Bool)}(hg:lG a g): ∀(xs:List Operand) (vs:List Value),cW (xs.map (s.eg g))=some vs->xs.map a.eval=vs
 | [],vs,hv=>by grind [cW]
 |x::xs,vs,hv=>by
  simp only[zaO,cW] at hv;cases h1:(s.eg g x).cp with
  |none=>grind
  |some v=>
   cases h2:cW (xs.map (s.eg g)) with
   |none=>grind
   |some us=>simp[h1,h2] at hv;subst hv;rw[zaO,wB h hg xs us h2,(aS h hg x).cp h1]
theorem Kk{v:Value}{p:P}{ps:List P}(hv:aF F w G s.rg v p)(h:p.HO=some ps): ∃vs:List Value,v= .agg ⟨vs⟩/\vs.length=ps.length/\(∀u∈vs,u.oneCell'=true)/\ ∀(i:Nat) (c:P),ps[i]?=some c->aF F w G s.rg (vs.getD i undef) c:=by
 cases hv with
 |agg vs ps' hl gb hc=>grind [P.HO]
 |d hd=>
  cases hd with
  |agg vs cs hl bU hc=>
   simp[P.HO] at h;subst h;refine⟨vs,rfl,by grind,λu hu=> ?_,λi c hi=> ?_⟩
   ·obtain⟨i,hi⟩:=zaP hu;have bz:i<cs.length:=by have:=(zae.1 hi).1;omega
    exact(hc i u cs[i] hi (zac bz)).nw (bU _ (zar bz))
   rw[zaD] at hi;cases hx:cs[i]? with
   |none=>rw[hx] at hi;cases hi
   |some x=>rw[hx] at hi;cases hi;refine .d ?_;grind
  |_=>simp[P.HO] at h
 |_=>simp[P.HO] at h
theorem Kl{t:TypeId}{vs:List Value}{ps:List P}{off:Nat}{q:P}(hl:vs.length=ps.length)(gb: ∀u∈vs,u.oneCell'=true)(hc: ∀(i:Nat) (c:P),ps[i]?=some c->aF F w G s.rg (vs.getD i undef) c)(hq:Ap Q t ps off=some q):
  ∃r,(Go.part t ⟨vs⟩ off).run Q w= .ok r w/\aF F w G s.rg r q:=by
 obtain⟨k,hk,hb,hr⟩:=Ep (R:=s.rg) hq (λi=>vs.getD i undef) (λi hi=>by grind) hc;grind [Pk]
theorem Mb{t:TypeId}{f:Nat}{v:Value}{p q:P}(hv:aF F w G s.rg v p)(hq:HP Q t f p=some q): ∃r,(Instr.field t v f).run Q w= .ok r w/\aF F w G s.rg r q:=by
 unfold HP at hq;split at hq
 next fs ps ht mB=>
  obtain⟨vs,rfl,hl,gb,hc⟩:=Kk hv mB;split at hq
  next fl wb=>obtain⟨r,h1,h2⟩:=Kl hl gb hc hq;refine⟨r,?_,h2⟩;simp[Instr.field,run_underlying ht,wb,asAgg,h1]
  cases hq
 cases hq
theorem Mc{t e:TypeId}{n:Nat}{v u:Value}{p i q:P}(ht:Q.underlying t=some (.array n e))(hv:aF F w G s.rg v p)(hu:aF F w G s.rg u i)(hq:HQ Q n e p i=some q):
  ∃r,(Instr.index t v u).run Q w= .ok r w/\aF F w G s.rg r q:=by
 unfold HQ at hq;split at hq
 next ps kk j k mB hk=>
  obtain⟨vs,rfl,hl,gb,hc⟩:=Kk hv mB;cases hu with
  |d hu=>
   cases hu;split at hq
   next hj=>obtain⟨r,h1,h2⟩:=Kl hl gb hc hq;refine⟨r,?_,h2⟩;simp[Instr.index,asIntOf,run_underlying ht,hj,run_sizeOf hk,h1]
   cases hq
 cases hq
theorem qfh(h:aB Q T F G w a s){g:Option (Nat×Bool)}(hg:lG a g){o:Oper}{q:P}(hq:pv Q s o g=some q):
  ∃v,(execOp a.eval o).run Q w= .ok (.value v) w/\aF F w G s.rg v q:=by
 have up: ∀{m:Sem Value} {q:P},dI Q m=some q-> ∃v,m.run Q w= .ok v w/\aF F w G s.rg v q:=λhh=>L4 hh F w G s.rg;unfold pv at hq;unfold execOp;split at hq
 next x hx=>simp at hq;subst hq;exact⟨a.eval x,by simp[hx],aS h hg x⟩
 next x hx=>simp at hq;subst hq;exact⟨a.eval x,by simp[hx],aS h hg x⟩
 next c x y ho=>
  split at hq
  next r hc=>
   simp at hq;subst hq;have hcv:a.eval c= .bool r:=(aS h hg c).cp (by rw[hc];rfl);cases r with
   |true=>exact⟨a.eval x,by simp[ho,hcv,asBool],aS h hg x⟩
   |false=>exact⟨a.eval y,by simp[ho,hcv,asBool],aS h hg y⟩
  cases hq
 next x ho=>
  obtain⟨rfl,hv⟩:=zF (aS h hg x) hq;have hr:=aS h hg x;rcases hv with⟨b,hv⟩| ⟨f,c1,c2,hv⟩
  ·simp_all
  simp_all
 next op t x y yt ho=>
  unfold oG at hq;split at hq
  next u v hu hv=>obtain⟨r,h1,h2⟩:=up hq;refine⟨r,?_,h2⟩;simp only[ho];rw[(aS h hg x).cp hu,(aS h hg y).cp hv,Sem.run_bind,h1];rfl
  split at hq
  next hh Pt=>simp at hq;subst hq;obtain⟨rfl,hcs⟩:=AL (aS h hg x) (aS h hg y) Pt;refine⟨_,?_,.d (.bool _)⟩;simp only[ho];rw[Sem.run_bind,vg hh hcs .eql x y w (.inl rfl)];rfl
  next hh Pt=>simp at hq;subst hq;obtain⟨rfl,hcs⟩:=AL (aS h hg x) (aS h hg y) Pt;refine⟨_,?_,.d (.bool _)⟩;simp only[ho];rw[Sem.run_bind,vg hh hcs .neq x y w (.inr rfl)];rfl
  cases hq
 next op t x ho=>
  split at hq
  next u hu=>obtain⟨r,h1,h2⟩:=up hq;refine⟨r,?_,h2⟩;simp only[ho];rw[(aS h hg x).cp hu,Sem.run_bind,h1];rfl
  cases hq
 next t1 t2 x ho=>
  split at hq
  next u hu=>obtain⟨r,h1,h2⟩:=up hq;refine⟨r,?_,h2⟩;simp only[ho];rw[(aS h hg x).cp hu,Sem.run_bind,h1];rfl
  cases hq
 next t x ho=>obtain⟨r,h1,h2⟩:=Es h (aS h hg x) hq;simp_all
 next t x f ho=>obtain⟨r,h1,h2⟩:=zG (aS h hg x) hq;simp_all
 next t x i ho=>obtain⟨r,h1,h2⟩:=zH h (aS h hg x) (aS h hg i) hq;simp_all
 next t x i ho=>
  split at hq
  next n e ht=>obtain⟨r,h1,h2⟩:=Mc ht (aS h hg x) (aS h hg i) hq;simp_all
  split at hq
  next u v hu hv=>obtain⟨r,h1,h2⟩:=up hq;refine⟨r,?_,h2⟩;simp only[ho];rw[(aS h hg x).cp hu,(aS h hg i).cp hv,Sem.run_bind,h1];rfl
  cases hq
 next t x f ho=>obtain⟨r,h1,h2⟩:=Mb (aS h hg x) hq;simp_all
 next x i ho=>
  split at hq
  next ps mB=>
   have hr:=aS h hg x;rw[mB] at hr;generalize hax:a.eval x=vx at hr;cases hr with
   |bI vs _ hl hc=>
    have hi:i<ps.length:=(zae.1 hq).1;have hiv:i<vs.length:=by omega
    refine⟨vs[i],?_,hc i _ _ (zac hiv) hq⟩;simp[ho,hax,Instr.extract,hiv]
  cases hq
 next t x i ok ho=>
  split at hq
  next z hz=>obtain⟨y,ht,hz⟩:=zbO.1 hz;obtain⟨r,h1,h2⟩:=H5 h ht hz (aS h hg x) (aS h hg i) hq;simp_all
  cases hq
 next x ho=>obtain⟨r,h1,h2⟩:=L7 h (aS h hg x) hq;simp_all
 next t x lo hi ho=>
  have L9:(lo.map (s.eg g)=none/\lo.map a.eval=none)\/ ∃p v,lo.map (s.eg g)=some p/\lo.map a.eval=some v/\aF F w G s.rg v p:=by
   cases lo with
   |none=>simp
   |some l=>grind [aS]
  have V5:(hi.map (s.eg g)=none/\hi.map a.eval=none)\/ ∃p v,hi.map (s.eg g)=some p/\hi.map a.eval=some v/\aF F w G s.rg v p:=by
   cases hi with
   |none=>simp
   |some l=>grind [aS]
  split at hq
  next b hb=>
   split at hq
   ·rename_i l hh hl hhh;obtain⟨r,h1,h2⟩:=up hq;have el:lo.map a.eval=l:=by
     cases lo with
     |none=>grind
     |some x'=>simp only[zav] at hl;obtain⟨v,hv,rfl⟩:=hl;simp[(aS h hg x').cp hv]
    have eh:hi.map a.eval=hh:=by
     cases hi with
     |none=>grind
     |some x'=>simp only[zav] at hhh;obtain⟨v,hv,rfl⟩:=hhh;simp[(aS h hg x').cp hv]
    refine⟨r,?_,h2⟩;simp only[ho,zcD];rw[(aS h hg x).cp hb,el,eh,Sem.run_bind,h1];rfl
   cases hq
  obtain⟨r,h1,h2⟩:=Ma h (aS h hg x) L9 V5 hq;simp_all
 next t parts ho=>
  split at hq
  next vs L5=>
   obtain⟨r,h1,h2⟩:=up hq;have e1:parts.toList.map (λx=>a.eval x.2)=vs:=by have:=wB h hg (parts.toList.map (·.2)) vs (by grind [Function.comp_def]);grind [Function.comp_def]
   have e:(parts.map λ(i,x)=>(i,a.eval x))=((parts.toList.map (·.1)).zip vs).toArray:=by grind
   simp_all
  obtain⟨r,h1,h2⟩:=EA (vals:=parts.map λ(i,x)=>(i,a.eval x)) hq (by simp) (λi x y hx hy=>by simp only[zc8,zaD,zav] at hx hy;obtain⟨x1,Cd,rfl⟩:=hx;obtain⟨y1,zI,rfl⟩:=hy;rw[Cd] at zI;cases zI;exact⟨rfl,aS h hg x1.2⟩);simp_all
 next f first cF ho=>
  split at hq
  next qhB=>
   have e1:first= #[]:=by grind
   subst e1;simp only[zak] at hq;subst hq;refine⟨.func (.func f) #[] (cF.map a.eval),?_,?_⟩
   ·simp[ho,Instr.makeFunc]
   have:=aF.fn (F:=F) (w:=w) (G:=G) (R:=s.rg) f (cF.toList.map a.eval) (cF.toList.map (s.eg g)) (by simp) (λi v c hv hc=>by grind [aS]);have e:cF.map a.eval=⟨cF.toList.map a.eval⟩:=by grind
   rw[e];exact this
  cases hq
 next c ho=>
  split at hq
  next kO=>
   split at hq
   ·rename_i x cN;have ea:c.args= #[x]:=by grind
    split at hq
    next u hu=>obtain⟨r,h1,h2⟩:=up hq;refine⟨r,?_,h2⟩;have hx:=(aS h hg x).cp hu;simp[ho,resolve,kO,ea,invoke,builtin,hx,h1]
    split at hq
    next e het=>obtain⟨t0,ht0,het⟩:=zbO.1 het;obtain⟨r,h1,h2⟩:=V6 (ty:=o.type) ht0 het (aS h hg x) hq;refine⟨r,?_,h2⟩;simp[ho,resolve,kO,ea,invoke,builtin,h1]
    split at hq
    next y Hl=>obtain⟨t0,ht0,Hl⟩:=zbO.1 Hl;obtain⟨r,h1,h2⟩:=V7 (ty:=o.type) h ht0 Hl (aS h hg x) hq;refine⟨r,?_,h2⟩;simp[ho,resolve,kO,ea,invoke,builtin,h1]
    cases hq
   cases hq
  next kO=>
   split at hq
   ·rename_i vs L5;obtain⟨r,h1,h2⟩:=up hq;refine⟨r,?_,h2⟩;have e:=wB h hg _ _ L5;have e2:c.args.map a.eval=vs.toArray:=by grind
    simp[ho,resolve,kO,invoke,builtin,e2,h1]
   cases hq
  next kO=>
   split at hq
   ·rename_i vs L5;obtain⟨r,h1,h2⟩:=up hq;refine⟨r,?_,h2⟩;have e:=wB h hg _ _ L5;have e2:c.args.map a.eval=vs.toArray:=by grind
    simp[ho,resolve,kO,invoke,builtin,e2,h1]
   cases hq
  cases hq
 cases hq
end
end Pi
