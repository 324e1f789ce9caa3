/- The text PiPv. -/
import Derived.Test.YtngoddkencoalaaGreatDoorPiStr
namespace Pi
open Go
section
variable{Q:Program}{T:Tg}{F:Nat->Prop}{G:Nat->Value}{w:World}{a:Act}{s:S}
theorem hY{len l h:Nat}{lo hi:Option P}(hb:dF len lo hi=some (l,h)):l<=h/\h<=len:=by unfold dF at hb;grind
theorem lA{len cap l h:Nat}{lo hi:Option P}{vl vh:Option Value}(hb:dF len lo hi=some (l,h))(hle:hi=none\/len<=cap)
  (OB:(lo=none/\vl=none)\/ ∃p v,lo=some p/\vl=some v/\aH F w G s.rg v p) (YZ:(hi=none/\vh=none)\/ ∃p v,hi=some p/\vh=some v/\aH F w G s.rg v p):
  (Instr.sliceBounds true len cap vl vh none).run Q w= .ok (l,h,cap) w:=by
 unfold dF at hb;rcases YZ with⟨rfl,rfl⟩| ⟨p,v,rfl,rfl,hp⟩
 ·skip
  rcases OB with⟨rfl,rfl⟩| ⟨p,v,rfl,rfl,hp⟩
  ·skip
   obtain⟨rfl,rfl⟩:=hb;rfl
  cases p<;>try (simp at hb;done)
  rename_i x;cases x<;>try (simp at hb;done)
  rename_i k j;cases hp with
  |d hp=>
   cases hp;simp only at hb;split at hb
   next hj=>obtain⟨rfl,rfl⟩:=hb;simp[Instr.sliceBounds,Instr.sliceBound,asIntOf,hj]
   cases hb
 cases p<;>try (simp at hb;done)
 rename_i x;cases x<;>try (simp at hb;done)
 rename_i k j;cases hp with
 |d hp=>
  cases hp;have qeg:len<=cap:=by grind
  simp only at hb;by_cases hj:0<=j/\j<=(len:Int)
  ·have hj2:0<=j/\j<=(cap:Int):=⟨hj.1,by omega⟩
   rw[zap hj] at hb;rcases OB with⟨rfl,rfl⟩| ⟨p,v,rfl,rfl,hp⟩
   ·skip
    obtain⟨rfl,rfl⟩:=hb;simp[Instr.sliceBounds,Instr.sliceBound,asIntOf,hj2]
   cases p<;>try (simp at hb;done)
   rename_i x;cases x<;>try (simp at hb;done)
   rename_i k2 j2;cases hp with
   |d hp=>
    cases hp;simp only at hb;split at hb
    next hj3=>simp[Instr.sliceBounds,Instr.sliceBound,asIntOf,hj2,hj3];grind
    cases hb
  grind
theorem wj{F':Nat->Prop}{n:Nat}{ty:TypeId}{fz:Bool}{es:List D}{k len:Nat}(hO:pG Q F w G s.rg n (.arr ty fz es))(hk:sz Q ty=some k){v:Value}
  (hv: ∃a N cap,G n= .slice a N cap/\v= .slice a len cap/\len<=N) (hF: ∀b,aM (G n)=some b->F' b) (hFF: ∀b,F b->F' b):aS F' w v (.sl k (es.take len)):=by
 obtain⟨a0,N,cap,hG,rfl,hle⟩:=hv;rcases hO with⟨hg,rfl⟩| ⟨b,iX,cs,k',hg,hh,nj,gy,GI,yL,dN,_,hE⟩
 ·rw[hG] at hg;simp at hg;have:len=0:=by omega
  subst this;exact .J4 _ _ _
 rw[hk] at nj;cases nj;rw[hG] at hg;obtain⟨rfl,rfl,rfl⟩:=hg;have hlen:(es.take len).length=len:=by simp;omega
 have oE: ∀i x,(es.take len)[i]?=some x->es[i]?=some x:=λi x hx=>by
  rw[zbD] at hx;split at hx
  ·exact hx
  cases hx
 have bZ: ∀x,x∈es.take len-> ∃i,es[i]?=some x:=λx hx=>by obtain⟨i,hi⟩:=zaX hx;exact⟨i,oE i x hi⟩
 have:=aS.Ml (F:=F') (w:=w) b 0 k cap (es.take len) (λi=>cs.getD i undef) (by omega) (hF b (by simp[hG,aM])) (λx hx=>by obtain⟨i,hi⟩:=bZ x hx;exact(hE i x hi).1)
  (λx hx=>by obtain⟨i,hi⟩:=bZ x hx;exact(hE i x hi).2.1) (λi hi=>by
   have:i<cs.size:=by rw[dN];exact zbb hi (zar _ (by omega))
   rw[zaF,cell_of_row w b i cs ty (0,0) hh];simp_all) (λi j x c hx hc=>((hE i x (oE i x hx)).2.2 j c hc).mono hFF (λ_ _=>rfl))
 rwa [hlen] at this
theorem DX{F':Nat->Prop}{n:Nat}{ty:TypeId}{fz:Bool}{es:List D}{k off len:Nat}(hO:pG Q F w G s.rg n (.arr ty fz es))(hk:sz Q ty=some k){v:Value}
  (hv: ∃a N cap,G n= .slice a N cap/\off+len<=N/\ ∃a' iX,v= .slice a' len iX/\len<=iX/\(len=0\/ ∃b,a=some ⟨b,0,none⟩/\a'=some ⟨b,off*k,none⟩)) (hF: ∀b,aM (G n)=some b->F' b) (hFF: ∀b,F b->F' b):aS F' w v (.sl k ((es.drop off).take len)):=by
 obtain⟨a0,N,cap,hG,hle,a1,rr,rfl,RQ,hz⟩:=hv;by_cases h0:len=0
 ·subst h0;exact .J4 _ _ _
 obtain⟨b0,ha0,RR⟩: ∃b,a0=some ⟨b,0,none⟩/\a1=some ⟨b,off*k,none⟩:=by grind
 subst ha0 RR;rcases hO with⟨hg,rfl⟩| ⟨b,iX,cs,k',hg,hh,nj,gy,GI,yL,dN,_,hE⟩
 ·rw[hG] at hg;simp at hg
 rw[hk] at nj;cases nj;rw[hG] at hg;obtain⟨rfl,rfl,rfl⟩:=hg;have hlen:((es.drop off).take len).length=len:=by simp;omega
 have oE: ∀i x,((es.drop off).take len)[i]?=some x->es[off+i]?=some x:=λi x hx=>by grind
 have bZ: ∀x,x∈(es.drop off).take len-> ∃i,es[i]?=some x:=λx hx=>by obtain⟨i,hi⟩:=zaX hx;exact⟨off+i,oE i x hi⟩
 have:=aS.Ml (F:=F') (w:=w) b0 (off*k) k rr ((es.drop off).take len) (λi=>cs.getD (off*k+i) undef) (by omega) (hF b0 (by simp[hG,aM])) (λx hx=>by obtain⟨i,hi⟩:=bZ x hx;exact(hE i x hi).1)
  (λx hx=>by obtain⟨i,hi⟩:=bZ x hx;exact(hE i x hi).2.1) (λi hi=>by
   rw[hlen] at hi;have h2:off*k+i<cs.size:=by
    rw[dN]
    calc off*k+i<off*k+len*k:=by omega
     _=(off+len)*k:=by rw[zaZ]
     _<=cap*k:=zar _ (by omega)
   rw[cell_of_row w b0 (off*k+i) cs ty (0,0) hh];simp_all) (λi j x c hx hc=>by
   have:=((hE (off+i) x (oE i x hx)).2.2 j c hc).mono hFF (λ_ _=>rfl);rw[zaZ,zbG] at this;exact this)
 rwa [hlen] at this
theorem RX(h:aG Q T F G w a s){t:TypeId}{v:Value}{p:P}{lo:Option P}(hv:aH F w G s.rg v p):aH F w G s.rg v (ph Q s t p lo):=by
 unfold ph;split
 next n aV len=>
  split
  next x ty es k _ ho hk=>
   split
   ·rename_i k' nj;split
    ·rename_i ju;have ju:=zag ju;subst ju;obtain⟨e,he,dT,b9⟩:=S.bI ho;have hO:=h.rg n e he;rw[b9] at hO;cases hv with
     |sl _ _ _ _ _ hr=>
      have GJ:=hr.at he dT (by rw[b9];rfl);refine .d (wj hO nj GJ (λb hb=> ?_) (λ_ h=>h));rcases hO with⟨hg,_⟩| ⟨b',cap,cs,k2,hg,_,_,_,_,_,_,hf,_⟩
      ·rw[hg] at hb;cases hb
      grind [aM]
    exact hv
   exact hv
  exact hv
 exact hv
theorem OC(h:aG Q T F G w a s){t:TypeId}{v:Value}{p q:P}{lo hi:Option P}{vl vh:Option Value}(hv:aH F w G s.rg v p)
  (OB:(lo=none/\vl=none)\/ ∃p v,lo=some p/\vl=some v/\aH F w G s.rg v p) (YZ:(hi=none/\vh=none)\/ ∃p v,hi=some p/\vh=some v/\aH F w G s.rg v p)
  (hq:mP Q s t p lo hi=some q): ∃x,(Instr.sliceAt t v vl vh none).run Q w= .ok x w/\aH F w G s.rg x q:=by
 unfold mP at hq
 replace hv:=RX h (t:=t) (lo:=lo) hv
 generalize ph Q s t p lo=p at hq hv;unfold xJ at hq;split at hq
 ·cases hq
 rename_i e het;have pj:=dI het;split at hq
 next k hk=>
  cases hv with
  |d hv=>
   cases hv with
   |J4 a0 k' cap=>
    simp only at hq;split at hq
    ·split at hq
     ·rename_i l hh hb;have:=hY hb;have RY:l=0/\hh=0:=by grind
      obtain⟨rfl,rfl⟩:=RY;simp at hq;subst hq;refine⟨.slice (if cap=0 then a0 else a0.map (·.add (0*(k+1)))) 0 cap,?_,.d (.J4 _ _ _)⟩;have dm:=lA (Q:=Q) (s:=s) (F:=F) (w:=w) (G:=G) (cap:=cap) hb (by simp) OB YZ;simp only[zat] at dm;simp[Instr.sliceAt,run_underlying pj,Instr.slice,dm,run_sizeOf hk]
     cases hq
    cases hq
   |Ml b off k' cap es f xf hb ju bR hw hr=>
    simp only at hq;split at hq
    ·rename_i nj;have nj:k'=k+1:=by simpa using nj
     subst nj;split at hq
     ·rename_i l hh J9;have hle:=hY J9;simp at hq;subst hq;have dm:=lA (Q:=Q) (s:=s) (F:=F) (w:=w) (G:=G) (cap:=cap) J9 (.inr xf) OB YZ;refine⟨_,by simp[Instr.sliceAt,run_underlying pj,Instr.slice,dm,run_sizeOf hk];rfl,?_⟩;by_cases h0:hh-l=0
      ·rw[h0];have e0:(es.take hh).drop l=[]:=zaA (by simp;omega);rw[e0];exact .d (.J4 _ _ _)
      have dQ: ¬cap=l:=by omega
      rw[zan dQ];have hlen:((es.take hh).drop l).length=hh-l:=by simp;omega
      have oE: ∀i x,((es.take hh).drop l)[i]?=some x->es[l+i]?=some x:=λi x hx=>by grind
      have bZ: ∀x,x∈(es.take hh).drop l->x∈es:=λx hx=>zba (zbR hx);rw[<-hlen,addr_add];refine .d (.Ml b (off+l*(k+1)) (k+1) (cap-l) _ (λi=>f (l*(k+1)+i)) (by omega) hb (λx hx=>ju x (bZ x hx)) (λx hx=>bR x (bZ x hx)) (λi hi=> ?_) (λi j x c hx hc=> ?_))
      ·rw[zbG];refine hw _ ?_;rw[hlen] at hi
       calc l*(k+1)+i<l*(k+1)+(hh-l)*(k+1):=by omega
        _=(l+(hh-l))*(k+1):=by rw[zaZ]
        _<=es.length*(k+1):=zar _ (by omega)
      grind
     cases hq
    cases hq
   |_=>cases hq
  |sl n aV len v h1 hr=>
   simp only at hq;split at hq
   ·rename_i ty fz es ho;split at hq
    ·rename_i l hh J9;simp at hq;subst hq;obtain⟨en,he,dT,b9⟩:=S.bI ho;obtain⟨a0,N,cap,hG,rfl,hle⟩:=hr.at he dT (by rw[b9];rfl);have hO:=h.rg n en he;rw[b9] at hO;have hNc:N<=cap:=by
      rcases hO with⟨qX,_⟩| ⟨b',iX,cs,k2,qX,_,_,_,qeg,_⟩
      ·grind
      grind
     have dm:=lA (Q:=Q) (s:=s) (F:=F) (w:=w) (G:=G) (cap:=cap) J9 (.inr (by omega)) (.inl ⟨rfl,rfl⟩) YZ;have hbs:=hY J9;have RY:l=0:=by unfold dF at J9;grind
     subst RY;have hvl:vl=none:=by grind
     subst hvl;refine⟨.slice a0 hh cap,?_,.sl n aV hh _ rfl ⟨en,he,by omega,λ_ _=>⟨a0,N,cap,hG,rfl,by omega⟩⟩⟩;have hz: ∀x:Addr,x.add 0=x:=λx=>by rfl
     simp only[Instr.sliceAt,Instr.slice,Sem.run_bind,run_underlying pj,Result.andThen_ok,dm,run_sizeOf hk];cases a0<;>simp[hz]
    cases hq
   ·rename_i ty fz es lo0 ho;split at hq
    ·rename_i k' nj;split at hq
     ·split at hq
      ·rename_i l hh J9;simp at hq;subst hq;obtain⟨en,he,dT,b9⟩:=S.bI ho;obtain⟨a0,N,cap,hG,rfl,hle⟩:=hr.at he dT (by rw[b9];rfl);have hO:=h.rg n en he;rw[b9] at hO;have hbs:=hY J9;have hNc:N<=cap/\(N=0\/ ∃b,a0=some ⟨b,0,none⟩):=by
        rcases hO with⟨qX,_⟩| ⟨b',iX,cs,k2,qX,_,_,_,qeg,_⟩
        ·grind
        grind
       have dm:=lA (Q:=Q) (s:=s) (F:=F) (w:=w) (G:=G) (cap:=cap) J9 (.inr (by omega)) OB YZ;refine⟨.slice (if cap=l then a0 else a0.map (·.add (l*(k+1)))) (hh-l) (cap-l),by simp[Instr.sliceAt,run_underlying pj,Instr.slice,dm,run_sizeOf hk],.mb n aV (k+1) l (hh-l) _ rfl ⟨en,he,by omega,λ_ _=>⟨a0,N,cap,hG,by omega,_,_,rfl,by omega,?_⟩⟩⟩;grind [addr_add]
      cases hq
     cases hq
    cases hq
   cases hq
  |mb n aV k0 off len v h1 hr=>
   simp only at hq;split at hq
   ·rename_i ty fz es ho;split at hq
    ·rename_i ju;have ju:=zag ju;subst ju;split at hq
     ·rename_i l hh J9;simp at hq;subst hq;obtain⟨en,he,dT,b9⟩:=S.bI ho;obtain⟨a0,N,cap,hG,hle,a1,rr,rfl,RQ,hz⟩:=hr.at he dT (by rw[b9];rfl);have hbs:=hY J9;have dm:=lA (Q:=Q) (s:=s) (F:=F) (w:=w) (G:=G) (cap:=rr) J9 (.inr RQ) OB YZ;refine⟨.slice (if rr=l then a1 else a1.map (·.add (l*(k+1)))) (hh-l) (rr-l),by simp[Instr.sliceAt,run_underlying pj,Instr.slice,dm,run_sizeOf hk],.mb n aV (k+1) (off+l) (hh-l) _ rfl ⟨en,he,by omega,λ_ _=>⟨a0,N,cap,hG,by omega,_,_,rfl,by omega,?_⟩⟩⟩;by_cases h0:hh-l=0
      ·grind
      rcases hz with hz | ⟨b,h2,h3⟩
      ·omega
      refine .inr ⟨b,h2,?_⟩;rw[zan (by omega),h3];simp[addr_add,zaZ]
     cases hq
    cases hq
   cases hq
  |_=>cases hq
 cases hq
theorem oF{t e ty:TypeId}{at':Array TypeId}(h0:at'[0]?=some t)(pj:Q.underlying t=some (.slice e))(b:Option Addr)(n c:Nat)(w:World):(Builtin.len_ at' ty #[.slice b n c]).run Q w= .ok (goInt n) w:=by simp[Builtin.len_,h0,run_underlying pj]
theorem Y0{t e:TypeId}{ty:TypeId}{at':Array TypeId}(h0:at'[0]?=some t)(het:cR Q t=some e){v:Value}{p q:P}(hv:aH F w G s.rg v p)(hq:Gr s p=some q):
  ∃x,(Builtin.len_ at' ty #[v]).run Q w= .ok x w/\aH F w G s.rg x q:=by
 have pj:=dI het;unfold Gr at hq;cases hv with
 |sl n aV len v h1 hr=>
  simp only at hq;split at hq
  next hl=>simp at hq;subst hq;obtain⟨en,he,dT,hl⟩:=S.dA hl;obtain⟨a0,N,cap,hG,rfl,hle⟩:=hr.at he dT hl;exact⟨_,oF h0 pj a0 len cap w,.d (.int _ _)⟩
  cases hq
 |mb n aV k off len v h1 hr=>
  simp only at hq;split at hq
  next hl=>simp at hq;subst hq;obtain⟨en,he,dT,hl⟩:=S.dA hl;obtain⟨a0,N,cap,hG,hle,a1,rr,rfl,_,_⟩:=hr.at he dT hl;exact⟨_,oF h0 pj a1 len rr w,.d (.int _ _)⟩
  cases hq
 |d hv=>
  cases hv with
  |J4 a0 k' cap=>simp at hq;subst hq;exact⟨_,oF h0 pj a0 0 cap w,.d (.int _ _)⟩
  |Ml b off k' cap es f xf hb ju bR hw hr=>simp at hq;subst hq;exact⟨_,oF h0 pj _ _ cap w,.d (.int _ _)⟩
  |_=>cases hq
 |_=>cases hq
theorem Y1(h:aG Q T F G w a s){t:TypeId}{y:TypeId×TypeId}{ty:TypeId}{at':Array TypeId}(h0:at'[0]?=some t)(DY:kj Q t=some y){v:Value}{p q:P}(hv:aH F w G s.rg v p)(hq:Gs s p=some q):
  ∃x,(Builtin.len_ at' ty #[v]).run Q w= .ok x w/\aH F w G s.rg x q:=by
 have pj:=iY DY;unfold Gs at hq;split at hq
 next n aV=>
  split at hq
  next kt2 get c last ho=>simp only[zam] at hq;subst hq;obtain⟨e0,_,_,_,Ct,b,es,clock,hG,hb,hM⟩:=GD h hv ho;rw[hG] at Ct;subst Ct;obtain⟨ks,_,hc,_⟩:=hM;refine⟨goInt es.size,by simp[Builtin.len_,h0,run_underlying pj,MapKept.run_getObj_map hb],?_⟩;rw[hc];exact .d (.int _ _)
  cases hq
 cases hq
theorem Cu{x y:Value}{p q:P}{r:Bool}(hx:aH F w G s.rg x p)(hy:aH F w G s.rg y q)(hr:vj s p q=some r):
  r=false/\((∃b,x= .pointer (some b)/\y= .pointer none)\/ ∃b,x= .pointer none/\y= .pointer (some b)):=by
 unfold vj at hr;split at hr
 ·cases hx with
  |ref n aV off v h h1=>cases hy with |d hy=>cases hy;(split at hr)<;>simp at hr;rename_i hl;obtain⟨e,he,dT,hl⟩:=S.dA hl;obtain⟨b,_,hv⟩:=h.at he dT hl;grind
 ·cases hx with
  |dD n aV i k off v h1 h=>cases hy with |d hy=>cases hy;(split at hr)<;>simp at hr;rename_i hl;obtain⟨e,he,dT,hl⟩:=S.dA hl;obtain⟨b,_,_,_,hv⟩:=h.at he dT hl;grind
 ·cases hy with
  |ref n aV off v h h1=>cases hx with |d hx=>cases hx;(split at hr)<;>simp at hr;rename_i hl;obtain⟨e,he,dT,hl⟩:=S.dA hl;obtain⟨b,_,hv⟩:=h.at he dT hl;grind
 ·cases hy with
  |dD n aV i k off v h1 h=>cases hx with |d hx=>cases hx;(split at hr)<;>simp at hr;rename_i hl;obtain⟨e,he,dT,hl⟩:=S.dA hl;obtain⟨b,_,_,_,hv⟩:=h.at he dT hl;grind
 ·cases hx with |fe=>cases hy with |d hy=>cases hy;grind
 ·cases hy with |fe=>cases hx with |d hx=>cases hx;grind
 cases hr
theorem xi(d:Nat){t e:TypeId}(ht:Q.underlying t=some (.pointer e)){x y:Value}(h:(∃b,x= .pointer (some b)/\y= .pointer none)\/ ∃b,x= .pointer none/\y= .pointer (some b))(w:World):
  (Op.equalIn (d+1) t x y).run Q w= .ok false w:=by
 rcases h with⟨b,rfl,rfl⟩| ⟨b,rfl,rfl⟩<;>simp[Op.equalIn,run_underlying ht]
theorem wk{t e:TypeId}(ht:Q.underlying t=some (.pointer e)){x y:Value}(h:(∃b,x= .pointer (some b)/\y= .pointer none)\/ ∃b,x= .pointer none/\y= .pointer (some b))(op:BinOp)(ox oy:Operand)(w:World)
  (sk:op= .eql\/op= .neq):(do eqGuard op t ox oy x y;Go.binOp op t x y:Sem Value).run Q w= .ok (.bool (op matches .neq)) w:=by
 have he:=xi (Q:=Q) 9999 ht h w;rcases h with⟨b,rfl,rfl⟩| ⟨b,rfl,rfl⟩<;>rcases sk with rfl |rfl<;>simp only[eqGuard,Go.binOp,Op.equal,Op.maxDepth]<;>simp[he]
theorem xM(h:aG Q T F G w a s){g:Option (Nat×Bool)}(hg:mx a g): ∀(xs:List Operand) (vs:List Value),df (xs.map (s.eg g))=some vs->xs.map a.eval=vs
 | [],vs,hv=>by grind [df]
 |x::xs,vs,hv=>by
  simp only[zbg,df] at hv;cases h1:(s.eg g x).cF with
  |none=>grind
  |some v=>
   cases h2:df (xs.map (s.eg g)) with
   |none=>grind
   |some us=>simp[h1,h2] at hv;subst hv;rw[zbg,xM h hg xs us h2,(aW h hg x).cF h1]
theorem Ms{v:Value}{p:P}{ps:List P}(hv:aH F w G s.rg v p)(h:p.JS=some ps): ∃vs:List Value,v= .agg ⟨vs⟩/\vs.length=ps.length/\(∀u∈vs,u.oneCell'=true)/\ ∀(i:Nat) (c:P),ps[i]?=some c->aH F w G s.rg (vs.getD i undef) c:=by
 cases hv with
 |agg vs ps' hl iF hc=>grind [P.JS]
 |d hd=>
  cases hd with
  |agg vs cs hl bR hc=>
   simp[P.JS] at h;subst h;refine⟨vs,rfl,by grind,λu hu=> ?_,λi c hi=> ?_⟩
   ·obtain⟨i,hi⟩:=zaX hu;have bJ:i<cs.length:=by have:=(zaf.1 hi).1;omega
    exact(hc i u cs[i] hi (zac bJ)).oD (bR _ (zaq bJ))
   rw[zaD] at hi;cases hx:cs[i]? with
   |none=>rw[hx] at hi;cases hi
   |some x=>rw[hx] at hi;cases hi;refine .d ?_;grind
  |_=>simp[P.JS] at h
 |_=>simp[P.JS] at h
theorem Mt{t:TypeId}{vs:List Value}{ps:List P}{off:Nat}{q:P}(hl:vs.length=ps.length)(iF: ∀u∈vs,u.oneCell'=true)(hc: ∀(i:Nat) (c:P),ps[i]?=some c->aH F w G s.rg (vs.getD i undef) c)(hq:Ce Q t ps off=some q):
  ∃r,(Go.part t ⟨vs⟩ off).run Q w= .ok r w/\aH F w G s.rg r q:=by
 obtain⟨k,hk,hb,hr⟩:=Gx (R:=s.rg) hq (λi=>vs.getD i undef) (λi hi=>by grind) hc;grind [RP]
theorem OD{t:TypeId}{f:Nat}{v:Value}{p q:P}(hv:aH F w G s.rg v p)(hq:JT Q t f p=some q): ∃r,(Instr.field t v f).run Q w= .ok r w/\aH F w G s.rg r q:=by
 unfold JT at hq;split at hq
 next fs ps ht rP=>
  obtain⟨vs,rfl,hl,iF,hc⟩:=Ms hv rP;split at hq
  next fl xg=>obtain⟨r,h1,h2⟩:=Mt hl iF hc hq;refine⟨r,?_,h2⟩;simp[Instr.field,run_underlying ht,xg,asAgg,h1]
  cases hq
 cases hq
theorem OE{t e:TypeId}{n:Nat}{v u:Value}{p i q:P}(ht:Q.underlying t=some (.array n e))(hv:aH F w G s.rg v p)(hu:aH F w G s.rg u i)(hq:JU Q n e p i=some q):
  ∃r,(Instr.index t v u).run Q w= .ok r w/\aH F w G s.rg r q:=by
 unfold JU at hq;split at hq
 next ps kk j k rP hk=>
  obtain⟨vs,rfl,hl,iF,hc⟩:=Ms hv rP;cases hu with
  |d hu=>
   cases hu;split at hq
   next hj=>obtain⟨r,h1,h2⟩:=Mt hl iF hc hq;refine⟨r,?_,h2⟩;simp[Instr.index,asIntOf,run_underlying ht,hj,run_sizeOf hk,h1]
   cases hq
 cases hq
theorem qh5(h:aG Q T F G w a s){g:Option (Nat×Bool)}(hg:mx a g){o:Oper}{q:P}(hq:pv Q s o g=some q):
  ∃v,(execOp a.eval o).run Q w= .ok (.value v) w/\aH F w G s.rg v q:=by
 have up: ∀{m:Sem Value} {q:P},dY Q m=some q-> ∃v,m.run Q w= .ok v w/\aH F w G s.rg v q:=λhh=>Ov hh F w G s.rg;unfold pv at hq;unfold execOp;split at hq
 next x hx=>simp at hq;subst hq;exact⟨a.eval x,by simp[hx],aW h hg x⟩
 next x hx=>simp at hq;subst hq;exact⟨a.eval x,by simp[hx],aW h hg x⟩
 next c x y ho=>
  split at hq
  next r hc=>
   simp at hq;subst hq;have hcv:a.eval c= .bool r:=(aW h hg c).cF (by rw[hc];rfl);cases r with
   |true=>exact⟨a.eval x,by simp[ho,hcv,asBool],aW h hg x⟩
   |false=>exact⟨a.eval y,by simp[ho,hcv,asBool],aW h hg y⟩
  cases hq
 next x ho=>
  obtain⟨rfl,hv⟩:=Bw (aW h hg x) hq;have hr:=aW h hg x;rcases hv with⟨b,hv⟩| ⟨f,c1,c2,hv⟩
  ·simp_all
  simp_all
 next op t x y yt ho=>
  unfold pD at hq;split at hq
  next u v hu hv=>obtain⟨r,h1,h2⟩:=up hq;refine⟨r,?_,h2⟩;simp only[ho];rw[(aW h hg x).cF hu,(aW h hg y).cF hv,Sem.run_bind,h1];rfl
  split at hq
  next hh RZ=>simp at hq;subst hq;obtain⟨rfl,hcs⟩:=Cu (aW h hg x) (aW h hg y) RZ;refine⟨_,?_,.d (.bool _)⟩;simp only[ho];rw[Sem.run_bind,wk hh hcs .eql x y w (.inl rfl)];rfl
  next hh RZ=>simp at hq;subst hq;obtain⟨rfl,hcs⟩:=Cu (aW h hg x) (aW h hg y) RZ;refine⟨_,?_,.d (.bool _)⟩;simp only[ho];rw[Sem.run_bind,wk hh hcs .neq x y w (.inr rfl)];rfl
  cases hq
 next op t x ho=>
  split at hq
  next u hu=>obtain⟨r,h1,h2⟩:=up hq;refine⟨r,?_,h2⟩;simp only[ho];rw[(aW h hg x).cF hu,Sem.run_bind,h1];rfl
  cases hq
 next t1 t2 x ho=>
  split at hq
  next u hu=>obtain⟨r,h1,h2⟩:=up hq;refine⟨r,?_,h2⟩;simp only[ho];rw[(aW h hg x).cF hu,Sem.run_bind,h1];rfl
  cases hq
 next t x ho=>obtain⟨r,h1,h2⟩:=Gz h (aW h hg x) hq;simp_all
 next t x f ho=>obtain⟨r,h1,h2⟩:=Bx (aW h hg x) hq;simp_all
 next t x i ho=>obtain⟨r,h1,h2⟩:=By h (aW h hg x) (aW h hg i) hq;simp_all
 next t x i ho=>
  split at hq
  next n e ht=>obtain⟨r,h1,h2⟩:=OE ht (aW h hg x) (aW h hg i) hq;simp_all
  split at hq
  next u v hu hv=>obtain⟨r,h1,h2⟩:=up hq;refine⟨r,?_,h2⟩;simp only[ho];rw[(aW h hg x).cF hu,(aW h hg i).cF hv,Sem.run_bind,h1];rfl
  cases hq
 next t x f ho=>obtain⟨r,h1,h2⟩:=OD (aW h hg x) hq;simp_all
 next x i ho=>
  split at hq
  next ps rP=>
   have hr:=aW h hg x;rw[rP] at hr;generalize hax:a.eval x=vx at hr;cases hr with
   |cH vs _ hl hc=>
    have hi:i<ps.length:=(zaf.1 hq).1;have hiv:i<vs.length:=by omega
    refine⟨vs[i],?_,hc i _ _ (zac hiv) hq⟩;simp[ho,hax,Instr.extract,hiv]
  cases hq
 next t x i ok ho=>
  split at hq
  next z hz=>obtain⟨y,ht,hz⟩:=zbH.1 hz;obtain⟨r,h1,h2⟩:=J8 h ht hz (aW h hg x) (aW h hg i) hq;simp_all
  cases hq
 next x ho=>obtain⟨r,h1,h2⟩:=Oz h (aW h hg x) hq;simp_all
 next t x lo hi ho=>
  have OB:(lo.map (s.eg g)=none/\lo.map a.eval=none)\/ ∃p v,lo.map (s.eg g)=some p/\lo.map a.eval=some v/\aH F w G s.rg v p:=by
   cases lo with
   |none=>simp
   |some l=>grind [aW]
  have YZ:(hi.map (s.eg g)=none/\hi.map a.eval=none)\/ ∃p v,hi.map (s.eg g)=some p/\hi.map a.eval=some v/\aH F w G s.rg v p:=by
   cases hi with
   |none=>simp
   |some l=>grind [aW]
  split at hq
  next b hb=>
   split at hq
   ·rename_i l hh hl hhh;obtain⟨r,h1,h2⟩:=up hq;have el:lo.map a.eval=l:=by
     cases lo with
     |none=>grind
     |some x'=>simp only[zax] at hl;obtain⟨v,hv,rfl⟩:=hl;simp[(aW h hg x').cF hv]
    have eh:hi.map a.eval=hh:=by
     cases hi with
     |none=>grind
     |some x'=>simp only[zax] at hhh;obtain⟨v,hv,rfl⟩:=hhh;simp[(aW h hg x').cF hv]
    refine⟨r,?_,h2⟩;simp only[ho,zcP];rw[(aW h hg x).cF hb,el,eh,Sem.run_bind,h1];rfl
   cases hq
  obtain⟨r,h1,h2⟩:=OC h (aW h hg x) OB YZ hq;simp_all
 next t parts ho=>
  split at hq
  next vs Ow=>
   obtain⟨r,h1,h2⟩:=up hq;have e1:parts.toList.map (λx=>a.eval x.2)=vs:=by have:=xM h hg (parts.toList.map (·.2)) vs (by grind [Function.comp_def]);grind [Function.comp_def]
   have e:(parts.map λ(i,x)=>(i,a.eval x))=((parts.toList.map (·.1)).zip vs).toArray:=by grind
   simp_all
  obtain⟨r,h1,h2⟩:=GH (vals:=parts.map λ(i,x)=>(i,a.eval x)) hq (by simp) (λi x y hx hy=>by simp only[zde,zaD,zax] at hx hy;obtain⟨x1,DZ,rfl⟩:=hx;obtain⟨y1,Bz,rfl⟩:=hy;rw[DZ] at Bz;cases Bz;exact⟨rfl,aW h hg x1.2⟩);simp_all
 next f first cQ ho=>
  split at hq
  next qkK=>
   have e1:first= #[]:=by grind
   subst e1;simp only[zam] at hq;subst hq;refine⟨.func (.func f) #[] (cQ.map a.eval),?_,?_⟩
   ·simp[ho,Instr.makeFunc]
   have:=aH.fn (F:=F) (w:=w) (G:=G) (R:=s.rg) f (cQ.toList.map a.eval) (cQ.toList.map (s.eg g)) (by simp) (λi v c hv hc=>by grind [aW]);have e:cQ.map a.eval=⟨cQ.toList.map a.eval⟩:=by grind
   rw[e];exact this
  cases hq
 next c ho=>
  split at hq
  next lB=>
   split at hq
   ·rename_i x cW;have ea:c.args= #[x]:=by grind
    split at hq
    next u hu=>obtain⟨r,h1,h2⟩:=up hq;refine⟨r,?_,h2⟩;have hx:=(aW h hg x).cF hu;simp[ho,resolve,lB,ea,invoke,builtin,hx,h1]
    split at hq
    next e het=>obtain⟨t0,ht0,het⟩:=zbH.1 het;obtain⟨r,h1,h2⟩:=Y0 (ty:=o.type) ht0 het (aW h hg x) hq;refine⟨r,?_,h2⟩;simp[ho,resolve,lB,ea,invoke,builtin,h1]
    split at hq
    next y DY=>obtain⟨t0,ht0,DY⟩:=zbH.1 DY;obtain⟨r,h1,h2⟩:=Y1 (ty:=o.type) h ht0 DY (aW h hg x) hq;refine⟨r,?_,h2⟩;simp[ho,resolve,lB,ea,invoke,builtin,h1]
    cases hq
   cases hq
  next lB=>
   split at hq
   ·rename_i vs Ow;obtain⟨r,h1,h2⟩:=up hq;refine⟨r,?_,h2⟩;have e:=xM h hg _ _ Ow;have e2:c.args.map a.eval=vs.toArray:=by grind
    simp[ho,resolve,lB,invoke,builtin,e2,h1]
   cases hq
  next lB=>
   split at hq
   ·rename_i vs Ow;obtain⟨r,h1,h2⟩:=up hq;refine⟨r,?_,h2⟩;have e:=xM h hg _ _ Ow;have e2:c.args.map a.eval=vs.toArray:=by grind
    simp[ho,resolve,lB,invoke,builtin,e2,h1]
   cases hq
  cases hq
 cases hq
end
end Pi
