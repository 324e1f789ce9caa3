/- The text PiPure. -/
import Derived.Test.YtngoddkencoalaaGreatDoorPiRep
namespace Pi
open Go
theorem dK{α:Type}{Q:Program}{m:Sem α}{v:α}(h:aA Q m=some v)(w:World):m.run Q w= .ok v w:=by
 induction m with
 |pure a=>simp[aA] at h;subst h;rfl
 |program k ih=>simp only[aA] at h;simp only[Sem.run];exact ih _ h
 |mark m k ih=>simp only[aA] at h;simp only[Sem.run];exact ih h
 |_=>simp[aA] at h
theorem MA{Q:Program}{m:Sem Value}{p:P}(h:eo Q m=some p)(F:Nat->Prop)(w:World)(G:Nat->Value)(R:List (Nat×En)): ∃v,m.run Q w= .ok v w/\aH F w G R v p:=by
 unfold eo at h;split at h
 next v hv=>
  split at h
  next x hx=>simp at h;subst h;exact⟨v,dK hv w,.d (bc.uK F w hx)⟩
  cases h
 cases h
theorem aH.cG{F:Nat->Prop}{w:World}{G:Nat->Value}{R:List (Nat×En)}{v u:Value}{p:P}(h:aH F w G R v p)(hu:p.cG=some u):v=u:=by
 cases h<;>simp[P.cG] at hu
 case d x h=>exact h.cG hu
theorem S.bM{s:S}{n v:Nat}{o:Obj}(h:s.obj n v=some o): ∃e,lk s.rg n=some e/\e.aZ=v/\e.obj=o:=by
 unfold S.obj at h;split at h
 next e he=>
  split at h
  next hv=>simp at h;exact⟨e,he,by simpa using hv,h⟩
  cases h
 cases h
theorem S.dF{s:S}{n v:Nat}(h:s.live n v=true): ∃e,lk s.rg n=some e/\e.aZ=v/\e.obj.live=true:=by
 unfold S.live at h;split at h
 ·cases h
 next o h1 h2=>obtain⟨e,he,hv,ho⟩:=S.bM h2;refine⟨e,he,hv,?_⟩;cases hh:e.obj<;>simp[Obj.live];exact h1 (by rw[<-hh,ho])
 cases h
theorem eG.at{R:List (Nat×En)}{n aZ:Nat}{C:Prop}(h:eG R n aZ C){e:En}(he:lk R n=some e)(hv:e.aZ=aZ)(hl:e.obj.live=true):C:=by obtain⟨e',cR,_,hc⟩:=h;rw[he] at cR;cases cR;exact hc hv.symm hl
def mf(a:Act):Option (Nat×Bool)->Prop
 |none=>True
 |some (t,b)=>a.tmps[t]?=some (.bool b)
section
variable{Q:Program}{T:Tg}{F:Nat->Prop}{G:Nat->Value}{w:World}{a:Act}{s:S}
theorem xP(h:aG Q T F G w a s)(x:Operand):cB F w G s.rg a.tmps (a.eval x) (s.ev x):=by
 cases x with
 |tmp t=>
  simp only[S.ev,Act.eval];cases hp:lk s.tm t with
  |none=>exact cB.of (.bad _)
  |some p=>exact h.tm t p hp
 |const v=>
  simp only[S.ev,Act.eval];split
  next x hx=>exact cB.of (.d (bc.uK F w hx))
  exact cB.of (.bad _)
 |func f=>simp only[S.ev,Act.eval];exact cB.of (.fn f [] [] rfl (λi v c hv=>by simp at hv))
 |global g=>exact cB.of (.bad _)
theorem PZ{g:Option (Nat×Bool)}(_:mf a g){v:Value}{p:P}(h:cB F w G s.rg a.tmps v p):aH F w G s.rg v (p.under g):=by
 cases p with
 |when t b q=>exact .bad _
 |_=>exact h
theorem a7(h:aG Q T F G w a s){g:Option (Nat×Bool)}(hg:mf a g)(x:Operand):aH F w G s.rg (a.eval x) (s.eg g x):=PZ hg (xP h x)
theorem WI{t:Nat}{v:Value}(h:a.tmps.getD t undef=v)(hv:v≠undef):t<a.tmps.size:=by
 by_cases ht:t<a.tmps.size
 ·exact ht
 simp[Array.getD,ht] at h;exact absurd h.symm hv
theorem Bp: ∀(ps:List P) (xs:List D),As ps=some xs->ps=xs.map P.d
 | [],xs,h=>by simp[As] at h;simp[h]
 |p::r,xs,h=>by
  cases p<;>simp[As] at h;rename_i x;cases hr:As r with
  |none=>simp[hr] at h
  |some ys=>simp[hr] at h;subst h;simp[Bp r ys hr]
theorem E5{R:List (Nat×En)}{vs:List Value}{ps:List P}(hl:vs.length=ps.length)(iC: ∀v∈vs,v.oneCell'=true)
  (hc: ∀(i:Nat) (v:Value) (c:P),vs[i]?=some v->ps[i]?=some c->aH F w G R v c):aH F w G R (.agg ⟨vs⟩) (KB ps):=by
 unfold KB;split
 next xs WH=>
  have e:=Bp ps xs WH;subst e;have hd: ∀(i:Nat) (v:Value) (c:D),vs[i]?=some v->xs[i]?=some c->bc F w v c:=λi v c hv jU=>by have:=hc i v (.d c) hv (by simp[jU]);cases this with |d h=>exact h
  refine .d (.agg vs xs (by simpa using hl) (λc jU=> ?_) hd);obtain⟨i,hi⟩:=zaQ jU;have bG:i<vs.length:=by have:=(zad.1 hi).1;simp at hl;omega
  exact(hd i _ c (zae bG) hi).bJ (iC _ (zas bG))
 exact .agg vs ps hl iC hc
theorem gA{t:TypeId}{k:Nat}(h:sz Q t=some k): ∃i d,Q.info? t=some i/\Q.underlying t=some d/\i.size=k:=by
 unfold sz at h;split at h
 next i d h1 h2=>exact⟨i,d,h1,h2,by simpa using h⟩
 cases h
theorem run_sizeOf{t:TypeId}{k:Nat}(h:sz Q t=some k)(w:World):(Go.sizeOf t).run Q w= .ok k w:=by obtain⟨i,d,hi,_,rfl⟩:=gA h;simp[Go.sizeOf,typeInfo,hi]
theorem qE{t:TypeId}{d:TypeDesc}(h:Q.underlying t=some d)(w:World):(Go.isAgg t).run Q w= .ok (dH Q t) w:=by unfold Go.isAgg dH;rw[Sem.run_bind,run_underlying h w,h];cases d<;>simp
theorem addr_add(b o n:Nat):(⟨b,o,none⟩:Addr).add n=⟨b,o+n,none⟩:=by
 unfold Addr.add;split
 ·subst_vars;rfl
 rfl
theorem P0{t:TypeId}{k:Nat}(hk:sz Q t=some k)(vs:List Value)(off:Nat)(hb: ∀j,j<(if dH Q t then k else 1)->off+j<vs.length)(w:World):
  (Go.part t ⟨vs⟩ off).run Q w= .ok (if dH Q t then .agg ((List.range k).map λj=>vs.getD (off+j) undef).toArray else vs.getD off undef) w:=by
 obtain⟨_,d,_,hd,_⟩:=gA hk;unfold Go.part;rw[Sem.run_bind,qE hd w];cases xe:dH Q t with
 |true=>
  simp only[xe,zba] at hb;simp only[Result.andThen_ok,zba,Sem.run_bind,run_sizeOf hk,Sem.run_pure];congr 3;rw[<-zbr];apply zcr;intro i;by_cases hi:i<k
  ·have:=hb i hi;simp[hi,zbx,this]
  simp[hi,zbg]
  try omega
 |false=>simp only[xe,zaz,zbk] at hb;have:=hb 0 (by omega);simp only[zbR] at this;simp[this]
theorem tD{t:TypeId}{k:Nat}{d:TypeDesc}(hk:sz Q t=some k)(hd:Q.underlying t=some d)(b o:Nat)(f:Nat->Value)(hf: ∀j,j<(if dH Q t then k else 1)->w.cell? ⟨b,o+j,none⟩=some (f j)):
  (loadVar t ⟨b,o,none⟩).run Q w= .ok (if dH Q t then .agg ((List.range k).map f).toArray else f 0) w:=by
 unfold loadVar;rw[Sem.run_bind,qE hd w];cases xe:dH Q t with
 |true=>simp only[xe,zba] at hf;have hl:=run_loadCells (P:=Q) w ⟨b,o,none⟩ k f (λj hj=>by rw[addr_add];exact hf j hj);simp[Sem.run_bind,run_sizeOf hk,hl]
 |false=>simp only[xe] at hf;have:=hf 0 (by simp);simp only[zbR] at this;simp[load,Sem.run,this]
theorem E6{R:List (Nat×En)}{t:TypeId}{ps:List P}{off:Nat}{p:P}(h:Bh Q t ps off=some p)(f:Nat->Value)(iC: ∀i,i<ps.length->(f i).oneCell'=true)
  (hp: ∀i c,ps[i]?=some c->aH F w G R (f i) c):
  ∃k,sz Q t=some k/\(∀j,j<(if dH Q t then k else 1)->off+j<ps.length)/\aH F w G R (if dH Q t then .agg ((List.range k).map λj=>f (off+j)).toArray else f off) p:=by
 unfold Bh at h;cases hk:sz Q t with
 |none=>simp[hk] at h
 |some k=>
  refine⟨k,rfl,?_⟩;simp only[hk] at h;cases xe:dH Q t with
  |true=>
   simp only[xe,zba] at h;split at h
   ·rename_i hle;have hle:off+k<=ps.length:=by simpa using hle
    simp at h;subst h;refine⟨λj hj=>by simp at hj;omega,?_⟩;simp only[zba];refine E5 (by simp;omega) (λv hv=>by simp at hv;obtain⟨j,hj,rfl⟩:=hv;exact iC _ (by omega)) (λi v c hv hc=> ?_);rw[zaK] at hv;rw[zbg] at hc;split at hc
    next hi=>rw[zch hi] at hv;simp at hv;subst hv;rw[zbx] at hc;exact hp _ c hc
    cases hc
   cases h
  |false=>simp only[xe] at h;have bG:off<ps.length:=(zad.1 (by simpa using h)).1;refine⟨λj hj=>by simp at hj;omega,?_⟩;simpa using hp off p (by simpa using h)
theorem E7{t:TypeId}{cs:List D}{off:Nat}{x:D}(h:jv Q t cs off=some x)(f:Nat->Value)(cj: ∀c∈cs,c.bJ=true)
  (hp: ∀i c,cs[i]?=some c->bc F w (f i) c):
  ∃k,sz Q t=some k/\(∀j,j<(if dH Q t then k else 1)->off+j<cs.length)/\bc F w (if dH Q t then .agg ((List.range k).map λj=>f (off+j)).toArray else f off) x:=by
 unfold jv at h;cases hk:sz Q t with
 |none=>simp[hk] at h
 |some k=>
  refine⟨k,rfl,?_⟩;simp only[hk] at h;cases xe:dH Q t with
  |true=>
   simp only[xe,zba] at h;split at h
   ·rename_i hle;have hle:off+k<=cs.length:=by simpa using hle
    simp at h;subst h;refine⟨λj hj=>by simp at hj;omega,?_⟩;simp only[zba];refine .agg _ _ (by simp;omega) (λc hc=>cj c (zbV (zbq hc))) (λi v c hv hc=> ?_);rw[zaK] at hv;rw[zbg] at hc;split at hc
    next hi=>rw[zch hi] at hv;simp at hv;subst hv;rw[zbx] at hc;exact hp _ c hc
    cases hc
   cases h
  |false=>simp only[xe] at h;have bG:off<cs.length:=(zad.1 (by simpa using h)).1;refine⟨λj hj=>by simp at hj;omega,?_⟩;simpa using hp off x (by simpa using h)
theorem uO{t:TypeId}{k:Nat}(h:sz Q t=some k): ∃d,Q.underlying t=some d:=by obtain⟨_,d,_,hd,_⟩:=gA h;exact⟨d,hd⟩
theorem sa{t:TypeId}{k:Nat}(hk:sz Q t=some k)(b o:Nat)(f:Nat->Value)(hf: ∀j,j<(if dH Q t then k else 1)->w.cell? ⟨b,o+j,none⟩=some (f j)):
  (Instr.loadAt t (.pointer (some ⟨b,o,none⟩))).run Q w= .ok (if dH Q t then .agg ((List.range k).map f).toArray else f 0) w:=by
 obtain⟨d,hd⟩:=uO hk;simp only[Instr.loadAt,Instr.sureAddr,Sem.run_bind,Sem.run_pure,Result.andThen_ok];exact tD hk hd b o f hf
theorem E8(h:aG Q T F G w a s){t:TypeId}{v:Value}{p q:P}(hv:aH F w G s.rg v p)(hq:rz Q s t p=some q): ∃u,(Instr.loadAt t v).run Q w= .ok u w/\aH F w G s.rg u q:=by
 unfold rz at hq;cases hv with
 |ref n aZ off v hr h1=>
  simp only at hq;split at hq
  next ty ps ho=>obtain⟨e,he,dY,ca⟩:=S.bM ho;obtain⟨b,hG,rfl⟩:=hr.at he dY (by rw[ca];rfl);have hO:=h.rg n e he;rw[ca] at hO;obtain⟨b',cs,o7,hh,dB,iC,rD⟩:=hO;rw[hG] at o7;simp at o7;subst o7;obtain⟨k,hk,bG,Iw⟩:=E6 (R:=s.rg) hq (λi=>cs.getD i undef) (λi hi=>iC _ (by simp[Array.getD,dB,hi])) rD;refine⟨_,sa hk b off (λj=>cs.getD (off+j) undef) (λj hj=> ?_),Iw⟩;have:=bG j hj;rw[cell_of_row w b (off+j) cs ty (0,0) hh];simp[Array.getD,dB,this]
  cases hq
 |dG n aZ i k off v h1 hr=>
  simp only at hq;split at hq
  next ty fz es ho=>
   obtain⟨e,he,dY,ca⟩:=S.bM ho;obtain⟨b,N,cap,hG,rfl⟩:=hr.at he dY (by rw[ca];rfl);have hO:=h.rg n e he;rw[ca] at hO;split at hq
   ·rename_i k' x mV hx;split at hq
    ·rename_i jV;have jV:k=k':=by simpa using jV
     subst jV;split at hq
     ·rename_i y hy;simp at hq;subst hq;rcases hO with⟨o7,_⟩| ⟨b',iV,cs,k2,o7,hh,sW,gB,hle,CO,dB,_,hE⟩
      ·rw[hG] at o7;cases o7
      rw[hG] at o7;simp at o7;obtain⟨rfl,_,_⟩:=o7;rw[mV] at sW;cases sW;obtain⟨hl,cj,hcs⟩:=hE i x hx;obtain⟨k3,hk3,bG,Iw⟩:=E7 hy (λj=>cs.getD (i*k+j) undef) cj (λj c hc=>hcs j c hc);have hi:i<es.length:=(zad.1 hx).1;refine⟨_,sa hk3 b (i*k+off) (λj=>cs.getD (i*k+(off+j)) undef) (λj hj=> ?_),.d Iw⟩;have h2:=bG j hj;rw[hl] at h2;have h3:i*k+(off+j)<cs.size:=by
       rw[dB]
       calc i*k+(off+j)<i*k+k:=by omega
        _=(i+1)*k:=by rw[zaV,zbs]
        _<=iV*k:=zaq _ (by omega)
      rw[cell_of_row w b _ cs ty (0,0) hh,zbB];simp[Array.getD,h3]
     cases hq
    cases hq
   cases hq
  cases hq
 |fe x off b o hb cj f hw hr=>
  simp only at hq;split at hq
  next y hy=>simp at hq;subst hq;obtain⟨k3,hk3,bG,Iw⟩:=E7 hy f cj hr;refine⟨_,sa hk3 b (o+off) (λj=>f (off+j)) (λj hj=> ?_),.d Iw⟩;rw[zbB];exact hw _ (bG j hj)
  cases hq
 |_=>cases hq
theorem Aw{v:Value}{p q:P}(hv:aH F w G s.rg v p)(hq:kO s p=some q):q=p/\((∃b,v= .pointer (some b))\/ ∃f c1 c2,v= .func (.func f) c1 c2):=by
 unfold kO at hq;cases hv with
 |ref n aZ off v hr h1=>
  simp only at hq;split at hq
  next hl=>obtain⟨e,he,dY,hl⟩:=S.dF hl;obtain⟨b,_,hv⟩:=hr.at he dY hl;exact⟨by simpa using hq.symm,.inl ⟨_,hv⟩⟩
  cases hq
 |dG n aZ i k off v h1 hr=>
  simp only at hq;split at hq
  next hl=>obtain⟨e,he,dY,hl⟩:=S.dF hl;obtain⟨b,N,cap,_,hv⟩:=hr.at he dY hl;exact⟨by simpa using hq.symm,.inl ⟨_,hv⟩⟩
  cases hq
 |fe x off b o hb cj f hw hr=>exact⟨by simpa using hq.symm,.inl ⟨_,rfl⟩⟩
 |fn f vs cP hl hc=>exact⟨by simpa using hq.symm,.inr ⟨_,_,_,rfl⟩⟩
 |_=>cases hq
theorem mI{t:TypeId}{f o:Nat}(h:xJ Q t f=some o)(b off:Nat)(w:World):(Instr.fieldAt t (.pointer (some ⟨b,off,none⟩)) f).run Q w= .ok (.pointer (some ⟨b,off+o,none⟩)) w:=by
 unfold xJ at h;split at h
 next fs hfs=>
  split at h
  next fl wI=>
   split at h
   next k hk=>simp at h;subst h;simp[Instr.fieldAt,run_underlying hfs,wI,Instr.sureAddr,fieldPlace,run_sizeOf hk,addr_add]
   cases h
  cases h
 cases h
theorem Ax{t:TypeId}{f:Nat}{v:Value}{p q:P}(hv:aH F w G s.rg v p)(hq:iT Q s t f p=some q): ∃u,(Instr.fieldAt t v f).run Q w= .ok u w/\aH F w G s.rg u q:=by
 unfold iT at hq;split at hq
 ·cases hq
 rename_i o ho;cases hv with
 |ref n aZ off v hr h1=>
  simp only at hq;split at hq
  next hl=>simp at hq;subst hq;obtain⟨e,he,dY,hl⟩:=S.dF hl;obtain⟨b,hG,rfl⟩:=hr.at he dY hl;exact⟨_,mI ho b off w,.ref n aZ (off+o) _ ⟨e,he,by omega,λ_ _=>⟨b,hG,rfl⟩⟩ rfl⟩
  cases hq
 |dG n aZ i k off v h1 hr=>
  simp only at hq;split at hq
  next hl=>simp at hq;subst hq;obtain⟨e,he,dY,hl⟩:=S.dF hl;obtain⟨b,N,cap,hG,rfl⟩:=hr.at he dY hl;exact⟨_,mI ho b (i*k+off) w,.dG n aZ i k (off+o) _ rfl ⟨e,he,by omega,λ_ _=>⟨b,N,cap,hG,by rw[zbB]⟩⟩⟩
  cases hq
 |fe x off b o' hb cj f' hw hr=>simp at hq;subst hq;refine⟨_,mI ho b (o'+off) w,?_⟩;rw[zbB];exact .fe x (off+o) b o' hb cj f' hw hr
 |_=>cases hq
theorem dL{t e:TypeId}(h:cQ Q t=some e):Q.underlying t=some (.slice e):=by
 unfold cQ at h;split at h
 next e' he=>simp at h;rw[he,h]
 cases h
theorem WJ{t e:TypeId}(h:Q.underlying t=some (.slice e)):Q.elem t=e:=by simp[Program.elem,h]
theorem Ix{t e:TypeId}{n:Nat}(h:KC Q t=some (n,e)):Q.underlying t=some (.array n e):=by
 unfold KC at h;split at h
 next n' e' he=>simp at h;rw[he,h.1,h.2]
 cases h
theorem jW{t e:TypeId}{n k:Nat}(ht:Q.underlying t=some (.array n e))(hk:sz Q e=some k)(b off:Nat)(kk:IntKind){j:Int}(hj:0<=j/\j<(n:Int)):
  (Instr.indexAt t (.pointer (some ⟨b,off,none⟩)) (.int kk j)).run Q w= .ok (.pointer (some ⟨b,off+j.toNat*k,none⟩)) w:=by
 simp[Instr.indexAt,asIntOf,run_underlying ht,Instr.sureAddr,hj,run_sizeOf hk,addr_add]
theorem E9{t e:TypeId}{n:Nat}{v u:Value}{p i q:P}(ht:Q.underlying t=some (.array n e))(hv:aH F w G s.rg v p)(hu:aH F w G s.rg u i)(hq:pw Q s n e p i=some q):
  ∃x,(Instr.indexAt t v u).run Q w= .ok x w/\aH F w G s.rg x q:=by
 unfold pw at hq;split at hq
 next kk j k hk=>
  cases hu with
  |d hu=>
   cases hu;split at hq
   ·rename_i hj;cases hv with
    |ref n aZ off v hr h1=>
     simp only at hq;split at hq
     next hl=>simp at hq;subst hq;obtain⟨en,he,dY,hl⟩:=S.dF hl;obtain⟨b,hG,rfl⟩:=hr.at he dY hl;exact⟨_,jW ht hk b off kk hj,.ref n aZ _ _ ⟨en,he,by omega,λ_ _=>⟨b,hG,rfl⟩⟩ rfl⟩
     cases hq
    |dG n aZ i k' off v h1 hr=>
     simp only at hq;split at hq
     next hl=>simp at hq;subst hq;obtain⟨en,he,dY,hl⟩:=S.dF hl;obtain⟨b,N,cap,hG,rfl⟩:=hr.at he dY hl;exact⟨_,jW ht hk b _ kk hj,.dG n aZ i k' _ _ rfl ⟨en,he,by omega,λ_ _=>⟨b,N,cap,hG,by rw[zbB]⟩⟩⟩
     cases hq
    |fe x off b o hb cj f hw hr=>simp at hq;subst hq;refine⟨_,jW ht hk b _ kk hj,?_⟩;rw[zbB];exact .fe x _ b o hb cj f hw hr
    |_=>cases hq
   cases hq
 cases hq
theorem Ay(h:aG Q T F G w a s){t:TypeId}{v u:Value}{p i q:P}(hv:aH F w G s.rg v p)(hu:aH F w G s.rg u i)(hq:fj Q s t p i=some q):
  ∃x,(Instr.indexAt t v u).run Q w= .ok x w/\aH F w G s.rg x q:=by
 unfold fj at hq;split at hq
 next n e het=>exact E9 (Ix het) hv hu hq
 split at hq
 next _ e kk j het=>
  have oQ:=dL het;have O0:=WJ oQ;cases hu with
  |d hu=>
   cases hu;split at hq
   ·rename_i k hk;cases hv with
    |sl n aZ len v h1 hr=>
     simp only at hq;split at hq
     ·rename_i ty fz es ho;split at hq
      ·rename_i CP;have CP:ty=e:=by simpa using CP
       subst CP;split at hq
       ·rename_i hj;simp at hq;subst hq;obtain⟨en,he,dY,ca⟩:=S.bM ho;obtain⟨a0,N,cap,hG,rfl,hle⟩:=hr.at he dY (by rw[ca];rfl);have hO:=h.rg n en he;rw[ca] at hO;rcases hO with⟨o7,_⟩| ⟨b',iV,cs,k2,o7,hh,sW,gB,qck,CO,dB,_,hE⟩
        ·rw[hG] at o7;simp at o7;omega
        rw[hG] at o7;simp at o7;obtain⟨rfl,rfl,rfl⟩:=o7;refine⟨_,?_,.dG n aZ j.toNat (k+1) 0 (.pointer (some ⟨b',j.toNat*(k+1)+0,none⟩)) rfl ⟨en,he,by omega,λ_ _=>⟨b',_,_,hG,rfl⟩⟩⟩;rw[run_indexAt_slice w t ⟨b',0,none⟩ len cap _ j (by rw[O0];exact oQ),zao hj,O0,run_sizeOf hk];simp[addr_add]
       cases hq
      cases hq
     cases hq
    |l0 n aZ k0 WK len v h1 hr=>
     simp only at hq;split at hq
     ·rename_i ty fz es ho;split at hq
      ·rename_i CP;rw[zab] at CP;have qiH:ty=e:=zaf CP.1;have qiI:k0=k+1:=zaf CP.2;subst qiH qiI;split at hq
       ·rename_i hj;simp at hq;subst hq;obtain⟨en,he,dY,ca⟩:=S.bM ho;obtain⟨a0,N,cap,hG,hle,a1,qZ,rfl,P9,hz⟩:=hr.at he dY (by rw[ca];rfl);obtain⟨b',ha0,Qa⟩: ∃b,a0=some ⟨b,0,none⟩/\a1=some ⟨b,WK*(k+1),none⟩:=by
         rcases hz with hz |hz
         ·omega
         exact hz
        subst ha0 Qa;refine⟨_,?_,.dG n aZ (WK+j.toNat) (k+1) 0 (.pointer (some ⟨b',(WK+j.toNat)*(k+1)+0,none⟩)) rfl ⟨en,he,by omega,λ_ _=>⟨b',_,_,hG,rfl⟩⟩⟩;rw[run_indexAt_slice w t ⟨b',WK*(k+1),none⟩ len qZ _ j (by rw[O0];exact oQ),zao hj,O0,run_sizeOf hk];simp[addr_add,zaV]
       cases hq
      cases hq
     cases hq
    |d hv=>
     cases hv with
     |OZ a0 k' cap=>simp at hq
     |PW b off k' cap es f CO hb jV cj hw hr=>
      simp only at hq;split at hq
      ·rename_i qcl;have qcl:k'=k+1:=by simpa using qcl
       subst qcl;split at hq
       ·rename_i hj;split at hq
        ·rename_i x hx;simp at hq;subst hq;have hi:j.toNat<es.length:=(zad.1 hx).1;have hxm:x∈es:=zaC hx;refine⟨.pointer (some ⟨b,off+j.toNat*(k+1)+0,none⟩),?_,.fe x 0 b (off+j.toNat*(k+1)) hb (cj x hxm) (λm=>f (j.toNat*(k+1)+m)) (λm hm=> ?_) (λm c hc=>hr _ _ _ _ hx hc)⟩
         ·rw[run_indexAt_slice w t ⟨b,off,none⟩ es.length cap _ j (by rw[O0];exact oQ),zao (by omega),O0,run_sizeOf hk];simp[addr_add]
         rw[zbB];refine hw _ ?_;rw[jV x hxm] at hm
         calc j.toNat*(k+1)+m<j.toNat*(k+1)+(k+1):=by omega
          _=(j.toNat+1)*(k+1):=by rw[zaV,zbs]
          _<=es.length*(k+1):=zaq _ (by omega)
        cases hq
       cases hq
      cases hq
     |_=>cases hq
    |_=>cases hq
   cases hq
 cases hq
end
end Pi
