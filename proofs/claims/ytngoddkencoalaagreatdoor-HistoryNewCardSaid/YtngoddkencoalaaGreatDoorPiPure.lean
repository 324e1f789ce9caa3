/- The text PiPure. -/
import Derived.Test.YtngoddkencoalaaGreatDoorPiRep
namespace Pi
open Go
theorem dD{α:Type}{Q:Program}{m:Sem α}{v:α}(h:ax Q m=some v)(w:World):m.run Q w= .ok v w:=by
 induction m with
 |pure a=>simp[ax] at h;subst h;rfl
 |program k ih=>simp only[ax] at h;simp only[Sem.run];exact ih _ h
 |mark m k ih=>simp only[ax] at h;simp only[Sem.run];exact ih h
 |_=>simp[ax] at h
theorem L1{Q:Program}{m:Sem Value}{p:P}(h:dV Q m=some p)(F:Nat->Prop)(w:World)(G:Nat->Value)(R:List (Nat×En)): ∃v,m.run Q w= .ok v w/\aF F w G R v p:=by
 unfold dV at h;split at h
 next v hv=>
  split at h
  next x hx=>simp at h;subst h;exact⟨v,dD hv w,.d (a8.tM F w hx)⟩
  cases h
 cases h
theorem aF.cA{F:Nat->Prop}{w:World}{G:Nat->Value}{R:List (Nat×En)}{v u:Value}{p:P}(h:aF F w G R v p)(hu:p.cA=some u):v=u:=by
 cases h<;>simp[P.cA] at hu
 case d x h=>exact h.cA hu
theorem S.bJ{s:S}{n v:Nat}{o:Obj}(h:s.obj n v=some o): ∃e,lk s.rg n=some e/\e.aY=v/\e.obj=o:=by
 unfold S.obj at h;split at h
 next e he=>
  split at h
  next hv=>simp at h;exact⟨e,he,by simpa using hv,h⟩
  cases h
 cases h
theorem S.dy{s:S}{n v:Nat}(h:s.live n v=true): ∃e,lk s.rg n=some e/\e.aY=v/\e.obj.live=true:=by
 unfold S.live at h;split at h
 ·cases h
 next o h1 h2=>obtain⟨e,he,hv,ho⟩:=S.bJ h2;refine⟨e,he,hv,?_⟩;cases hh:e.obj<;>simp[Obj.live];exact h1 (by rw[<-hh,ho])
 cases h
theorem ez.at{R:List (Nat×En)}{n aY:Nat}{C:Prop}(h:ez R n aY C){e:En}(he:lk R n=some e)(hv:e.aY=aY)(hl:e.obj.live=true):C:=by obtain⟨e',cK,_,hc⟩:=h;rw[he] at cK;cases cK;exact hc hv.symm hl
def lP(a:Act):Option (Nat×Bool)->Prop
 |none=>True
 |some (t,b)=>a.tmps[t]?=some (.bool b)
section
variable{Q:Program}{T:Tg}{F:Nat->Prop}{G:Nat->Value}{w:World}{a:Act}{s:S}
theorem w8(h:aD Q T F G w a s)(x:Operand):cx F w G s.rg a.tmps (a.eval x) (s.ev x):=by
 cases x with
 |tmp t=>
  simp only[S.ev,Act.eval];cases hp:lk s.tm t with
  |none=>exact cx.of (.bad _)
  |some p=>exact h.tm t p hp
 |const v=>
  simp only[S.ev,Act.eval];split
  next x hx=>exact cx.of (.d (a8.tM F w hx))
  exact cx.of (.bad _)
 |func f=>simp only[S.ev,Act.eval];exact cx.of (.fn f [] [] rfl (λi v c hv=>by simp at hv))
 |global g=>exact cx.of (.bad _)
theorem Pa{g:Option (Nat×Bool)}(_:lP a g){v:Value}{p:P}(h:cx F w G s.rg a.tmps v p):aF F w G s.rg v (p.under g):=by
 cases p with
 |when t b q=>exact .bad _
 |_=>exact h
theorem a7(h:aD Q T F G w a s){g:Option (Nat×Bool)}(hg:lP a g)(x:Operand):aF F w G s.rg (a.eval x) (s.eg g x):=Pa hg (w8 h x)
theorem VZ{t:Nat}{v:Value}(h:a.tmps.getD t undef=v)(hv:v≠undef):t<a.tmps.size:=by
 by_cases ht:t<a.tmps.size
 ·exact ht
 simp[Array.getD,ht] at h;exact absurd h.symm hv
theorem AJ: ∀(ps:List P) (xs:List D),zJ ps=some xs->ps=xs.map P.d
 | [],xs,h=>by simp[zJ] at h;simp[h]
 |p::r,xs,h=>by
  cases p<;>simp[zJ] at h;rename_i x;cases hr:zJ r with
  |none=>simp[hr] at h
  |some ys=>simp[hr] at h;subst h;simp[AJ r ys hr]
theorem Es{R:List (Nat×En)}{vs:List Value}{ps:List P}(hl:vs.length=ps.length)(im: ∀v∈vs,v.oneCell'=true)
  (hc: ∀(i:Nat) (v:Value) (c:P),vs[i]?=some v->ps[i]?=some c->aF F w G R v c):aF F w G R (.agg ⟨vs⟩) (J3 ps):=by
 unfold J3;split
 next xs VY=>
  have e:=AJ ps xs VY;subst e;have hd: ∀(i:Nat) (v:Value) (c:D),vs[i]?=some v->xs[i]?=some c->a8 F w v c:=λi v c hv jI=>by have:=hc i v (.d c) hv (by simp[jI]);cases this with |d h=>exact h
  refine .d (.agg vs xs (by simpa using hl) (λc jI=> ?_) hd);obtain⟨i,hi⟩:=zaS jI;have bI:i<vs.length:=by have:=(zad.1 hi).1;simp at hl;omega
  exact(hd i _ c (zae bI) hi).bF (im _ (zas bI))
 exact .agg vs ps hl im hc
theorem gm{t:TypeId}{k:Nat}(h:sz Q t=some k): ∃i d,Q.info? t=some i/\Q.underlying t=some d/\i.size=k:=by
 unfold sz at h;split at h
 next i d h1 h2=>exact⟨i,d,h1,h2,by simpa using h⟩
 cases h
theorem run_sizeOf{t:TypeId}{k:Nat}(h:sz Q t=some k)(w:World):(Go.sizeOf t).run Q w= .ok k w:=by obtain⟨i,d,hi,_,rfl⟩:=gm h;simp[Go.sizeOf,typeInfo,hi]
theorem p7{t:TypeId}{d:TypeDesc}(h:Q.underlying t=some d)(w:World):(Go.isAgg t).run Q w= .ok (dA Q t) w:=by unfold Go.isAgg dA;rw[Sem.run_bind,run_underlying h w,h];cases d<;>simp
theorem addr_add(b o n:Nat):(⟨b,o,none⟩:Addr).add n=⟨b,o+n,none⟩:=by
 unfold Addr.add;split
 ·subst_vars;rfl
 rfl
theorem Pb{t:TypeId}{k:Nat}(hk:sz Q t=some k)(vs:List Value)(off:Nat)(hb: ∀j,j<(if dA Q t then k else 1)->off+j<vs.length)(w:World):
  (Go.part t ⟨vs⟩ off).run Q w= .ok (if dA Q t then .agg ((List.range k).map λj=>vs.getD (off+j) undef).toArray else vs.getD off undef) w:=by
 obtain⟨_,d,_,hd,_⟩:=gm hk;unfold Go.part;rw[Sem.run_bind,p7 hd w];cases wo:dA Q t with
 |true=>
  simp only[wo,zbb] at hb;simp only[Result.andThen_ok,zbb,Sem.run_bind,run_sizeOf hk,Sem.run_pure];congr 3;rw[<-zbs];apply zcp;intro i;by_cases hi:i<k
  ·have:=hb i hi;simp[hi,zby,this]
  simp[hi,zbe]
  try omega
 |false=>simp only[wo,zaB,zbj] at hb;have:=hb 0 (by omega);simp only[zbQ] at this;simp[this]
theorem sA{t:TypeId}{k:Nat}{d:TypeDesc}(hk:sz Q t=some k)(hd:Q.underlying t=some d)(b o:Nat)(f:Nat->Value)(hf: ∀j,j<(if dA Q t then k else 1)->w.cell? ⟨b,o+j,none⟩=some (f j)):
  (loadVar t ⟨b,o,none⟩).run Q w= .ok (if dA Q t then .agg ((List.range k).map f).toArray else f 0) w:=by
 unfold loadVar;rw[Sem.run_bind,p7 hd w];cases wo:dA Q t with
 |true=>simp only[wo,zbb] at hf;have hl:=run_loadCells (P:=Q) w ⟨b,o,none⟩ k f (λj hj=>by rw[addr_add];exact hf j hj);simp[Sem.run_bind,run_sizeOf hk,hl]
 |false=>simp only[wo] at hf;have:=hf 0 (by simp);simp only[zbQ] at this;simp[load,Sem.run,this]
theorem Et{R:List (Nat×En)}{t:TypeId}{ps:List P}{off:Nat}{p:P}(h:Az Q t ps off=some p)(f:Nat->Value)(im: ∀i,i<ps.length->(f i).oneCell'=true)
  (hp: ∀i c,ps[i]?=some c->aF F w G R (f i) c):
  ∃k,sz Q t=some k/\(∀j,j<(if dA Q t then k else 1)->off+j<ps.length)/\aF F w G R (if dA Q t then .agg ((List.range k).map λj=>f (off+j)).toArray else f off) p:=by
 unfold Az at h;cases hk:sz Q t with
 |none=>simp[hk] at h
 |some k=>
  refine⟨k,rfl,?_⟩;simp only[hk] at h;cases wo:dA Q t with
  |true=>
   simp only[wo,zbb] at h;split at h
   ·rename_i hle;have hle:off+k<=ps.length:=by simpa using hle
    simp at h;subst h;refine⟨λj hj=>by simp at hj;omega,?_⟩;simp only[zbb];refine Es (by simp;omega) (λv hv=>by simp at hv;obtain⟨j,hj,rfl⟩:=hv;exact im _ (by omega)) (λi v c hv hc=> ?_);rw[zaJ] at hv;rw[zbe] at hc;split at hc
    next hi=>rw[zcd hi] at hv;simp at hv;subst hv;rw[zby] at hc;exact hp _ c hc
    cases hc
   cases h
  |false=>simp only[wo] at h;have bI:off<ps.length:=(zad.1 (by simpa using h)).1;refine⟨λj hj=>by simp at hj;omega,?_⟩;simpa using hp off p (by simpa using h)
theorem Eu{t:TypeId}{cs:List D}{off:Nat}{x:D}(h:jf Q t cs off=some x)(f:Nat->Value)(cc: ∀c∈cs,c.bF=true)
  (hp: ∀i c,cs[i]?=some c->a8 F w (f i) c):
  ∃k,sz Q t=some k/\(∀j,j<(if dA Q t then k else 1)->off+j<cs.length)/\a8 F w (if dA Q t then .agg ((List.range k).map λj=>f (off+j)).toArray else f off) x:=by
 unfold jf at h;cases hk:sz Q t with
 |none=>simp[hk] at h
 |some k=>
  refine⟨k,rfl,?_⟩;simp only[hk] at h;cases wo:dA Q t with
  |true=>
   simp only[wo,zbb] at h;split at h
   ·rename_i hle;have hle:off+k<=cs.length:=by simpa using hle
    simp at h;subst h;refine⟨λj hj=>by simp at hj;omega,?_⟩;simp only[zbb];refine .agg _ _ (by simp;omega) (λc hc=>cc c (zbV (zbq hc))) (λi v c hv hc=> ?_);rw[zaJ] at hv;rw[zbe] at hc;split at hc
    next hi=>rw[zcd hi] at hv;simp at hv;subst hv;rw[zby] at hc;exact hp _ c hc
    cases hc
   cases h
  |false=>simp only[wo] at h;have bI:off<cs.length:=(zad.1 (by simpa using h)).1;refine⟨λj hj=>by simp at hj;omega,?_⟩;simpa using hp off x (by simpa using h)
theorem tQ{t:TypeId}{k:Nat}(h:sz Q t=some k): ∃d,Q.underlying t=some d:=by obtain⟨_,d,_,hd,_⟩:=gm h;exact⟨d,hd⟩
theorem rq{t:TypeId}{k:Nat}(hk:sz Q t=some k)(b o:Nat)(f:Nat->Value)(hf: ∀j,j<(if dA Q t then k else 1)->w.cell? ⟨b,o+j,none⟩=some (f j)):
  (Instr.loadAt t (.pointer (some ⟨b,o,none⟩))).run Q w= .ok (if dA Q t then .agg ((List.range k).map f).toArray else f 0) w:=by
 obtain⟨d,hd⟩:=tQ hk;simp only[Instr.loadAt,Instr.sureAddr,Sem.run_bind,Sem.run_pure,Result.andThen_ok];exact sA hk hd b o f hf
theorem Ew(h:aD Q T F G w a s){t:TypeId}{v:Value}{p q:P}(hv:aF F w G s.rg v p)(hq:qM Q s t p=some q): ∃u,(Instr.loadAt t v).run Q w= .ok u w/\aF F w G s.rg u q:=by
 unfold qM at hq;cases hv with
 |ref n aY off v hr h1=>
  simp only at hq;split at hq
  next ty ps ho=>obtain⟨e,he,dR,bV⟩:=S.bJ ho;obtain⟨b,hG,rfl⟩:=hr.at he dR (by rw[bV];rfl);have hO:=h.rg n e he;rw[bV] at hO;obtain⟨b',cs,oC,hh,dt,im,qQ⟩:=hO;rw[hG] at oC;simp at oC;subst oC;obtain⟨k,hk,bI,HS⟩:=Et (R:=s.rg) hq (λi=>cs.getD i undef) (λi hi=>im _ (by simp[Array.getD,dt,hi])) qQ;refine⟨_,rq hk b off (λj=>cs.getD (off+j) undef) (λj hj=> ?_),HS⟩;have:=bI j hj;rw[cell_of_row w b (off+j) cs ty (0,0) hh];simp[Array.getD,dt,this]
  cases hq
 |dz n aY i k off v h1 hr=>
  simp only at hq;split at hq
  next ty fz es ho=>
   obtain⟨e,he,dR,bV⟩:=S.bJ ho;obtain⟨b,N,cap,hG,rfl⟩:=hr.at he dR (by rw[bV];rfl);have hO:=h.rg n e he;rw[bV] at hO;split at hq
   ·rename_i k' x mz hx;split at hq
    ·rename_i jJ;have jJ:k=k':=by simpa using jJ
     subst jJ;split at hq
     ·rename_i y hy;simp at hq;subst hq;rcases hO with⟨oC,_⟩| ⟨b',iK,cs,k2,oC,hh,r6,gn,hle,Cc,dt,_,hE⟩
      ·rw[hG] at oC;cases oC
      rw[hG] at oC;simp at oC;obtain⟨rfl,_,_⟩:=oC;rw[mz] at r6;cases r6;obtain⟨hl,cc,hcs⟩:=hE i x hx;obtain⟨k3,hk3,bI,HS⟩:=Eu hy (λj=>cs.getD (i*k+j) undef) cc (λj c hc=>hcs j c hc);have hi:i<es.length:=(zad.1 hx).1;refine⟨_,rq hk3 b (i*k+off) (λj=>cs.getD (i*k+(off+j)) undef) (λj hj=> ?_),.d HS⟩;have h2:=bI j hj;rw[hl] at h2;have h3:i*k+(off+j)<cs.size:=by
       rw[dt]
       calc i*k+(off+j)<i*k+k:=by omega
        _=(i+1)*k:=by rw[zaV,zbt]
        _<=iK*k:=zaq _ (by omega)
      rw[cell_of_row w b _ cs ty (0,0) hh,zbB];simp[Array.getD,h3]
     cases hq
    cases hq
   cases hq
  cases hq
 |e8 x off b o hb cc f hw hr=>
  simp only at hq;split at hq
  next y hy=>simp at hq;subst hq;obtain⟨k3,hk3,bI,HS⟩:=Eu hy f cc hr;refine⟨_,rq hk3 b (o+off) (λj=>f (off+j)) (λj hj=> ?_),.d HS⟩;rw[zbB];exact hw _ (bI j hj)
  cases hq
 |_=>cases hq
theorem zM{v:Value}{p q:P}(hv:aF F w G s.rg v p)(hq:kr s p=some q):q=p/\((∃b,v= .pointer (some b))\/ ∃f c1 c2,v= .func (.func f) c1 c2):=by
 unfold kr at hq;cases hv with
 |ref n aY off v hr h1=>
  simp only at hq;split at hq
  next hl=>obtain⟨e,he,dR,hl⟩:=S.dy hl;obtain⟨b,_,hv⟩:=hr.at he dR hl;exact⟨by simpa using hq.symm,.inl ⟨_,hv⟩⟩
  cases hq
 |dz n aY i k off v h1 hr=>
  simp only at hq;split at hq
  next hl=>obtain⟨e,he,dR,hl⟩:=S.dy hl;obtain⟨b,N,cap,_,hv⟩:=hr.at he dR hl;exact⟨by simpa using hq.symm,.inl ⟨_,hv⟩⟩
  cases hq
 |e8 x off b o hb cc f hw hr=>exact⟨by simpa using hq.symm,.inl ⟨_,rfl⟩⟩
 |fn f vs cI hl hc=>exact⟨by simpa using hq.symm,.inr ⟨_,_,_,rfl⟩⟩
 |_=>cases hq
theorem mb{t:TypeId}{f o:Nat}(h:wY Q t f=some o)(b off:Nat)(w:World):(Instr.fieldAt t (.pointer (some ⟨b,off,none⟩)) f).run Q w= .ok (.pointer (some ⟨b,off+o,none⟩)) w:=by
 unfold wY at h;split at h
 next fs hfs=>
  split at h
  next fl vH=>
   split at h
   next k hk=>simp at h;subst h;simp[Instr.fieldAt,run_underlying hfs,vH,Instr.sureAddr,fieldPlace,run_sizeOf hk,addr_add]
   cases h
  cases h
 cases h
theorem zN{t:TypeId}{f:Nat}{v:Value}{p q:P}(hv:aF F w G s.rg v p)(hq:iI Q s t f p=some q): ∃u,(Instr.fieldAt t v f).run Q w= .ok u w/\aF F w G s.rg u q:=by
 unfold iI at hq;split at hq
 ·cases hq
 rename_i o ho;cases hv with
 |ref n aY off v hr h1=>
  simp only at hq;split at hq
  next hl=>simp at hq;subst hq;obtain⟨e,he,dR,hl⟩:=S.dy hl;obtain⟨b,hG,rfl⟩:=hr.at he dR hl;exact⟨_,mb ho b off w,.ref n aY (off+o) _ ⟨e,he,by omega,λ_ _=>⟨b,hG,rfl⟩⟩ rfl⟩
  cases hq
 |dz n aY i k off v h1 hr=>
  simp only at hq;split at hq
  next hl=>simp at hq;subst hq;obtain⟨e,he,dR,hl⟩:=S.dy hl;obtain⟨b,N,cap,hG,rfl⟩:=hr.at he dR hl;exact⟨_,mb ho b (i*k+off) w,.dz n aY i k (off+o) _ rfl ⟨e,he,by omega,λ_ _=>⟨b,N,cap,hG,by rw[zbB]⟩⟩⟩
  cases hq
 |e8 x off b o' hb cc f' hw hr=>simp at hq;subst hq;refine⟨_,mb ho b (o'+off) w,?_⟩;rw[zbB];exact .e8 x (off+o) b o' hb cc f' hw hr
 |_=>cases hq
theorem dE{t e:TypeId}(h:cJ Q t=some e):Q.underlying t=some (.slice e):=by
 unfold cJ at h;split at h
 next e' he=>simp at h;rw[he,h]
 cases h
theorem V0{t e:TypeId}(h:Q.underlying t=some (.slice e)):Q.elem t=e:=by simp[Program.elem,h]
theorem HT{t e:TypeId}{n:Nat}(h:J4 Q t=some (n,e)):Q.underlying t=some (.array n e):=by
 unfold J4 at h;split at h
 next n' e' he=>simp at h;rw[he,h.1,h.2]
 cases h
theorem jK{t e:TypeId}{n k:Nat}(ht:Q.underlying t=some (.array n e))(hk:sz Q e=some k)(b off:Nat)(kk:IntKind){j:Int}(hj:0<=j/\j<(n:Int)):
  (Instr.indexAt t (.pointer (some ⟨b,off,none⟩)) (.int kk j)).run Q w= .ok (.pointer (some ⟨b,off+j.toNat*k,none⟩)) w:=by
 simp[Instr.indexAt,asIntOf,run_underlying ht,Instr.sureAddr,hj,run_sizeOf hk,addr_add]
theorem Ex{t e:TypeId}{n:Nat}{v u:Value}{p i q:P}(ht:Q.underlying t=some (.array n e))(hv:aF F w G s.rg v p)(hu:aF F w G s.rg u i)(hq:oU Q s n e p i=some q):
  ∃x,(Instr.indexAt t v u).run Q w= .ok x w/\aF F w G s.rg x q:=by
 unfold oU at hq;split at hq
 next kk j k hk=>
  cases hu with
  |d hu=>
   cases hu;split at hq
   ·rename_i hj;cases hv with
    |ref n aY off v hr h1=>
     simp only at hq;split at hq
     next hl=>simp at hq;subst hq;obtain⟨en,he,dR,hl⟩:=S.dy hl;obtain⟨b,hG,rfl⟩:=hr.at he dR hl;exact⟨_,jK ht hk b off kk hj,.ref n aY _ _ ⟨en,he,by omega,λ_ _=>⟨b,hG,rfl⟩⟩ rfl⟩
     cases hq
    |dz n aY i k' off v h1 hr=>
     simp only at hq;split at hq
     next hl=>simp at hq;subst hq;obtain⟨en,he,dR,hl⟩:=S.dy hl;obtain⟨b,N,cap,hG,rfl⟩:=hr.at he dR hl;exact⟨_,jK ht hk b _ kk hj,.dz n aY i k' _ _ rfl ⟨en,he,by omega,λ_ _=>⟨b,N,cap,hG,by rw[zbB]⟩⟩⟩
     cases hq
    |e8 x off b o hb cc f hw hr=>simp at hq;subst hq;refine⟨_,jK ht hk b _ kk hj,?_⟩;rw[zbB];exact .e8 x _ b o hb cc f hw hr
    |_=>cases hq
   cases hq
 cases hq
theorem zO(h:aD Q T F G w a s){t:TypeId}{v u:Value}{p i q:P}(hv:aF F w G s.rg v p)(hu:aF F w G s.rg u i)(hq:fb Q s t p i=some q):
  ∃x,(Instr.indexAt t v u).run Q w= .ok x w/\aF F w G s.rg x q:=by
 unfold fb at hq;split at hq
 next n e het=>exact Ex (HT het) hv hu hq
 split at hq
 next _ e kk j het=>
  have od:=dE het;have Oh:=V0 od;cases hu with
  |d hu=>
   cases hu;split at hq
   ·rename_i k hk;cases hv with
    |sl n aY len v h1 hr=>
     simp only at hq;split at hq
     ·rename_i ty fz es ho;split at hq
      ·rename_i Cd;have Cd:ty=e:=by simpa using Cd
       subst Cd;split at hq
       ·rename_i hj;simp at hq;subst hq;obtain⟨en,he,dR,bV⟩:=S.bJ ho;obtain⟨a0,N,cap,hG,rfl,hle⟩:=hr.at he dR (by rw[bV];rfl);have hO:=h.rg n en he;rw[bV] at hO;rcases hO with⟨oC,_⟩| ⟨b',iK,cs,k2,oC,hh,r6,gn,qbz,Cc,dt,_,hE⟩
        ·rw[hG] at oC;simp at oC;omega
        rw[hG] at oC;simp at oC;obtain⟨rfl,rfl,rfl⟩:=oC;refine⟨_,?_,.dz n aY j.toNat (k+1) 0 (.pointer (some ⟨b',j.toNat*(k+1)+0,none⟩)) rfl ⟨en,he,by omega,λ_ _=>⟨b',_,_,hG,rfl⟩⟩⟩;rw[run_indexAt_slice w t ⟨b',0,none⟩ len cap _ j (by rw[Oh];exact od),zao hj,Oh,run_sizeOf hk];simp[addr_add]
       cases hq
      cases hq
     cases hq
    |lG n aY k0 V1 len v h1 hr=>
     simp only at hq;split at hq
     ·rename_i ty fz es ho;split at hq
      ·rename_i Cd;rw[zab] at Cd;have qhD:ty=e:=zaf Cd.1;have qhE:k0=k+1:=zaf Cd.2;subst qhD qhE;split at hq
       ·rename_i hj;simp at hq;subst hq;obtain⟨en,he,dR,bV⟩:=S.bJ ho;obtain⟨a0,N,cap,hG,hle,a1,qt,rfl,Pc,hz⟩:=hr.at he dR (by rw[bV];rfl);obtain⟨b',ha0,Pd⟩: ∃b,a0=some ⟨b,0,none⟩/\a1=some ⟨b,V1*(k+1),none⟩:=by
         rcases hz with hz |hz
         ·omega
         exact hz
        subst ha0 Pd;refine⟨_,?_,.dz n aY (V1+j.toNat) (k+1) 0 (.pointer (some ⟨b',(V1+j.toNat)*(k+1)+0,none⟩)) rfl ⟨en,he,by omega,λ_ _=>⟨b',_,_,hG,rfl⟩⟩⟩;rw[run_indexAt_slice w t ⟨b',V1*(k+1),none⟩ len qt _ j (by rw[Oh];exact od),zao hj,Oh,run_sizeOf hk];simp[addr_add,zaV]
       cases hq
      cases hq
     cases hq
    |d hv=>
     cases hv with
     |Og a0 k' cap=>simp at hq
     |O8 b off k' cap es f Cc hb jJ cc hw hr=>
      simp only at hq;split at hq
      ·rename_i qbA;have qbA:k'=k+1:=by simpa using qbA
       subst qbA;split at hq
       ·rename_i hj;split at hq
        ·rename_i x hx;simp at hq;subst hq;have hi:j.toNat<es.length:=(zad.1 hx).1;have hxm:x∈es:=zaC hx;refine⟨.pointer (some ⟨b,off+j.toNat*(k+1)+0,none⟩),?_,.e8 x 0 b (off+j.toNat*(k+1)) hb (cc x hxm) (λm=>f (j.toNat*(k+1)+m)) (λm hm=> ?_) (λm c hc=>hr _ _ _ _ hx hc)⟩
         ·rw[run_indexAt_slice w t ⟨b,off,none⟩ es.length cap _ j (by rw[Oh];exact od),zao (by omega),Oh,run_sizeOf hk];simp[addr_add]
         rw[zbB];refine hw _ ?_;rw[jJ x hxm] at hm
         calc j.toNat*(k+1)+m<j.toNat*(k+1)+(k+1):=by omega
          _=(j.toNat+1)*(k+1):=by rw[zaV,zbt]
          _<=es.length*(k+1):=zaq _ (by omega)
        cases hq
       cases hq
      cases hq
     |_=>cases hq
    |_=>cases hq
   cases hq
 cases hq
end
end Pi
