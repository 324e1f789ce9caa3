/- The text PiPure. -/
import Derived.Test.YtpiohccneeblhaaPiRep
namespace Pi
open Go
theorem bn{α:Type}{Q:Program}{m:Sem α}{v:α}(h:ah Q m=some v)(w:World):m.run Q w= .ok v w:=by
 induction m with
 |pure a=>simp_all [ah]
 |program k ih=>exact ih _ h
 |mark m k ih=>exact ih h
 |_=>simp[ah] at h
theorem zM{Q:Program}{m:Sem Value}{p:P}(h:cC Q m=some p)(F:Nat->Prop)(w:World)(G:Nat->Value)(R:List (Nat×En)): ∃v,m.run Q w= .ok v w/\ao F w G R v p:=by
 unfold cC at h;split at h
 next v hv=>
  split at h
  next x hx=>simp at h;subst h;exact⟨v,bn hv w,.d (az.nc F w hx)⟩
  cases h
 cases h
theorem ao.bq{F:Nat->Prop}{w:World}{G:Nat->Value}{R:List (Nat×En)}{v u:Value}{p:P}(h:ao F w G R v p)(hu:p.bq=some u):v=u:=by
 cases h<;>simp[P.bq] at hu
 case d x h=>exact h.bq hu
theorem S.aI{s:S}{n v:Nat}{o:Obj}(h:s.obj n v=some o): ∃e,lk s.rg n=some e/\e.ay=v/\e.obj=o:=by
 unfold S.obj at h;split at h
 ·simp_all
 cases h
theorem S.bx{s:S}{n v:Nat}(h:s.live n v=true): ∃e,lk s.rg n=some e/\e.ay=v/\e.obj.live=true:=by grind [S.live,S.aI,Obj.live]
theorem bN.at{R:List (Nat×En)}{n ay:Nat}{C:Prop}(h:bN R n ay C){e:En}(he:lk R n=some e)(hv:e.ay=ay)(hl:e.obj.live=true):C:=by obtain⟨e',bc,_,hc⟩:=h;grind
def ie(a:Act):Option (Nat×Bool)->Prop
 |none=>True
 |some (t,b)=>a.tmps[t]?=some (.bool b)
section
variable{Q:Program}{T:Tg}{F:Nat->Prop}{G:Nat->Value}{w:World}{a:Act}{s:S}
theorem pw(h:aq Q T F G w a s)(x:Operand):br F w G s.rg a.tmps (a.eval x) (s.ev x):=by
 cases x with
 |tmp t=>
  simp only[S.ev,Act.eval];cases hp:lk s.tm t with
  |none=>exact br.of (.bad _)
  |some p=>exact h.tm t p hp
 |const v=>
  simp only[S.ev,Act.eval];split
  next x hx=>exact br.of (.d (az.nc F w hx))
  exact br.of (.bad _)
 |func f=>exact br.of (.fn f [] [] rfl (λi v c hv=>by simp at hv))
 |global g=>exact br.of (.bad _)
theorem BS{g:Option (Nat×Bool)}(_:ie a g){v:Value}{p:P}(h:br F w G s.rg a.tmps v p):ao F w G s.rg v (p.under g):=by
 cases p with
 |when t b q=>exact .bad _
 |_=>exact h
theorem aA(h:aq Q T F G w a s){g:Option (Nat×Bool)}(hg:ie a g)(x:Operand):ao F w G s.rg (a.eval x) (s.eg g x):=BS hg (pw h x)
theorem Ek{t:Nat}{v:Value}(h:a.tmps.getD t undef=v)(hv:v≠undef):t<a.tmps.size:=by grind
theorem k8: ∀(ps:List P) (xs:List D),pk ps=some xs->ps=xs.map P.d
 | [],xs,h=>by grind [pk]
 |p::r,xs,h=>by
  cases p<;>simp[pk] at h;rename_i x;cases hr:pk r with
  |none=>grind
  |some ys=>simp[hr] at h;subst h;simp[k8 r ys hr]
theorem vb{R:List (Nat×En)}{vs:List Value}{ps:List P}(hl:vs.length=ps.length)(fc: ∀v∈vs,v.oneCell'=true)
  (hc: ∀(i:Nat) (v:Value) (c:P),vs[i]?=some v->ps[i]?=some c->ao F w G R v c):ao F w G R (.agg ⟨vs⟩) (yw ps):=by
 unfold yw;split
 next xs KJ=>
  have e:=k8 ps xs KJ;subst e;have hd: ∀(i:Nat) (v:Value) (c:D),vs[i]?=some v->xs[i]?=some c->az F w v c:=λi v c hv fO=>by have:=hc i v (.d c) hv (by simp[fO]);cases this with |d h=>exact h
  refine .d (.agg vs xs (by grind) (λc fO=> ?_) hd);obtain⟨i,hi⟩:=zao fO;have bj:i<vs.length:=by grind
  exact(hd i _ c (zac bj) hi).aK (fc _ (za6 bj))
 exact .agg vs ps hl fc hc
theorem dP{t:TypeId}{k:Nat}(h:sz Q t=some k): ∃i d,Q.info? t=some i/\Q.underlying t=some d/\i.size=k:=by grind [sz]
theorem run_sizeOf{t:TypeId}{k:Nat}(h:sz Q t=some k)(w:World):(Go.sizeOf t).run Q w= .ok k w:=by obtain⟨i,d,hi,_,rfl⟩:=dP h;simp[Go.sizeOf,typeInfo,hi]
theorem r0{t:TypeId}{d:TypeDesc}(h:Q.underlying t=some d)(w:World):(Go.isAgg t).run Q w= .ok (cn Q t) w:=by unfold Go.isAgg cn;rw[Sem.run_bind,run_underlying h w,h];cases d<;>simp
theorem bK(b o n:Nat):(⟨b,o,none⟩:Addr).add n=⟨b,o+n,none⟩:=by unfold Addr.add;simp
theorem BT{t:TypeId}{k:Nat}(hk:sz Q t=some k)(vs:List Value)(off:Nat)(hb: ∀j,j<(if cn Q t then k else 1)->off+j<vs.length)(w:World):
  (Go.part t ⟨vs⟩ off).run Q w= .ok (if cn Q t then .agg ((List.range k).map λj=>vs.getD (off+j) undef).toArray else vs.getD off undef) w:=by
 obtain⟨_,d,_,hd,_⟩:=dP hk;unfold Go.part;rw[Sem.run_bind,r0 hd w];cases yE:cn Q t with
 |true=>simp only[Result.andThen_ok,zaT,Sem.run_bind,run_sizeOf hk,Sem.run_pure];congr 3;rw[<-za0];apply za7;grind
 |false=>simp_all
theorem mw{t:TypeId}{k:Nat}{d:TypeDesc}(hk:sz Q t=some k)(hd:Q.underlying t=some d)(b o:Nat)(f:Nat->Value)(hf: ∀j,j<(if cn Q t then k else 1)->w.cell? ⟨b,o+j,none⟩=some (f j)):
  (loadVar t ⟨b,o,none⟩).run Q w= .ok (if cn Q t then .agg ((List.range k).map f).toArray else f 0) w:=by
 unfold loadVar;rw[Sem.run_bind,r0 hd w];cases yE:cn Q t with
 |true=>have hl:=run_loadCells (P:=Q) w ⟨b,o,none⟩ k f (λj hj=>by rw[bK];grind);simp_all [run_sizeOf]
 |false=>simp_all
theorem py{R:List (Nat×En)}{t:TypeId}{ps:List P}{off:Nat}{p:P}(h:gw Q t ps off=some p)(f:Nat->Value)(fc: ∀i,i<ps.length->(f i).oneCell'=true)
  (hp: ∀i c,ps[i]?=some c->ao F w G R (f i) c):
  ∃k,sz Q t=some k/\(∀j,j<(if cn Q t then k else 1)->off+j<ps.length)/\ao F w G R (if cn Q t then .agg ((List.range k).map λj=>f (off+j)).toArray else f off) p:=by
 unfold gw at h;cases hk:sz Q t with
 |none=>grind
 |some k=>
  refine⟨k,rfl,?_⟩;simp only[hk] at h;cases yE:cn Q t with
  |true=>
   simp only[yE,zaT] at h;split at h
   ·rename_i hle;have hle:off+k<=ps.length:=by simpa using hle
    grind [vb]
   cases h
  |false=>grind
theorem vd{t:TypeId}{cs:List D}{off:Nat}{x:D}(h:eX Q t cs off=some x)(f:Nat->Value)(aW: ∀c∈cs,c.aK=true)
  (hp: ∀i c,cs[i]?=some c->az F w (f i) c):
  ∃k,sz Q t=some k/\(∀j,j<(if cn Q t then k else 1)->off+j<cs.length)/\az F w (if cn Q t then .agg ((List.range k).map λj=>f (off+j)).toArray else f off) x:=by
 unfold eX at h;cases hk:sz Q t with
 |none=>grind
 |some k=>
  refine⟨k,rfl,?_⟩;simp only[hk] at h;cases yE:cn Q t with
  |true=>
   simp only[yE,zaT] at h;split at h
   ·rename_i hle;have hle:off+k<=cs.length:=by simpa using hle
    simp at h;subst h;refine⟨λj hj=>by grind,?_⟩;refine .agg _ _ (by simp;omega) (λc hc=>aW c (zbN (zbO hc))) (λi v c hv hc=> ?_);grind
   cases h
  |false=>grind
theorem nk{t:TypeId}{k:Nat}(h:sz Q t=some k): ∃d,Q.underlying t=some d:=by grind [dP]
theorem jl{t:TypeId}{k:Nat}(hk:sz Q t=some k)(b o:Nat)(f:Nat->Value)(hf: ∀j,j<(if cn Q t then k else 1)->w.cell? ⟨b,o+j,none⟩=some (f j)):
  (Instr.loadAt t (.pointer (some ⟨b,o,none⟩))).run Q w= .ok (if cn Q t then .agg ((List.range k).map f).toArray else f 0) w:=by
 obtain⟨d,hd⟩:=nk hk;simp only[Instr.loadAt,Instr.sureAddr,Sem.run_bind,Sem.run_pure,Result.andThen_ok];grind [mw]
theorem rh(h:Option (Nat×Nat×P))(i:Nat)(x:D):(gl h i x).length=x.cells.length:=by
 unfold gl;split
 ·split<;>simp
 simp
theorem ri{h:Option (Nat×Nat×P)}{i:Nat}{x:D}{j:Nat}{p:P}(hj:(gl h i x)[j]?=some p):h=some (i,j,p)\/ ∃c,x.cells[j]?=some c/\p= .d c/\ ∀p',h≠some (i,j,p'):=by
 unfold gl at hj;split at hj
 next hi ho hp=>
  split at hj
  next e=>
   subst e;by_cases ej:ho=j
   ·subst ej;rw[List.getElem?_set_self'] at hj;cases hx:(x.cells.map P.d)[ho]? with
    |none=>rw[hx] at hj;cases hj
    |some y=>rw[hx] at hj;simp at hj;exact .inl (by rw[hj])
   rw[zau ej,zah,zaj] at hj;obtain⟨c,hc,rfl⟩:=hj;exact .inr ⟨c,hc,rfl,λp' e=>by cases e;exact ej rfl⟩
  rename_i e;rw[zah,zaj] at hj;obtain⟨c,hc,rfl⟩:=hj;exact .inr ⟨c,hc,rfl,λp' e2=>by cases e2;exact e rfl⟩
 rw[zah,zaj] at hj;obtain⟨c,hc,rfl⟩:=hj;exact .inr ⟨c,hc,rfl,λp' e=>by cases e⟩
theorem ve(h:aq Q T F G w a s){t:TypeId}{v:Value}{p q:P}(hv:ao F w G s.rg v p)(hq:iJ Q s t p=some q): ∃u,(Instr.loadAt t v).run Q w= .ok u w/\ao F w G s.rg u q:=by
 unfold iJ at hq;cases hv with
 |ref n ay off v hr h1=>
  simp only at hq;split at hq
  next ty ps ho=>obtain⟨e,he,bL,aP⟩:=S.aI ho;obtain⟨b,hG,rfl⟩:=hr.at he bL (by rw[aP];rfl);have hO:=h.rg n e he;rw[aP] at hO;obtain⟨b',cs,gH,hh,cm,fc,km⟩:=hO;rw[hG] at gH;simp at gH;subst gH;obtain⟨k,hk,bj,tA⟩:=py (R:=s.rg) hq (λi=>cs.getD i undef) (λi hi=>fc _ (by simp_all)) km;refine⟨_,jl hk b off (λj=>cs.getD (off+j) undef) (λj hj=> ?_),tA⟩;rw[cell_of_row w b (off+j) cs ty (0,0) hh];simp_all
  cases hq
 |bP n ay i k off v h1 hr=>
  simp only at hq;split at hq
  next ty fz es ho=>
   obtain⟨e,he,bL,aP⟩:=S.aI ho;obtain⟨b,N,cap,hG,rfl⟩:=hr.at he bL (by rw[aP];rfl);have hO:=h.rg n e he;rw[aP] at hO;split at hq
   ·rename_i k' x ig hx;split at hq
    ·rename_i dV;have dV:k=k':=by simpa using dV
     subst dV;split at hq
     ·rename_i y hy;simp at hq;subst hq;rcases hO with⟨gH,_⟩| ⟨b',dU,cs,k2,gH,hh,rj,je,hle,lN,cm,_,hE⟩
      ·rw[hG] at gH;cases gH
      rw[hG] at gH;simp at gH;obtain⟨rfl,_,_⟩:=gH;rw[ig] at rj;cases rj;obtain⟨hl,aW,hcs⟩:=hE i x hx;obtain⟨k3,BU,bj,tA⟩:=vd hy (λj=>cs.getD (i*k+j) undef) aW (λj c hc=>hcs j c hc);have hi:i<es.length:=(zaa.1 hx).1;refine⟨_,jl BU b (i*k+off) (λj=>cs.getD (i*k+(off+j)) undef) (λj hj=> ?_),.d tA⟩;have h2:=bj j hj;have h3:i*k+(off+j)<cs.size:=by
       rw[cm]
       calc i*k+(off+j)<i*k+k:=by omega
        _=(i+1)*k:=by rw[zaz,zaV]
        _<=dU*k:=zag _ (by omega)
      rw[cell_of_row w b _ cs ty (0,0) hh,zbf];simp_all
     cases hq
    cases hq
   cases hq
  next ty es hd ho=>
   obtain⟨e,he,bL,aP⟩:=S.aI ho;obtain⟨b,N,cap,hG,rfl⟩:=hr.at he bL (by rw[aP];rfl);have hO:=h.rg n e he;rw[aP] at hO;split at hq
   ·rename_i k' x ig hx;split at hq
    ·rename_i dV;have dV:k=k':=by simpa using dV
     subst dV;rcases hO with⟨gH,_⟩| ⟨b',dU,cs,k2,gH,hh,rj,je,hle,lN,cm,hE⟩
     ·rw[hG] at gH;cases gH
     rw[hG] at gH;simp at gH;obtain⟨rfl,_,_⟩:=gH;rw[ig] at rj;cases rj;obtain⟨hl,aW,hcs⟩:=hE.1 i x hx;have FU: ∀j p,(gl hd i x)[j]?=some p->ao F w G s.rg (cs.getD (i*k+j) undef) p/\(cs.getD (i*k+j) undef).oneCell'=true:=λj p hp=>by
      rcases ri hp with e | ⟨c,hc,rfl,b9⟩
      ·obtain⟨_,_,a3,a4⟩:=hE.2 _ _ _ e;exact⟨a4,a3⟩
      exact⟨.d (hcs j c hc b9),(hcs j c hc b9).ic (aW c (zak hc))⟩
     obtain⟨k3,BU,bj,tA⟩:=py (R:=s.rg) hq (λj=>cs.getD (i*k+j) undef) (λj hj=>by exact(FU j _ (zac hj)).2) (λj p hp=>(FU j p hp).1);have hi:i<es.length:=(zaa.1 hx).1;rw[rh] at bj;refine⟨_,jl BU b (i*k+off) (λj=>cs.getD (i*k+(off+j)) undef) (λj hj=> ?_),tA⟩;have h2:=bj j hj;have h3:i*k+(off+j)<cs.size:=by
      rw[cm]
      calc i*k+(off+j)<i*k+k:=by omega
       _=(i+1)*k:=by rw[zaz,zaV]
       _<=dU*k:=zag _ (by omega)
     rw[cell_of_row w b _ cs ty (0,0) hh,zbf];simp_all
    cases hq
   cases hq
  cases hq
 |dg x off b o hb aW f hw hr=>
  simp only at hq;split at hq
  next y hy=>simp at hq;subst hq;obtain⟨k3,BU,bj,tA⟩:=vd hy f aW hr;refine⟨_,jl BU b (o+off) (λj=>f (off+j)) (λj hj=> ?_),.d tA⟩;grind
  cases hq
 |_=>cases hq
theorem rk{v:Value}{p q:P}(hv:ao F w G s.rg v p)(hq:gk s p=some q):q=p/\((∃b,v= .pointer (some b))\/ ∃f c1 c2,v= .func (.func f) c1 c2):=by
 unfold gk at hq;cases hv with
 |ref n ay off v hr h1=>
  simp only at hq;split at hq
  next hl=>obtain⟨e,he,bL,hl⟩:=S.bx hl;obtain⟨b,_,hv⟩:=hr.at he bL hl;grind
  cases hq
 |bP n ay i k off v h1 hr=>
  simp only at hq;split at hq
  next hl=>obtain⟨e,he,bL,hl⟩:=S.bx hl;obtain⟨b,N,cap,_,hv⟩:=hr.at he bL hl;grind
  cases hq
 |dg x off b o hb aW f hw hr=>grind
 |fn f vs bF hl hc=>grind
 |_=>cases hq
theorem iC{t:TypeId}{f o:Nat}(h:pn Q t f=some o)(b off:Nat)(w:World):(Instr.fieldAt t (.pointer (some ⟨b,off,none⟩)) f).run Q w= .ok (.pointer (some ⟨b,off+o,none⟩)) w:=by
 unfold pn at h;split at h
 next fs Oo=>
  split at h
  next fl LH=>
   split at h
   next k hk=>simp at h;subst h;simp[Instr.fieldAt,run_underlying Oo,LH,Instr.sureAddr,fieldPlace,run_sizeOf hk,bK]
   cases h
  cases h
 cases h
theorem rl{t:TypeId}{f:Nat}{v:Value}{p q:P}(hv:ao F w G s.rg v p)(hq:fb Q s t f p=some q): ∃u,(Instr.fieldAt t v f).run Q w= .ok u w/\ao F w G s.rg u q:=by
 unfold fb at hq;split at hq
 ·cases hq
 rename_i o ho;cases hv with
 |ref n ay off v hr h1=>
  simp only at hq;split at hq
  next hl=>simp at hq;subst hq;obtain⟨e,he,bL,hl⟩:=S.bx hl;obtain⟨b,hG,rfl⟩:=hr.at he bL hl;exact⟨_,iC ho b off w,.ref n ay (off+o) _ ⟨e,he,by omega,λ_ _=>⟨b,hG,rfl⟩⟩ rfl⟩
  cases hq
 |bP n ay i k off v h1 hr=>
  simp only at hq;split at hq
  next hl=>simp at hq;subst hq;obtain⟨e,he,bL,hl⟩:=S.bx hl;obtain⟨b,N,cap,hG,rfl⟩:=hr.at he bL hl;exact⟨_,iC ho b (i*k+off) w,.bP n ay i k (off+o) _ rfl ⟨e,he,by omega,λ_ _=>⟨b,N,cap,hG,by rw[zbf]⟩⟩⟩
  cases hq
 |dg x off b o' hb aW f' hw hr=>simp at hq;subst hq;refine⟨_,iC ho b (o'+off) w,?_⟩;rw[zbf];exact .dg x (off+o) b o' hb aW f' hw hr
 |_=>cases hq
theorem ct{t e:TypeId}(h:bG Q t=some e):Q.underlying t=some (.slice e):=by grind [bG]
theorem El{t e:TypeId}(h:Q.underlying t=some (.slice e)):Q.elem t=e:=by simp[Program.elem,h]
theorem xt{t e:TypeId}{n:Nat}(h:yx Q t=some (n,e)):Q.underlying t=some (.array n e):=by grind [yx]
theorem fQ{t e:TypeId}{n k:Nat}(ht:Q.underlying t=some (.array n e))(hk:sz Q e=some k)(b off:Nat)(kk:IntKind){j:Int}(hj:0<=j/\j<(n:Int)):
  (Instr.indexAt t (.pointer (some ⟨b,off,none⟩)) (.int kk j)).run Q w= .ok (.pointer (some ⟨b,off+j.toNat*k,none⟩)) w:=by
 simp[Instr.indexAt,asIntOf,run_underlying ht,Instr.sureAddr,hj,run_sizeOf hk,bK]
theorem vf{t e:TypeId}{n:Nat}{v u:Value}{p i q:P}(ht:Q.underlying t=some (.array n e))(hv:ao F w G s.rg v p)(hu:ao F w G s.rg u i)(hq:j8 Q s n e p i=some q):
  ∃x,(Instr.indexAt t v u).run Q w= .ok x w/\ao F w G s.rg x q:=by
 unfold j8 at hq;split at hq
 next kk j k hk=>
  cases hu with
  |d hu=>
   cases hu;split at hq
   ·rename_i hj;cases hv with
    |ref n ay off v hr h1=>
     simp only at hq;split at hq
     next hl=>simp at hq;subst hq;obtain⟨en,he,bL,hl⟩:=S.bx hl;obtain⟨b,hG,rfl⟩:=hr.at he bL hl;exact⟨_,fQ ht hk b off kk hj,.ref n ay _ _ ⟨en,he,by omega,λ_ _=>⟨b,hG,rfl⟩⟩ rfl⟩
     cases hq
    |bP n ay i k' off v h1 hr=>
     simp only at hq;split at hq
     next hl=>simp at hq;subst hq;obtain⟨en,he,bL,hl⟩:=S.bx hl;obtain⟨b,N,cap,hG,rfl⟩:=hr.at he bL hl;exact⟨_,fQ ht hk b _ kk hj,.bP n ay i k' _ _ rfl ⟨en,he,by omega,λ_ _=>⟨b,N,cap,hG,by rw[zbf]⟩⟩⟩
     cases hq
    |dg x off b o hb aW f hw hr=>simp at hq;subst hq;refine⟨_,fQ ht hk b _ kk hj,?_⟩;rw[zbf];exact .dg x _ b o hb aW f hw hr
    |_=>cases hq
   cases hq
 cases hq
theorem rm(h:aq Q T F G w a s){t:TypeId}{v u:Value}{p i q:P}(hv:ao F w G s.rg v p)(hu:ao F w G s.rg u i)(hq:dk Q s t p i=some q):
  ∃x,(Instr.indexAt t v u).run Q w= .ok x w/\ao F w G s.rg x q:=by
 unfold dk at hq;split at hq
 next n e het=>exact vf (xt het) hv hu hq
 split at hq
 next _ e kk j het=>
  have gb:=ct het;have BV:=El gb;cases hu with
  |d hu=>
   cases hu;split at hq
   ·rename_i k hk;cases hv with
    |sl n ay len v h1 hr=>
     simp only at hq;split at hq
     ·rename_i ty fz es ho;split at hq
      ·rename_i r5;split at hq
       ·rename_i hj;simp at hq;subst hq;obtain⟨en,he,bL,aP⟩:=S.aI ho;obtain⟨a0,N,cap,hG,rfl,hle⟩:=hr.at he bL (by rw[aP];rfl);have hO:=h.rg n en he;rw[aP] at hO;rcases hO with⟨gH,_⟩| ⟨b',dU,cs,k2,gH,hh,rj,je,Em,lN,cm,_,hE⟩
        ·skip
         grind
        rw[hG] at gH;obtain⟨rfl,rfl,rfl⟩:=gH;refine⟨_,?_,.bP n ay j.toNat (k+1) 0 (.pointer (some ⟨b',j.toNat*(k+1)+0,none⟩)) rfl ⟨en,he,by omega,λ_ _=>⟨b',_,_,hG,rfl⟩⟩⟩;rw[run_indexAt_slice w t ⟨b',0,none⟩ len cap _ j (by rw[BV];exact gb),zat hj,BV,run_sizeOf hk];simp[bK]
       cases hq
      cases hq
     ·rename_i ty es hd ho;split at hq
      ·rename_i r5;split at hq
       ·rename_i hj;simp at hq;subst hq;obtain⟨en,he,bL,aP⟩:=S.aI ho;obtain⟨a0,N,cap,hG,rfl,hle⟩:=hr.at he bL (by rw[aP];rfl);have hO:=h.rg n en he;rw[aP] at hO;rcases hO with⟨gH,_⟩| ⟨b',dU,cs,k2,gH,hh,rj,je,Em,lN,cm,hE⟩
        ·skip
         grind
        rw[hG] at gH;obtain⟨rfl,rfl,rfl⟩:=gH;refine⟨_,?_,.bP n ay j.toNat (k+1) 0 (.pointer (some ⟨b',j.toNat*(k+1)+0,none⟩)) rfl ⟨en,he,by omega,λ_ _=>⟨b',_,_,hG,rfl⟩⟩⟩;rw[run_indexAt_slice w t ⟨b',0,none⟩ len cap _ j (by rw[BV];exact gb),zat hj,BV,run_sizeOf hk];simp[bK]
       cases hq
      cases hq
     cases hq
    |hZ n ay k0 Eo len v h1 hr=>
     simp only at hq;split at hq
     ·rename_i ty fz es ho;split at hq
      ·rename_i r5;rw[zad] at r5;have Oq:k0=k+1:=zab r5.2;split at hq
       ·rename_i hj;simp at hq;subst hq;obtain⟨en,he,bL,aP⟩:=S.aI ho;obtain⟨a0,N,cap,hG,hle,a1,lj,rfl,BW,hz⟩:=hr.at he bL (by rw[aP];rfl);obtain⟨b',GF,BX⟩: ∃b,a0=some ⟨b,0,none⟩/\a1=some ⟨b,Eo*(k+1),none⟩:=by grind
        subst GF BX;refine⟨_,?_,.bP n ay (Eo+j.toNat) (k+1) 0 (.pointer (some ⟨b',(Eo+j.toNat)*(k+1)+0,none⟩)) rfl ⟨en,he,by omega,λ_ _=>⟨b',_,_,hG,rfl⟩⟩⟩;rw[run_indexAt_slice w t ⟨b',Eo*(k+1),none⟩ len lj _ j (by rw[BV];exact gb),zat hj,BV,run_sizeOf hk];simp[bK,zaz]
       cases hq
      cases hq
     cases hq
    |d hv=>
     cases hv with
     |A9 a0 k' cap=>simp at hq
     |Ba b off k' cap es f lN hb dV aW hw hr=>
      simp only at hq;split at hq
      ·rename_i GG;have GG:k'=k+1:=by simpa using GG
       subst GG;split at hq
       ·rename_i hj;split at hq
        ·rename_i x hx;simp at hq;subst hq;have hi:j.toNat<es.length:=(zaa.1 hx).1;have lB:x∈es:=zak hx;refine⟨.pointer (some ⟨b,off+j.toNat*(k+1)+0,none⟩),?_,.dg x 0 b (off+j.toNat*(k+1)) hb (aW x lB) (λm=>f (j.toNat*(k+1)+m)) (λm hm=> ?_) (λm c hc=>hr _ _ _ _ hx hc)⟩
         ·rw[run_indexAt_slice w t ⟨b,off,none⟩ es.length cap _ j (by rw[BV];exact gb),zat (by omega),BV,run_sizeOf hk];simp[bK]
         rw[zbf];refine hw _ ?_;rw[dV x lB] at hm
         calc j.toNat*(k+1)+m<j.toNat*(k+1)+(k+1):=by omega
          _=(j.toNat+1)*(k+1):=by rw[zaz,zaV]
          _<=es.length*(k+1):=zag _ (by omega)
        cases hq
       cases hq
      cases hq
     |_=>cases hq
    |_=>cases hq
   cases hq
 cases hq
end
end Pi
