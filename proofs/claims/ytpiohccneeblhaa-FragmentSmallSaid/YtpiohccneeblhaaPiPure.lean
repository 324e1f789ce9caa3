/- The text PiPure. -/
import Derived.Test.YtpiohccneeblhaaPiRep
namespace Pi
open Go
theorem bn{α:Type}{Q:Program}{m:Sem α}{v:α}(h:ah Q m=some v)(w:World):m.run Q w= .ok v w:=by
 induction m with
 |pure a=>simp_all [ah]
 |program k ih=>exact ih _ h
 |mark m k ih=>exact ih h
 |_=>simp[ah] at h
theorem z7{Q:Program}{m:Sem Value}{p:P}(h:cD Q m=some p)(F:Nat->Prop)(w:World)(G:Nat->Value)(R:List (Nat×En)): ∃v,m.run Q w= .ok v w/\ao F w G R v p:=by
 unfold cD at h;split at h
 next v hv=>
  split at h
  next x hx=>simp at h;subst h;exact⟨v,bn hv w,.d (aA.nh F w hx)⟩
  cases h
 cases h
theorem ao.br{F:Nat->Prop}{w:World}{G:Nat->Value}{R:List (Nat×En)}{v u:Value}{p:P}(h:ao F w G R v p)(hu:p.br=some u):v=u:=by
 cases h<;>simp[P.br] at hu
 case d x h=>exact h.br hu
theorem S.aJ{s:S}{n v:Nat}{o:Obj}(h:s.obj n v=some o): ∃e,lk s.rg n=some e/\e.az=v/\e.obj=o:=by
 unfold S.obj at h;split at h
 ·simp_all
 cases h
theorem S.bz{s:S}{n v:Nat}(h:s.live n v=true): ∃e,lk s.rg n=some e/\e.az=v/\e.obj.live=true:=by grind [S.live,S.aJ,Obj.live]
theorem bP.at{R:List (Nat×En)}{n az:Nat}{C:Prop}(h:bP R n az C){e:En}(he:lk R n=some e)(hv:e.az=az)(hl:e.obj.live=true):C:=by obtain⟨e',bb,_,hc⟩:=h;grind
def ig(a:Act):Option (Nat×Bool)->Prop
 |none=>True
 |some (t,b)=>a.tmps[t]?=some (.bool b)
section
variable{Q:Program}{T:Tg}{F:Nat->Prop}{G:Nat->Value}{w:World}{a:Act}{s:S}
theorem pC(h:aq Q T F G w a s)(x:Operand):bt F w G s.rg a.tmps (a.eval x) (s.ev x):=by
 cases x with
 |tmp t=>
  simp only[S.ev,Act.eval];cases hp:lk s.tm t with
  |none=>exact bt.of (.bad _)
  |some p=>exact h.tm t p hp
 |const v=>
  simp only[S.ev,Act.eval];split
  next x hx=>exact bt.of (.d (aA.nh F w hx))
  exact bt.of (.bad _)
 |func f=>exact bt.of (.fn f [] [] rfl (λi v c hv=>by simp at hv))
 |global g=>exact bt.of (.bad _)
theorem B8{g:Option (Nat×Bool)}(_:ig a g){v:Value}{p:P}(h:bt F w G s.rg a.tmps v p):ao F w G s.rg v (p.under g):=by
 cases p with
 |when t b q=>exact .bad _
 |_=>exact h
theorem aB(h:aq Q T F G w a s){g:Option (Nat×Bool)}(hg:ig a g)(x:Operand):ao F w G s.rg (a.eval x) (s.eg g x):=B8 hg (pC h x)
theorem ED{t:Nat}{v:Value}(h:a.tmps.getD t undef=v)(hv:v≠undef):t<a.tmps.size:=by grind
theorem k8: ∀(ps:List P) (xs:List D),pq ps=some xs->ps=xs.map P.d
 | [],xs,h=>by grind [pq]
 |p::r,xs,h=>by
  cases p<;>simp[pq] at h;rename_i x;cases hr:pq r with
  |none=>grind
  |some ys=>simp[hr] at h;subst h;simp[k8 r ys hr]
theorem vq{R:List (Nat×En)}{vs:List Value}{ps:List P}(hl:vs.length=ps.length)(fc: ∀v∈vs,v.oneCell'=true)
  (hc: ∀(i:Nat) (v:Value) (c:P),vs[i]?=some v->ps[i]?=some c->ao F w G R v c):ao F w G R (.agg ⟨vs⟩) (yK ps):=by
 unfold yK;split
 next xs Le=>
  have e:=k8 ps xs Le;subst e;have hd: ∀(i:Nat) (v:Value) (c:D),vs[i]?=some v->xs[i]?=some c->aA F w v c:=λi v c hv fO=>by have:=hc i v (.d c) hv (by simp[fO]);cases this with |d h=>exact h
  refine .d (.agg vs xs (by grind) (λc fO=> ?_) hd);obtain⟨i,hi⟩:=zao fO;have bj:i<vs.length:=by grind
  exact(hd i _ c (zac bj) hi).aI (fc _ (zaX bj))
 exact .agg vs ps hl fc hc
theorem dQ{t:TypeId}{k:Nat}(h:sz Q t=some k): ∃i d,Q.info? t=some i/\Q.underlying t=some d/\i.size=k:=by grind [sz]
theorem run_sizeOf{t:TypeId}{k:Nat}(h:sz Q t=some k)(w:World):(Go.sizeOf t).run Q w= .ok k w:=by obtain⟨i,d,hi,_,rfl⟩:=dQ h;simp[Go.sizeOf,typeInfo,hi]
theorem r9{t:TypeId}{d:TypeDesc}(h:Q.underlying t=some d)(w:World):(Go.isAgg t).run Q w= .ok (cd Q t) w:=by unfold Go.isAgg cd;rw[Sem.run_bind,run_underlying h w,h];cases d<;>simp
theorem bM(b o n:Nat):(⟨b,o,none⟩:Addr).add n=⟨b,o+n,none⟩:=by unfold Addr.add;simp
theorem B9{t:TypeId}{k:Nat}(hk:sz Q t=some k)(vs:List Value)(off:Nat)(hb: ∀j,j<(if cd Q t then k else 1)->off+j<vs.length)(w:World):
  (Go.part t ⟨vs⟩ off).run Q w= .ok (if cd Q t then .agg ((List.range k).map λj=>vs.getD (off+j) undef).toArray else vs.getD off undef) w:=by
 obtain⟨_,d,_,hd,_⟩:=dQ hk;unfold Go.part;rw[Sem.run_bind,r9 hd w];cases yS:cd Q t with
 |true=>simp only[Result.andThen_ok,zaT,Sem.run_bind,run_sizeOf hk,Sem.run_pure];congr 3;rw[<-za1];apply za7;grind
 |false=>simp_all
theorem mA{t:TypeId}{k:Nat}{d:TypeDesc}(hk:sz Q t=some k)(hd:Q.underlying t=some d)(b o:Nat)(f:Nat->Value)(hf: ∀j,j<(if cd Q t then k else 1)->w.cell? ⟨b,o+j,none⟩=some (f j)):
  (loadVar t ⟨b,o,none⟩).run Q w= .ok (if cd Q t then .agg ((List.range k).map f).toArray else f 0) w:=by
 unfold loadVar;rw[Sem.run_bind,r9 hd w];cases yS:cd Q t with
 |true=>have hl:=run_loadCells (P:=Q) w ⟨b,o,none⟩ k f (λj hj=>by rw[bM];grind);simp_all [run_sizeOf]
 |false=>simp_all
theorem pD{R:List (Nat×En)}{t:TypeId}{ps:List P}{off:Nat}{p:P}(h:gw Q t ps off=some p)(f:Nat->Value)(fc: ∀i,i<ps.length->(f i).oneCell'=true)
  (hp: ∀i c,ps[i]?=some c->ao F w G R (f i) c):
  ∃k,sz Q t=some k/\(∀j,j<(if cd Q t then k else 1)->off+j<ps.length)/\ao F w G R (if cd Q t then .agg ((List.range k).map λj=>f (off+j)).toArray else f off) p:=by
 unfold gw at h;cases hk:sz Q t with
 |none=>grind
 |some k=>
  refine⟨k,rfl,?_⟩;simp only[hk] at h;cases yS:cd Q t with
  |true=>
   simp only[yS,zaT] at h;split at h
   ·rename_i hle;have hle:off+k<=ps.length:=by simpa using hle
    grind [vq]
   cases h
  |false=>grind
theorem vr{t:TypeId}{cs:List D}{off:Nat}{x:D}(h:eX Q t cs off=some x)(f:Nat->Value)(aW: ∀c∈cs,c.aI=true)
  (hp: ∀i c,cs[i]?=some c->aA F w (f i) c):
  ∃k,sz Q t=some k/\(∀j,j<(if cd Q t then k else 1)->off+j<cs.length)/\aA F w (if cd Q t then .agg ((List.range k).map λj=>f (off+j)).toArray else f off) x:=by
 unfold eX at h;cases hk:sz Q t with
 |none=>grind
 |some k=>
  refine⟨k,rfl,?_⟩;simp only[hk] at h;cases yS:cd Q t with
  |true=>
   simp only[yS,zaT] at h;split at h
   ·rename_i hle;have hle:off+k<=cs.length:=by simpa using hle
    simp at h;subst h;refine⟨λj hj=>by grind,?_⟩;refine .agg _ _ (by simp;omega) (λc hc=>aW c (zbO (zbP hc))) (λi v c hv hc=> ?_);grind
   cases h
  |false=>grind
theorem nq{t:TypeId}{k:Nat}(h:sz Q t=some k): ∃d,Q.underlying t=some d:=by grind [dQ]
theorem jl{t:TypeId}{k:Nat}(hk:sz Q t=some k)(b o:Nat)(f:Nat->Value)(hf: ∀j,j<(if cd Q t then k else 1)->w.cell? ⟨b,o+j,none⟩=some (f j)):
  (Instr.loadAt t (.pointer (some ⟨b,o,none⟩))).run Q w= .ok (if cd Q t then .agg ((List.range k).map f).toArray else f 0) w:=by
 obtain⟨d,hd⟩:=nq hk;simp only[Instr.loadAt,Instr.sureAddr,Sem.run_bind,Sem.run_pure,Result.andThen_ok];grind [mA]
theorem rl(h:Option (Nat×Nat×P))(i:Nat)(x:D):(gm h i x).length=x.cells.length:=by
 unfold gm;split
 ·split<;>simp
 simp
theorem rm{h:Option (Nat×Nat×P)}{i:Nat}{x:D}{j:Nat}{p:P}(hj:(gm h i x)[j]?=some p):h=some (i,j,p)\/ ∃c,x.cells[j]?=some c/\p= .d c/\ ∀p',h≠some (i,j,p'):=by
 unfold gm at hj;split at hj
 next hi ho hp=>
  split at hj
  next e=>
   subst e;by_cases ej:ho=j
   ·subst ej;rw[List.getElem?_set_self'] at hj;cases hx:(x.cells.map P.d)[ho]? with
    |none=>rw[hx] at hj;cases hj
    |some y=>rw[hx] at hj;simp at hj;exact .inl (by rw[hj])
   rw[zau ej,zai,zaj] at hj;obtain⟨c,hc,rfl⟩:=hj;exact .inr ⟨c,hc,rfl,λp' e=>by cases e;exact ej rfl⟩
  rename_i e;rw[zai,zaj] at hj;obtain⟨c,hc,rfl⟩:=hj;exact .inr ⟨c,hc,rfl,λp' e2=>by cases e2;exact e rfl⟩
 rw[zai,zaj] at hj;obtain⟨c,hc,rfl⟩:=hj;exact .inr ⟨c,hc,rfl,λp' e=>by cases e⟩
theorem vu(h:aq Q T F G w a s){t:TypeId}{v:Value}{p q:P}(hv:ao F w G s.rg v p)(hq:iJ Q s t p=some q): ∃u,(Instr.loadAt t v).run Q w= .ok u w/\ao F w G s.rg u q:=by
 unfold iJ at hq;cases hv with
 |ref n az off v hr h1=>
  simp only at hq;split at hq
  next ty ps ho=>obtain⟨e,he,bN,aP⟩:=S.aJ ho;obtain⟨b,hG,rfl⟩:=hr.at he bN (by rw[aP];rfl);have hO:=h.rg n e he;rw[aP] at hO;obtain⟨b',cs,gH,hh,cp,fc,km⟩:=hO;rw[hG] at gH;simp at gH;subst gH;obtain⟨k,hk,bj,tG⟩:=pD (R:=s.rg) hq (λi=>cs.getD i undef) (λi hi=>fc _ (by simp_all)) km;refine⟨_,jl hk b off (λj=>cs.getD (off+j) undef) (λj hj=> ?_),tG⟩;rw[cell_of_row w b (off+j) cs ty (0,0) hh];simp_all
  cases hq
 |bR n az i k off v h1 hr=>
  simp only at hq;split at hq
  next ty fz es ho=>
   obtain⟨e,he,bN,aP⟩:=S.aJ ho;obtain⟨b,N,cap,hG,rfl⟩:=hr.at he bN (by rw[aP];rfl);have hO:=h.rg n e he;rw[aP] at hO;split at hq
   ·rename_i k' x ij hx;split at hq
    ·rename_i dW;have dW:k=k':=by simpa using dW
     subst dW;split at hq
     ·rename_i y hy;simp at hq;subst hq;rcases hO with⟨gH,_⟩| ⟨b',dV,cs,k2,gH,hh,rn,jS,hle,lP,cp,_,hE⟩
      ·rw[hG] at gH;cases gH
      rw[hG] at gH;simp at gH;obtain⟨rfl,_,_⟩:=gH;rw[ij] at rn;cases rn;obtain⟨hl,aW,hcs⟩:=hE i x hx;obtain⟨k3,Ca,bj,tG⟩:=vr hy (λj=>cs.getD (i*k+j) undef) aW (λj c hc=>hcs j c hc);have hi:i<es.length:=(zaa.1 hx).1;refine⟨_,jl Ca b (i*k+off) (λj=>cs.getD (i*k+(off+j)) undef) (λj hj=> ?_),.d tG⟩;have h2:=bj j hj;have h3:i*k+(off+j)<cs.size:=by
       rw[cp]
       calc i*k+(off+j)<i*k+k:=by omega
        _=(i+1)*k:=by rw[zaz,zaV]
        _<=dV*k:=zah _ (by omega)
      rw[cell_of_row w b _ cs ty (0,0) hh,zbf];simp_all
     cases hq
    cases hq
   cases hq
  next ty es hd ho=>
   obtain⟨e,he,bN,aP⟩:=S.aJ ho;obtain⟨b,N,cap,hG,rfl⟩:=hr.at he bN (by rw[aP];rfl);have hO:=h.rg n e he;rw[aP] at hO;split at hq
   ·rename_i k' x ij hx;split at hq
    ·rename_i dW;have dW:k=k':=by simpa using dW
     subst dW;rcases hO with⟨gH,_⟩| ⟨b',dV,cs,k2,gH,hh,rn,jS,hle,lP,cp,hE⟩
     ·rw[hG] at gH;cases gH
     rw[hG] at gH;simp at gH;obtain⟨rfl,_,_⟩:=gH;rw[ij] at rn;cases rn;obtain⟨hl,aW,hcs⟩:=hE.1 i x hx;have Gc: ∀j p,(gm hd i x)[j]?=some p->ao F w G s.rg (cs.getD (i*k+j) undef) p/\(cs.getD (i*k+j) undef).oneCell'=true:=λj p hp=>by
      rcases rm hp with e | ⟨c,hc,rfl,ca⟩
      ·obtain⟨_,_,a3,a4⟩:=hE.2 _ _ _ e;exact⟨a4,a3⟩
      exact⟨.d (hcs j c hc ca),(hcs j c hc ca).ie (aW c (zak hc))⟩
     obtain⟨k3,Ca,bj,tG⟩:=pD (R:=s.rg) hq (λj=>cs.getD (i*k+j) undef) (λj hj=>by exact(Gc j _ (zac hj)).2) (λj p hp=>(Gc j p hp).1);have hi:i<es.length:=(zaa.1 hx).1;rw[rl] at bj;refine⟨_,jl Ca b (i*k+off) (λj=>cs.getD (i*k+(off+j)) undef) (λj hj=> ?_),tG⟩;have h2:=bj j hj;have h3:i*k+(off+j)<cs.size:=by
      rw[cp]
      calc i*k+(off+j)<i*k+k:=by omega
       _=(i+1)*k:=by rw[zaz,zaV]
       _<=dV*k:=zah _ (by omega)
     rw[cell_of_row w b _ cs ty (0,0) hh,zbf];simp_all
    cases hq
   cases hq
  cases hq
 |dg x off b o hb aW f hw hr=>
  simp only at hq;split at hq
  next y hy=>simp at hq;subst hq;obtain⟨k3,Ca,bj,tG⟩:=vr hy f aW hr;refine⟨_,jl Ca b (o+off) (λj=>f (off+j)) (λj hj=> ?_),.d tG⟩;grind
  cases hq
 |_=>cases hq
theorem rp{v:Value}{p q:P}(hv:ao F w G s.rg v p)(hq:gl s p=some q):q=p/\((∃b,v= .pointer (some b))\/ ∃f c1 c2,v= .func (.func f) c1 c2):=by
 unfold gl at hq;cases hv with
 |ref n az off v hr h1=>
  simp only at hq;split at hq
  next hl=>obtain⟨e,he,bN,hl⟩:=S.bz hl;obtain⟨b,_,hv⟩:=hr.at he bN hl;grind
  cases hq
 |bR n az i k off v h1 hr=>
  simp only at hq;split at hq
  next hl=>obtain⟨e,he,bN,hl⟩:=S.bz hl;obtain⟨b,N,cap,_,hv⟩:=hr.at he bN hl;grind
  cases hq
 |dg x off b o hb aW f hw hr=>grind
 |fn f vs bH hl hc=>grind
 |_=>cases hq
theorem iE{t:TypeId}{f o:Nat}(h:pr Q t f=some o)(b off:Nat)(w:World):(Instr.fieldAt t (.pointer (some ⟨b,off,none⟩)) f).run Q w= .ok (.pointer (some ⟨b,off+o,none⟩)) w:=by
 unfold pr at h;split at h
 next fs O1=>
  split at h
  next fl Ma=>
   split at h
   next k hk=>simp at h;subst h;simp[Instr.fieldAt,run_underlying O1,Ma,Instr.sureAddr,fieldPlace,run_sizeOf hk,bM]
   cases h
  cases h
 cases h
theorem rq{t:TypeId}{f:Nat}{v:Value}{p q:P}(hv:ao F w G s.rg v p)(hq:fb Q s t f p=some q): ∃u,(Instr.fieldAt t v f).run Q w= .ok u w/\ao F w G s.rg u q:=by
 unfold fb at hq;split at hq
 ·cases hq
 rename_i o ho;cases hv with
 |ref n az off v hr h1=>
  simp only at hq;split at hq
  next hl=>simp at hq;subst hq;obtain⟨e,he,bN,hl⟩:=S.bz hl;obtain⟨b,hG,rfl⟩:=hr.at he bN hl;exact⟨_,iE ho b off w,.ref n az (off+o) _ ⟨e,he,by omega,λ_ _=>⟨b,hG,rfl⟩⟩ rfl⟩
  cases hq
 |bR n az i k off v h1 hr=>
  simp only at hq;split at hq
  next hl=>simp at hq;subst hq;obtain⟨e,he,bN,hl⟩:=S.bz hl;obtain⟨b,N,cap,hG,rfl⟩:=hr.at he bN hl;exact⟨_,iE ho b (i*k+off) w,.bR n az i k (off+o) _ rfl ⟨e,he,by omega,λ_ _=>⟨b,N,cap,hG,by rw[zbf]⟩⟩⟩
  cases hq
 |dg x off b o' hb aW f' hw hr=>simp at hq;subst hq;refine⟨_,iE ho b (o'+off) w,?_⟩;rw[zbf];exact .dg x (off+o) b o' hb aW f' hw hr
 |_=>cases hq
theorem cu{t e:TypeId}(h:bI Q t=some e):Q.underlying t=some (.slice e):=by grind [bI]
theorem EE{t e:TypeId}(h:Q.underlying t=some (.slice e)):Q.elem t=e:=by simp[Program.elem,h]
theorem xF{t e:TypeId}{n:Nat}(h:yL Q t=some (n,e)):Q.underlying t=some (.array n e):=by grind [yL]
theorem fQ{t e:TypeId}{n k:Nat}(ht:Q.underlying t=some (.array n e))(hk:sz Q e=some k)(b off:Nat)(kk:IntKind){j:Int}(hj:0<=j/\j<(n:Int)):
  (Instr.indexAt t (.pointer (some ⟨b,off,none⟩)) (.int kk j)).run Q w= .ok (.pointer (some ⟨b,off+j.toNat*k,none⟩)) w:=by
 simp[Instr.indexAt,asIntOf,run_underlying ht,Instr.sureAddr,hj,run_sizeOf hk,bM]
theorem vv{t e:TypeId}{n:Nat}{v u:Value}{p i q:P}(ht:Q.underlying t=some (.array n e))(hv:ao F w G s.rg v p)(hu:ao F w G s.rg u i)(hq:j8 Q s n e p i=some q):
  ∃x,(Instr.indexAt t v u).run Q w= .ok x w/\ao F w G s.rg x q:=by
 unfold j8 at hq;split at hq
 next kk j k hk=>
  cases hu with
  |d hu=>
   cases hu;split at hq
   ·rename_i hj;cases hv with
    |ref n az off v hr h1=>
     simp only at hq;split at hq
     next hl=>simp at hq;subst hq;obtain⟨en,he,bN,hl⟩:=S.bz hl;obtain⟨b,hG,rfl⟩:=hr.at he bN hl;exact⟨_,fQ ht hk b off kk hj,.ref n az _ _ ⟨en,he,by omega,λ_ _=>⟨b,hG,rfl⟩⟩ rfl⟩
     cases hq
    |bR n az i k' off v h1 hr=>
     simp only at hq;split at hq
     next hl=>simp at hq;subst hq;obtain⟨en,he,bN,hl⟩:=S.bz hl;obtain⟨b,N,cap,hG,rfl⟩:=hr.at he bN hl;exact⟨_,fQ ht hk b _ kk hj,.bR n az i k' _ _ rfl ⟨en,he,by omega,λ_ _=>⟨b,N,cap,hG,by rw[zbf]⟩⟩⟩
     cases hq
    |dg x off b o hb aW f hw hr=>simp at hq;subst hq;refine⟨_,fQ ht hk b _ kk hj,?_⟩;rw[zbf];exact .dg x _ b o hb aW f hw hr
    |_=>cases hq
   cases hq
 cases hq
theorem rr(h:aq Q T F G w a s){t:TypeId}{v u:Value}{p i q:P}(hv:ao F w G s.rg v p)(hu:ao F w G s.rg u i)(hq:dk Q s t p i=some q):
  ∃x,(Instr.indexAt t v u).run Q w= .ok x w/\ao F w G s.rg x q:=by
 unfold dk at hq;split at hq
 next n e het=>exact vv (xF het) hv hu hq
 split at hq
 next _ e kk j het=>
  have gf:=cu het;have Cb:=EE gf;cases hu with
  |d hu=>
   cases hu;split at hq
   ·rename_i k hk;cases hv with
    |sl n az len v h1 hr=>
     simp only at hq;split at hq
     ·rename_i ty fz es ho;split at hq
      ·rename_i sa;split at hq
       ·rename_i hj;simp at hq;subst hq;obtain⟨en,he,bN,aP⟩:=S.aJ ho;obtain⟨a0,N,cap,hG,rfl,hle⟩:=hr.at he bN (by rw[aP];rfl);have hO:=h.rg n en he;rw[aP] at hO;rcases hO with⟨gH,_⟩| ⟨b',dV,cs,k2,gH,hh,rn,jS,EF,lP,cp,_,hE⟩
        ·skip
         grind
        rw[hG] at gH;obtain⟨rfl,rfl,rfl⟩:=gH;refine⟨_,?_,.bR n az j.toNat (k+1) 0 (.pointer (some ⟨b',j.toNat*(k+1)+0,none⟩)) rfl ⟨en,he,by omega,λ_ _=>⟨b',_,_,hG,rfl⟩⟩⟩;rw[run_indexAt_slice w t ⟨b',0,none⟩ len cap _ j (by rw[Cb];exact gf),zat hj,Cb,run_sizeOf hk];simp[bM]
       cases hq
      cases hq
     ·rename_i ty es hd ho;split at hq
      ·rename_i sa;split at hq
       ·rename_i hj;simp at hq;subst hq;obtain⟨en,he,bN,aP⟩:=S.aJ ho;obtain⟨a0,N,cap,hG,rfl,hle⟩:=hr.at he bN (by rw[aP];rfl);have hO:=h.rg n en he;rw[aP] at hO;rcases hO with⟨gH,_⟩| ⟨b',dV,cs,k2,gH,hh,rn,jS,EF,lP,cp,hE⟩
        ·skip
         grind
        rw[hG] at gH;obtain⟨rfl,rfl,rfl⟩:=gH;refine⟨_,?_,.bR n az j.toNat (k+1) 0 (.pointer (some ⟨b',j.toNat*(k+1)+0,none⟩)) rfl ⟨en,he,by omega,λ_ _=>⟨b',_,_,hG,rfl⟩⟩⟩;rw[run_indexAt_slice w t ⟨b',0,none⟩ len cap _ j (by rw[Cb];exact gf),zat hj,Cb,run_sizeOf hk];simp[bM]
       cases hq
      cases hq
     cases hq
    |hZ n az k0 EG len v h1 hr=>
     simp only at hq;split at hq
     ·rename_i ty fz es ho;split at hq
      ·rename_i sa;rw[zad] at sa;have O2:k0=k+1:=zab sa.2;split at hq
       ·rename_i hj;simp at hq;subst hq;obtain⟨en,he,bN,aP⟩:=S.aJ ho;obtain⟨a0,N,cap,hG,hle,a1,ll,rfl,Cc,hz⟩:=hr.at he bN (by rw[aP];rfl);obtain⟨b',GW,Cd⟩: ∃b,a0=some ⟨b,0,none⟩/\a1=some ⟨b,EG*(k+1),none⟩:=by grind
        subst GW Cd;refine⟨_,?_,.bR n az (EG+j.toNat) (k+1) 0 (.pointer (some ⟨b',(EG+j.toNat)*(k+1)+0,none⟩)) rfl ⟨en,he,by omega,λ_ _=>⟨b',_,_,hG,rfl⟩⟩⟩;rw[run_indexAt_slice w t ⟨b',EG*(k+1),none⟩ len ll _ j (by rw[Cb];exact gf),zat hj,Cb,run_sizeOf hk];simp[bM,zaz]
       cases hq
      cases hq
     cases hq
    |d hv=>
     cases hv with
     |Bp a0 k' cap=>simp at hq
     |Bq b off k' cap es f lP hb dW aW hw hr=>
      simp only at hq;split at hq
      ·rename_i GX;have GX:k'=k+1:=by simpa using GX
       subst GX;split at hq
       ·rename_i hj;split at hq
        ·rename_i x hx;simp at hq;subst hq;have hi:j.toNat<es.length:=(zaa.1 hx).1;have lD:x∈es:=zak hx;refine⟨.pointer (some ⟨b,off+j.toNat*(k+1)+0,none⟩),?_,.dg x 0 b (off+j.toNat*(k+1)) hb (aW x lD) (λm=>f (j.toNat*(k+1)+m)) (λm hm=> ?_) (λm c hc=>hr _ _ _ _ hx hc)⟩
         ·rw[run_indexAt_slice w t ⟨b,off,none⟩ es.length cap _ j (by rw[Cb];exact gf),zat (by omega),Cb,run_sizeOf hk];simp[bM]
         rw[zbf];refine hw _ ?_;rw[dW x lD] at hm
         calc j.toNat*(k+1)+m<j.toNat*(k+1)+(k+1):=by omega
          _=(j.toNat+1)*(k+1):=by rw[zaz,zaV]
          _<=es.length*(k+1):=zah _ (by omega)
        cases hq
       cases hq
      cases hq
     |_=>cases hq
    |_=>cases hq
   cases hq
 cases hq
end
end Pi
