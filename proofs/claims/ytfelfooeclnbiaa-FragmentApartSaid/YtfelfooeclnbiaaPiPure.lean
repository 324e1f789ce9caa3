/- The text PiPure. -/
import Derived.Test.YtfelfooeclnbiaaPiRep
namespace Pi
open Go
theorem aT{α:Type}{Q:Program}{m:Sem α}{v:α}(h:ah Q m=some v)(w:World):m.run Q w= .ok v w:=by
 induction m with
 |pure a=>simp_all [ah]
 |program k ih=>exact ih _ h
 |mark m k ih=>exact ih h
 |_=>simp[ah] at h
theorem uw{Q:Program}{m:Sem Value}{p:P}(h:bL Q m=some p)(F:Nat->Prop)(w:World)(G:Nat->Value)(R:List (Nat×En)): ∃v,m.run Q w= .ok v w/\ak F w G R v p:=by
 unfold bL at h;split at h
 next v hv=>
  split at h
  next x hx=>simp at h;subst h;exact⟨v,aT hv w,.d (ax.kD F w hx)⟩
  cases h
 cases h
theorem ak.aW{F:Nat->Prop}{w:World}{G:Nat->Value}{R:List (Nat×En)}{v u:Value}{p:P}(h:ak F w G R v p)(hu:p.aW=some u):v=u:=by
 cases h<;>simp[P.aW] at hu
 case d x h=>exact h.aW hu
theorem S.aI{s:S}{n v:Nat}{o:Obj}(h:s.obj n v=some o): ∃e,lk s.rg n=some e/\e.aw=v/\e.obj=o:=by
 unfold S.obj at h;split at h
 ·simp_all
 cases h
theorem S.bB{s:S}{n v:Nat}(h:s.live n v=true): ∃e,lk s.rg n=some e/\e.aw=v/\e.obj.live=true:=by grind [S.live,S.aI,Obj.live]
theorem bT.at{R:List (Nat×En)}{n aw:Nat}{C:Prop}(h:bT R n aw C){e:En}(he:lk R n=some e)(hv:e.aw=aw)(hl:e.obj.live=true):C:=by obtain⟨e',a7,_,hc⟩:=h;grind
def fc(a:Act):Option (Nat×Bool)->Prop
 |none=>True
 |some (t,b)=>a.tmps[t]?=some (.bool b)
section
variable{Q:Program}{T:Tg}{F:Nat->Prop}{G:Nat->Value}{w:World}{a:Act}{s:S}
theorem Ae(h:aq Q T F G w a s)(x:Operand):bt F w G s.rg a.tmps (a.eval x) (s.ev x):=by
 cases x with
 |tmp t=>
  simp only[S.ev,Act.eval];cases hp:lk s.tm t with
  |none=>exact bt.of (.bad _)
  |some p=>exact h.tm t p hp
 |const v=>
  simp only[S.ev,Act.eval];split
  next x hx=>exact bt.of (.d (ax.kD F w hx))
  exact bt.of (.bad _)
 |func f=>exact bt.of (.fn f [] [] rfl (λi v c hv=>by simp at hv))
 |global g=>exact bt.of (.bad _)
theorem wB{g:Option (Nat×Bool)}(_:fc a g){v:Value}{p:P}(h:bt F w G s.rg a.tmps v p):ak F w G s.rg v (p.under g):=by
 cases p with
 |when t b q=>exact .bad _
 |_=>exact h
theorem au(h:aq Q T F G w a s){g:Option (Nat×Bool)}(hg:fc a g)(x:Operand):ak F w G s.rg (a.eval x) (s.eg g x):=wB hg (Ae h x)
theorem yN{t:Nat}{v:Value}(h:a.tmps.getD t undef=v)(hv:v≠undef):t<a.tmps.size:=by grind
theorem oo: ∀(ps:List P) (xs:List D),ui ps=some xs->ps=xs.map P.d
 | [],xs,h=>by grind [ui]
 |p::r,xs,h=>by
  cases p<;>simp[ui] at h;rename_i x;cases hr:ui r with
  |none=>grind
  |some ys=>simp[hr] at h;subst h;simp[oo r ys hr]
theorem qE{R:List (Nat×En)}{vs:List Value}{ps:List P}(hl:vs.length=ps.length)(cS: ∀v∈vs,v.oneCell'=true)
  (hc: ∀(i:Nat) (v:Value) (c:P),vs[i]?=some v->ps[i]?=some c->ak F w G R v c):ak F w G R (.agg ⟨vs⟩) (tk ps):=by
 unfold tk;split
 next xs Ec=>
  have e:=oo ps xs Ec;subst e;have hd: ∀(i:Nat) (v:Value) (c:D),vs[i]?=some v->xs[i]?=some c->ax F w v c:=λi v c hv fT=>by have:=hc i v (.d c) hv (by simp[fT]);cases this with |d h=>exact h
  refine .d (.agg vs xs (by grind) (λc fT=> ?_) hd);obtain⟨i,hi⟩:=zaq fT;have bu:i<vs.length:=by grind
  exact(hd i _ c (zad bu) hi).aF (cS _ (zaH bu))
 exact .agg vs ps hl cS hc
theorem cG{t:TypeId}{k:Nat}(h:sz Q t=some k): ∃i d,Q.info? t=some i/\Q.underlying t=some d/\i.size=k:=by grind [sz]
theorem run_sizeOf{t:TypeId}{k:Nat}(h:sz Q t=some k)(w:World):(Go.sizeOf t).run Q w= .ok k w:=by obtain⟨i,d,hi,_,rfl⟩:=cG h;simp[Go.sizeOf,typeInfo,hi]
theorem oq{t:TypeId}{d:TypeDesc}(h:Q.underlying t=some d)(w:World):(Go.isAgg t).run Q w= .ok (bF Q t) w:=by unfold Go.isAgg bF;rw[Sem.run_bind,run_underlying h w,h];cases d<;>simp
theorem bp(b o n:Nat):(⟨b,o,none⟩:Addr).add n=⟨b,o+n,none⟩:=by unfold Addr.add;simp
theorem wC{t:TypeId}{k:Nat}(hk:sz Q t=some k)(vs:List Value)(off:Nat)(hb: ∀j,j<(if bF Q t then k else 1)->off+j<vs.length)(w:World):
  (Go.part t ⟨vs⟩ off).run Q w= .ok (if bF Q t then .agg ((List.range k).map λj=>vs.getD (off+j) undef).toArray else vs.getD off undef) w:=by
 obtain⟨_,d,_,hd,_⟩:=cG hk;unfold Go.part;rw[Sem.run_bind,oq hd w];cases tE:bF Q t with
 |true=>simp only[Result.andThen_ok,zaT,Sem.run_bind,run_sizeOf hk,Sem.run_pure];congr 3;rw[<-zaL];apply za5;grind
 |false=>simp_all
theorem kc{t:TypeId}{k:Nat}{d:TypeDesc}(hk:sz Q t=some k)(hd:Q.underlying t=some d)(b o:Nat)(f:Nat->Value)(hf: ∀j,j<(if bF Q t then k else 1)->w.cell? ⟨b,o+j,none⟩=some (f j)):
  (loadVar t ⟨b,o,none⟩).run Q w= .ok (if bF Q t then .agg ((List.range k).map f).toArray else f 0) w:=by
 unfold loadVar;rw[Sem.run_bind,oq hd w];cases tE:bF Q t with
 |true=>have hl:=run_loadCells (P:=Q) w ⟨b,o,none⟩ k f (λj hj=>by rw[bp];grind);simp_all [run_sizeOf]
 |false=>simp_all
theorem qF{R:List (Nat×En)}{t:TypeId}{ps:List P}{off:Nat}{p:P}(h:oa Q t ps off=some p)(f:Nat->Value)(cS: ∀i,i<ps.length->(f i).oneCell'=true)
  (hp: ∀i c,ps[i]?=some c->ak F w G R (f i) c):
  ∃k,sz Q t=some k/\(∀j,j<(if bF Q t then k else 1)->off+j<ps.length)/\ak F w G R (if bF Q t then .agg ((List.range k).map λj=>f (off+j)).toArray else f off) p:=by
 unfold oa at h;cases hk:sz Q t with
 |none=>grind
 |some k=>
  refine⟨k,rfl,?_⟩;simp only[hk] at h;cases tE:bF Q t with
  |true=>
   simp only[tE,zaT] at h;split at h
   ·rename_i hle;have hle:off+k<=ps.length:=by simpa using hle
    grind [qE]
   cases h
  |false=>grind
theorem qG{t:TypeId}{cs:List D}{off:Nat}{x:D}(h:di Q t cs off=some x)(f:Nat->Value)(aQ: ∀c∈cs,c.aF=true)
  (hp: ∀i c,cs[i]?=some c->ax F w (f i) c):
  ∃k,sz Q t=some k/\(∀j,j<(if bF Q t then k else 1)->off+j<cs.length)/\ax F w (if bF Q t then .agg ((List.range k).map λj=>f (off+j)).toArray else f off) x:=by
 unfold di at h;cases hk:sz Q t with
 |none=>grind
 |some k=>
  refine⟨k,rfl,?_⟩;simp only[hk] at h;cases tE:bF Q t with
  |true=>
   simp only[tE,zaT] at h;split at h
   ·rename_i hle;have hle:off+k<=cs.length:=by simpa using hle
    simp at h;subst h;refine⟨λj hj=>by grind,?_⟩;refine .agg _ _ (by simp;omega) (λc hc=>aQ c (zbi (zbj hc))) (λi v c hv hc=> ?_);grind
   cases h
  |false=>grind
theorem kI{t:TypeId}{k:Nat}(h:sz Q t=some k): ∃d,Q.underlying t=some d:=by grind [cG]
theorem jA{t:TypeId}{k:Nat}(hk:sz Q t=some k)(b o:Nat)(f:Nat->Value)(hf: ∀j,j<(if bF Q t then k else 1)->w.cell? ⟨b,o+j,none⟩=some (f j)):
  (Instr.loadAt t (.pointer (some ⟨b,o,none⟩))).run Q w= .ok (if bF Q t then .agg ((List.range k).map f).toArray else f 0) w:=by
 obtain⟨d,hd⟩:=kI hk;simp only[Instr.loadAt,Instr.sureAddr,Sem.run_bind,Sem.run_pure,Result.andThen_ok];grind [kc]
theorem qH(h:aq Q T F G w a s){t:TypeId}{v:Value}{p q:P}(hv:ak F w G s.rg v p)(hq:ji Q s t p=some q): ∃u,(Instr.loadAt t v).run Q w= .ok u w/\ak F w G s.rg u q:=by
 unfold ji at hq;cases hv with
 |ref n aw off v hr h1=>
  simp only at hq;split at hq
  next ty ps ho=>obtain⟨e,he,bM,aO⟩:=S.aI ho;obtain⟨b,hG,rfl⟩:=hr.at he bM (by rw[aO];rfl);have hO:=h.rg n e he;rw[aO] at hO;obtain⟨b',cs,fa,hh,bK,cS,qk⟩:=hO;rw[hG] at fa;simp at fa;subst fa;obtain⟨k,hk,bu,sj⟩:=qF (R:=s.rg) hq (λi=>cs.getD i undef) (λi hi=>cS _ (by simp_all)) qk;refine⟨_,jA hk b off (λj=>cs.getD (off+j) undef) (λj hj=> ?_),sj⟩;rw[cell_of_row w b (off+j) cs ty (0,0) hh];simp_all
  cases hq
 |bE n aw i k off v h1 hr=>
  simp only at hq;split at hq
  next ty fz es ho=>
   obtain⟨e,he,bM,aO⟩:=S.aI ho;obtain⟨b,N,cap,hG,rfl⟩:=hr.at he bM (by rw[aO];rfl);have hO:=h.rg n e he;rw[aO] at hO;split at hq
   ·rename_i k' x gf hx;split at hq
    ·rename_i dS;have dS:k=k':=by simpa using dS
     subst dS;split at hq
     ·rename_i y hy;simp at hq;subst hq;rcases hO with⟨fa,_⟩| ⟨b',dR,cs,k2,fa,hh,wD,l3,hle,j9,bK,_,hE⟩
      ·rw[hG] at fa;cases fa
      rw[hG] at fa;simp at fa;obtain⟨rfl,_,_⟩:=fa;rw[gf] at wD;cases wD;obtain⟨hl,aQ,hcs⟩:=hE i x hx;obtain⟨k3,Cc,bu,sj⟩:=qG hy (λj=>cs.getD (i*k+j) undef) aQ (λj c hc=>hcs j c hc);have hi:i<es.length:=(zaa.1 hx).1;refine⟨_,jA Cc b (i*k+off) (λj=>cs.getD (i*k+(off+j)) undef) (λj hj=> ?_),.d sj⟩;have h2:=bu j hj;have h3:i*k+(off+j)<cs.size:=by
       rw[bK]
       calc i*k+(off+j)<i*k+k:=by omega
        _=(i+1)*k:=by rw[zau,zaN]
        _<=dR*k:=zag _ (by omega)
      rw[cell_of_row w b _ cs ty (0,0) hh,zaU];simp_all
     cases hq
    cases hq
   cases hq
  cases hq
 |cd x off b o hb aQ f hw hr=>
  simp only at hq;split at hq
  next y hy=>simp at hq;subst hq;obtain⟨k3,Cc,bu,sj⟩:=qG hy f aQ hr;refine⟨_,jA Cc b (o+off) (λj=>f (off+j)) (λj hj=> ?_),.d sj⟩;grind
  cases hq
 |_=>cases hq
theorem nO{v:Value}{p q:P}(hv:ak F w G s.rg v p)(hq:eA s p=some q):q=p/\((∃b,v= .pointer (some b))\/ ∃f c1 c2,v= .func (.func f) c1 c2):=by
 unfold eA at hq;cases hv with
 |ref n aw off v hr h1=>
  simp only at hq;split at hq
  next hl=>obtain⟨e,he,bM,hl⟩:=S.bB hl;obtain⟨b,_,hv⟩:=hr.at he bM hl;grind
  cases hq
 |bE n aw i k off v h1 hr=>
  simp only at hq;split at hq
  next hl=>obtain⟨e,he,bM,hl⟩:=S.bB hl;obtain⟨b,N,cap,_,hv⟩:=hr.at he bM hl;grind
  cases hq
 |cd x off b o hb aQ f hw hr=>grind
 |fn f vs cl hl hc=>grind
 |_=>cases hq
theorem ft{t:TypeId}{f o:Nat}(h:mh Q t f=some o)(b off:Nat)(w:World):(Instr.fieldAt t (.pointer (some ⟨b,off,none⟩)) f).run Q w= .ok (.pointer (some ⟨b,off+o,none⟩)) w:=by
 unfold mh at h;split at h
 next fs Hk=>
  split at h
  next fl E3=>
   split at h
   next k hk=>simp at h;subst h;simp[Instr.fieldAt,run_underlying Hk,E3,Instr.sureAddr,fieldPlace,run_sizeOf hk,bp]
   cases h
  cases h
 cases h
theorem nP{t:TypeId}{f:Nat}{v:Value}{p q:P}(hv:ak F w G s.rg v p)(hq:dn Q s t f p=some q): ∃u,(Instr.fieldAt t v f).run Q w= .ok u w/\ak F w G s.rg u q:=by
 unfold dn at hq;split at hq
 ·cases hq
 rename_i o ho;cases hv with
 |ref n aw off v hr h1=>
  simp only at hq;split at hq
  next hl=>simp at hq;subst hq;obtain⟨e,he,bM,hl⟩:=S.bB hl;obtain⟨b,hG,rfl⟩:=hr.at he bM hl;exact⟨_,ft ho b off w,.ref n aw (off+o) _ ⟨e,he,by omega,λ_ _=>⟨b,hG,rfl⟩⟩ rfl⟩
  cases hq
 |bE n aw i k off v h1 hr=>
  simp only at hq;split at hq
  next hl=>simp at hq;subst hq;obtain⟨e,he,bM,hl⟩:=S.bB hl;obtain⟨b,N,cap,hG,rfl⟩:=hr.at he bM hl;exact⟨_,ft ho b (i*k+off) w,.bE n aw i k (off+o) _ rfl ⟨e,he,by omega,λ_ _=>⟨b,N,cap,hG,by rw[zaU]⟩⟩⟩
  cases hq
 |cd x off b o' hb aQ f' hw hr=>simp at hq;subst hq;refine⟨_,ft ho b (o'+off) w,?_⟩;rw[zaU];exact .cd x (off+o) b o' hb aQ f' hw hr
 |_=>cases hq
theorem bI{t e:TypeId}(h:bc Q t=some e):Q.underlying t=some (.slice e):=by grind [bc]
theorem yO{t e:TypeId}(h:Q.underlying t=some (.slice e)):Q.elem t=e:=by simp[Program.elem,h]
theorem sk{t e:TypeId}{n:Nat}(h:tl Q t=some (n,e)):Q.underlying t=some (.array n e):=by grind [tl]
theorem dT{t e:TypeId}{n k:Nat}(ht:Q.underlying t=some (.array n e))(hk:sz Q e=some k)(b off:Nat)(kk:IntKind){j:Int}(hj:0<=j/\j<(n:Int)):
  (Instr.indexAt t (.pointer (some ⟨b,off,none⟩)) (.int kk j)).run Q w= .ok (.pointer (some ⟨b,off+j.toNat*k,none⟩)) w:=by
 simp[Instr.indexAt,asIntOf,run_underlying ht,Instr.sureAddr,hj,run_sizeOf hk,bp]
theorem qI{t e:TypeId}{n:Nat}{v u:Value}{p i q:P}(ht:Q.underlying t=some (.array n e))(hv:ak F w G s.rg v p)(hu:ak F w G s.rg u i)(hq:gU Q s n e p i=some q):
  ∃x,(Instr.indexAt t v u).run Q w= .ok x w/\ak F w G s.rg x q:=by
 unfold gU at hq;split at hq
 next kk j k hk=>
  cases hu with
  |d hu=>
   cases hu;split at hq
   ·rename_i hj;cases hv with
    |ref n aw off v hr h1=>
     simp only at hq;split at hq
     next hl=>simp at hq;subst hq;obtain⟨en,he,bM,hl⟩:=S.bB hl;obtain⟨b,hG,rfl⟩:=hr.at he bM hl;exact⟨_,dT ht hk b off kk hj,.ref n aw _ _ ⟨en,he,by omega,λ_ _=>⟨b,hG,rfl⟩⟩ rfl⟩
     cases hq
    |bE n aw i k' off v h1 hr=>
     simp only at hq;split at hq
     next hl=>simp at hq;subst hq;obtain⟨en,he,bM,hl⟩:=S.bB hl;obtain⟨b,N,cap,hG,rfl⟩:=hr.at he bM hl;exact⟨_,dT ht hk b _ kk hj,.bE n aw i k' _ _ rfl ⟨en,he,by omega,λ_ _=>⟨b,N,cap,hG,by rw[zaU]⟩⟩⟩
     cases hq
    |cd x off b o hb aQ f hw hr=>simp at hq;subst hq;refine⟨_,dT ht hk b _ kk hj,?_⟩;rw[zaU];exact .cd x _ b o hb aQ f hw hr
    |_=>cases hq
   cases hq
 cases hq
theorem nQ(h:aq Q T F G w a s){t:TypeId}{v u:Value}{p i q:P}(hv:ak F w G s.rg v p)(hu:ak F w G s.rg u i)(hq:cn Q s t p i=some q):
  ∃x,(Instr.indexAt t v u).run Q w= .ok x w/\ak F w G s.rg x q:=by
 unfold cn at hq;split at hq
 next n e het=>exact qI (sk het) hv hu hq
 split at hq
 next _ e kk j het=>
  have ew:=bI het;have wE:=yO ew;cases hu with
  |d hu=>
   cases hu;split at hq
   ·rename_i k hk;cases hv with
    |sl n aw len v h1 hr=>
     simp only at hq;split at hq
     ·rename_i ty fz es ho;split at hq
      ·rename_i sm;split at hq
       ·rename_i hj;simp at hq;subst hq;obtain⟨en,he,bM,aO⟩:=S.aI ho;obtain⟨a0,N,cap,hG,rfl,hle⟩:=hr.at he bM (by rw[aO];rfl);have hO:=h.rg n en he;rw[aO] at hO;rcases hO with⟨fa,_⟩| ⟨b',dR,cs,k2,fa,hh,wD,l3,AV,j9,bK,_,hE⟩
        ·skip
         grind
        rw[hG] at fa;obtain⟨rfl,rfl,rfl⟩:=fa;refine⟨_,?_,.bE n aw j.toNat (k+1) 0 (.pointer (some ⟨b',j.toNat*(k+1)+0,none⟩)) rfl ⟨en,he,by omega,λ_ _=>⟨b',_,_,hG,rfl⟩⟩⟩;rw[run_indexAt_slice w t ⟨b',0,none⟩ len cap _ j (by rw[wE];exact ew),zat hj,wE,run_sizeOf hk];simp[bp]
       cases hq
      cases hq
     cases hq
    |e9 n aw k0 yP len v h1 hr=>
     simp only at hq;split at hq
     ·rename_i ty fz es ho;split at hq
      ·rename_i sm;rw[zac] at sm;have Hl:k0=k+1:=zab sm.2;split at hq
       ·rename_i hj;simp at hq;subst hq;obtain⟨en,he,bM,aO⟩:=S.aI ho;obtain⟨a0,N,cap,hG,hle,a1,iZ,rfl,wF,hz⟩:=hr.at he bM (by rw[aO];rfl);obtain⟨b',AW,wG⟩: ∃b,a0=some ⟨b,0,none⟩/\a1=some ⟨b,yP*(k+1),none⟩:=by grind
        subst AW wG;refine⟨_,?_,.bE n aw (yP+j.toNat) (k+1) 0 (.pointer (some ⟨b',(yP+j.toNat)*(k+1)+0,none⟩)) rfl ⟨en,he,by omega,λ_ _=>⟨b',_,_,hG,rfl⟩⟩⟩;rw[run_indexAt_slice w t ⟨b',yP*(k+1),none⟩ len iZ _ j (by rw[wE];exact ew),zat hj,wE,run_sizeOf hk];simp[bp,zau]
       cases hq
      cases hq
     cases hq
    |d hv=>
     cases hv with
     |uu a0 k' cap=>simp at hq
     |vG b off k' cap es f j9 hb dS aQ hw hr=>
      simp only at hq;split at hq
      ·rename_i AX;have AX:k'=k+1:=by simpa using AX
       subst AX;split at hq
       ·rename_i hj;split at hq
        ·rename_i x hx;simp at hq;subst hq;have hi:j.toNat<es.length:=(zaa.1 hx).1;have Af:x∈es:=zan hx;refine⟨.pointer (some ⟨b,off+j.toNat*(k+1)+0,none⟩),?_,.cd x 0 b (off+j.toNat*(k+1)) hb (aQ x Af) (λm=>f (j.toNat*(k+1)+m)) (λm hm=> ?_) (λm c hc=>hr _ _ _ _ hx hc)⟩
         ·rw[run_indexAt_slice w t ⟨b,off,none⟩ es.length cap _ j (by rw[wE];exact ew),zat (by omega),wE,run_sizeOf hk];simp[bp]
         rw[zaU];refine hw _ ?_;rw[dS x Af] at hm
         calc j.toNat*(k+1)+m<j.toNat*(k+1)+(k+1):=by omega
          _=(j.toNat+1)*(k+1):=by rw[zau,zaN]
          _<=es.length*(k+1):=zag _ (by omega)
        cases hq
       cases hq
      cases hq
     |_=>cases hq
    |_=>cases hq
   cases hq
 cases hq
end
end Pi
