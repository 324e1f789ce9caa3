/- The text PiPure. -/
import Derived.Test.YtdgkdigdflkjhaaGreatDoorPiRep
namespace Pi
open Go
theorem db{α:Type}{Q}{m:Sem α}{v}(h:ax Q m=some v) w:m.run Q w= .ok v w:=by
 induction m with
 |pure a=>simp_all [ax]
 |program k ih=>exact ih _ h
 |mark m k ih=>exact ih h
 |_=>simp[ax] at h
theorem Qi{Q m p}(h:ey Q m=some p) F w G R: ∃v,m.run Q w= .ok v w/\aH F w G R v p:=by
 unfold ey at h;split at h
 next v hv=>
  split at h
  next x hx=>simp at h;subst h;exact⟨v,db hv w,.d (aY.vQ F w hx)⟩
  cases h
 cases h
theorem aH.cD{F w G R}{v u p}(h:aH F w G R v p)(hu:p.cD=some u):v=u:=by
 cases h<;>simp[P.cD] at hu
 case d x h=>exact h.cD hu
theorem S.bM{s:S}{n v o}(h:s.obj n v=some o): ∃e,lk s.rg n=some e/\e.aV=v/\e.obj=o:=by
 unfold S.obj at h;split at h
 ·simp_all
 cases h
theorem S.dG{s:S}{n v}(h:s.live n v=true): ∃e,lk s.rg n=some e/\e.aV=v/\e.obj.live=true:=by grind [S.live,S.bM,Obj.live]
theorem eL.at{R n aV}{C:Prop}(h:eL R n aV C){e}(he:lk R n=some e)(hv:e.aV=aV)(hl:e.obj.live=true):C:=by obtain⟨e',cR,_,hc⟩:=h;grind
def mR(a:Act):Option (Nat×Bool)->Prop
 |none=>True
 |some (t,b)=>a.tmps[t]?=some (.bool b)
section
variable{Q:Program}{T:Tg}{F:Nat->Prop}{G:Nat->Value}{w:World}{a:Act}{s:S}
theorem zx(h:aC Q T F G w a s) x:cE F w G s.rg a.tmps (a.eval x) (s.ev x):=by
 cases x with
 |tmp t=>
  simp only[S.ev,Act.eval];cases hp:lk s.tm t with
  |none=>exact cE.of (.bad _)
  |some p=>exact h.tm t p hp
 |const v=>
  simp only[S.ev,Act.eval];split
  next x hx=>exact cE.of (.d (aY.vQ F w hx))
  exact cE.of (.bad _)
 |func f=>exact cE.of (.fn f [] [] rfl (λi v c hv=>by simp at hv))
 |global g=>exact cE.of (.bad _)
theorem TL{g}(_:mR a g){v p}(h:cE F w G s.rg a.tmps v p):aH F w G s.rg v (p.under g):=by
 cases p with
 |when t b q=>exact .bad _
 |_=>exact h
theorem aU(h:aC Q T F G w a s){g}(hg:mR a g) x:aH F w G s.rg (a.eval x) (s.eg g x):=TL hg (zx h x)
theorem qaf{t v}(h:a.tmps.getD t undef=v)(hv:v≠undef):t<a.tmps.size:=by grind
theorem Dl: ∀ps xs,Cj ps=some xs->ps=xs.map P.d
 | [],xs,h=>by grind [Cj]
 |p::r,xs,h=>by
  cases p<;>simp[Cj] at h;rename_i x;cases hr:Cj r with
  |none=>grind
  |some ys=>simp[hr] at h;subst h;simp[Dl r ys hr]
theorem HU{R vs ps}(hl:vs.length=ps.length)(jk: ∀v∈vs,v.oneCell'=true)
  (hc: ∀(i:Nat) (v:Value) (c:P),vs[i]?=some v->ps[i]?=some c->aH F w G R v c):aH F w G R (.agg ⟨vs⟩) (Nx ps):=by
 unfold Nx;split
 next xs hxs=>
  have e:=Dl ps xs hxs;subst e;have hd: ∀(i:Nat) (v:Value) (c:D),vs[i]?=some v->xs[i]?=some c->aY F w v c:=λi v c hv lF=>by have:=hc i v (.d c) hv (by simp[lF]);cases this with |d h=>exact h
  refine .d (.agg vs xs (by grind) (λc lF=> ?_) hd);obtain⟨i,hi⟩:=zaV lF;have bK:i<vs.length:=by grind
  exact(hd i _ c (zad bK) hi).bL (jk _ (zas bK))
 exact .agg vs ps hl jk hc
theorem gN{t k}(h:sz Q t=some k): ∃i d,Q.info? t=some i/\Q.underlying t=some d/\i.size=k:=by grind [sz]
theorem run_sizeOf{t k}(h:sz Q t=some k) w:(Go.sizeOf t).run Q w= .ok k w:=by obtain⟨i,d,hi,_,rfl⟩:=gN h;simp[Go.sizeOf,typeInfo,hi]
theorem jm{t d}(h:Q.underlying t=some d) w:(Go.isAgg t).run Q w= .ok (dT Q t) w:=by unfold Go.isAgg dT;rw[Sem.run_bind,run_underlying h w,h];cases d<;>simp
theorem addr_add b o n:(⟨b,o,none⟩:Addr).add n=⟨b,o+n,none⟩:=by unfold Addr.add;simp
theorem TM{t k}(hk:sz Q t=some k) vs off (hb: ∀j,j<(if dT Q t then k else 1)->off+j<vs.length) w:
  (Go.part t ⟨vs⟩ off).run Q w= .ok (if dT Q t then .agg ((List.range k).map λj=>vs.getD (off+j) undef).toArray else vs.getD off undef) w:=by
 obtain⟨_,d,_,hd,_⟩:=gN hk;unfold Go.part;rw[Sem.run_bind,jm hd w];cases KP:dT Q t with
 |true=>simp only[Result.andThen_ok,zbo,Sem.run_bind,run_sizeOf hk,Sem.run_pure];congr 3;rw[<-zbs];apply zcG;grind
 |false=>simp_all
theorem uw{t k d}(hk:sz Q t=some k)(hd:Q.underlying t=some d) b o f (hf: ∀j,j<(if dT Q t then k else 1)->w.cell? ⟨b,o+j,none⟩=some (f j)):
  (loadVar t ⟨b,o,none⟩).run Q w= .ok (if dT Q t then .agg ((List.range k).map f).toArray else f 0) w:=by
 unfold loadVar;rw[Sem.run_bind,jm hd w];cases KP:dT Q t with
 |true=>have hl:=run_loadCells (P:=Q) w ⟨b,o,none⟩ k f (λj hj=>by rw[addr_add];grind);simp_all [run_sizeOf]
 |false=>simp_all
theorem HV{R t ps off}{p}(h:Dd Q t ps off=some p)(f:Nat->Value)(jk: ∀i,i<ps.length->(f i).oneCell'=true)
  (hp: ∀i c,ps[i]?=some c->aH F w G R (f i) c):
  ∃k,sz Q t=some k/\(∀j,j<(if dT Q t then k else 1)->off+j<ps.length)/\aH F w G R (if dT Q t then .agg ((List.range k).map λj=>f (off+j)).toArray else f off) p:=by
 unfold Dd at h;cases hk:sz Q t with
 |none=>grind
 |some k=>
  refine⟨k,rfl,?_⟩;simp only[hk] at h;cases KP:dT Q t with
  |true=>
   simp only[KP,zbo] at h;split at h
   ·rename_i hle;have hle:off+k<=ps.length:=by simpa using hle
    grind [HU]
   cases h
  |false=>grind
theorem HW{t cs off x}(h:jI Q t cs off=some x)(f:Nat->Value)(cm: ∀c∈cs,c.bL=true)
  (hp: ∀i c,cs[i]?=some c->aY F w (f i) c):
  ∃k,sz Q t=some k/\(∀j,j<(if dT Q t then k else 1)->off+j<cs.length)/\aY F w (if dT Q t then .agg ((List.range k).map λj=>f (off+j)).toArray else f off) x:=by
 unfold jI at h;cases hk:sz Q t with
 |none=>grind
 |some k=>
  refine⟨k,rfl,?_⟩;simp only[hk] at h;cases KP:dT Q t with
  |true=>
   simp only[KP,zbo] at h;split at h
   ·rename_i hle;have hle:off+k<=cs.length:=by simpa using hle
    simp at h;subst h;refine⟨λj hj=>by grind,?_⟩;refine .agg _ _ (by simp;omega) (λc hc=>cm c (zb8 (zbm hc))) (λi v c hv hc=> ?_);grind
   cases h
  |false=>grind
theorem vV{t k}(h:sz Q t=some k): ∃d,Q.underlying t=some d:=by grind [gN]
theorem s8{t k}(hk:sz Q t=some k) b o f (hf: ∀j,j<(if dT Q t then k else 1)->w.cell? ⟨b,o+j,none⟩=some (f j)):
  (Instr.loadAt t (.pointer (some ⟨b,o,none⟩))).run Q w= .ok (if dT Q t then .agg ((List.range k).map f).toArray else f 0) w:=by
 obtain⟨d,hd⟩:=vV hk;simp only[Instr.loadAt,Instr.sureAddr,Sem.run_bind,Sem.run_pure,Result.andThen_ok];grind [uw]
theorem HX(h:aC Q T F G w a s){t v p q}(hv:aH F w G s.rg v p)(hq:sf Q s t p=some q): ∃u,(Instr.loadAt t v).run Q w= .ok u w/\aH F w G s.rg u q:=by
 unfold sf at hq;cases hv with
 |ref n aV off v hr h1=>
  simp only at hq;split at hq
  next ty ps ho=>obtain⟨e,he,eb,b8⟩:=S.bM ho;obtain⟨b,hG,rfl⟩:=hr.at he eb (by rw[b8];rfl);have hO:=h.rg n e he;rw[b8] at hO;obtain⟨b',cs,rr,hh,dS,jk,sq⟩:=hO;rw[hG] at rr;simp at rr;subst rr;obtain⟨k,hk,bK,Lv⟩:=HV (R:=s.rg) hq (λi=>cs.getD i undef) (λi hi=>jk _ (by simp_all)) sq;refine⟨_,s8 hk b off (λj=>cs.getD (off+j) undef) (λj hj=> ?_),Lv⟩;rw[cell_of_row w b (off+j) cs ty (0,0) hh];simp_all
  cases hq
 |dJ n aV i k off v h1 hr=>
  simp only at hq;split at hq
  next ty fz es ho=>
   obtain⟨e,he,eb,b8⟩:=S.bM ho;obtain⟨b,N,cap,hG,rfl⟩:=hr.at he eb (by rw[b8];rfl);have hO:=h.rg n e he;rw[b8] at hO;split at hq
   ·rename_i k' x iB hx;split at hq
    ·rename_i kj;have kj:k=k':=by simpa using kj
     subst kj;split at hq
     ·rename_i y hy;simp at hq;subst hq;rcases hO with⟨rr,_⟩| ⟨b',jl,cs,k2,rr,hh,qj,fO,hle,vU,dS,_,hE⟩
      ·rw[hG] at rr;cases rr
      rw[hG] at rr;simp at rr;obtain⟨rfl,_,_⟩:=rr;rw[iB] at qj;cases qj;obtain⟨hl,cm,hcs⟩:=hE i x hx;obtain⟨k3,hk3,bK,Lv⟩:=HW hy (λj=>cs.getD (i*k+j) undef) cm (λj c hc=>hcs j c hc);have hi:i<es.length:=(zae.1 hx).1;refine⟨_,s8 hk3 b (i*k+off) (λj=>cs.getD (i*k+(off+j)) undef) (λj hj=> ?_),.d Lv⟩;have h2:=bK j hj;have h3:i*k+(off+j)<cs.size:=by
       rw[dS]
       calc i*k+(off+j)<i*k+k:=by omega
        _=(i+1)*k:=by rw[za2,zbB]
        _<=jl*k:=zar _ (by omega)
      rw[cell_of_row w b _ cs ty (0,0) hh,zbI];simp_all
     cases hq
    cases hq
   cases hq
  cases hq
 |fh x off b o hb cm f hw hr=>
  simp only at hq;split at hq
  next y hy=>simp at hq;subst hq;obtain⟨k3,hk3,bK,Lv⟩:=HW hy f cm hr;refine⟨_,s8 hk3 b (o+off) (λj=>f (off+j)) (λj hj=> ?_),.d Lv⟩;grind
  cases hq
 |_=>cases hq
theorem Cl{v p q}(hv:aH F w G s.rg v p)(hq:k8 s p=some q):q=p/\((∃b,v= .pointer (some b))\/ ∃f c1 c2,v= .func (.func f) c1 c2):=by
 unfold k8 at hq;cases hv with
 |ref n aV off v hr h1=>
  simp only at hq;split at hq
  next hl=>obtain⟨e,he,eb,hl⟩:=S.dG hl;obtain⟨b,_,hv⟩:=hr.at he eb hl;grind
  cases hq
 |dJ n aV i k off v h1 hr=>
  simp only at hq;split at hq
  next hl=>obtain⟨e,he,eb,hl⟩:=S.dG hl;obtain⟨b,N,cap,_,hv⟩:=hr.at he eb hl;grind
  cases hq
 |fh x off b o hb cm f hw hr=>grind
 |fn f vs cW hl hc=>grind
 |_=>cases hq
theorem nB{t f o}(h:zp Q t f=some o) b off w:(Instr.fieldAt t (.pointer (some ⟨b,off,none⟩)) f).run Q w= .ok (.pointer (some ⟨b,off+o,none⟩)) w:=by
 unfold zp at h;split at h
 next fs hfs=>
  split at h
  next fl xZ=>
   split at h
   next k hk=>simp at h;subst h;simp[Instr.fieldAt,run_underlying hfs,xZ,Instr.sureAddr,fieldPlace,run_sizeOf hk,addr_add]
   cases h
  cases h
 cases h
theorem Cm{t f v p q}(hv:aH F w G s.rg v p)(hq:ji Q s t f p=some q): ∃u,(Instr.fieldAt t v f).run Q w= .ok u w/\aH F w G s.rg u q:=by
 unfold ji at hq;split at hq
 ·cases hq
 rename_i o ho;cases hv with
 |ref n aV off v hr h1=>
  simp only at hq;split at hq
  next hl=>simp at hq;subst hq;obtain⟨e,he,eb,hl⟩:=S.dG hl;obtain⟨b,hG,rfl⟩:=hr.at he eb hl;exact⟨_,nB ho b off w,.ref n aV (off+o) _ ⟨e,he,by omega,λ_ _=>⟨b,hG,rfl⟩⟩ rfl⟩
  cases hq
 |dJ n aV i k off v h1 hr=>
  simp only at hq;split at hq
  next hl=>simp at hq;subst hq;obtain⟨e,he,eb,hl⟩:=S.dG hl;obtain⟨b,N,cap,hG,rfl⟩:=hr.at he eb hl;exact⟨_,nB ho b (i*k+off) w,.dJ n aV i k (off+o) _ rfl ⟨e,he,by omega,λ_ _=>⟨b,N,cap,hG,by rw[zbI]⟩⟩⟩
  cases hq
 |fh x off b o' hb cm f' hw hr=>simp at hq;subst hq;refine⟨_,nB ho b (o'+off) w,?_⟩;rw[zbI];exact .fh x (off+o) b o' hb cm f' hw hr
 |_=>cases hq
theorem dM{t e}(h:cX Q t=some e):Q.underlying t=some (.slice e):=by grind [cX]
theorem qag{t e}(h:Q.underlying t=some (.slice e)):Q.elem t=e:=by simp[Program.elem,h]
theorem Lw{t e n}(h:Ny Q t=some (n,e)):Q.underlying t=some (.array n e):=by grind [Ny]
theorem km{t e n k}(ht:Q.underlying t=some (.array n e))(hk:sz Q e=some k) b off kk {j}(hj:0<=j/\j<(n:Int)):
  (Instr.indexAt t (.pointer (some ⟨b,off,none⟩)) (.int kk j)).run Q w= .ok (.pointer (some ⟨b,off+j.toNat*k,none⟩)) w:=by
 simp[Instr.indexAt,asIntOf,run_underlying ht,Instr.sureAddr,hj,run_sizeOf hk,addr_add]
theorem HY{t e n v u p i q}(ht:Q.underlying t=some (.array n e))(hv:aH F w G s.rg v p)(hu:aH F w G s.rg u i)(hq:qq Q s n e p i=some q):
  ∃x,(Instr.indexAt t v u).run Q w= .ok x w/\aH F w G s.rg x q:=by
 unfold qq at hq;split at hq
 next kk j k hk=>
  cases hu with
  |d hu=>
   cases hu;split at hq
   ·rename_i hj;cases hv with
    |ref n aV off v hr h1=>
     simp only at hq;split at hq
     next hl=>simp at hq;subst hq;obtain⟨en,he,eb,hl⟩:=S.dG hl;obtain⟨b,hG,rfl⟩:=hr.at he eb hl;exact⟨_,km ht hk b off kk hj,.ref n aV _ _ ⟨en,he,by omega,λ_ _=>⟨b,hG,rfl⟩⟩ rfl⟩
     cases hq
    |dJ n aV i k' off v h1 hr=>
     simp only at hq;split at hq
     next hl=>simp at hq;subst hq;obtain⟨en,he,eb,hl⟩:=S.dG hl;obtain⟨b,N,cap,hG,rfl⟩:=hr.at he eb hl;exact⟨_,km ht hk b _ kk hj,.dJ n aV i k' _ _ rfl ⟨en,he,by omega,λ_ _=>⟨b,N,cap,hG,by rw[zbI]⟩⟩⟩
     cases hq
    |fh x off b o hb cm f hw hr=>simp at hq;subst hq;refine⟨_,km ht hk b _ kk hj,?_⟩;rw[zbI];exact .fh x _ b o hb cm f hw hr
    |_=>cases hq
   cases hq
 cases hq
theorem Cn(h:aC Q T F G w a s){t v u p i q}(hv:aH F w G s.rg v p)(hu:aH F w G s.rg u i)(hq:fq Q s t p i=some q):
  ∃x,(Instr.indexAt t v u).run Q w= .ok x w/\aH F w G s.rg x q:=by
 unfold fq at hq;split at hq
 next n e het=>exact HY (Lw het) hv hu hq
 split at hq
 next _ e kk j het=>
  have nC:=dM het;have Sw:=qag nC;cases hu with
  |d hu=>
   cases hu;split at hq
   ·rename_i k hk;cases hv with
    |sl n aV len v h1 hr=>
     simp only at hq;split at hq
     ·rename_i ty fz es ho;split at hq
      ·rename_i Lx;split at hq
       ·rename_i hj;simp at hq;subst hq;obtain⟨en,he,eb,b8⟩:=S.bM ho;obtain⟨a0,N,cap,hG,rfl,hle⟩:=hr.at he eb (by rw[b8];rfl);have hO:=h.rg n en he;rw[b8] at hO;rcases hO with⟨rr,_⟩| ⟨b',jl,cs,k2,rr,hh,qj,fO,qfq,vU,dS,_,hE⟩
        ·skip
         grind
        rw[hG] at rr;obtain⟨rfl,rfl,rfl⟩:=rr;refine⟨_,?_,.dJ n aV j.toNat (k+1) 0 (.pointer (some ⟨b',j.toNat*(k+1)+0,none⟩)) rfl ⟨en,he,by omega,λ_ _=>⟨b',_,_,hG,rfl⟩⟩⟩;rw[run_indexAt_slice w t ⟨b',0,none⟩ len cap _ j (by rw[Sw];exact nC),zap hj,Sw,run_sizeOf hk];simp[addr_add]
       cases hq
      cases hq
     cases hq
    |mG n aV k0 qah len v h1 hr=>
     simp only at hq;split at hq
     ·rename_i ty fz es ho;split at hq
      ·rename_i Lx;rw[zac] at Lx;have qoR:k0=k+1:=zag Lx.2;split at hq
       ·rename_i hj;simp at hq;subst hq;obtain⟨en,he,eb,b8⟩:=S.bM ho;obtain⟨a0,N,cap,hG,hle,a1,rW,rfl,TN,hz⟩:=hr.at he eb (by rw[b8];rfl);obtain⟨b',ha0,TO⟩: ∃b,a0=some ⟨b,0,none⟩/\a1=some ⟨b,qah*(k+1),none⟩:=by grind
        subst ha0 TO;refine⟨_,?_,.dJ n aV (qah+j.toNat) (k+1) 0 (.pointer (some ⟨b',(qah+j.toNat)*(k+1)+0,none⟩)) rfl ⟨en,he,by omega,λ_ _=>⟨b',_,_,hG,rfl⟩⟩⟩;rw[run_indexAt_slice w t ⟨b',qah*(k+1),none⟩ len rW _ j (by rw[Sw];exact nC),zap hj,Sw,run_sizeOf hk];simp[addr_add,za2]
       cases hq
      cases hq
     cases hq
    |d hv=>
     cases hv with
     |Qf a0 k' cap=>simp at hq
     |Sv b off k' cap es f vU hb kj cm hw hr=>
      simp only at hq;split at hq
      ·rename_i qfr;have qfr:k'=k+1:=by simpa using qfr
       subst qfr;split at hq
       ·rename_i hj;split at hq
        ·rename_i x hx;simp at hq;subst hq;have hi:j.toNat<es.length:=(zae.1 hx).1;have hxm:x∈es:=zaA hx;refine⟨.pointer (some ⟨b,off+j.toNat*(k+1)+0,none⟩),?_,.fh x 0 b (off+j.toNat*(k+1)) hb (cm x hxm) (λm=>f (j.toNat*(k+1)+m)) (λm hm=> ?_) (λm c hc=>hr _ _ _ _ hx hc)⟩
         ·rw[run_indexAt_slice w t ⟨b,off,none⟩ es.length cap _ j (by rw[Sw];exact nC),zap (by omega),Sw,run_sizeOf hk];simp[addr_add]
         rw[zbI];refine hw _ ?_;rw[kj x hxm] at hm
         calc j.toNat*(k+1)+m<j.toNat*(k+1)+(k+1):=by omega
          _=(j.toNat+1)*(k+1):=by rw[za2,zbB]
          _<=es.length*(k+1):=zar _ (by omega)
        cases hq
       cases hq
      cases hq
     |_=>cases hq
    |_=>cases hq
   cases hq
 cases hq
end
end Pi
