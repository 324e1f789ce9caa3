/- The text PiPure. -/
import Derived.Test.YtfelfooeclnbiaaPiRep
namespace Pi
open Go
theorem aS{α:Type}{Q:Program}{m:Sem α}{v:α}(h:ai Q m=some v)(w:World):m.run Q w= .ok v w:=by
 induction m with
 |pure a=>simp_all [ai]
 |program k ih=>exact ih _ h
 |mark m k ih=>exact ih h
 |_=>simp[ai] at h
theorem sU{Q:Program}{m:Sem Value}{p:P}(h:bC Q m=some p)(F:Nat->Prop)(w:World)(G:Nat->Value)(R:List (Nat×En)): ∃v,m.run Q w= .ok v w/\ao F w G R v p:=by
 unfold bC at h;split at h
 next v hv=>
  split at h
  next x hx=>simp at h;subst h;exact⟨v,aS hv w,.d (ay.jK F w hx)⟩
  cases h
 cases h
theorem ao.aV{F:Nat->Prop}{w:World}{G:Nat->Value}{R:List (Nat×En)}{v u:Value}{p:P}(h:ao F w G R v p)(hu:p.aV=some u):v=u:=by
 cases h<;>simp[P.aV] at hu
 case d x h=>exact h.aV hu
theorem S.aJ{s:S}{n v:Nat}{o:Obj}(h:s.obj n v=some o): ∃e,lk s.rg n=some e/\e.aw=v/\e.obj=o:=by
 unfold S.obj at h;split at h
 ·simp_all
 cases h
theorem S.bq{s:S}{n v:Nat}(h:s.live n v=true): ∃e,lk s.rg n=some e/\e.aw=v/\e.obj.live=true:=by grind [S.live,S.aJ,Obj.live]
theorem bL.at{R:List (Nat×En)}{n aw:Nat}{C:Prop}(h:bL R n aw C){e:En}(he:lk R n=some e)(hv:e.aw=aw)(hl:e.obj.live=true):C:=by obtain⟨e',aW,_,hc⟩:=h;grind
def eN(a:Act):Option (Nat×Bool)->Prop
 |none=>True
 |some (t,b)=>a.tmps[t]?=some (.bool b)
section
variable{Q:Program}{T:Tg}{F:Nat->Prop}{G:Nat->Value}{w:World}{a:Act}{s:S}
theorem x8(h:ar Q T F G w a s)(x:Operand):bj F w G s.rg a.tmps (a.eval x) (s.ev x):=by
 cases x with
 |tmp t=>
  simp only[S.ev,Act.eval];cases hp:lk s.tm t with
  |none=>exact bj.of (.bad _)
  |some p=>exact h.tm t p hp
 |const v=>
  simp only[S.ev,Act.eval];split
  next x hx=>exact bj.of (.d (ay.jK F w hx))
  exact bj.of (.bad _)
 |func f=>exact bj.of (.fn f [] [] rfl (λi v c hv=>by simp at hv))
 |global g=>exact bj.of (.bad _)
theorem uU{g:Option (Nat×Bool)}(_:eN a g){v:Value}{p:P}(h:bj F w G s.rg a.tmps v p):ao F w G s.rg v (p.under g):=by
 cases p with
 |when t b q=>exact .bad _
 |_=>exact h
theorem av(h:ar Q T F G w a s){g:Option (Nat×Bool)}(hg:eN a g)(x:Operand):ao F w G s.rg (a.eval x) (s.eg g x):=uU hg (x8 h x)
theorem wZ{t:Nat}{v:Value}(h:a.tmps.getD t undef=v)(hv:v≠undef):t<a.tmps.size:=by grind
theorem nv: ∀(ps:List P) (xs:List D),sM ps=some xs->ps=xs.map P.d
 | [],xs,h=>by grind [sM]
 |p::r,xs,h=>by
  cases p<;>simp[sM] at h;rename_i x;cases hr:sM r with
  |none=>grind
  |some ys=>simp[hr] at h;subst h;simp[nv r ys hr]
theorem pw{R:List (Nat×En)}{vs:List Value}{ps:List P}(hl:vs.length=ps.length)(cK: ∀v∈vs,v.oneCell'=true)
  (hc: ∀(i:Nat) (v:Value) (c:P),vs[i]?=some v->ps[i]?=some c->ao F w G R v c):ao F w G R (.agg ⟨vs⟩) (rV ps):=by
 unfold rV;split
 next xs zN=>
  have e:=nv ps xs zN;subst e;have hd: ∀(i:Nat) (v:Value) (c:D),vs[i]?=some v->xs[i]?=some c->ay F w v c:=λi v c hv fB=>by have:=hc i v (.d c) hv (by simp[fB]);cases this with |d h=>exact h
  refine .d (.agg vs xs (by grind) (λc fB=> ?_) hd);obtain⟨i,hi⟩:=zar fB;have bm:i<vs.length:=by grind
  exact(hd i _ c (zab bm) hi).aG (cK _ (za2 bm))
 exact .agg vs ps hl cK hc
theorem cy{t:TypeId}{k:Nat}(h:sz Q t=some k): ∃i d,Q.info? t=some i/\Q.underlying t=some d/\i.size=k:=by grind [sz]
theorem run_sizeOf{t:TypeId}{k:Nat}(h:sz Q t=some k)(w:World):(Go.sizeOf t).run Q w= .ok k w:=by obtain⟨i,d,hi,_,rfl⟩:=cy h;simp[Go.sizeOf,typeInfo,hi]
theorem nw{t:TypeId}{d:TypeDesc}(h:Q.underlying t=some d)(w:World):(Go.isAgg t).run Q w= .ok (bt Q t) w:=by unfold Go.isAgg bt;rw[Sem.run_bind,run_underlying h w,h];cases d<;>simp
theorem addr_add(b o n:Nat):(⟨b,o,none⟩:Addr).add n=⟨b,o+n,none⟩:=by unfold Addr.add;simp
theorem uV{t:TypeId}{k:Nat}(hk:sz Q t=some k)(vs:List Value)(off:Nat)(hb: ∀j,j<(if bt Q t then k else 1)->off+j<vs.length)(w:World):
  (Go.part t ⟨vs⟩ off).run Q w= .ok (if bt Q t then .agg ((List.range k).map λj=>vs.getD (off+j) undef).toArray else vs.getD off undef) w:=by
 obtain⟨_,d,_,hd,_⟩:=cy hk;unfold Go.part;rw[Sem.run_bind,nw hd w];cases r8:bt Q t with
 |true=>simp only[Result.andThen_ok,zaR,Sem.run_bind,run_sizeOf hk,Sem.run_pure];congr 3;rw[<-zaJ];apply za5;grind
 |false=>simp_all
theorem js{t:TypeId}{k:Nat}{d:TypeDesc}(hk:sz Q t=some k)(hd:Q.underlying t=some d)(b o:Nat)(f:Nat->Value)(hf: ∀j,j<(if bt Q t then k else 1)->w.cell? ⟨b,o+j,none⟩=some (f j)):
  (loadVar t ⟨b,o,none⟩).run Q w= .ok (if bt Q t then .agg ((List.range k).map f).toArray else f 0) w:=by
 unfold loadVar;rw[Sem.run_bind,nw hd w];cases r8:bt Q t with
 |true=>have hl:=run_loadCells (P:=Q) w ⟨b,o,none⟩ k f (λj hj=>by rw[addr_add];grind);simp_all [run_sizeOf]
 |false=>simp_all
theorem py{R:List (Nat×En)}{t:TypeId}{ps:List P}{off:Nat}{p:P}(h:nj Q t ps off=some p)(f:Nat->Value)(cK: ∀i,i<ps.length->(f i).oneCell'=true)
  (hp: ∀i c,ps[i]?=some c->ao F w G R (f i) c):
  ∃k,sz Q t=some k/\(∀j,j<(if bt Q t then k else 1)->off+j<ps.length)/\ao F w G R (if bt Q t then .agg ((List.range k).map λj=>f (off+j)).toArray else f off) p:=by
 unfold nj at h;cases hk:sz Q t with
 |none=>grind
 |some k=>
  refine⟨k,rfl,?_⟩;simp only[hk] at h;cases r8:bt Q t with
  |true=>
   simp only[r8,zaR] at h;split at h
   ·rename_i hle;have hle:off+k<=ps.length:=by simpa using hle
    grind [pw]
   cases h
  |false=>grind
theorem pz{t:TypeId}{cs:List D}{off:Nat}{x:D}(h:c6 Q t cs off=some x)(f:Nat->Value)(aO: ∀c∈cs,c.aG=true)
  (hp: ∀i c,cs[i]?=some c->ay F w (f i) c):
  ∃k,sz Q t=some k/\(∀j,j<(if bt Q t then k else 1)->off+j<cs.length)/\ay F w (if bt Q t then .agg ((List.range k).map λj=>f (off+j)).toArray else f off) x:=by
 unfold c6 at h;cases hk:sz Q t with
 |none=>grind
 |some k=>
  refine⟨k,rfl,?_⟩;simp only[hk] at h;cases r8:bt Q t with
  |true=>
   simp only[r8,zaR] at h;split at h
   ·rename_i hle;have hle:off+k<=cs.length:=by simpa using hle
    simp at h;subst h;refine⟨λj hj=>by grind,?_⟩;refine .agg _ _ (by simp;omega) (λc hc=>aO c (zbj (zbk hc))) (λi v c hv hc=> ?_);grind
   cases h
  |false=>grind
theorem jO{t:TypeId}{k:Nat}(h:sz Q t=some k): ∃d,Q.underlying t=some d:=by grind [cy]
theorem iO{t:TypeId}{k:Nat}(hk:sz Q t=some k)(b o:Nat)(f:Nat->Value)(hf: ∀j,j<(if bt Q t then k else 1)->w.cell? ⟨b,o+j,none⟩=some (f j)):
  (Instr.loadAt t (.pointer (some ⟨b,o,none⟩))).run Q w= .ok (if bt Q t then .agg ((List.range k).map f).toArray else f 0) w:=by
 obtain⟨d,hd⟩:=jO hk;simp only[Instr.loadAt,Instr.sureAddr,Sem.run_bind,Sem.run_pure,Result.andThen_ok];grind [js]
theorem pA(h:ar Q T F G w a s){t:TypeId}{v:Value}{p q:P}(hv:ao F w G s.rg v p)(hq:iu Q s t p=some q): ∃u,(Instr.loadAt t v).run Q w= .ok u w/\ao F w G s.rg u q:=by
 unfold iu at hq;cases hv with
 |ref n aw off v hr h1=>
  simp only at hq;split at hq
  next ty ps ho=>obtain⟨e,he,bE,aN⟩:=S.aJ ho;obtain⟨b,hG,rfl⟩:=hr.at he bE (by rw[aN];rfl);have hO:=h.rg n e he;rw[aN] at hO;obtain⟨b',cs,dO,hh,bn,cK,pg⟩:=hO;rw[hG] at dO;simp at dO;subst dO;obtain⟨k,hk,bm,qY⟩:=py (R:=s.rg) hq (λi=>cs.getD i undef) (λi hi=>cK _ (by simp_all)) pg;refine⟨_,iO hk b off (λj=>cs.getD (off+j) undef) (λj hj=> ?_),qY⟩;rw[cell_of_row w b (off+j) cs ty (0,0) hh];simp_all
  cases hq
 |bs n aw i k off v h1 hr=>
  simp only at hq;split at hq
  next ty fz es ho=>
   obtain⟨e,he,bE,aN⟩:=S.aJ ho;obtain⟨b,N,cap,hG,rfl⟩:=hr.at he bE (by rw[aN];rfl);have hO:=h.rg n e he;rw[aN] at hO;split at hq
   ·rename_i k' x eO hx;split at hq
    ·rename_i dK;have dK:k=k':=by simpa using dK
     subst dK;split at hq
     ·rename_i y hy;simp at hq;subst hq;rcases hO with⟨dO,_⟩| ⟨b',cX,cs,k2,dO,hh,r9,jt,hle,jq,bn,_,hE⟩
      ·rw[hG] at dO;cases dO
      rw[hG] at dO;simp at dO;obtain⟨rfl,_,_⟩:=dO;rw[eO] at r9;cases r9;obtain⟨hl,aO,hcs⟩:=hE i x hx;obtain⟨k3,zO,bm,qY⟩:=pz hy (λj=>cs.getD (i*k+j) undef) aO (λj c hc=>hcs j c hc);have hi:i<es.length:=(zaa.1 hx).1;refine⟨_,iO zO b (i*k+off) (λj=>cs.getD (i*k+(off+j)) undef) (λj hj=> ?_),.d qY⟩;have h2:=bm j hj;have h3:i*k+(off+j)<cs.size:=by
       rw[bn]
       calc i*k+(off+j)<i*k+k:=by omega
        _=(i+1)*k:=by rw[zas,zaI]
        _<=cX*k:=zaf _ (by omega)
      rw[cell_of_row w b _ cs ty (0,0) hh,zaT];simp_all
     cases hq
    cases hq
   cases hq
  cases hq
 |bT x off b o hb aO f hw hr=>
  simp only at hq;split at hq
  next y hy=>simp at hq;subst hq;obtain⟨k3,zO,bm,qY⟩:=pz hy f aO hr;refine⟨_,iO zO b (o+off) (λj=>f (off+j)) (λj hj=> ?_),.d qY⟩;grind
  cases hq
 |_=>cases hq
theorem mO{v:Value}{p q:P}(hv:ao F w G s.rg v p)(hq:dY s p=some q):q=p/\((∃b,v= .pointer (some b))\/ ∃f c1 c2,v= .func (.func f) c1 c2):=by
 unfold dY at hq;cases hv with
 |ref n aw off v hr h1=>
  simp only at hq;split at hq
  next hl=>obtain⟨e,he,bE,hl⟩:=S.bq hl;obtain⟨b,_,hv⟩:=hr.at he bE hl;grind
  cases hq
 |bs n aw i k off v h1 hr=>
  simp only at hq;split at hq
  next hl=>obtain⟨e,he,bE,hl⟩:=S.bq hl;obtain⟨b,N,cap,_,hv⟩:=hr.at he bE hl;grind
  cases hq
 |bT x off b o hb aO f hw hr=>grind
 |fn f vs bV hl hc=>grind
 |_=>cases hq
theorem e8{t:TypeId}{f o:Nat}(h:lz Q t f=some o)(b off:Nat)(w:World):(Instr.fieldAt t (.pointer (some ⟨b,off,none⟩)) f).run Q w= .ok (.pointer (some ⟨b,off+o,none⟩)) w:=by
 unfold lz at h;split at h
 next fs Du=>
  split at h
  next fl BM=>
   split at h
   next k hk=>simp at h;subst h;simp[Instr.fieldAt,run_underlying Du,BM,Instr.sureAddr,fieldPlace,run_sizeOf hk,addr_add]
   cases h
  cases h
 cases h
theorem mP{t:TypeId}{f:Nat}{v:Value}{p q:P}(hv:ao F w G s.rg v p)(hq:da Q s t f p=some q): ∃u,(Instr.fieldAt t v f).run Q w= .ok u w/\ao F w G s.rg u q:=by
 unfold da at hq;split at hq
 ·cases hq
 rename_i o ho;cases hv with
 |ref n aw off v hr h1=>
  simp only at hq;split at hq
  next hl=>simp at hq;subst hq;obtain⟨e,he,bE,hl⟩:=S.bq hl;obtain⟨b,hG,rfl⟩:=hr.at he bE hl;exact⟨_,e8 ho b off w,.ref n aw (off+o) _ ⟨e,he,by omega,λ_ _=>⟨b,hG,rfl⟩⟩ rfl⟩
  cases hq
 |bs n aw i k off v h1 hr=>
  simp only at hq;split at hq
  next hl=>simp at hq;subst hq;obtain⟨e,he,bE,hl⟩:=S.bq hl;obtain⟨b,N,cap,hG,rfl⟩:=hr.at he bE hl;exact⟨_,e8 ho b (i*k+off) w,.bs n aw i k (off+o) _ rfl ⟨e,he,by omega,λ_ _=>⟨b,N,cap,hG,by rw[zaT]⟩⟩⟩
  cases hq
 |bT x off b o' hb aO f' hw hr=>simp at hq;subst hq;refine⟨_,e8 ho b (o'+off) w,?_⟩;rw[zaT];exact .bT x (off+o) b o' hb aO f' hw hr
 |_=>cases hq
theorem bx{t e:TypeId}(h:aX Q t=some e):Q.underlying t=some (.slice e):=by grind [aX]
theorem w4{t e:TypeId}(h:Q.underlying t=some (.slice e)):Q.elem t=e:=by simp[Program.elem,h]
theorem qZ{t e:TypeId}{n:Nat}(h:rW Q t=some (n,e)):Q.underlying t=some (.array n e):=by grind [rW]
theorem dL{t e:TypeId}{n k:Nat}(ht:Q.underlying t=some (.array n e))(hk:sz Q e=some k)(b off:Nat)(kk:IntKind){j:Int}(hj:0<=j/\j<(n:Int)):
  (Instr.indexAt t (.pointer (some ⟨b,off,none⟩)) (.int kk j)).run Q w= .ok (.pointer (some ⟨b,off+j.toNat*k,none⟩)) w:=by
 simp[Instr.indexAt,asIntOf,run_underlying ht,Instr.sureAddr,hj,run_sizeOf hk,addr_add]
theorem pB{t e:TypeId}{n:Nat}{v u:Value}{p i q:P}(ht:Q.underlying t=some (.array n e))(hv:ao F w G s.rg v p)(hu:ao F w G s.rg u i)(hq:gu Q s n e p i=some q):
  ∃x,(Instr.indexAt t v u).run Q w= .ok x w/\ao F w G s.rg x q:=by
 unfold gu at hq;split at hq
 next kk j k hk=>
  cases hu with
  |d hu=>
   cases hu;split at hq
   ·rename_i hj;cases hv with
    |ref n aw off v hr h1=>
     simp only at hq;split at hq
     next hl=>simp at hq;subst hq;obtain⟨en,he,bE,hl⟩:=S.bq hl;obtain⟨b,hG,rfl⟩:=hr.at he bE hl;exact⟨_,dL ht hk b off kk hj,.ref n aw _ _ ⟨en,he,by omega,λ_ _=>⟨b,hG,rfl⟩⟩ rfl⟩
     cases hq
    |bs n aw i k' off v h1 hr=>
     simp only at hq;split at hq
     next hl=>simp at hq;subst hq;obtain⟨en,he,bE,hl⟩:=S.bq hl;obtain⟨b,N,cap,hG,rfl⟩:=hr.at he bE hl;exact⟨_,dL ht hk b _ kk hj,.bs n aw i k' _ _ rfl ⟨en,he,by omega,λ_ _=>⟨b,N,cap,hG,by rw[zaT]⟩⟩⟩
     cases hq
    |bT x off b o hb aO f hw hr=>simp at hq;subst hq;refine⟨_,dL ht hk b _ kk hj,?_⟩;rw[zaT];exact .bT x _ b o hb aO f hw hr
    |_=>cases hq
   cases hq
 cases hq
theorem mQ(h:ar Q T F G w a s){t:TypeId}{v u:Value}{p i q:P}(hv:ao F w G s.rg v p)(hu:ao F w G s.rg u i)(hq:bX Q s t p i=some q):
  ∃x,(Instr.indexAt t v u).run Q w= .ok x w/\ao F w G s.rg x q:=by
 unfold bX at hq;split at hq
 next n e het=>exact pB (qZ het) hv hu hq
 split at hq
 next _ e kk j het=>
  have dW:=bx het;have uW:=w4 dW;cases hu with
  |d hu=>
   cases hu;split at hq
   ·rename_i k hk;cases hv with
    |sl n aw len v h1 hr=>
     simp only at hq;split at hq
     ·rename_i ty fz es ho;split at hq
      ·rename_i q4;split at hq
       ·rename_i hj;simp at hq;subst hq;obtain⟨en,he,bE,aN⟩:=S.aJ ho;obtain⟨a0,N,cap,hG,rfl,hle⟩:=hr.at he bE (by rw[aN];rfl);have hO:=h.rg n en he;rw[aN] at hO;rcases hO with⟨dO,_⟩| ⟨b',cX,cs,k2,dO,hh,r9,jt,yz,jq,bn,_,hE⟩
        ·skip
         grind
        rw[hG] at dO;obtain⟨rfl,rfl,rfl⟩:=dO;refine⟨_,?_,.bs n aw j.toNat (k+1) 0 (.pointer (some ⟨b',j.toNat*(k+1)+0,none⟩)) rfl ⟨en,he,by omega,λ_ _=>⟨b',_,_,hG,rfl⟩⟩⟩;rw[run_indexAt_slice w t ⟨b',0,none⟩ len cap _ j (by rw[uW];exact dW),zax hj,uW,run_sizeOf hk];simp[addr_add]
       cases hq
      cases hq
     cases hq
    |eL n aw k0 w5 len v h1 hr=>
     simp only at hq;split at hq
     ·rename_i ty fz es ho;split at hq
      ·rename_i q4;rw[zad] at q4;have Dv:k0=k+1:=zac q4.2;split at hq
       ·rename_i hj;simp at hq;subst hq;obtain⟨en,he,bE,aN⟩:=S.aJ ho;obtain⟨a0,N,cap,hG,hle,a1,ie,rfl,uX,hz⟩:=hr.at he bE (by rw[aN];rfl);obtain⟨b',yA,uY⟩: ∃b,a0=some ⟨b,0,none⟩/\a1=some ⟨b,w5*(k+1),none⟩:=by grind
        subst yA uY;refine⟨_,?_,.bs n aw (w5+j.toNat) (k+1) 0 (.pointer (some ⟨b',(w5+j.toNat)*(k+1)+0,none⟩)) rfl ⟨en,he,by omega,λ_ _=>⟨b',_,_,hG,rfl⟩⟩⟩;rw[run_indexAt_slice w t ⟨b',w5*(k+1),none⟩ len ie _ j (by rw[uW];exact dW),zax hj,uW,run_sizeOf hk];simp[addr_add,zas]
       cases hq
      cases hq
     cases hq
    |d hv=>
     cases hv with
     |sS a0 k' cap=>simp at hq
     |ui b off k' cap es f jq hb dK aO hw hr=>
      simp only at hq;split at hq
      ·rename_i yB;have yB:k'=k+1:=by simpa using yB
       subst yB;split at hq
       ·rename_i hj;split at hq
        ·rename_i x hx;simp at hq;subst hq;have hi:j.toNat<es.length:=(zaa.1 hx).1;have x9:x∈es:=zao hx;refine⟨.pointer (some ⟨b,off+j.toNat*(k+1)+0,none⟩),?_,.bT x 0 b (off+j.toNat*(k+1)) hb (aO x x9) (λm=>f (j.toNat*(k+1)+m)) (λm hm=> ?_) (λm c hc=>hr _ _ _ _ hx hc)⟩
         ·rw[run_indexAt_slice w t ⟨b,off,none⟩ es.length cap _ j (by rw[uW];exact dW),zax (by omega),uW,run_sizeOf hk];simp[addr_add]
         rw[zaT];refine hw _ ?_;rw[dK x x9] at hm
         calc j.toNat*(k+1)+m<j.toNat*(k+1)+(k+1):=by omega
          _=(j.toNat+1)*(k+1):=by rw[zas,zaI]
          _<=es.length*(k+1):=zaf _ (by omega)
        cases hq
       cases hq
      cases hq
     |_=>cases hq
    |_=>cases hq
   cases hq
 cases hq
end
end Pi
