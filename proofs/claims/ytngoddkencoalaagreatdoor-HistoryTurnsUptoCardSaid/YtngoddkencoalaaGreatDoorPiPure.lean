/- The text PiPure. -/
import Derived.Test.YtngoddkencoalaaGreatDoorPiRep
namespace Pi
open Go
theorem dH{α:Type}{Q:Program}{m:Sem α}{v:α}(h:aC Q m=some v)(w:World):m.run Q w= .ok v w:=by
 induction m with
 |pure a=>simp_all [aC]
 |program k ih=>exact ih _ h
 |mark m k ih=>exact ih h
 |_=>simp[aC] at h
theorem Ov{Q:Program}{m:Sem Value}{p:P}(h:dY Q m=some p)(F:Nat->Prop)(w:World)(G:Nat->Value)(R:List (Nat×En)): ∃v,m.run Q w= .ok v w/\aH F w G R v p:=by
 unfold dY at h;split at h
 next v hv=>
  split at h
  next x hx=>simp at h;subst h;exact⟨v,dH hv w,.d (aS.vi F w hx)⟩
  cases h
 cases h
theorem aH.cF{F:Nat->Prop}{w:World}{G:Nat->Value}{R:List (Nat×En)}{v u:Value}{p:P}(h:aH F w G R v p)(hu:p.cF=some u):v=u:=by
 cases h<;>simp[P.cF] at hu
 case d x h=>exact h.cF hu
theorem S.bI{s:S}{n v:Nat}{o:Obj}(h:s.obj n v=some o): ∃e,lk s.rg n=some e/\e.aV=v/\e.obj=o:=by
 unfold S.obj at h;split at h
 ·simp_all
 cases h
theorem S.dA{s:S}{n v:Nat}(h:s.live n v=true): ∃e,lk s.rg n=some e/\e.aV=v/\e.obj.live=true:=by grind [S.live,S.bI,Obj.live]
theorem eA.at{R:List (Nat×En)}{n aV:Nat}{C:Prop}(h:eA R n aV C){e:En}(he:lk R n=some e)(hv:e.aV=aV)(hl:e.obj.live=true):C:=by obtain⟨e',cS,_,hc⟩:=h;grind
def mx(a:Act):Option (Nat×Bool)->Prop
 |none=>True
 |some (t,b)=>a.tmps[t]?=some (.bool b)
section
variable{Q:Program}{T:Tg}{F:Nat->Prop}{G:Nat->Value}{w:World}{a:Act}{s:S}
theorem yA(h:aG Q T F G w a s)(x:Operand):cA F w G s.rg a.tmps (a.eval x) (s.ev x):=by
 cases x with
 |tmp t=>
  simp only[S.ev,Act.eval];cases hp:lk s.tm t with
  |none=>exact cA.of (.bad _)
  |some p=>exact h.tm t p hp
 |const v=>
  simp only[S.ev,Act.eval];split
  next x hx=>exact cA.of (.d (aS.vi F w hx))
  exact cA.of (.bad _)
 |func f=>exact cA.of (.fn f [] [] rfl (λi v c hv=>by simp at hv))
 |global g=>exact cA.of (.bad _)
theorem RO{g:Option (Nat×Bool)}(_:mx a g){v:Value}{p:P}(h:cA F w G s.rg a.tmps v p):aH F w G s.rg v (p.under g):=by
 cases p with
 |when t b q=>exact .bad _
 |_=>exact h
theorem aW(h:aG Q T F G w a s){g:Option (Nat×Bool)}(hg:mx a g)(x:Operand):aH F w G s.rg (a.eval x) (s.eg g x):=RO hg (yA h x)
theorem YV{t:Nat}{v:Value}(h:a.tmps.getD t undef=v)(hv:v≠undef):t<a.tmps.size:=by grind
theorem Cm: ∀(ps:List P) (xs:List D),Bt ps=some xs->ps=xs.map P.d
 | [],xs,h=>by grind [Bt]
 |p::r,xs,h=>by
  cases p<;>simp[Bt] at h;rename_i x;cases hr:Bt r with
  |none=>grind
  |some ys=>simp[hr] at h;subst h;simp[Cm r ys hr]
theorem Gw{R:List (Nat×En)}{vs:List Value}{ps:List P}(hl:vs.length=ps.length)(iF: ∀v∈vs,v.oneCell'=true)
  (hc: ∀(i:Nat) (v:Value) (c:P),vs[i]?=some v->ps[i]?=some c->aH F w G R v c):aH F w G R (.agg ⟨vs⟩) (Md ps):=by
 unfold Md;split
 next xs YU=>
  have e:=Cm ps xs YU;subst e;have hd: ∀(i:Nat) (v:Value) (c:D),vs[i]?=some v->xs[i]?=some c->aS F w v c:=λi v c hv l7=>by have:=hc i v (.d c) hv (by simp[l7]);cases this with |d h=>exact h
  refine .d (.agg vs xs (by grind) (λc l7=> ?_) hd);obtain⟨i,hi⟩:=zaX l7;have bJ:i<vs.length:=by grind
  exact(hd i _ c (zac bJ) hi).bA (iF _ (zaq bJ))
 exact .agg vs ps hl iF hc
theorem gx{t:TypeId}{k:Nat}(h:sz Q t=some k): ∃i d,Q.info? t=some i/\Q.underlying t=some d/\i.size=k:=by grind [sz]
theorem run_sizeOf{t:TypeId}{k:Nat}(h:sz Q t=some k)(w:World):(Go.sizeOf t).run Q w= .ok k w:=by obtain⟨i,d,hi,_,rfl⟩:=gx h;simp[Go.sizeOf,typeInfo,hi]
theorem qW{t:TypeId}{d:TypeDesc}(h:Q.underlying t=some d)(w:World):(Go.isAgg t).run Q w= .ok (dE Q t) w:=by unfold Go.isAgg dE;rw[Sem.run_bind,run_underlying h w,h];cases d<;>simp
theorem addr_add(b o n:Nat):(⟨b,o,none⟩:Addr).add n=⟨b,o+n,none⟩:=by unfold Addr.add;simp
theorem RP{t:TypeId}{k:Nat}(hk:sz Q t=some k)(vs:List Value)(off:Nat)(hb: ∀j,j<(if dE Q t then k else 1)->off+j<vs.length)(w:World):
  (Go.part t ⟨vs⟩ off).run Q w= .ok (if dE Q t then .agg ((List.range k).map λj=>vs.getD (off+j) undef).toArray else vs.getD off undef) w:=by
 obtain⟨_,d,_,hd,_⟩:=gx hk;unfold Go.part;rw[Sem.run_bind,qW hd w];cases FL:dE Q t with
 |true=>simp only[Result.andThen_ok,zbr,Sem.run_bind,run_sizeOf hk,Sem.run_pure];congr 3;rw[<-zby];apply zcC;grind
 |false=>simp_all
theorem tJ{t:TypeId}{k:Nat}{d:TypeDesc}(hk:sz Q t=some k)(hd:Q.underlying t=some d)(b o:Nat)(f:Nat->Value)(hf: ∀j,j<(if dE Q t then k else 1)->w.cell? ⟨b,o+j,none⟩=some (f j)):
  (loadVar t ⟨b,o,none⟩).run Q w= .ok (if dE Q t then .agg ((List.range k).map f).toArray else f 0) w:=by
 unfold loadVar;rw[Sem.run_bind,qW hd w];cases FL:dE Q t with
 |true=>have hl:=run_loadCells (P:=Q) w ⟨b,o,none⟩ k f (λj hj=>by rw[addr_add];grind);simp_all [run_sizeOf]
 |false=>simp_all
theorem Gx{R:List (Nat×En)}{t:TypeId}{ps:List P}{off:Nat}{p:P}(h:Ce Q t ps off=some p)(f:Nat->Value)(iF: ∀i,i<ps.length->(f i).oneCell'=true)
  (hp: ∀i c,ps[i]?=some c->aH F w G R (f i) c):
  ∃k,sz Q t=some k/\(∀j,j<(if dE Q t then k else 1)->off+j<ps.length)/\aH F w G R (if dE Q t then .agg ((List.range k).map λj=>f (off+j)).toArray else f off) p:=by
 unfold Ce at h;cases hk:sz Q t with
 |none=>grind
 |some k=>
  refine⟨k,rfl,?_⟩;simp only[hk] at h;cases FL:dE Q t with
  |true=>
   simp only[FL,zbr] at h;split at h
   ·rename_i hle;have hle:off+k<=ps.length:=by simpa using hle
    grind [Gw]
   cases h
  |false=>grind
theorem Gy{t:TypeId}{cs:List D}{off:Nat}{x:D}(h:jB Q t cs off=some x)(f:Nat->Value)(bR: ∀c∈cs,c.bA=true)
  (hp: ∀i c,cs[i]?=some c->aS F w (f i) c):
  ∃k,sz Q t=some k/\(∀j,j<(if dE Q t then k else 1)->off+j<cs.length)/\aS F w (if dE Q t then .agg ((List.range k).map λj=>f (off+j)).toArray else f off) x:=by
 unfold jB at h;cases hk:sz Q t with
 |none=>grind
 |some k=>
  refine⟨k,rfl,?_⟩;simp only[hk] at h;cases FL:dE Q t with
  |true=>
   simp only[FL,zbr] at h;split at h
   ·rename_i hle;have hle:off+k<=cs.length:=by simpa using hle
    simp at h;subst h;refine⟨λj hj=>by grind,?_⟩;refine .agg _ _ (by simp;omega) (λc hc=>bR c (zbR (zba hc))) (λi v c hv hc=> ?_);grind
   cases h
  |false=>grind
theorem vp{t:TypeId}{k:Nat}(h:sz Q t=some k): ∃d,Q.underlying t=some d:=by grind [gx]
theorem sj{t:TypeId}{k:Nat}(hk:sz Q t=some k)(b o:Nat)(f:Nat->Value)(hf: ∀j,j<(if dE Q t then k else 1)->w.cell? ⟨b,o+j,none⟩=some (f j)):
  (Instr.loadAt t (.pointer (some ⟨b,o,none⟩))).run Q w= .ok (if dE Q t then .agg ((List.range k).map f).toArray else f 0) w:=by
 obtain⟨d,hd⟩:=vp hk;simp only[Instr.loadAt,Instr.sureAddr,Sem.run_bind,Sem.run_pure,Result.andThen_ok];grind [tJ]
theorem Gz(h:aG Q T F G w a s){t:TypeId}{v:Value}{p q:P}(hv:aH F w G s.rg v p)(hq:rL Q s t p=some q): ∃u,(Instr.loadAt t v).run Q w= .ok u w/\aH F w G s.rg u q:=by
 unfold rL at hq;cases hv with
 |ref n aV off v hr h1=>
  simp only at hq;split at hq
  next ty ps ho=>obtain⟨e,he,dT,b9⟩:=S.bI ho;obtain⟨b,hG,rfl⟩:=hr.at he dT (by rw[b9];rfl);have hO:=h.rg n e he;rw[b9] at hO;obtain⟨b',cs,qX,hh,dN,iF,rP⟩:=hO;rw[hG] at qX;simp at qX;subst qX;obtain⟨k,hk,bJ,yB⟩:=Gx (R:=s.rg) hq (λi=>cs.getD i undef) (λi hi=>iF _ (by simp_all)) rP;refine⟨_,sj hk b off (λj=>cs.getD (off+j) undef) (λj hj=> ?_),yB⟩;rw[cell_of_row w b (off+j) cs ty (0,0) hh];simp_all
  cases hq
 |dD n aV i k off v h1 hr=>
  simp only at hq;split at hq
  next ty fz es ho=>
   obtain⟨e,he,dT,b9⟩:=S.bI ho;obtain⟨b,N,cap,hG,rfl⟩:=hr.at he dT (by rw[b9];rfl);have hO:=h.rg n e he;rw[b9] at hO;split at hq
   ·rename_i k' x nj hx;split at hq
    ·rename_i ju;have ju:k=k':=by simpa using ju
     subst ju;split at hq
     ·rename_i y hy;simp at hq;subst hq;rcases hO with⟨qX,_⟩| ⟨b',iX,cs,k2,qX,hh,qY,gy,hle,xf,dN,_,hE⟩
      ·rw[hG] at qX;cases qX
      rw[hG] at qX;simp at qX;obtain⟨rfl,_,_⟩:=qX;rw[nj] at qY;cases qY;obtain⟨hl,bR,hcs⟩:=hE i x hx;obtain⟨k3,hk3,bJ,yB⟩:=Gy hy (λj=>cs.getD (i*k+j) undef) bR (λj c hc=>hcs j c hc);have hi:i<es.length:=(zaf.1 hx).1;refine⟨_,sj hk3 b (i*k+off) (λj=>cs.getD (i*k+(off+j)) undef) (λj hj=> ?_),.d yB⟩;have h2:=bJ j hj;have h3:i*k+(off+j)<cs.size:=by
       rw[dN]
       calc i*k+(off+j)<i*k+k:=by omega
        _=(i+1)*k:=by rw[zaZ,zbs]
        _<=iX*k:=zar _ (by omega)
      rw[cell_of_row w b _ cs ty (0,0) hh,zbG];simp_all
     cases hq
    cases hq
   cases hq
  cases hq
 |fe x off b o hb bR f hw hr=>
  simp only at hq;split at hq
  next y hy=>simp at hq;subst hq;obtain⟨k3,hk3,bJ,yB⟩:=Gy hy f bR hr;refine⟨_,sj hk3 b (o+off) (λj=>f (off+j)) (λj hj=> ?_),.d yB⟩;grind
  cases hq
 |_=>cases hq
theorem Bw{v:Value}{p q:P}(hv:aH F w G s.rg v p)(hq:kU s p=some q):q=p/\((∃b,v= .pointer (some b))\/ ∃f c1 c2,v= .func (.func f) c1 c2):=by
 unfold kU at hq;cases hv with
 |ref n aV off v hr h1=>
  simp only at hq;split at hq
  next hl=>obtain⟨e,he,dT,hl⟩:=S.dA hl;obtain⟨b,_,hv⟩:=hr.at he dT hl;grind
  cases hq
 |dD n aV i k off v h1 hr=>
  simp only at hq;split at hq
  next hl=>obtain⟨e,he,dT,hl⟩:=S.dA hl;obtain⟨b,N,cap,_,hv⟩:=hr.at he dT hl;grind
  cases hq
 |fe x off b o hb bR f hw hr=>grind
 |fn f vs cQ hl hc=>grind
 |_=>cases hq
theorem mU{t:TypeId}{f o:Nat}(h:yu Q t f=some o)(b off:Nat)(w:World):(Instr.fieldAt t (.pointer (some ⟨b,off,none⟩)) f).run Q w= .ok (.pointer (some ⟨b,off+o,none⟩)) w:=by
 unfold yu at h;split at h
 next fs hfs=>
  split at h
  next fl xg=>
   split at h
   next k hk=>simp at h;subst h;simp[Instr.fieldAt,run_underlying hfs,xg,Instr.sureAddr,fieldPlace,run_sizeOf hk,addr_add]
   cases h
  cases h
 cases h
theorem Bx{t:TypeId}{f:Nat}{v:Value}{p q:P}(hv:aH F w G s.rg v p)(hq:iV Q s t f p=some q): ∃u,(Instr.fieldAt t v f).run Q w= .ok u w/\aH F w G s.rg u q:=by
 unfold iV at hq;split at hq
 ·cases hq
 rename_i o ho;cases hv with
 |ref n aV off v hr h1=>
  simp only at hq;split at hq
  next hl=>simp at hq;subst hq;obtain⟨e,he,dT,hl⟩:=S.dA hl;obtain⟨b,hG,rfl⟩:=hr.at he dT hl;exact⟨_,mU ho b off w,.ref n aV (off+o) _ ⟨e,he,by omega,λ_ _=>⟨b,hG,rfl⟩⟩ rfl⟩
  cases hq
 |dD n aV i k off v h1 hr=>
  simp only at hq;split at hq
  next hl=>simp at hq;subst hq;obtain⟨e,he,dT,hl⟩:=S.dA hl;obtain⟨b,N,cap,hG,rfl⟩:=hr.at he dT hl;exact⟨_,mU ho b (i*k+off) w,.dD n aV i k (off+o) _ rfl ⟨e,he,by omega,λ_ _=>⟨b,N,cap,hG,by rw[zbG]⟩⟩⟩
  cases hq
 |fe x off b o' hb bR f' hw hr=>simp at hq;subst hq;refine⟨_,mU ho b (o'+off) w,?_⟩;rw[zbG];exact .fe x (off+o) b o' hb bR f' hw hr
 |_=>cases hq
theorem dI{t e:TypeId}(h:cR Q t=some e):Q.underlying t=some (.slice e):=by grind [cR]
theorem YW{t e:TypeId}(h:Q.underlying t=some (.slice e)):Q.elem t=e:=by simp[Program.elem,h]
theorem J5{t e:TypeId}{n:Nat}(h:Me Q t=some (n,e)):Q.underlying t=some (.array n e):=by grind [Me]
theorem jZ{t e:TypeId}{n k:Nat}(ht:Q.underlying t=some (.array n e))(hk:sz Q e=some k)(b off:Nat)(kk:IntKind){j:Int}(hj:0<=j/\j<(n:Int)):
  (Instr.indexAt t (.pointer (some ⟨b,off,none⟩)) (.int kk j)).run Q w= .ok (.pointer (some ⟨b,off+j.toNat*k,none⟩)) w:=by
 simp[Instr.indexAt,asIntOf,run_underlying ht,Instr.sureAddr,hj,run_sizeOf hk,addr_add]
theorem GA{t e:TypeId}{n:Nat}{v u:Value}{p i q:P}(ht:Q.underlying t=some (.array n e))(hv:aH F w G s.rg v p)(hu:aH F w G s.rg u i)(hq:qa Q s n e p i=some q):
  ∃x,(Instr.indexAt t v u).run Q w= .ok x w/\aH F w G s.rg x q:=by
 unfold qa at hq;split at hq
 next kk j k hk=>
  cases hu with
  |d hu=>
   cases hu;split at hq
   ·rename_i hj;cases hv with
    |ref n aV off v hr h1=>
     simp only at hq;split at hq
     next hl=>simp at hq;subst hq;obtain⟨en,he,dT,hl⟩:=S.dA hl;obtain⟨b,hG,rfl⟩:=hr.at he dT hl;exact⟨_,jZ ht hk b off kk hj,.ref n aV _ _ ⟨en,he,by omega,λ_ _=>⟨b,hG,rfl⟩⟩ rfl⟩
     cases hq
    |dD n aV i k' off v h1 hr=>
     simp only at hq;split at hq
     next hl=>simp at hq;subst hq;obtain⟨en,he,dT,hl⟩:=S.dA hl;obtain⟨b,N,cap,hG,rfl⟩:=hr.at he dT hl;exact⟨_,jZ ht hk b _ kk hj,.dD n aV i k' _ _ rfl ⟨en,he,by omega,λ_ _=>⟨b,N,cap,hG,by rw[zbG]⟩⟩⟩
     cases hq
    |fe x off b o hb bR f hw hr=>simp at hq;subst hq;refine⟨_,jZ ht hk b _ kk hj,?_⟩;rw[zbG];exact .fe x _ b o hb bR f hw hr
    |_=>cases hq
   cases hq
 cases hq
theorem By(h:aG Q T F G w a s){t:TypeId}{v u:Value}{p i q:P}(hv:aH F w G s.rg v p)(hu:aH F w G s.rg u i)(hq:fm Q s t p i=some q):
  ∃x,(Instr.indexAt t v u).run Q w= .ok x w/\aH F w G s.rg x q:=by
 unfold fm at hq;split at hq
 next n e het=>exact GA (J5 het) hv hu hq
 split at hq
 next _ e kk j het=>
  have pj:=dI het;have FM:=YW pj;cases hu with
  |d hu=>
   cases hu;split at hq
   ·rename_i k hk;cases hv with
    |sl n aV len v h1 hr=>
     simp only at hq;split at hq
     ·rename_i ty fz es ho;split at hq
      ·rename_i J6;split at hq
       ·rename_i hj;simp at hq;subst hq;obtain⟨en,he,dT,b9⟩:=S.bI ho;obtain⟨a0,N,cap,hG,rfl,hle⟩:=hr.at he dT (by rw[b9];rfl);have hO:=h.rg n en he;rw[b9] at hO;rcases hO with⟨qX,_⟩| ⟨b',iX,cs,k2,qX,hh,qY,gy,qeg,xf,dN,_,hE⟩
        ·skip
         grind
        rw[hG] at qX;obtain⟨rfl,rfl,rfl⟩:=qX;refine⟨_,?_,.dD n aV j.toNat (k+1) 0 (.pointer (some ⟨b',j.toNat*(k+1)+0,none⟩)) rfl ⟨en,he,by omega,λ_ _=>⟨b',_,_,hG,rfl⟩⟩⟩;rw[run_indexAt_slice w t ⟨b',0,none⟩ len cap _ j (by rw[FM];exact pj),zap hj,FM,run_sizeOf hk];simp[addr_add]
       cases hq
      cases hq
     cases hq
    |mb n aV k0 YX len v h1 hr=>
     simp only at hq;split at hq
     ·rename_i ty fz es ho;split at hq
      ·rename_i J6;rw[zab] at J6;have qmp:k0=k+1:=zag J6.2;split at hq
       ·rename_i hj;simp at hq;subst hq;obtain⟨en,he,dT,b9⟩:=S.bI ho;obtain⟨a0,N,cap,hG,hle,a1,rr,rfl,RQ,hz⟩:=hr.at he dT (by rw[b9];rfl);obtain⟨b',ha0,RR⟩: ∃b,a0=some ⟨b,0,none⟩/\a1=some ⟨b,YX*(k+1),none⟩:=by grind
        subst ha0 RR;refine⟨_,?_,.dD n aV (YX+j.toNat) (k+1) 0 (.pointer (some ⟨b',(YX+j.toNat)*(k+1)+0,none⟩)) rfl ⟨en,he,by omega,λ_ _=>⟨b',_,_,hG,rfl⟩⟩⟩;rw[run_indexAt_slice w t ⟨b',YX*(k+1),none⟩ len rr _ j (by rw[FM];exact pj),zap hj,FM,run_sizeOf hk];simp[addr_add,zaZ]
       cases hq
      cases hq
     cases hq
    |d hv=>
     cases hv with
     |J4 a0 k' cap=>simp at hq
     |Ml b off k' cap es f xf hb ju bR hw hr=>
      simp only at hq;split at hq
      ·rename_i qeh;have qeh:k'=k+1:=by simpa using qeh
       subst qeh;split at hq
       ·rename_i hj;split at hq
        ·rename_i x hx;simp at hq;subst hq;have hi:j.toNat<es.length:=(zaf.1 hx).1;have hxm:x∈es:=zaC hx;refine⟨.pointer (some ⟨b,off+j.toNat*(k+1)+0,none⟩),?_,.fe x 0 b (off+j.toNat*(k+1)) hb (bR x hxm) (λm=>f (j.toNat*(k+1)+m)) (λm hm=> ?_) (λm c hc=>hr _ _ _ _ hx hc)⟩
         ·rw[run_indexAt_slice w t ⟨b,off,none⟩ es.length cap _ j (by rw[FM];exact pj),zap (by omega),FM,run_sizeOf hk];simp[addr_add]
         rw[zbG];refine hw _ ?_;rw[ju x hxm] at hm
         calc j.toNat*(k+1)+m<j.toNat*(k+1)+(k+1):=by omega
          _=(j.toNat+1)*(k+1):=by rw[zaZ,zbs]
          _<=es.length*(k+1):=zar _ (by omega)
        cases hq
       cases hq
      cases hq
     |_=>cases hq
    |_=>cases hq
   cases hq
 cases hq
end
end Pi
