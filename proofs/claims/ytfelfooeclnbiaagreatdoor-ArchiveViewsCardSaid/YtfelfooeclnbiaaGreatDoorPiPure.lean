/- The text PiPure. -/
import Derived.Test.YtfelfooeclnbiaaGreatDoorPiRep
namespace Pi
open Go
theorem dn{α:Type}{Q:Program}{m:Sem α}{v:α}(h:ay Q m=some v)(w:World):m.run Q w= .ok v w:=by
 induction m with
 |pure a=>simp_all [ay]
 |program k ih=>exact ih _ h
 |mark m k ih=>exact ih h
 |_=>simp[ay] at h
theorem L4{Q:Program}{m:Sem Value}{p:P}(h:dI Q m=some p)(F:Nat->Prop)(w:World)(G:Nat->Value)(R:List (Nat×En)): ∃v,m.run Q w= .ok v w/\aF F w G R v p:=by
 unfold dI at h;split at h
 next v hv=>
  split at h
  next x hx=>simp at h;subst h;exact⟨v,dn hv w,.d (aU.tX F w hx)⟩
  cases h
 cases h
theorem aF.cp{F:Nat->Prop}{w:World}{G:Nat->Value}{R:List (Nat×En)}{v u:Value}{p:P}(h:aF F w G R v p)(hu:p.cp=some u):v=u:=by
 cases h<;>simp[P.cp] at hu
 case d x h=>exact h.cp hu
theorem S.bw{s:S}{n v:Nat}{o:Obj}(h:s.obj n v=some o): ∃e,lk s.rg n=some e/\e.aR=v/\e.obj=o:=by
 unfold S.obj at h;split at h
 ·simp_all
 cases h
theorem S.df{s:S}{n v:Nat}(h:s.live n v=true): ∃e,lk s.rg n=some e/\e.aR=v/\e.obj.live=true:=by grind [S.live,S.bw,Obj.live]
theorem dY.at{R:List (Nat×En)}{n aR:Nat}{C:Prop}(h:dY R n aR C){e:En}(he:lk R n=some e)(hv:e.aR=aR)(hl:e.obj.live=true):C:=by obtain⟨e',cx,_,hc⟩:=h;grind
def lG(a:Act):Option (Nat×Bool)->Prop
 |none=>True
 |some (t,b)=>a.tmps[t]?=some (.bool b)
section
variable{Q:Program}{T:Tg}{F:Nat->Prop}{G:Nat->Value}{w:World}{a:Act}{s:S}
theorem w9(h:aB Q T F G w a s)(x:Operand):cy F w G s.rg a.tmps (a.eval x) (s.ev x):=by
 cases x with
 |tmp t=>
  simp only[S.ev,Act.eval];cases hp:lk s.tm t with
  |none=>exact cy.of (.bad _)
  |some p=>exact h.tm t p hp
 |const v=>
  simp only[S.ev,Act.eval];split
  next x hx=>exact cy.of (.d (aU.tX F w hx))
  exact cy.of (.bad _)
 |func f=>exact cy.of (.fn f [] [] rfl (λi v c hv=>by simp at hv))
 |global g=>exact cy.of (.bad _)
theorem Pj{g:Option (Nat×Bool)}(_:lG a g){v:Value}{p:P}(h:cy F w G s.rg a.tmps v p):aF F w G s.rg v (p.under g):=by
 cases p with
 |when t b q=>exact .bad _
 |_=>exact h
theorem aS(h:aB Q T F G w a s){g:Option (Nat×Bool)}(hg:lG a g)(x:Operand):aF F w G s.rg (a.eval x) (s.eg g x):=Pj hg (w9 h x)
theorem V1{t:Nat}{v:Value}(h:a.tmps.getD t undef=v)(hv:v≠undef):t<a.tmps.size:=by grind
theorem Ay: ∀(ps:List P) (xs:List D),zA ps=some xs->ps=xs.map P.d
 | [],xs,h=>by grind [zA]
 |p::r,xs,h=>by
  cases p<;>simp[zA] at h;rename_i x;cases hr:zA r with
  |none=>grind
  |some ys=>simp[hr] at h;subst h;simp[Ay r ys hr]
theorem Eo{R:List (Nat×En)}{vs:List Value}{ps:List P}(hl:vs.length=ps.length)(gb: ∀v∈vs,v.oneCell'=true)
  (hc: ∀(i:Nat) (v:Value) (c:P),vs[i]?=some v->ps[i]?=some c->aF F w G R v c):aF F w G R (.agg ⟨vs⟩) (J5 ps):=by
 unfold J5;split
 next xs V0=>
  have e:=Ay ps xs V0;subst e;have hd: ∀(i:Nat) (v:Value) (c:D),vs[i]?=some v->xs[i]?=some c->aU F w v c:=λi v c hv ln=>by have:=hc i v (.d c) hv (by simp[ln]);cases this with |d h=>exact h
  refine .d (.agg vs xs (by grind) (λc ln=> ?_) hd);obtain⟨i,hi⟩:=zaP ln;have bz:i<vs.length:=by grind
  exact(hd i _ c (zac bz) hi).bt (gb _ (zar bz))
 exact .agg vs ps hl gb hc
theorem gn{t:TypeId}{k:Nat}(h:sz Q t=some k): ∃i d,Q.info? t=some i/\Q.underlying t=some d/\i.size=k:=by grind [sz]
theorem run_sizeOf{t:TypeId}{k:Nat}(h:sz Q t=some k)(w:World):(Go.sizeOf t).run Q w= .ok k w:=by obtain⟨i,d,hi,_,rfl⟩:=gn h;simp[Go.sizeOf,typeInfo,hi]
theorem Az{t:TypeId}{d:TypeDesc}(h:Q.underlying t=some d)(w:World):(Go.isAgg t).run Q w= .ok (dx Q t) w:=by unfold Go.isAgg dx;rw[Sem.run_bind,run_underlying h w,h];cases d<;>simp
theorem addr_add(b o n:Nat):(⟨b,o,none⟩:Addr).add n=⟨b,o+n,none⟩:=by unfold Addr.add;simp
theorem Pk{t:TypeId}{k:Nat}(hk:sz Q t=some k)(vs:List Value)(off:Nat)(hb: ∀j,j<(if dx Q t then k else 1)->off+j<vs.length)(w:World):
  (Go.part t ⟨vs⟩ off).run Q w= .ok (if dx Q t then .agg ((List.range k).map λj=>vs.getD (off+j) undef).toArray else vs.getD off undef) w:=by
 obtain⟨_,d,_,hd,_⟩:=gn hk;unfold Go.part;rw[Sem.run_bind,Az hd w];cases Kd:dx Q t with
 |true=>simp only[Result.andThen_ok,zbg,Sem.run_bind,run_sizeOf hk,Sem.run_pure];congr 3;rw[<-zbx];apply zct;grind
 |false=>simp_all
theorem sw{t:TypeId}{k:Nat}{d:TypeDesc}(hk:sz Q t=some k)(hd:Q.underlying t=some d)(b o:Nat)(f:Nat->Value)(hf: ∀j,j<(if dx Q t then k else 1)->w.cell? ⟨b,o+j,none⟩=some (f j)):
  (loadVar t ⟨b,o,none⟩).run Q w= .ok (if dx Q t then .agg ((List.range k).map f).toArray else f 0) w:=by
 unfold loadVar;rw[Sem.run_bind,Az hd w];cases Kd:dx Q t with
 |true=>have hl:=run_loadCells (P:=Q) w ⟨b,o,none⟩ k f (λj hj=>by rw[addr_add];grind);simp_all [run_sizeOf]
 |false=>simp_all
theorem Ep{R:List (Nat×En)}{t:TypeId}{ps:List P}{off:Nat}{p:P}(h:Ap Q t ps off=some p)(f:Nat->Value)(gb: ∀i,i<ps.length->(f i).oneCell'=true)
  (hp: ∀i c,ps[i]?=some c->aF F w G R (f i) c):
  ∃k,sz Q t=some k/\(∀j,j<(if dx Q t then k else 1)->off+j<ps.length)/\aF F w G R (if dx Q t then .agg ((List.range k).map λj=>f (off+j)).toArray else f off) p:=by
 unfold Ap at h;cases hk:sz Q t with
 |none=>grind
 |some k=>
  refine⟨k,rfl,?_⟩;simp only[hk] at h;cases Kd:dx Q t with
  |true=>
   simp only[Kd,zbg] at h;split at h
   ·rename_i hle;have hle:off+k<=ps.length:=by simpa using hle
    grind [Eo]
   cases h
  |false=>grind
theorem Er{t:TypeId}{cs:List D}{off:Nat}{x:D}(h:jf Q t cs off=some x)(f:Nat->Value)(bU: ∀c∈cs,c.bt=true)
  (hp: ∀i c,cs[i]?=some c->aU F w (f i) c):
  ∃k,sz Q t=some k/\(∀j,j<(if dx Q t then k else 1)->off+j<cs.length)/\aU F w (if dx Q t then .agg ((List.range k).map λj=>f (off+j)).toArray else f off) x:=by
 unfold jf at h;cases hk:sz Q t with
 |none=>grind
 |some k=>
  refine⟨k,rfl,?_⟩;simp only[hk] at h;cases Kd:dx Q t with
  |true=>
   simp only[Kd,zbg] at h;split at h
   ·rename_i hle;have hle:off+k<=cs.length:=by simpa using hle
    simp at h;subst h;refine⟨λj hj=>by grind,?_⟩;refine .agg _ _ (by simp;omega) (λc hc=>bU c (zb3 (za3 hc))) (λi v c hv hc=> ?_);grind
   cases h
  |false=>grind
theorem ud{t:TypeId}{k:Nat}(h:sz Q t=some k): ∃d,Q.underlying t=some d:=by grind [gn]
theorem rh{t:TypeId}{k:Nat}(hk:sz Q t=some k)(b o:Nat)(f:Nat->Value)(hf: ∀j,j<(if dx Q t then k else 1)->w.cell? ⟨b,o+j,none⟩=some (f j)):
  (Instr.loadAt t (.pointer (some ⟨b,o,none⟩))).run Q w= .ok (if dx Q t then .agg ((List.range k).map f).toArray else f 0) w:=by
 obtain⟨d,hd⟩:=ud hk;simp only[Instr.loadAt,Instr.sureAddr,Sem.run_bind,Sem.run_pure,Result.andThen_ok];grind [sw]
theorem Es(h:aB Q T F G w a s){t:TypeId}{v:Value}{p q:P}(hv:aF F w G s.rg v p)(hq:qE Q s t p=some q): ∃u,(Instr.loadAt t v).run Q w= .ok u w/\aF F w G s.rg u q:=by
 unfold qE at hq;cases hv with
 |ref n aR off v hr h1=>
  simp only at hq;split at hq
  next ty ps ho=>obtain⟨e,he,dw,bH⟩:=S.bw ho;obtain⟨b,hG,rfl⟩:=hr.at he dw (by rw[bH];rfl);have hO:=h.rg n e he;rw[bH] at hO;obtain⟨b',cs,jR,hh,cM,gb,mB⟩:=hO;rw[hG] at jR;simp at jR;subst jR;obtain⟨k,hk,bz,H0⟩:=Ep (R:=s.rg) hq (λi=>cs.getD i undef) (λi hi=>gb _ (by simp_all)) mB;refine⟨_,rh hk b off (λj=>cs.getD (off+j) undef) (λj hj=> ?_),H0⟩;rw[cell_of_row w b (off+j) cs ty (0,0) hh];simp_all
  cases hq
 |dj n aR i k off v h1 hr=>
  simp only at hq;split at hq
  next ty fz es ho=>
   obtain⟨e,he,dw,bH⟩:=S.bw ho;obtain⟨b,N,cap,hG,rfl⟩:=hr.at he dw (by rw[bH];rfl);have hO:=h.rg n e he;rw[bH] at hO;split at hq
   ·rename_i k' x mY hx;split at hq
    ·rename_i jG;have jG:k=k':=by simpa using jG
     subst jG;split at hq
     ·rename_i y hy;simp at hq;subst hq;rcases hO with⟨jR,_⟩| ⟨b',ig,cs,k2,jR,hh,u7,kq,hle,zC,cM,_,hE⟩
      ·rw[hG] at jR;cases jR
      rw[hG] at jR;simp at jR;obtain⟨rfl,_,_⟩:=jR;rw[mY] at u7;cases u7;obtain⟨hl,bU,hcs⟩:=hE i x hx;obtain⟨k3,hk3,bz,H0⟩:=Er hy (λj=>cs.getD (i*k+j) undef) bU (λj c hc=>hcs j c hc);have hi:i<es.length:=(zae.1 hx).1;refine⟨_,rh hk3 b (i*k+off) (λj=>cs.getD (i*k+(off+j)) undef) (λj hj=> ?_),.d H0⟩;have h2:=bz j hj;have h3:i*k+(off+j)<cs.size:=by
       rw[cM]
       calc i*k+(off+j)<i*k+k:=by omega
        _=(i+1)*k:=by rw[zaR,zbz]
        _<=ig*k:=zao _ (by omega)
      rw[cell_of_row w b _ cs ty (0,0) hh,zbH];simp_all
     cases hq
    cases hq
   cases hq
  cases hq
 |eX x off b o hb bU f hw hr=>
  simp only at hq;split at hq
  next y hy=>simp at hq;subst hq;obtain⟨k3,hk3,bz,H0⟩:=Er hy f bU hr;refine⟨_,rh hk3 b (o+off) (λj=>f (off+j)) (λj hj=> ?_),.d H0⟩;grind
  cases hq
 |_=>cases hq
theorem zF{v:Value}{p q:P}(hv:aF F w G s.rg v p)(hq:ko s p=some q):q=p/\((∃b,v= .pointer (some b))\/ ∃f c1 c2,v= .func (.func f) c1 c2):=by
 unfold ko at hq;cases hv with
 |ref n aR off v hr h1=>
  simp only at hq;split at hq
  next hl=>obtain⟨e,he,dw,hl⟩:=S.df hl;obtain⟨b,_,hv⟩:=hr.at he dw hl;grind
  cases hq
 |dj n aR i k off v h1 hr=>
  simp only at hq;split at hq
  next hl=>obtain⟨e,he,dw,hl⟩:=S.df hl;obtain⟨b,N,cap,_,hv⟩:=hr.at he dw hl;grind
  cases hq
 |eX x off b o hb bU f hw hr=>grind
 |fn f vs cF hl hc=>grind
 |_=>cases hq
theorem l4{t:TypeId}{f o:Nat}(h:wZ Q t f=some o)(b off:Nat)(w:World):(Instr.fieldAt t (.pointer (some ⟨b,off,none⟩)) f).run Q w= .ok (.pointer (some ⟨b,off+o,none⟩)) w:=by
 unfold wZ at h;split at h
 next fs hfs=>
  split at h
  next fl wb=>
   split at h
   next k hk=>simp at h;subst h;simp[Instr.fieldAt,run_underlying hfs,wb,Instr.sureAddr,fieldPlace,run_sizeOf hk,addr_add]
   cases h
  cases h
 cases h
theorem zG{t:TypeId}{f:Nat}{v:Value}{p q:P}(hv:aF F w G s.rg v p)(hq:iB Q s t f p=some q): ∃u,(Instr.fieldAt t v f).run Q w= .ok u w/\aF F w G s.rg u q:=by
 unfold iB at hq;split at hq
 ·cases hq
 rename_i o ho;cases hv with
 |ref n aR off v hr h1=>
  simp only at hq;split at hq
  next hl=>simp at hq;subst hq;obtain⟨e,he,dw,hl⟩:=S.df hl;obtain⟨b,hG,rfl⟩:=hr.at he dw hl;exact⟨_,l4 ho b off w,.ref n aR (off+o) _ ⟨e,he,by omega,λ_ _=>⟨b,hG,rfl⟩⟩ rfl⟩
  cases hq
 |dj n aR i k off v h1 hr=>
  simp only at hq;split at hq
  next hl=>simp at hq;subst hq;obtain⟨e,he,dw,hl⟩:=S.df hl;obtain⟨b,N,cap,hG,rfl⟩:=hr.at he dw hl;exact⟨_,l4 ho b (i*k+off) w,.dj n aR i k (off+o) _ rfl ⟨e,he,by omega,λ_ _=>⟨b,N,cap,hG,by rw[zbH]⟩⟩⟩
  cases hq
 |eX x off b o' hb bU f' hw hr=>simp at hq;subst hq;refine⟨_,l4 ho b (o'+off) w,?_⟩;rw[zbH];exact .eX x (off+o) b o' hb bU f' hw hr
 |_=>cases hq
theorem dp{t e:TypeId}(h:cG Q t=some e):Q.underlying t=some (.slice e):=by grind [cG]
theorem V2{t e:TypeId}(h:Q.underlying t=some (.slice e)):Q.elem t=e:=by simp[Program.elem,h]
theorem H2{t e:TypeId}{n:Nat}(h:J6 Q t=some (n,e)):Q.underlying t=some (.array n e):=by grind [J6]
theorem jH{t e:TypeId}{n k:Nat}(ht:Q.underlying t=some (.array n e))(hk:sz Q e=some k)(b off:Nat)(kk:IntKind){j:Int}(hj:0<=j/\j<(n:Int)):
  (Instr.indexAt t (.pointer (some ⟨b,off,none⟩)) (.int kk j)).run Q w= .ok (.pointer (some ⟨b,off+j.toNat*k,none⟩)) w:=by
 simp[Instr.indexAt,asIntOf,run_underlying ht,Instr.sureAddr,hj,run_sizeOf hk,addr_add]
theorem Et{t e:TypeId}{n:Nat}{v u:Value}{p i q:P}(ht:Q.underlying t=some (.array n e))(hv:aF F w G s.rg v p)(hu:aF F w G s.rg u i)(hq:o4 Q s n e p i=some q):
  ∃x,(Instr.indexAt t v u).run Q w= .ok x w/\aF F w G s.rg x q:=by
 unfold o4 at hq;split at hq
 next kk j k hk=>
  cases hu with
  |d hu=>
   cases hu;split at hq
   ·rename_i hj;cases hv with
    |ref n aR off v hr h1=>
     simp only at hq;split at hq
     next hl=>simp at hq;subst hq;obtain⟨en,he,dw,hl⟩:=S.df hl;obtain⟨b,hG,rfl⟩:=hr.at he dw hl;exact⟨_,jH ht hk b off kk hj,.ref n aR _ _ ⟨en,he,by omega,λ_ _=>⟨b,hG,rfl⟩⟩ rfl⟩
     cases hq
    |dj n aR i k' off v h1 hr=>
     simp only at hq;split at hq
     next hl=>simp at hq;subst hq;obtain⟨en,he,dw,hl⟩:=S.df hl;obtain⟨b,N,cap,hG,rfl⟩:=hr.at he dw hl;exact⟨_,jH ht hk b _ kk hj,.dj n aR i k' _ _ rfl ⟨en,he,by omega,λ_ _=>⟨b,N,cap,hG,by rw[zbH]⟩⟩⟩
     cases hq
    |eX x off b o hb bU f hw hr=>simp at hq;subst hq;refine⟨_,jH ht hk b _ kk hj,?_⟩;rw[zbH];exact .eX x _ b o hb bU f hw hr
    |_=>cases hq
   cases hq
 cases hq
theorem zH(h:aB Q T F G w a s){t:TypeId}{v u:Value}{p i q:P}(hv:aF F w G s.rg v p)(hu:aF F w G s.rg u i)(hq:fb Q s t p i=some q):
  ∃x,(Instr.indexAt t v u).run Q w= .ok x w/\aF F w G s.rg x q:=by
 unfold fb at hq;split at hq
 next n e het=>exact Et (H2 het) hv hu hq
 split at hq
 next _ e kk j het=>
  have oh:=dp het;have AA:=V2 oh;cases hu with
  |d hu=>
   cases hu;split at hq
   ·rename_i k hk;cases hv with
    |sl n aR len v h1 hr=>
     simp only at hq;split at hq
     ·rename_i ty fz es ho;split at hq
      ·rename_i H3;split at hq
       ·rename_i hj;simp at hq;subst hq;obtain⟨en,he,dw,bH⟩:=S.bw ho;obtain⟨a0,N,cap,hG,rfl,hle⟩:=hr.at he dw (by rw[bH];rfl);have hO:=h.rg n en he;rw[bH] at hO;rcases hO with⟨jR,_⟩| ⟨b',ig,cs,k2,jR,hh,u7,kq,qbL,zC,cM,_,hE⟩
        ·skip
         grind
        rw[hG] at jR;obtain⟨rfl,rfl,rfl⟩:=jR;refine⟨_,?_,.dj n aR j.toNat (k+1) 0 (.pointer (some ⟨b',j.toNat*(k+1)+0,none⟩)) rfl ⟨en,he,by omega,λ_ _=>⟨b',_,_,hG,rfl⟩⟩⟩;rw[run_indexAt_slice w t ⟨b',0,none⟩ len cap _ j (by rw[AA];exact oh),zaq hj,AA,run_sizeOf hk];simp[addr_add]
       cases hq
      cases hq
     cases hq
    |lu n aR k0 V3 len v h1 hr=>
     simp only at hq;split at hq
     ·rename_i ty fz es ho;split at hq
      ·rename_i H3;rw[zad] at H3;have qiQ:k0=k+1:=zah H3.2;split at hq
       ·rename_i hj;simp at hq;subst hq;obtain⟨en,he,dw,bH⟩:=S.bw ho;obtain⟨a0,N,cap,hG,hle,a1,qo,rfl,Pm,hz⟩:=hr.at he dw (by rw[bH];rfl);obtain⟨b',ha0,Pn⟩: ∃b,a0=some ⟨b,0,none⟩/\a1=some ⟨b,V3*(k+1),none⟩:=by grind
        subst ha0 Pn;refine⟨_,?_,.dj n aR (V3+j.toNat) (k+1) 0 (.pointer (some ⟨b',(V3+j.toNat)*(k+1)+0,none⟩)) rfl ⟨en,he,by omega,λ_ _=>⟨b',_,_,hG,rfl⟩⟩⟩;rw[run_indexAt_slice w t ⟨b',V3*(k+1),none⟩ len qo _ j (by rw[AA];exact oh),zaq hj,AA,run_sizeOf hk];simp[addr_add,zaR]
       cases hq
      cases hq
     cases hq
    |d hv=>
     cases hv with
     |Oe a0 k' cap=>simp at hq
     |Pg b off k' cap es f zC hb jG bU hw hr=>
      simp only at hq;split at hq
      ·rename_i qbM;have qbM:k'=k+1:=by simpa using qbM
       subst qbM;split at hq
       ·rename_i hj;split at hq
        ·rename_i x hx;simp at hq;subst hq;have hi:j.toNat<es.length:=(zae.1 hx).1;have hxm:x∈es:=zaz hx;refine⟨.pointer (some ⟨b,off+j.toNat*(k+1)+0,none⟩),?_,.eX x 0 b (off+j.toNat*(k+1)) hb (bU x hxm) (λm=>f (j.toNat*(k+1)+m)) (λm hm=> ?_) (λm c hc=>hr _ _ _ _ hx hc)⟩
         ·rw[run_indexAt_slice w t ⟨b,off,none⟩ es.length cap _ j (by rw[AA];exact oh),zaq (by omega),AA,run_sizeOf hk];simp[addr_add]
         rw[zbH];refine hw _ ?_;rw[jG x hxm] at hm
         calc j.toNat*(k+1)+m<j.toNat*(k+1)+(k+1):=by omega
          _=(j.toNat+1)*(k+1):=by rw[zaR,zbz]
          _<=es.length*(k+1):=zao _ (by omega)
        cases hq
       cases hq
      cases hq
     |_=>cases hq
    |_=>cases hq
   cases hq
 cases hq
end
end Pi
