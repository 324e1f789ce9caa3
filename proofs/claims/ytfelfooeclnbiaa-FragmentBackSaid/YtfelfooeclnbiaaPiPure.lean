/- The text PiPure. -/
import Derived.Test.YtfelfooeclnbiaaPiRep
namespace Pi
open Go
theorem aU{α:Type}{Q:Program}{m:Sem α}{v:α}(h:ai Q m=some v)(w:World):m.run Q w= .ok v w:=by
 induction m with
 |pure a=>simp_all [ai]
 |program k ih=>exact ih _ h
 |mark m k ih=>exact ih h
 |_=>simp[ai] at h
theorem uv{Q:Program}{m:Sem Value}{p:P}(h:bO Q m=some p)(F:Nat->Prop)(w:World)(G:Nat->Value)(R:List (Nat×En)): ∃v,m.run Q w= .ok v w/\ao F w G R v p:=by
 unfold bO at h;split at h
 next v hv=>
  split at h
  next x hx=>simp at h;subst h;exact⟨v,aU hv w,.d (az.kq F w hx)⟩
  cases h
 cases h
theorem ao.aX{F:Nat->Prop}{w:World}{G:Nat->Value}{R:List (Nat×En)}{v u:Value}{p:P}(h:ao F w G R v p)(hu:p.aX=some u):v=u:=by
 cases h<;>simp[P.aX] at hu
 case d x h=>exact h.aX hu
theorem S.aJ{s:S}{n v:Nat}{o:Obj}(h:s.obj n v=some o): ∃e,lk s.rg n=some e/\e.ay=v/\e.obj=o:=by
 unfold S.obj at h;split at h
 ·simp_all
 cases h
theorem S.bE{s:S}{n v:Nat}(h:s.live n v=true): ∃e,lk s.rg n=some e/\e.ay=v/\e.obj.live=true:=by grind [S.live,S.aJ,Obj.live]
theorem bW.at{R:List (Nat×En)}{n ay:Nat}{C:Prop}(h:bW R n ay C){e:En}(he:lk R n=some e)(hv:e.ay=ay)(hl:e.obj.live=true):C:=by obtain⟨e',bb,_,hc⟩:=h;grind
def e9(a:Act):Option (Nat×Bool)->Prop
 |none=>True
 |some (t,b)=>a.tmps[t]?=some (.bool b)
section
variable{Q:Program}{T:Tg}{F:Nat->Prop}{G:Nat->Value}{w:World}{a:Act}{s:S}
theorem zZ(h:ar Q T F G w a s)(x:Operand):bx F w G s.rg a.tmps (a.eval x) (s.ev x):=by
 cases x with
 |tmp t=>
  simp only[S.ev,Act.eval];cases hp:lk s.tm t with
  |none=>exact bx.of (.bad _)
  |some p=>exact h.tm t p hp
 |const v=>
  simp only[S.ev,Act.eval];split
  next x hx=>exact bx.of (.d (az.kq F w hx))
  exact bx.of (.bad _)
 |func f=>exact bx.of (.fn f [] [] rfl (λi v c hv=>by simp at hv))
 |global g=>exact bx.of (.bad _)
theorem wA{g:Option (Nat×Bool)}(_:e9 a g){v:Value}{p:P}(h:bx F w G s.rg a.tmps v p):ao F w G s.rg v (p.under g):=by
 cases p with
 |when t b q=>exact .bad _
 |_=>exact h
theorem aw(h:ar Q T F G w a s){g:Option (Nat×Bool)}(hg:e9 a g)(x:Operand):ao F w G s.rg (a.eval x) (s.eg g x):=wA hg (zZ h x)
theorem yG{t:Nat}{v:Value}(h:a.tmps.getD t undef=v)(hv:v≠undef):t<a.tmps.size:=by grind
theorem oc: ∀(ps:List P) (xs:List D),ui ps=some xs->ps=xs.map P.d
 | [],xs,h=>by grind [ui]
 |p::r,xs,h=>by
  cases p<;>simp[ui] at h;rename_i x;cases hr:ui r with
  |none=>grind
  |some ys=>simp[hr] at h;subst h;simp[oc r ys hr]
theorem qk{R:List (Nat×En)}{vs:List Value}{ps:List P}(hl:vs.length=ps.length)(cW: ∀v∈vs,v.oneCell'=true)
  (hc: ∀(i:Nat) (v:Value) (c:P),vs[i]?=some v->ps[i]?=some c->ao F w G R v c):ao F w G R (.agg ⟨vs⟩) (s6 ps):=by
 unfold s6;split
 next xs Dy=>
  have e:=oc ps xs Dy;subst e;have hd: ∀(i:Nat) (v:Value) (c:D),vs[i]?=some v->xs[i]?=some c->az F w v c:=λi v c hv fQ=>by have:=hc i v (.d c) hv (by simp[fQ]);cases this with |d h=>exact h
  refine .d (.agg vs xs (by grind) (λc fQ=> ?_) hd);obtain⟨i,hi⟩:=zas fQ;have bA:i<vs.length:=by grind
  exact(hd i _ c (zad bA) hi).aF (cW _ (zal bA))
 exact .agg vs ps hl cW hc
theorem cL{t:TypeId}{k:Nat}(h:sz Q t=some k): ∃i d,Q.info? t=some i/\Q.underlying t=some d/\i.size=k:=by grind [sz]
theorem run_sizeOf{t:TypeId}{k:Nat}(h:sz Q t=some k)(w:World):(Go.sizeOf t).run Q w= .ok k w:=by obtain⟨i,d,hi,_,rfl⟩:=cL h;simp[Go.sizeOf,typeInfo,hi]
theorem od{t:TypeId}{d:TypeDesc}(h:Q.underlying t=some d)(w:World):(Go.isAgg t).run Q w= .ok (bB Q t) w:=by unfold Go.isAgg bB;rw[Sem.run_bind,run_underlying h w,h];cases d<;>simp
theorem bs(b o n:Nat):(⟨b,o,none⟩:Addr).add n=⟨b,o+n,none⟩:=by unfold Addr.add;simp
theorem wB{t:TypeId}{k:Nat}(hk:sz Q t=some k)(vs:List Value)(off:Nat)(hb: ∀j,j<(if bB Q t then k else 1)->off+j<vs.length)(w:World):
  (Go.part t ⟨vs⟩ off).run Q w= .ok (if bB Q t then .agg ((List.range k).map λj=>vs.getD (off+j) undef).toArray else vs.getD off undef) w:=by
 obtain⟨_,d,_,hd,_⟩:=cL hk;unfold Go.part;rw[Sem.run_bind,od hd w];cases tn:bB Q t with
 |true=>simp only[Result.andThen_ok,za2,Sem.run_bind,run_sizeOf hk,Sem.run_pure];congr 3;rw[<-zaR];apply zaJ;grind
 |false=>simp_all
theorem jV{t:TypeId}{k:Nat}{d:TypeDesc}(hk:sz Q t=some k)(hd:Q.underlying t=some d)(b o:Nat)(f:Nat->Value)(hf: ∀j,j<(if bB Q t then k else 1)->w.cell? ⟨b,o+j,none⟩=some (f j)):
  (loadVar t ⟨b,o,none⟩).run Q w= .ok (if bB Q t then .agg ((List.range k).map f).toArray else f 0) w:=by
 unfold loadVar;rw[Sem.run_bind,od hd w];cases tn:bB Q t with
 |true=>have hl:=run_loadCells (P:=Q) w ⟨b,o,none⟩ k f (λj hj=>by rw[bs];grind);simp_all [run_sizeOf]
 |false=>simp_all
theorem ql{R:List (Nat×En)}{t:TypeId}{ps:List P}{off:Nat}{p:P}(h:n4 Q t ps off=some p)(f:Nat->Value)(cW: ∀i,i<ps.length->(f i).oneCell'=true)
  (hp: ∀i c,ps[i]?=some c->ao F w G R (f i) c):
  ∃k,sz Q t=some k/\(∀j,j<(if bB Q t then k else 1)->off+j<ps.length)/\ao F w G R (if bB Q t then .agg ((List.range k).map λj=>f (off+j)).toArray else f off) p:=by
 unfold n4 at h;cases hk:sz Q t with
 |none=>grind
 |some k=>
  refine⟨k,rfl,?_⟩;simp only[hk] at h;cases tn:bB Q t with
  |true=>
   simp only[tn,za2] at h;split at h
   ·rename_i hle;have hle:off+k<=ps.length:=by simpa using hle
    grind [qk]
   cases h
  |false=>grind
theorem qm{t:TypeId}{cs:List D}{off:Nat}{x:D}(h:dm Q t cs off=some x)(f:Nat->Value)(aP: ∀c∈cs,c.aF=true)
  (hp: ∀i c,cs[i]?=some c->az F w (f i) c):
  ∃k,sz Q t=some k/\(∀j,j<(if bB Q t then k else 1)->off+j<cs.length)/\az F w (if bB Q t then .agg ((List.range k).map λj=>f (off+j)).toArray else f off) x:=by
 unfold dm at h;cases hk:sz Q t with
 |none=>grind
 |some k=>
  refine⟨k,rfl,?_⟩;simp only[hk] at h;cases tn:bB Q t with
  |true=>
   simp only[tn,za2] at h;split at h
   ·rename_i hle;have hle:off+k<=cs.length:=by simpa using hle
    simp at h;subst h;refine⟨λj hj=>by grind,?_⟩;refine .agg _ _ (by simp;omega) (λc hc=>aP c (zbr (zbs hc))) (λi v c hv hc=> ?_);grind
   cases h
  |false=>grind
theorem ky{t:TypeId}{k:Nat}(h:sz Q t=some k): ∃d,Q.underlying t=some d:=by grind [cL]
theorem jo{t:TypeId}{k:Nat}(hk:sz Q t=some k)(b o:Nat)(f:Nat->Value)(hf: ∀j,j<(if bB Q t then k else 1)->w.cell? ⟨b,o+j,none⟩=some (f j)):
  (Instr.loadAt t (.pointer (some ⟨b,o,none⟩))).run Q w= .ok (if bB Q t then .agg ((List.range k).map f).toArray else f 0) w:=by
 obtain⟨d,hd⟩:=ky hk;simp only[Instr.loadAt,Instr.sureAddr,Sem.run_bind,Sem.run_pure,Result.andThen_ok];grind [jV]
theorem qn(h:ar Q T F G w a s){t:TypeId}{v:Value}{p q:P}(hv:ao F w G s.rg v p)(hq:iY Q s t p=some q): ∃u,(Instr.loadAt t v).run Q w= .ok u w/\ao F w G s.rg u q:=by
 unfold iY at hq;cases hv with
 |ref n ay off v hr h1=>
  simp only at hq;split at hq
  next ty ps ho=>obtain⟨e,he,bP,aO⟩:=S.aJ ho;obtain⟨b,hG,rfl⟩:=hr.at he bP (by rw[aO];rfl);have hO:=h.rg n e he;rw[aO] at hO;obtain⟨b',cs,e7,hh,bM,cW,oe⟩:=hO;rw[hG] at e7;simp at e7;subst e7;obtain⟨k,hk,bA,r5⟩:=ql (R:=s.rg) hq (λi=>cs.getD i undef) (λi hi=>cW _ (by simp_all)) oe;refine⟨_,jo hk b off (λj=>cs.getD (off+j) undef) (λj hj=> ?_),r5⟩;rw[cell_of_row w b (off+j) cs ty (0,0) hh];simp_all
  cases hq
 |bG n ay i k off v h1 hr=>
  simp only at hq;split at hq
  next ty fz es ho=>
   obtain⟨e,he,bP,aO⟩:=S.aJ ho;obtain⟨b,N,cap,hG,rfl⟩:=hr.at he bP (by rw[aO];rfl);have hO:=h.rg n e he;rw[aO] at hO;split at hq
   ·rename_i k' x ga hx;split at hq
    ·rename_i dT;have dT:k=k':=by simpa using dT
     subst dT;split at hq
     ·rename_i y hy;simp at hq;subst hq;rcases hO with⟨e7,_⟩| ⟨b',dS,cs,k2,e7,hh,rE,fR,hle,jT,bM,_,hE⟩
      ·rw[hG] at e7;cases e7
      rw[hG] at e7;simp at e7;obtain⟨rfl,_,_⟩:=e7;rw[ga] at rE;cases rE;obtain⟨hl,aP,hcs⟩:=hE i x hx;obtain⟨k3,BO,bA,r5⟩:=qm hy (λj=>cs.getD (i*k+j) undef) aP (λj c hc=>hcs j c hc);have hi:i<es.length:=(zaa.1 hx).1;refine⟨_,jo BO b (i*k+off) (λj=>cs.getD (i*k+(off+j)) undef) (λj hj=> ?_),.d r5⟩;have h2:=bA j hj;have h3:i*k+(off+j)<cs.size:=by
       rw[bM]
       calc i*k+(off+j)<i*k+k:=by omega
        _=(i+1)*k:=by rw[zaw,zaT]
        _<=dS*k:=zag _ (by omega)
      rw[cell_of_row w b _ cs ty (0,0) hh,za3];simp_all
     cases hq
    cases hq
   cases hq
  cases hq
 |cl x off b o hb aP f hw hr=>
  simp only at hq;split at hq
  next y hy=>simp at hq;subst hq;obtain⟨k3,BO,bA,r5⟩:=qm hy f aP hr;refine⟨_,jo BO b (o+off) (λj=>f (off+j)) (λj hj=> ?_),.d r5⟩;grind
  cases hq
 |_=>cases hq
theorem nH{v:Value}{p q:P}(hv:ao F w G s.rg v p)(hq:ew s p=some q):q=p/\((∃b,v= .pointer (some b))\/ ∃f c1 c2,v= .func (.func f) c1 c2):=by
 unfold ew at hq;cases hv with
 |ref n ay off v hr h1=>
  simp only at hq;split at hq
  next hl=>obtain⟨e,he,bP,hl⟩:=S.bE hl;obtain⟨b,_,hv⟩:=hr.at he bP hl;grind
  cases hq
 |bG n ay i k off v h1 hr=>
  simp only at hq;split at hq
  next hl=>obtain⟨e,he,bP,hl⟩:=S.bE hl;obtain⟨b,N,cap,_,hv⟩:=hr.at he bP hl;grind
  cases hq
 |cl x off b o hb aP f hw hr=>grind
 |fn f vs cn hl hc=>grind
 |_=>cases hq
theorem fo{t:TypeId}{f o:Nat}(h:l8 Q t f=some o)(b off:Nat)(w:World):(Instr.fieldAt t (.pointer (some ⟨b,off,none⟩)) f).run Q w= .ok (.pointer (some ⟨b,off+o,none⟩)) w:=by
 unfold l8 at h;split at h
 next fs GD=>
  split at h
  next fl z6=>
   split at h
   next k hk=>simp at h;subst h;simp[Instr.fieldAt,run_underlying GD,z6,Instr.sureAddr,fieldPlace,run_sizeOf hk,bs]
   cases h
  cases h
 cases h
theorem nI{t:TypeId}{f:Nat}{v:Value}{p q:P}(hv:ao F w G s.rg v p)(hq:dt Q s t f p=some q): ∃u,(Instr.fieldAt t v f).run Q w= .ok u w/\ao F w G s.rg u q:=by
 unfold dt at hq;split at hq
 ·cases hq
 rename_i o ho;cases hv with
 |ref n ay off v hr h1=>
  simp only at hq;split at hq
  next hl=>simp at hq;subst hq;obtain⟨e,he,bP,hl⟩:=S.bE hl;obtain⟨b,hG,rfl⟩:=hr.at he bP hl;exact⟨_,fo ho b off w,.ref n ay (off+o) _ ⟨e,he,by omega,λ_ _=>⟨b,hG,rfl⟩⟩ rfl⟩
  cases hq
 |bG n ay i k off v h1 hr=>
  simp only at hq;split at hq
  next hl=>simp at hq;subst hq;obtain⟨e,he,bP,hl⟩:=S.bE hl;obtain⟨b,N,cap,hG,rfl⟩:=hr.at he bP hl;exact⟨_,fo ho b (i*k+off) w,.bG n ay i k (off+o) _ rfl ⟨e,he,by omega,λ_ _=>⟨b,N,cap,hG,by rw[za3]⟩⟩⟩
  cases hq
 |cl x off b o' hb aP f' hw hr=>simp at hq;subst hq;refine⟨_,fo ho b (o'+off) w,?_⟩;rw[za3];exact .cl x (off+o) b o' hb aP f' hw hr
 |_=>cases hq
theorem bJ{t e:TypeId}(h:bd Q t=some e):Q.underlying t=some (.slice e):=by grind [bd]
theorem yH{t e:TypeId}(h:Q.underlying t=some (.slice e)):Q.elem t=e:=by simp[Program.elem,h]
theorem r6{t e:TypeId}{n:Nat}(h:s7 Q t=some (n,e)):Q.underlying t=some (.array n e):=by grind [s7]
theorem dU{t e:TypeId}{n k:Nat}(ht:Q.underlying t=some (.array n e))(hk:sz Q e=some k)(b off:Nat)(kk:IntKind){j:Int}(hj:0<=j/\j<(n:Int)):
  (Instr.indexAt t (.pointer (some ⟨b,off,none⟩)) (.int kk j)).run Q w= .ok (.pointer (some ⟨b,off+j.toNat*k,none⟩)) w:=by
 simp[Instr.indexAt,asIntOf,run_underlying ht,Instr.sureAddr,hj,run_sizeOf hk,bs]
theorem qo{t e:TypeId}{n:Nat}{v u:Value}{p i q:P}(ht:Q.underlying t=some (.array n e))(hv:ao F w G s.rg v p)(hu:ao F w G s.rg u i)(hq:gN Q s n e p i=some q):
  ∃x,(Instr.indexAt t v u).run Q w= .ok x w/\ao F w G s.rg x q:=by
 unfold gN at hq;split at hq
 next kk j k hk=>
  cases hu with
  |d hu=>
   cases hu;split at hq
   ·rename_i hj;cases hv with
    |ref n ay off v hr h1=>
     simp only at hq;split at hq
     next hl=>simp at hq;subst hq;obtain⟨en,he,bP,hl⟩:=S.bE hl;obtain⟨b,hG,rfl⟩:=hr.at he bP hl;exact⟨_,dU ht hk b off kk hj,.ref n ay _ _ ⟨en,he,by omega,λ_ _=>⟨b,hG,rfl⟩⟩ rfl⟩
     cases hq
    |bG n ay i k' off v h1 hr=>
     simp only at hq;split at hq
     next hl=>simp at hq;subst hq;obtain⟨en,he,bP,hl⟩:=S.bE hl;obtain⟨b,N,cap,hG,rfl⟩:=hr.at he bP hl;exact⟨_,dU ht hk b _ kk hj,.bG n ay i k' _ _ rfl ⟨en,he,by omega,λ_ _=>⟨b,N,cap,hG,by rw[za3]⟩⟩⟩
     cases hq
    |cl x off b o hb aP f hw hr=>simp at hq;subst hq;refine⟨_,dU ht hk b _ kk hj,?_⟩;rw[za3];exact .cl x _ b o hb aP f hw hr
    |_=>cases hq
   cases hq
 cases hq
theorem nJ(h:ar Q T F G w a s){t:TypeId}{v u:Value}{p i q:P}(hv:ao F w G s.rg v p)(hu:ao F w G s.rg u i)(hq:cq Q s t p i=some q):
  ∃x,(Instr.indexAt t v u).run Q w= .ok x w/\ao F w G s.rg x q:=by
 unfold cq at hq;split at hq
 next n e het=>exact qo (r6 het) hv hu hq
 split at hq
 next _ e kk j het=>
  have eo:=bJ het;have wC:=yH eo;cases hu with
  |d hu=>
   cases hu;split at hq
   ·rename_i k hk;cases hv with
    |sl n ay len v h1 hr=>
     simp only at hq;split at hq
     ·rename_i ty fz es ho;split at hq
      ·rename_i r7;split at hq
       ·rename_i hj;simp at hq;subst hq;obtain⟨en,he,bP,aO⟩:=S.aJ ho;obtain⟨a0,N,cap,hG,rfl,hle⟩:=hr.at he bP (by rw[aO];rfl);have hO:=h.rg n en he;rw[aO] at hO;rcases hO with⟨e7,_⟩| ⟨b',dS,cs,k2,e7,hh,rE,fR,AA,jT,bM,_,hE⟩
        ·skip
         grind
        rw[hG] at e7;obtain⟨rfl,rfl,rfl⟩:=e7;refine⟨_,?_,.bG n ay j.toNat (k+1) 0 (.pointer (some ⟨b',j.toNat*(k+1)+0,none⟩)) rfl ⟨en,he,by omega,λ_ _=>⟨b',_,_,hG,rfl⟩⟩⟩;rw[run_indexAt_slice w t ⟨b',0,none⟩ len cap _ j (by rw[wC];exact eo),zau hj,wC,run_sizeOf hk];simp[bs]
       cases hq
      cases hq
     cases hq
    |eZ n ay k0 yI len v h1 hr=>
     simp only at hq;split at hq
     ·rename_i ty fz es ho;split at hq
      ·rename_i r7;rw[zac] at r7;have GF:k0=k+1:=zab r7.2;split at hq
       ·rename_i hj;simp at hq;subst hq;obtain⟨en,he,bP,aO⟩:=S.aJ ho;obtain⟨a0,N,cap,hG,hle,a1,iP,rfl,wD,hz⟩:=hr.at he bP (by rw[aO];rfl);obtain⟨b',AB,wE⟩: ∃b,a0=some ⟨b,0,none⟩/\a1=some ⟨b,yI*(k+1),none⟩:=by grind
        subst AB wE;refine⟨_,?_,.bG n ay (yI+j.toNat) (k+1) 0 (.pointer (some ⟨b',(yI+j.toNat)*(k+1)+0,none⟩)) rfl ⟨en,he,by omega,λ_ _=>⟨b',_,_,hG,rfl⟩⟩⟩;rw[run_indexAt_slice w t ⟨b',yI*(k+1),none⟩ len iP _ j (by rw[wC];exact eo),zau hj,wC,run_sizeOf hk];simp[bs,zaw]
       cases hq
      cases hq
     cases hq
    |d hv=>
     cases hv with
     |ur a0 k' cap=>simp at hq
     |vI b off k' cap es f jT hb dT aP hw hr=>
      simp only at hq;split at hq
      ·rename_i AE;have AE:k'=k+1:=by simpa using AE
       subst AE;split at hq
       ·rename_i hj;split at hq
        ·rename_i x hx;simp at hq;subst hq;have hi:j.toNat<es.length:=(zaa.1 hx).1;have z7:x∈es:=zaq hx;refine⟨.pointer (some ⟨b,off+j.toNat*(k+1)+0,none⟩),?_,.cl x 0 b (off+j.toNat*(k+1)) hb (aP x z7) (λm=>f (j.toNat*(k+1)+m)) (λm hm=> ?_) (λm c hc=>hr _ _ _ _ hx hc)⟩
         ·rw[run_indexAt_slice w t ⟨b,off,none⟩ es.length cap _ j (by rw[wC];exact eo),zau (by omega),wC,run_sizeOf hk];simp[bs]
         rw[za3];refine hw _ ?_;rw[dT x z7] at hm
         calc j.toNat*(k+1)+m<j.toNat*(k+1)+(k+1):=by omega
          _=(j.toNat+1)*(k+1):=by rw[zaw,zaT]
          _<=es.length*(k+1):=zag _ (by omega)
        cases hq
       cases hq
      cases hq
     |_=>cases hq
    |_=>cases hq
   cases hq
 cases hq
end
end Pi
