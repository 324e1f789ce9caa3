/- The text PiPure. -/
import Derived.Test.YtngoddkencoalaaGreatDoorPiRep
namespace Pi
open Go
theorem du {α:Type} {Q:Program} {m:Sem α} {v:α} (h:av Q m=some v) (w:World):m.run Q w= .ok v w:=by
 induction m with
 |pure a=>simp[av] at h;subst h;rfl
 |program k ih=>simp only[av] at h;simp only[Sem.run];exact ih _ h
 |mark m k ih=>simp only[av] at h;simp only[Sem.run];exact ih h
 |_=>simp[av] at h
theorem J6 {Q:Program} {m:Sem Value} {p:P} (h:dM Q m=some p) (F:Nat->Prop) (w:World) (G:Nat->Value) (R:List (Nat×En)): ∃v,m.run Q w= .ok v w/\aD F w G R v p:=by
 unfold dM at h
 split at h
 ·rename_i v hv
  split at h
  ·rename_i x hx
   simp at h
   subst h
   exact⟨v,du hv w,.d (aW.sQ F w hx)⟩
  ·cases h
 ·cases h
theorem aD.cw {F:Nat->Prop} {w:World} {G:Nat->Value} {R:List (Nat×En)} {v u:Value} {p:P} (h:aD F w G R v p) (hu:p.cw=some u):v=u:=by
 cases h<;>simp[P.cw] at hu
 case d x h=>exact h.cw hu
theorem S.bF {s:S} {n v:Nat} {o:Obj} (h:s.obj n v=some o): ∃e,lk s.rg n=some e/\e.aU=v/\e.obj=o:=by
 unfold S.obj at h
 split at h
 ·rename_i e he
  split at h
  ·rename_i hv
   simp at h
   exact⟨e,he,by simpa using hv,h⟩
  ·cases h
 ·cases h
theorem S.dj {s:S} {n v:Nat} (h:s.live n v=true): ∃e,lk s.rg n=some e/\e.aU=v/\e.obj.live=true:=by
 unfold S.live at h
 split at h
 ·cases h
 ·rename_i o h1 h2
  obtain⟨e,he,hv,ho⟩:=S.bF h2
  refine⟨e,he,hv,?_⟩
  cases hh:e.obj<;>simp[Obj.live]
  exact h1 (by rw[<-hh,ho])
 ·cases h
theorem dZ.at {R:List (Nat×En)} {n aU:Nat} {C:Prop} (h:dZ R n aU C) {e:En} (he:lk R n=some e) (hv:e.aU=aU) (hl:e.obj.live=true):C:=by
 obtain⟨e',cF,_,hc⟩:=h
 rw[he] at cF
 cases cF
 exact hc hv.symm hl
def kZ (a:Act):Option (Nat×Bool)->Prop
 |none=>True
 |some (t,b)=>a.tmps[t]?=some (.bool b)
section
variable {Q:Program} {T:Tg} {F:Nat->Prop} {G:Nat->Value} {w:World} {a:Act} {s:S}
theorem vW (h:aB Q T F G w a s) (x:Operand):cr F w G s.rg a.tmps (a.eval x) (s.ev x):=by
 cases x with
 |tmp t=>
  simp only[S.ev,Act.eval]
  cases hp:lk s.tm t with
  |none=>exact cr.of (.bad _)
  |some p=>exact h.tm t p hp
 |const v=>
  simp only[S.ev,Act.eval]
  split
  ·rename_i x hx;exact cr.of (.d (aW.sQ F w hx))
  ·exact cr.of (.bad _)
 |func f=>
  simp only[S.ev,Act.eval]
  exact cr.of (.fn f [] [] rfl (fun i v c hv=>by simp at hv))
 |global g=>exact cr.of (.bad _)
theorem Nc {g:Option (Nat×Bool)} (_:kZ a g) {v:Value} {p:P} (h:cr F w G s.rg a.tmps v p):aD F w G s.rg v (p.under g):=by
 cases p with
 |when t b q=>exact .bad _
 |_=>exact h
theorem aV (h:aB Q T F G w a s) {g:Option (Nat×Bool)} (hg:kZ a g) (x:Operand):aD F w G s.rg (a.eval x) (s.eg g x):=Nc hg (vW h x)
theorem S5 {t:Nat} {v:Value} (h:a.tmps.getD t undef=v) (hv:v≠undef):t<a.tmps.size:=by
 by_cases ht:t<a.tmps.size
 ·exact ht
 ·simp[Array.getD,ht] at h;exact absurd h.symm hv
theorem zC: ∀(ps:List P) (xs:List D),yD ps=some xs->ps=xs.map P.d
 | [],xs,h=>by simp[yD] at h;simp[h]
 |p::r,xs,h=>by
  cases p<;>simp[yD] at h
  rename_i x
  cases hr:yD r with
  |none=>simp[hr] at h
  |some ys=>simp[hr] at h;subst h;simp[zC r ys hr]
theorem Dq {R:List (Nat×En)} {vs:List Value} {ps:List P} (hl:vs.length=ps.length) (gm: ∀v∈vs,v.oneCell'=true)
  (hc: ∀(i:Nat) (v:Value) (c:P),vs[i]?=some v->ps[i]?=some c->aD F w G R v c):aD F w G R (.agg ⟨vs⟩) (H8 ps):=by
 unfold H8
 split
 ·rename_i xs YM
  have e:=zC ps xs YM
  subst e
  have hd: ∀(i:Nat) (v:Value) (c:D),vs[i]?=some v->xs[i]?=some c->aW F w v c:=fun i v c hv iQ=>by
   have:=hc i v (.d c) hv (by simp[iQ])
   cases this with |d h=>exact h
  refine .d (.agg vs xs (by simpa using hl) (fun c iQ=> ?_) hd)
  obtain⟨i,hi⟩:=List.getElem?_of_mem iQ
  have bk:i<vs.length:=by have:=(List.getElem?_eq_some_iff.1 hi).1;simp at hl;omega
  exact(hd i _ c (List.getElem?_eq_getElem bk) hi).bC (gm _ (List.getElem_mem bk))
 ·exact .agg vs ps hl gm hc
theorem fU {t:TypeId} {k:Nat} (h:sz Q t=some k): ∃i d,Q.info? t=some i/\Q.underlying t=some d/\i.size=k:=by
 unfold sz at h
 split at h
 ·rename_i i d h1 h2
  exact⟨i,d,h1,h2,by simpa using h⟩
 ·cases h
theorem run_sizeOf {t:TypeId} {k:Nat} (h:sz Q t=some k) (w:World):(Go.sizeOf t).run Q w= .ok k w:=by
 obtain⟨i,d,hi,_,rfl⟩:=fU h
 simp[Go.sizeOf,typeInfo,hi]
theorem pz {t:TypeId} {d:TypeDesc} (h:Q.underlying t=some d) (w:World):(Go.isAgg t).run Q w= .ok (dp Q t) w:=by
 unfold Go.isAgg dp
 rw[Sem.run_bind,run_underlying h w,h]
 cases d<;>simp
theorem addr_add (b o n:Nat):(⟨b,o,none⟩:Addr).add n=⟨b,o+n,none⟩:=by
 unfold Addr.add
 split
 ·subst_vars;rfl
 ·rfl
theorem Nd {t:TypeId} {k:Nat} (hk:sz Q t=some k) (vs:List Value) (off:Nat) (hb: ∀j,j<(if dp Q t then k else 1)->off+j<vs.length) (w:World):
  (Go.part t ⟨vs⟩ off).run Q w= .ok (if dp Q t then .agg ((List.range k).map fun j=>vs.getD (off+j) undef).toArray else vs.getD off undef) w:=by
 obtain⟨_,d,_,hd,_⟩:=fU hk
 unfold Go.part
 rw[Sem.run_bind,pz hd w]
 cases vi:dp Q t with
 |true=>
  simp only[vi,if_true] at hb
  simp only[Result.andThen_ok,if_true,Sem.run_bind,run_sizeOf hk,Sem.run_pure]
  congr 3
  rw[<-Array.toList_inj]
  apply List.ext_getElem?
  intro i
  by_cases hi:i<k
  ·have:=hb i hi
   simp[hi,List.getElem?_drop,this]
  ·simp[hi,List.getElem?_take]
   try omega
 |false=>
  simp only[vi,Bool.false_eq_true,if_false] at hb
  have:=hb 0 (by omega)
  simp only[Nat.add_zero] at this
  simp[this]
theorem r0 {t:TypeId} {k:Nat} {d:TypeDesc} (hk:sz Q t=some k) (hd:Q.underlying t=some d) (b o:Nat) (f:Nat->Value) (hf: ∀j,j<(if dp Q t then k else 1)->w.cell? ⟨b,o+j,none⟩=some (f j)):
  (loadVar t ⟨b,o,none⟩).run Q w= .ok (if dp Q t then .agg ((List.range k).map f).toArray else f 0) w:=by
 unfold loadVar
 rw[Sem.run_bind,pz hd w]
 cases vi:dp Q t with
 |true=>
  simp only[vi,if_true] at hf
  have hl:=run_loadCells (P:=Q) w ⟨b,o,none⟩ k f (fun j hj=>by rw[addr_add];exact hf j hj)
  simp[Sem.run_bind,run_sizeOf hk,hl]
 |false=>
  simp only[vi] at hf
  have:=hf 0 (by simp)
  simp only[Nat.add_zero] at this
  simp[load,Sem.run,this]
theorem Dr {R:List (Nat×En)} {t:TypeId} {ps:List P} {off:Nat} {p:P} (h:zt Q t ps off=some p) (f:Nat->Value) (gm: ∀i,i<ps.length->(f i).oneCell'=true)
  (hp: ∀i c,ps[i]?=some c->aD F w G R (f i) c):
  ∃k,sz Q t=some k/\(∀j,j<(if dp Q t then k else 1)->off+j<ps.length)/\aD F w G R (if dp Q t then .agg ((List.range k).map fun j=>f (off+j)).toArray else f off) p:=by
 unfold zt at h
 cases hk:sz Q t with
 |none=>simp[hk] at h
 |some k=>
  refine⟨k,rfl,?_⟩
  simp only[hk] at h
  cases vi:dp Q t with
  |true=>
   simp only[vi,if_true] at h
   split at h
   ·rename_i hle
    have hle:off+k<=ps.length:=by simpa using hle
    simp at h
    subst h
    refine⟨fun j hj=>by simp at hj;omega,?_⟩
    simp only[if_true]
    refine Dq (by simp;omega) (fun v hv=>by simp at hv;obtain⟨j,hj,rfl⟩:=hv;exact gm _ (by omega)) (fun i v c hv hc=> ?_)
    rw[List.getElem?_map] at hv
    rw[List.getElem?_take] at hc
    split at hc
    ·rename_i hi
     rw[List.getElem?_range hi] at hv
     simp at hv
     subst hv
     rw[List.getElem?_drop] at hc
     exact hp _ c hc
    ·cases hc
   ·cases h
  |false=>
   simp only[vi] at h
   have bk:off<ps.length:=(List.getElem?_eq_some_iff.1 (by simpa using h)).1
   refine⟨fun j hj=>by simp at hj;omega,?_⟩
   simpa using hp off p (by simpa using h)
theorem Ds {t:TypeId} {cs:List D} {off:Nat} {x:D} (h:iN Q t cs off=some x) (f:Nat->Value) (bY: ∀c∈cs,c.bC=true)
  (hp: ∀i c,cs[i]?=some c->aW F w (f i) c):
  ∃k,sz Q t=some k/\(∀j,j<(if dp Q t then k else 1)->off+j<cs.length)/\aW F w (if dp Q t then .agg ((List.range k).map fun j=>f (off+j)).toArray else f off) x:=by
 unfold iN at h
 cases hk:sz Q t with
 |none=>simp[hk] at h
 |some k=>
  refine⟨k,rfl,?_⟩
  simp only[hk] at h
  cases vi:dp Q t with
  |true=>
   simp only[vi,if_true] at h
   split at h
   ·rename_i hle
    have hle:off+k<=cs.length:=by simpa using hle
    simp at h
    subst h
    refine⟨fun j hj=>by simp at hj;omega,?_⟩
    simp only[if_true]
    refine .agg _ _ (by simp;omega) (fun c hc=>bY c (List.mem_of_mem_drop (List.mem_of_mem_take hc))) (fun i v c hv hc=> ?_)
    rw[List.getElem?_map] at hv
    rw[List.getElem?_take] at hc
    split at hc
    ·rename_i hi
     rw[List.getElem?_range hi] at hv
     simp at hv
     subst hv
     rw[List.getElem?_drop] at hc
     exact hp _ c hc
    ·cases hc
   ·cases h
  |false=>
   simp only[vi] at h
   have bk:off<cs.length:=(List.getElem?_eq_some_iff.1 (by simpa using h)).1
   refine⟨fun j hj=>by simp at hj;omega,?_⟩
   simpa using hp off x (by simpa using h)
theorem sT {t:TypeId} {k:Nat} (h:sz Q t=some k): ∃d,Q.underlying t=some d:=by
 obtain⟨_,d,_,hd,_⟩:=fU h
 exact⟨d,hd⟩
theorem qW {t:TypeId} {k:Nat} (hk:sz Q t=some k) (b o:Nat) (f:Nat->Value) (hf: ∀j,j<(if dp Q t then k else 1)->w.cell? ⟨b,o+j,none⟩=some (f j)):
  (Instr.loadAt t (.pointer (some ⟨b,o,none⟩))).run Q w= .ok (if dp Q t then .agg ((List.range k).map f).toArray else f 0) w:=by
 obtain⟨d,hd⟩:=sT hk
 simp only[Instr.loadAt,Instr.sureAddr,Sem.run_bind,Sem.run_pure,Result.andThen_ok]
 exact r0 hk hd b o f hf
theorem Dt (h:aB Q T F G w a s) {t:TypeId} {v:Value} {p q:P} (hv:aD F w G s.rg v p) (hq:qi Q s t p=some q): ∃u,(Instr.loadAt t v).run Q w= .ok u w/\aD F w G s.rg u q:=by
 unfold qi at hq
 cases hv with
 |ref n aU off v hr h1=>
  simp only at hq
  split at hq
  ·rename_i ty ps ho
   obtain⟨e,he,dI,bR⟩:=S.bF ho
   obtain⟨b,hG,rfl⟩:=hr.at he dI (by rw[bR];rfl)
   have hO:=h.rg n e he
   rw[bR] at hO
   obtain⟨b',cs,j8,hh,cJ,gm,r3⟩:=hO
   rw[hG] at j8
   simp at j8
   subst j8
   obtain⟨k,hk,bk,Gb⟩:=Dr (R:=s.rg) hq (fun i=>cs.getD i undef) (fun i hi=>gm _ (by simp[Array.getD,cJ,hi])) r3
   refine⟨_,qW hk b off (fun j=>cs.getD (off+j) undef) (fun j hj=> ?_),Gb⟩
   have:=bk j hj
   rw[cell_of_row w b (off+j) cs ty (0,0) hh]
   simp[Array.getD,cJ,this]
  ·cases hq
 |dn n aU i k off v h1 hr=>
  simp only at hq
  split at hq
  ·rename_i ty fz es ho
   obtain⟨e,he,dI,bR⟩:=S.bF ho
   obtain⟨b,N,cap,hG,rfl⟩:=hr.at he dI (by rw[bR];rfl)
   have hO:=h.rg n e he
   rw[bR] at hO
   split at hq
   ·rename_i k' x lK hx
    split at hq
    ·rename_i jh
     have jh:k=k':=by simpa using jh
     subst jh
     split at hq
     ·rename_i y hy
      simp at hq
      subst hq
      rcases hO with⟨j8,_⟩| ⟨b',im,cs,k2,j8,hh,qX,fJ,hle,A9,cJ,_,hE⟩
      ·rw[hG] at j8;cases j8
      ·rw[hG] at j8
       simp at j8
       obtain⟨rfl,_,_⟩:=j8
       rw[lK] at qX
       cases qX
       obtain⟨hl,bY,hcs⟩:=hE i x hx
       obtain⟨k3,WT,bk,Gb⟩:=Ds hy (fun j=>cs.getD (i*k+j) undef) bY (fun j c hc=>hcs j c hc)
       have hi:i<es.length:=(List.getElem?_eq_some_iff.1 hx).1
       refine⟨_,qW WT b (i*k+off) (fun j=>cs.getD (i*k+(off+j)) undef) (fun j hj=> ?_),.d Gb⟩
       have h2:=bk j hj
       rw[hl] at h2
       have h3:i*k+(off+j)<cs.size:=by
        rw[cJ]
        calc i*k+(off+j)<i*k+k:=by omega
         _=(i+1)*k:=by rw[Nat.add_mul,Nat.one_mul]
         _<=im*k:=Nat.mul_le_mul_right _ (by omega)
       rw[cell_of_row w b _ cs ty (0,0) hh,Nat.add_assoc]
       simp[Array.getD,h3]
     ·cases hq
    ·cases hq
   ·cases hq
  ·cases hq
 |eS x off b o hb bY f hw hr=>
  simp only at hq
  split at hq
  ·rename_i y hy
   simp at hq
   subst hq
   obtain⟨k3,WT,bk,Gb⟩:=Ds hy f bY hr
   refine⟨_,qW WT b (o+off) (fun j=>f (off+j)) (fun j hj=> ?_),.d Gb⟩
   rw[Nat.add_assoc]
   exact hw _ (bk j hj)
  ·cases hq
 |_=>cases hq
theorem yG {v:Value} {p q:P} (hv:aD F w G s.rg v p) (hq:jL s p=some q):q=p/\((∃b,v= .pointer (some b))\/ ∃f c1 c2,v= .func (.func f) c1 c2):=by
 unfold jL at hq
 cases hv with
 |ref n aU off v hr h1=>
  simp only at hq
  split at hq
  ·rename_i hl
   obtain⟨e,he,dI,hl⟩:=S.dj hl
   obtain⟨b,_,hv⟩:=hr.at he dI hl
   exact⟨by simpa using hq.symm,.inl ⟨_,hv⟩⟩
  ·cases hq
 |dn n aU i k off v h1 hr=>
  simp only at hq
  split at hq
  ·rename_i hl
   obtain⟨e,he,dI,hl⟩:=S.dj hl
   obtain⟨b,N,cap,_,hv⟩:=hr.at he dI hl
   exact⟨by simpa using hq.symm,.inl ⟨_,hv⟩⟩
  ·cases hq
 |eS x off b o hb bY f hw hr=>exact⟨by simpa using hq.symm,.inl ⟨_,rfl⟩⟩
 |fn f vs cy hl hc=>exact⟨by simpa using hq.symm,.inr ⟨_,_,_,rfl⟩⟩
 |_=>cases hq
theorem lu {t:TypeId} {f o:Nat} (h:vR Q t f=some o) (b off:Nat) (w:World):(Instr.fieldAt t (.pointer (some ⟨b,off,none⟩)) f).run Q w= .ok (.pointer (some ⟨b,off+o,none⟩)) w:=by
 unfold vR at h
 split at h
 ·rename_i fs hfs
  split at h
  ·rename_i fl yH
   split at h
   ·rename_i k hk
    simp at h
    subst h
    simp[Instr.fieldAt,run_underlying hfs,yH,Instr.sureAddr,fieldPlace,run_sizeOf hk,addr_add]
   ·cases h
  ·cases h
 ·cases h
theorem yI {t:TypeId} {f:Nat} {v:Value} {p q:P} (hv:aD F w G s.rg v p) (hq:ij Q s t f p=some q): ∃u,(Instr.fieldAt t v f).run Q w= .ok u w/\aD F w G s.rg u q:=by
 unfold ij at hq
 split at hq
 ·cases hq
 ·rename_i o ho
  cases hv with
  |ref n aU off v hr h1=>
   simp only at hq
   split at hq
   ·rename_i hl
    simp at hq
    subst hq
    obtain⟨e,he,dI,hl⟩:=S.dj hl
    obtain⟨b,hG,rfl⟩:=hr.at he dI hl
    exact⟨_,lu ho b off w,.ref n aU (off+o) _ ⟨e,he,by omega,fun _ _=>⟨b,hG,rfl⟩⟩ rfl⟩
   ·cases hq
  |dn n aU i k off v h1 hr=>
   simp only at hq
   split at hq
   ·rename_i hl
    simp at hq
    subst hq
    obtain⟨e,he,dI,hl⟩:=S.dj hl
    obtain⟨b,N,cap,hG,rfl⟩:=hr.at he dI hl
    exact⟨_,lu ho b (i*k+off) w,.dn n aU i k (off+o) _ rfl ⟨e,he,by omega,fun _ _=>⟨b,N,cap,hG,by rw[Nat.add_assoc]⟩⟩⟩
   ·cases hq
  |eS x off b o' hb bY f' hw hr=>
   simp at hq
   subst hq
   refine⟨_,lu ho b (o'+off) w,?_⟩
   rw[Nat.add_assoc]
   exact .eS x (off+o) b o' hb bY f' hw hr
  |_=>cases hq
theorem dv {t e:TypeId} (h:cE Q t=some e):Q.underlying t=some (.slice e):=by
 unfold cE at h
 split at h
 ·rename_i e' he;simp at h;rw[he,h]
 ·cases h
theorem S6 {t e:TypeId} (h:Q.underlying t=some (.slice e)):Q.elem t=e:=by simp[Program.elem,h]
theorem Gc {t e:TypeId} {n:Nat} (h:H9 Q t=some (n,e)):Q.underlying t=some (.array n e):=by
 unfold H9 at h
 split at h
 ·rename_i n' e' he;simp at h;rw[he,h.1,h.2]
 ·cases h
theorem ji {t e:TypeId} {n k:Nat} (ht:Q.underlying t=some (.array n e)) (hk:sz Q e=some k) (b off:Nat) (kk:IntKind) {j:Int} (hj:0<=j/\j<(n:Int)):
  (Instr.indexAt t (.pointer (some ⟨b,off,none⟩)) (.int kk j)).run Q w= .ok (.pointer (some ⟨b,off+j.toNat*k,none⟩)) w:=by
 simp[Instr.indexAt,asIntOf,run_underlying ht,Instr.sureAddr,hj,run_sizeOf hk,addr_add]
theorem Du {t e:TypeId} {n:Nat} {v u:Value} {p i q:P} (ht:Q.underlying t=some (.array n e)) (hv:aD F w G s.rg v p) (hu:aD F w G s.rg u i) (hq:od Q s n e p i=some q):
  ∃x,(Instr.indexAt t v u).run Q w= .ok x w/\aD F w G s.rg x q:=by
 unfold od at hq
 split at hq
 ·rename_i kk j k hk
  cases hu with
  |d hu=>
   cases hu
   split at hq
   ·rename_i hj
    cases hv with
    |ref n aU off v hr h1=>
     simp only at hq
     split at hq
     ·rename_i hl
      simp at hq
      subst hq
      obtain⟨en,he,dI,hl⟩:=S.dj hl
      obtain⟨b,hG,rfl⟩:=hr.at he dI hl
      exact⟨_,ji ht hk b off kk hj,.ref n aU _ _ ⟨en,he,by omega,fun _ _=>⟨b,hG,rfl⟩⟩ rfl⟩
     ·cases hq
    |dn n aU i k' off v h1 hr=>
     simp only at hq
     split at hq
     ·rename_i hl
      simp at hq
      subst hq
      obtain⟨en,he,dI,hl⟩:=S.dj hl
      obtain⟨b,N,cap,hG,rfl⟩:=hr.at he dI hl
      exact⟨_,ji ht hk b _ kk hj,.dn n aU i k' _ _ rfl ⟨en,he,by omega,fun _ _=>⟨b,N,cap,hG,by rw[Nat.add_assoc]⟩⟩⟩
     ·cases hq
    |eS x off b o hb bY f hw hr=>
     simp at hq
     subst hq
     refine⟨_,ji ht hk b _ kk hj,?_⟩
     rw[Nat.add_assoc]
     exact .eS x _ b o hb bY f hw hr
    |_=>cases hq
   ·cases hq
 ·cases hq
theorem yJ (h:aB Q T F G w a s) {t:TypeId} {v u:Value} {p i q:P} (hv:aD F w G s.rg v p) (hu:aD F w G s.rg u i) (hq:eW Q s t p i=some q):
  ∃x,(Instr.indexAt t v u).run Q w= .ok x w/\aD F w G s.rg x q:=by
 unfold eW at hq
 split at hq
 ·rename_i n e het
  exact Du (Gc het) hv hu hq
 split at hq
 ·rename_i _ e kk j het
  have nF:=dv het
  have S7:=S6 nF
  cases hu with
  |d hu=>
   cases hu
   split at hq
   ·rename_i k hk
    cases hv with
    |sl n aU len v h1 hr=>
     simp only at hq
     split at hq
     ·rename_i ty fz es ho
      split at hq
      ·rename_i Ba
       have Ba:ty=e:=by simpa using Ba
       subst Ba
       split at hq
       ·rename_i hj
        simp at hq
        subst hq
        obtain⟨en,he,dI,bR⟩:=S.bF ho
        obtain⟨a0,N,cap,hG,rfl,hle⟩:=hr.at he dI (by rw[bR];rfl)
        have hO:=h.rg n en he
        rw[bR] at hO
        rcases hO with⟨j8,_⟩| ⟨b',im,cs,k2,j8,hh,qX,fJ,YN,A9,cJ,_,hE⟩
        ·rw[hG] at j8
         simp at j8
         omega
        ·rw[hG] at j8
         simp at j8
         obtain⟨rfl,rfl,rfl⟩:=j8
         refine⟨_,?_,.dn n aU j.toNat (k+1) 0 (.pointer (some ⟨b',j.toNat*(k+1)+0,none⟩)) rfl ⟨en,he,by omega,fun _ _=>⟨b',_,_,hG,rfl⟩⟩⟩
         rw[run_indexAt_slice w t ⟨b',0,none⟩ len cap _ j (by rw[S7];exact nF),if_pos hj,S7,run_sizeOf hk]
         simp[addr_add]
       ·cases hq
      ·cases hq
     ·cases hq
    |kT n aU k0 S8 len v h1 hr=>
     simp only at hq
     split at hq
     ·rename_i ty fz es ho
      split at hq
      ·rename_i Ba
       rw[Bool.and_eq_true] at Ba
       have qfM:ty=e:=Nat.eq_of_beq_eq_true Ba.1
       have qfN:k0=k+1:=Nat.eq_of_beq_eq_true Ba.2
       subst qfM qfN
       split at hq
       ·rename_i hj
        simp at hq
        subst hq
        obtain⟨en,he,dI,bR⟩:=S.bF ho
        obtain⟨a0,N,cap,hG,hle,a1,pV,rfl,Nf,hz⟩:=hr.at he dI (by rw[bR];rfl)
        obtain⟨b',YO,Ng⟩: ∃b,a0=some ⟨b,0,none⟩/\a1=some ⟨b,S8*(k+1),none⟩:=by
         rcases hz with hz |hz
         ·omega
         ·exact hz
        subst YO Ng
        refine⟨_,?_,.dn n aU (S8+j.toNat) (k+1) 0 (.pointer (some ⟨b',(S8+j.toNat)*(k+1)+0,none⟩)) rfl ⟨en,he,by omega,fun _ _=>⟨b',_,_,hG,rfl⟩⟩⟩
        rw[run_indexAt_slice w t ⟨b',S8*(k+1),none⟩ len pV _ j (by rw[S7];exact nF),if_pos hj,S7,run_sizeOf hk]
        simp[addr_add,Nat.add_mul]
       ·cases hq
      ·cases hq
     ·cases hq
    |d hv=>
     cases hv with
     |Mm a0 k' cap=>
      simp at hq
     |Na b off k' cap es f A9 hb jh bY hw hr=>
      simp only at hq
      split at hq
      ·rename_i YP
       have YP:k'=k+1:=by simpa using YP
       subst YP
       split at hq
       ·rename_i hj
        split at hq
        ·rename_i x hx
         simp at hq
         subst hq
         have hi:j.toNat<es.length:=(List.getElem?_eq_some_iff.1 hx).1
         have WU:x∈es:=List.mem_of_getElem? hx
         refine⟨.pointer (some ⟨b,off+j.toNat*(k+1)+0,none⟩),?_,.eS x 0 b (off+j.toNat*(k+1)) hb (bY x WU) (fun m=>f (j.toNat*(k+1)+m)) (fun m hm=> ?_) (fun m c hc=>hr _ _ _ _ hx hc)⟩
         ·rw[run_indexAt_slice w t ⟨b,off,none⟩ es.length cap _ j (by rw[S7];exact nF),if_pos (by omega),S7,run_sizeOf hk]
          simp[addr_add]
         ·rw[Nat.add_assoc]
          refine hw _ ?_
          rw[jh x WU] at hm
          calc j.toNat*(k+1)+m<j.toNat*(k+1)+(k+1):=by omega
           _=(j.toNat+1)*(k+1):=by rw[Nat.add_mul,Nat.one_mul]
           _<=es.length*(k+1):=Nat.mul_le_mul_right _ (by omega)
        ·cases hq
       ·cases hq
      ·cases hq
     |_=>cases hq
    |_=>cases hq
   ·cases hq
 ·cases hq
end
end Pi
