/- The text PiPure. -/
import Derived.Test.YtngoddkencoalaaGreatDoorPiRep
namespace Pi
open Go
theorem dB {α:Type} {Q:Program} {m:Sem α} {v:α} (h:aw Q m=some v) (w:World):m.run Q w= .ok v w:=by
 induction m with
 |pure a=>simp[aw] at h;subst h;rfl
 |program k ih=>simp only[aw] at h;simp only[Sem.run];exact ih _ h
 |mark m k ih=>simp only[aw] at h;simp only[Sem.run];exact ih h
 |_=>simp[aw] at h
theorem LP {Q:Program} {m:Sem Value} {p:P} (h:dT Q m=some p) (F:Nat->Prop) (w:World) (G:Nat->Value) (R:List (Nat×En)): ∃v,m.run Q w= .ok v w/\aF F w G R v p:=by
 unfold dT at h
 split at h
 ·rename_i v hv
  split at h
  ·rename_i x hx
   simp at h
   subst h
   exact⟨v,dB hv w,.d (a7.tF F w hx)⟩
  ·cases h
 ·cases h
theorem aF.cy {F:Nat->Prop} {w:World} {G:Nat->Value} {R:List (Nat×En)} {v u:Value} {p:P} (h:aF F w G R v p) (hu:p.cy=some u):v=u:=by
 cases h<;>simp[P.cy] at hu
 case d x h=>exact h.cy hu
theorem S.bH {s:S} {n v:Nat} {o:Obj} (h:s.obj n v=some o): ∃e,lk s.rg n=some e/\e.aX=v/\e.obj=o:=by
 unfold S.obj at h
 split at h
 ·rename_i e he
  split at h
  ·rename_i hv
   simp at h
   exact⟨e,he,by simpa using hv,h⟩
  ·cases h
 ·cases h
theorem S.dw {s:S} {n v:Nat} (h:s.live n v=true): ∃e,lk s.rg n=some e/\e.aX=v/\e.obj.live=true:=by
 unfold S.live at h
 split at h
 ·cases h
 ·rename_i o h1 h2
  obtain⟨e,he,hv,ho⟩:=S.bH h2
  refine⟨e,he,hv,?_⟩
  cases hh:e.obj<;>simp[Obj.live]
  exact h1 (by rw[<-hh,ho])
 ·cases h
theorem ez.at {R:List (Nat×En)} {n aX:Nat} {C:Prop} (h:ez R n aX C) {e:En} (he:lk R n=some e) (hv:e.aX=aX) (hl:e.obj.live=true):C:=by
 obtain⟨e',cI,_,hc⟩:=h
 rw[he] at cI
 cases cI
 exact hc hv.symm hl
def lO (a:Act):Option (Nat×Bool)->Prop
 |none=>True
 |some (t,b)=>a.tmps[t]?=some (.bool b)
section
variable {Q:Program} {T:Tg} {F:Nat->Prop} {G:Nat->Value} {w:World} {a:Act} {s:S}
theorem wV (h:aC Q T F G w a s) (x:Operand):ct F w G s.rg a.tmps (a.eval x) (s.ev x):=by
 cases x with
 |tmp t=>
  simp only[S.ev,Act.eval]
  cases hp:lk s.tm t with
  |none=>exact ct.of (.bad _)
  |some p=>exact h.tm t p hp
 |const v=>
  simp only[S.ev,Act.eval]
  split
  ·rename_i x hx;exact ct.of (.d (a7.tF F w hx))
  ·exact ct.of (.bad _)
 |func f=>
  simp only[S.ev,Act.eval]
  exact ct.of (.fn f [] [] rfl (fun i v c hv=>by simp at hv))
 |global g=>exact ct.of (.bad _)
theorem O2 {g:Option (Nat×Bool)} (_:lO a g) {v:Value} {p:P} (h:ct F w G s.rg a.tmps v p):aF F w G s.rg v (p.under g):=by
 cases p with
 |when t b q=>exact .bad _
 |_=>exact h
theorem aY (h:aC Q T F G w a s) {g:Option (Nat×Bool)} (hg:lO a g) (x:Operand):aF F w G s.rg (a.eval x) (s.eg g x):=O2 hg (wV h x)
theorem VL {t:Nat} {v:Value} (h:a.tmps.getD t undef=v) (hv:v≠undef):t<a.tmps.size:=by
 by_cases ht:t<a.tmps.size
 ·exact ht
 ·simp[Array.getD,ht] at h;exact absurd h.symm hv
theorem AB: ∀(ps:List P) (xs:List D),zz ps=some xs->ps=xs.map P.d
 | [],xs,h=>by simp[zz] at h;simp[h]
 |p::r,xs,h=>by
  cases p<;>simp[zz] at h
  rename_i x
  cases hr:zz r with
  |none=>simp[hr] at h
  |some ys=>simp[hr] at h;subst h;simp[AB r ys hr]
theorem El {R:List (Nat×En)} {vs:List Value} {ps:List P} (hl:vs.length=ps.length) (ij: ∀v∈vs,v.oneCell'=true)
  (hc: ∀(i:Nat) (v:Value) (c:P),vs[i]?=some v->ps[i]?=some c->aF F w G R v c):aF F w G R (.agg ⟨vs⟩) (JY ps):=by
 unfold JY
 split
 ·rename_i xs VK
  have e:=AB ps xs VK
  subst e
  have hd: ∀(i:Nat) (v:Value) (c:D),vs[i]?=some v->xs[i]?=some c->a7 F w v c:=fun i v c hv jG=>by
   have:=hc i v (.d c) hv (by simp[jG])
   cases this with |d h=>exact h
  refine .d (.agg vs xs (by simpa using hl) (fun c jG=> ?_) hd)
  obtain⟨i,hi⟩:=zaP jG
  have bG:i<vs.length:=by have:=(zad.1 hi).1;simp at hl;omega
  exact(hd i _ c (zae bG) hi).bC (ij _ (zas bG))
 ·exact .agg vs ps hl ij hc
theorem gl {t:TypeId} {k:Nat} (h:sz Q t=some k): ∃i d,Q.info? t=some i/\Q.underlying t=some d/\i.size=k:=by
 unfold sz at h
 split at h
 ·rename_i i d h1 h2
  exact⟨i,d,h1,h2,by simpa using h⟩
 ·cases h
theorem run_sizeOf {t:TypeId} {k:Nat} (h:sz Q t=some k) (w:World):(Go.sizeOf t).run Q w= .ok k w:=by
 obtain⟨i,d,hi,_,rfl⟩:=gl h
 simp[Go.sizeOf,typeInfo,hi]
theorem p7 {t:TypeId} {d:TypeDesc} (h:Q.underlying t=some d) (w:World):(Go.isAgg t).run Q w= .ok (dy Q t) w:=by
 unfold Go.isAgg dy
 rw[Sem.run_bind,run_underlying h w,h]
 cases d<;>simp
theorem addr_add (b o n:Nat):(⟨b,o,none⟩:Addr).add n=⟨b,o+n,none⟩:=by
 unfold Addr.add
 split
 ·subst_vars;rfl
 ·rfl
theorem O3 {t:TypeId} {k:Nat} (hk:sz Q t=some k) (vs:List Value) (off:Nat) (hb: ∀j,j<(if dy Q t then k else 1)->off+j<vs.length) (w:World):
  (Go.part t ⟨vs⟩ off).run Q w= .ok (if dy Q t then .agg ((List.range k).map fun j=>vs.getD (off+j) undef).toArray else vs.getD off undef) w:=by
 obtain⟨_,d,_,hd,_⟩:=gl hk
 unfold Go.part
 rw[Sem.run_bind,p7 hd w]
 cases wa:dy Q t with
 |true=>
  simp only[wa,zba] at hb
  simp only[Result.andThen_ok,zba,Sem.run_bind,run_sizeOf hk,Sem.run_pure]
  congr 3
  rw[<-zbq]
  apply zco
  intro i
  by_cases hi:i<k
  ·have:=hb i hi
   simp[hi,zbw,this]
  ·simp[hi,zbe]
   try omega
 |false=>
  simp only[wa,zaz,zbd] at hb
  have:=hb 0 (by omega)
  simp only[zbQ] at this
  simp[this]
theorem sq {t:TypeId} {k:Nat} {d:TypeDesc} (hk:sz Q t=some k) (hd:Q.underlying t=some d) (b o:Nat) (f:Nat->Value) (hf: ∀j,j<(if dy Q t then k else 1)->w.cell? ⟨b,o+j,none⟩=some (f j)):
  (loadVar t ⟨b,o,none⟩).run Q w= .ok (if dy Q t then .agg ((List.range k).map f).toArray else f 0) w:=by
 unfold loadVar
 rw[Sem.run_bind,p7 hd w]
 cases wa:dy Q t with
 |true=>
  simp only[wa,zba] at hf
  have hl:=run_loadCells (P:=Q) w ⟨b,o,none⟩ k f (fun j hj=>by rw[addr_add];exact hf j hj)
  simp[Sem.run_bind,run_sizeOf hk,hl]
 |false=>
  simp only[wa] at hf
  have:=hf 0 (by simp)
  simp only[zbQ] at this
  simp[load,Sem.run,this]
theorem Em {R:List (Nat×En)} {t:TypeId} {ps:List P} {off:Nat} {p:P} (h:As Q t ps off=some p) (f:Nat->Value) (ij: ∀i,i<ps.length->(f i).oneCell'=true)
  (hp: ∀i c,ps[i]?=some c->aF F w G R (f i) c):
  ∃k,sz Q t=some k/\(∀j,j<(if dy Q t then k else 1)->off+j<ps.length)/\aF F w G R (if dy Q t then .agg ((List.range k).map fun j=>f (off+j)).toArray else f off) p:=by
 unfold As at h
 cases hk:sz Q t with
 |none=>simp[hk] at h
 |some k=>
  refine⟨k,rfl,?_⟩
  simp only[hk] at h
  cases wa:dy Q t with
  |true=>
   simp only[wa,zba] at h
   split at h
   ·rename_i hle
    have hle:off+k<=ps.length:=by simpa using hle
    simp at h
    subst h
    refine⟨fun j hj=>by simp at hj;omega,?_⟩
    simp only[zba]
    refine El (by simp;omega) (fun v hv=>by simp at hv;obtain⟨j,hj,rfl⟩:=hv;exact ij _ (by omega)) (fun i v c hv hc=> ?_)
    rw[zaJ] at hv
    rw[zbe] at hc
    split at hc
    ·rename_i hi
     rw[zcc hi] at hv
     simp at hv
     subst hv
     rw[zbw] at hc
     exact hp _ c hc
    ·cases hc
   ·cases h
  |false=>
   simp only[wa] at h
   have bG:off<ps.length:=(zad.1 (by simpa using h)).1
   refine⟨fun j hj=>by simp at hj;omega,?_⟩
   simpa using hp off p (by simpa using h)
theorem Eo {t:TypeId} {cs:List D} {off:Nat} {x:D} (h:jj Q t cs off=some x) (f:Nat->Value) (ca: ∀c∈cs,c.bC=true)
  (hp: ∀i c,cs[i]?=some c->a7 F w (f i) c):
  ∃k,sz Q t=some k/\(∀j,j<(if dy Q t then k else 1)->off+j<cs.length)/\a7 F w (if dy Q t then .agg ((List.range k).map fun j=>f (off+j)).toArray else f off) x:=by
 unfold jj at h
 cases hk:sz Q t with
 |none=>simp[hk] at h
 |some k=>
  refine⟨k,rfl,?_⟩
  simp only[hk] at h
  cases wa:dy Q t with
  |true=>
   simp only[wa,zba] at h
   split at h
   ·rename_i hle
    have hle:off+k<=cs.length:=by simpa using hle
    simp at h
    subst h
    refine⟨fun j hj=>by simp at hj;omega,?_⟩
    simp only[zba]
    refine .agg _ _ (by simp;omega) (fun c hc=>ca c (zbU (zbp hc))) (fun i v c hv hc=> ?_)
    rw[zaJ] at hv
    rw[zbe] at hc
    split at hc
    ·rename_i hi
     rw[zcc hi] at hv
     simp at hv
     subst hv
     rw[zbw] at hc
     exact hp _ c hc
    ·cases hc
   ·cases h
  |false=>
   simp only[wa] at h
   have bG:off<cs.length:=(zad.1 (by simpa using h)).1
   refine⟨fun j hj=>by simp at hj;omega,?_⟩
   simpa using hp off x (by simpa using h)
theorem tJ {t:TypeId} {k:Nat} (h:sz Q t=some k): ∃d,Q.underlying t=some d:=by
 obtain⟨_,d,_,hd,_⟩:=gl h
 exact⟨d,hd⟩
theorem rh {t:TypeId} {k:Nat} (hk:sz Q t=some k) (b o:Nat) (f:Nat->Value) (hf: ∀j,j<(if dy Q t then k else 1)->w.cell? ⟨b,o+j,none⟩=some (f j)):
  (Instr.loadAt t (.pointer (some ⟨b,o,none⟩))).run Q w= .ok (if dy Q t then .agg ((List.range k).map f).toArray else f 0) w:=by
 obtain⟨d,hd⟩:=tJ hk
 simp only[Instr.loadAt,Instr.sureAddr,Sem.run_bind,Sem.run_pure,Result.andThen_ok]
 exact sq hk hd b o f hf
theorem Ep (h:aC Q T F G w a s) {t:TypeId} {v:Value} {p q:P} (hv:aF F w G s.rg v p) (hq:qG Q s t p=some q): ∃u,(Instr.loadAt t v).run Q w= .ok u w/\aF F w G s.rg u q:=by
 unfold qG at hq
 cases hv with
 |ref n aX off v hr h1=>
  simp only at hq
  split at hq
  ·rename_i ty ps ho
   obtain⟨e,he,dP,bV⟩:=S.bH ho
   obtain⟨b,hG,rfl⟩:=hr.at he dP (by rw[bV];rfl)
   have hO:=h.rg n e he
   rw[bV] at hO
   obtain⟨b',cs,ou,hh,dq,ij,qK⟩:=hO
   rw[hG] at ou
   simp at ou
   subst ou
   obtain⟨k,hk,bG,HI⟩:=Em (R:=s.rg) hq (fun i=>cs.getD i undef) (fun i hi=>ij _ (by simp[Array.getD,dq,hi])) qK
   refine⟨_,rh hk b off (fun j=>cs.getD (off+j) undef) (fun j hj=> ?_),HI⟩
   have:=bG j hj
   rw[cell_of_row w b (off+j) cs ty (0,0) hh]
   simp[Array.getD,dq,this]
  ·cases hq
 |dx n aX i k off v h1 hr=>
  simp only at hq
  split at hq
  ·rename_i ty fz es ho
   obtain⟨e,he,dP,bV⟩:=S.bH ho
   obtain⟨b,N,cap,hG,rfl⟩:=hr.at he dP (by rw[bV];rfl)
   have hO:=h.rg n e he
   rw[bV] at hO
   split at hq
   ·rename_i k' x mr hx
    split at hq
    ·rename_i jH
     have jH:k=k':=by simpa using jH
     subst jH
     split at hq
     ·rename_i y hy
      simp at hq
      subst hq
      rcases hO with⟨ou,_⟩| ⟨b',iJ,cs,k2,ou,hh,rY,gm,hle,B9,dq,_,hE⟩
      ·rw[hG] at ou;cases ou
      ·rw[hG] at ou
       simp at ou
       obtain⟨rfl,_,_⟩:=ou
       rw[mr] at rY
       cases rY
       obtain⟨hl,ca,hcs⟩:=hE i x hx
       obtain⟨k3,hk3,bG,HI⟩:=Eo hy (fun j=>cs.getD (i*k+j) undef) ca (fun j c hc=>hcs j c hc)
       have hi:i<es.length:=(zad.1 hx).1
       refine⟨_,rh hk3 b (i*k+off) (fun j=>cs.getD (i*k+(off+j)) undef) (fun j hj=> ?_),.d HI⟩
       have h2:=bG j hj
       rw[hl] at h2
       have h3:i*k+(off+j)<cs.size:=by
        rw[dq]
        calc i*k+(off+j)<i*k+k:=by omega
         _=(i+1)*k:=by rw[zaT,zbr]
         _<=iJ*k:=zaq _ (by omega)
       rw[cell_of_row w b _ cs ty (0,0) hh,zbA]
       simp[Array.getD,h3]
     ·cases hq
    ·cases hq
   ·cases hq
  ·cases hq
 |eZ x off b o hb ca f hw hr=>
  simp only at hq
  split at hq
  ·rename_i y hy
   simp at hq
   subst hq
   obtain⟨k3,hk3,bG,HI⟩:=Eo hy f ca hr
   refine⟨_,rh hk3 b (o+off) (fun j=>f (off+j)) (fun j hj=> ?_),.d HI⟩
   rw[zbA]
   exact hw _ (bG j hj)
  ·cases hq
 |_=>cases hq
theorem zC {v:Value} {p q:P} (hv:aF F w G s.rg v p) (hq:kr s p=some q):q=p/\((∃b,v= .pointer (some b))\/ ∃f c1 c2,v= .func (.func f) c1 c2):=by
 unfold kr at hq
 cases hv with
 |ref n aX off v hr h1=>
  simp only at hq
  split at hq
  ·rename_i hl
   obtain⟨e,he,dP,hl⟩:=S.dw hl
   obtain⟨b,_,hv⟩:=hr.at he dP hl
   exact⟨by simpa using hq.symm,.inl ⟨_,hv⟩⟩
  ·cases hq
 |dx n aX i k off v h1 hr=>
  simp only at hq
  split at hq
  ·rename_i hl
   obtain⟨e,he,dP,hl⟩:=S.dw hl
   obtain⟨b,N,cap,_,hv⟩:=hr.at he dP hl
   exact⟨by simpa using hq.symm,.inl ⟨_,hv⟩⟩
  ·cases hq
 |eZ x off b o hb ca f hw hr=>exact⟨by simpa using hq.symm,.inl ⟨_,rfl⟩⟩
 |fn f vs cG hl hc=>exact⟨by simpa using hq.symm,.inr ⟨_,_,_,rfl⟩⟩
 |_=>cases hq
theorem ma {t:TypeId} {f o:Nat} (h:wQ Q t f=some o) (b off:Nat) (w:World):(Instr.fieldAt t (.pointer (some ⟨b,off,none⟩)) f).run Q w= .ok (.pointer (some ⟨b,off+o,none⟩)) w:=by
 unfold wQ at h
 split at h
 ·rename_i fs hfs
  split at h
  ·rename_i fl vu
   split at h
   ·rename_i k hk
    simp at h
    subst h
    simp[Instr.fieldAt,run_underlying hfs,vu,Instr.sureAddr,fieldPlace,run_sizeOf hk,addr_add]
   ·cases h
  ·cases h
 ·cases h
theorem zD {t:TypeId} {f:Nat} {v:Value} {p q:P} (hv:aF F w G s.rg v p) (hq:iH Q s t f p=some q): ∃u,(Instr.fieldAt t v f).run Q w= .ok u w/\aF F w G s.rg u q:=by
 unfold iH at hq
 split at hq
 ·cases hq
 ·rename_i o ho
  cases hv with
  |ref n aX off v hr h1=>
   simp only at hq
   split at hq
   ·rename_i hl
    simp at hq
    subst hq
    obtain⟨e,he,dP,hl⟩:=S.dw hl
    obtain⟨b,hG,rfl⟩:=hr.at he dP hl
    exact⟨_,ma ho b off w,.ref n aX (off+o) _ ⟨e,he,by omega,fun _ _=>⟨b,hG,rfl⟩⟩ rfl⟩
   ·cases hq
  |dx n aX i k off v h1 hr=>
   simp only at hq
   split at hq
   ·rename_i hl
    simp at hq
    subst hq
    obtain⟨e,he,dP,hl⟩:=S.dw hl
    obtain⟨b,N,cap,hG,rfl⟩:=hr.at he dP hl
    exact⟨_,ma ho b (i*k+off) w,.dx n aX i k (off+o) _ rfl ⟨e,he,by omega,fun _ _=>⟨b,N,cap,hG,by rw[zbA]⟩⟩⟩
   ·cases hq
  |eZ x off b o' hb ca f' hw hr=>
   simp at hq
   subst hq
   refine⟨_,ma ho b (o'+off) w,?_⟩
   rw[zbA]
   exact .eZ x (off+o) b o' hb ca f' hw hr
  |_=>cases hq
theorem dC {t e:TypeId} (h:cH Q t=some e):Q.underlying t=some (.slice e):=by
 unfold cH at h
 split at h
 ·rename_i e' he;simp at h;rw[he,h]
 ·cases h
theorem VM {t e:TypeId} (h:Q.underlying t=some (.slice e)):Q.elem t=e:=by simp[Program.elem,h]
theorem HJ {t e:TypeId} {n:Nat} (h:JZ Q t=some (n,e)):Q.underlying t=some (.array n e):=by
 unfold JZ at h
 split at h
 ·rename_i n' e' he;simp at h;rw[he,h.1,h.2]
 ·cases h
theorem jI {t e:TypeId} {n k:Nat} (ht:Q.underlying t=some (.array n e)) (hk:sz Q e=some k) (b off:Nat) (kk:IntKind) {j:Int} (hj:0<=j/\j<(n:Int)):
  (Instr.indexAt t (.pointer (some ⟨b,off,none⟩)) (.int kk j)).run Q w= .ok (.pointer (some ⟨b,off+j.toNat*k,none⟩)) w:=by
 simp[Instr.indexAt,asIntOf,run_underlying ht,Instr.sureAddr,hj,run_sizeOf hk,addr_add]
theorem Er {t e:TypeId} {n:Nat} {v u:Value} {p i q:P} (ht:Q.underlying t=some (.array n e)) (hv:aF F w G s.rg v p) (hu:aF F w G s.rg u i) (hq:oV Q s n e p i=some q):
  ∃x,(Instr.indexAt t v u).run Q w= .ok x w/\aF F w G s.rg x q:=by
 unfold oV at hq
 split at hq
 ·rename_i kk j k hk
  cases hu with
  |d hu=>
   cases hu
   split at hq
   ·rename_i hj
    cases hv with
    |ref n aX off v hr h1=>
     simp only at hq
     split at hq
     ·rename_i hl
      simp at hq
      subst hq
      obtain⟨en,he,dP,hl⟩:=S.dw hl
      obtain⟨b,hG,rfl⟩:=hr.at he dP hl
      exact⟨_,jI ht hk b off kk hj,.ref n aX _ _ ⟨en,he,by omega,fun _ _=>⟨b,hG,rfl⟩⟩ rfl⟩
     ·cases hq
    |dx n aX i k' off v h1 hr=>
     simp only at hq
     split at hq
     ·rename_i hl
      simp at hq
      subst hq
      obtain⟨en,he,dP,hl⟩:=S.dw hl
      obtain⟨b,N,cap,hG,rfl⟩:=hr.at he dP hl
      exact⟨_,jI ht hk b _ kk hj,.dx n aX i k' _ _ rfl ⟨en,he,by omega,fun _ _=>⟨b,N,cap,hG,by rw[zbA]⟩⟩⟩
     ·cases hq
    |eZ x off b o hb ca f hw hr=>
     simp at hq
     subst hq
     refine⟨_,jI ht hk b _ kk hj,?_⟩
     rw[zbA]
     exact .eZ x _ b o hb ca f hw hr
    |_=>cases hq
   ·cases hq
 ·cases hq
theorem zF (h:aC Q T F G w a s) {t:TypeId} {v u:Value} {p i q:P} (hv:aF F w G s.rg v p) (hu:aF F w G s.rg u i) (hq:e9 Q s t p i=some q):
  ∃x,(Instr.indexAt t v u).run Q w= .ok x w/\aF F w G s.rg x q:=by
 unfold e9 at hq
 split at hq
 ·rename_i n e het
  exact Er (HJ het) hv hu hq
 split at hq
 ·rename_i _ e kk j het
  have n5:=dC het
  have N5:=VM n5
  cases hu with
  |d hu=>
   cases hu
   split at hq
   ·rename_i k hk
    cases hv with
    |sl n aX len v h1 hr=>
     simp only at hq
     split at hq
     ·rename_i ty fz es ho
      split at hq
      ·rename_i Ca
       have Ca:ty=e:=by simpa using Ca
       subst Ca
       split at hq
       ·rename_i hj
        simp at hq
        subst hq
        obtain⟨en,he,dP,bV⟩:=S.bH ho
        obtain⟨a0,N,cap,hG,rfl,hle⟩:=hr.at he dP (by rw[bV];rfl)
        have hO:=h.rg n en he
        rw[bV] at hO
        rcases hO with⟨ou,_⟩| ⟨b',iJ,cs,k2,ou,hh,rY,gm,qbu,B9,dq,_,hE⟩
        ·rw[hG] at ou
         simp at ou
         omega
        ·rw[hG] at ou
         simp at ou
         obtain⟨rfl,rfl,rfl⟩:=ou
         refine⟨_,?_,.dx n aX j.toNat (k+1) 0 (.pointer (some ⟨b',j.toNat*(k+1)+0,none⟩)) rfl ⟨en,he,by omega,fun _ _=>⟨b',_,_,hG,rfl⟩⟩⟩
         rw[run_indexAt_slice w t ⟨b',0,none⟩ len cap _ j (by rw[N5];exact n5),zao hj,N5,run_sizeOf hk]
         simp[addr_add]
       ·cases hq
      ·cases hq
     ·cases hq
    |lC n aX k0 VN len v h1 hr=>
     simp only at hq
     split at hq
     ·rename_i ty fz es ho
      split at hq
      ·rename_i Ca
       rw[zab] at Ca
       have qhy:ty=e:=zaf Ca.1
       have qhz:k0=k+1:=zaf Ca.2
       subst qhy qhz
       split at hq
       ·rename_i hj
        simp at hq
        subst hq
        obtain⟨en,he,dP,bV⟩:=S.bH ho
        obtain⟨a0,N,cap,hG,hle,a1,qn,rfl,O4,hz⟩:=hr.at he dP (by rw[bV];rfl)
        obtain⟨b',ha0,O5⟩: ∃b,a0=some ⟨b,0,none⟩/\a1=some ⟨b,VN*(k+1),none⟩:=by
         rcases hz with hz |hz
         ·omega
         ·exact hz
        subst ha0 O5
        refine⟨_,?_,.dx n aX (VN+j.toNat) (k+1) 0 (.pointer (some ⟨b',(VN+j.toNat)*(k+1)+0,none⟩)) rfl ⟨en,he,by omega,fun _ _=>⟨b',_,_,hG,rfl⟩⟩⟩
        rw[run_indexAt_slice w t ⟨b',VN*(k+1),none⟩ len qn _ j (by rw[N5];exact n5),zao hj,N5,run_sizeOf hk]
        simp[addr_add,zaT]
       ·cases hq
      ·cases hq
     ·cases hq
    |d hv=>
     cases hv with
     |N4 a0 k' cap=>
      simp at hq
     |O0 b off k' cap es f B9 hb jH ca hw hr=>
      simp only at hq
      split at hq
      ·rename_i qbv
       have qbv:k'=k+1:=by simpa using qbv
       subst qbv
       split at hq
       ·rename_i hj
        split at hq
        ·rename_i x hx
         simp at hq
         subst hq
         have hi:j.toNat<es.length:=(zad.1 hx).1
         have hxm:x∈es:=zaC hx
         refine⟨.pointer (some ⟨b,off+j.toNat*(k+1)+0,none⟩),?_,.eZ x 0 b (off+j.toNat*(k+1)) hb (ca x hxm) (fun m=>f (j.toNat*(k+1)+m)) (fun m hm=> ?_) (fun m c hc=>hr _ _ _ _ hx hc)⟩
         ·rw[run_indexAt_slice w t ⟨b,off,none⟩ es.length cap _ j (by rw[N5];exact n5),zao (by omega),N5,run_sizeOf hk]
          simp[addr_add]
         ·rw[zbA]
          refine hw _ ?_
          rw[jH x hxm] at hm
          calc j.toNat*(k+1)+m<j.toNat*(k+1)+(k+1):=by omega
           _=(j.toNat+1)*(k+1):=by rw[zaT,zbr]
           _<=es.length*(k+1):=zaq _ (by omega)
        ·cases hq
       ·cases hq
      ·cases hq
     |_=>cases hq
    |_=>cases hq
   ·cases hq
 ·cases hq
end
end Pi
