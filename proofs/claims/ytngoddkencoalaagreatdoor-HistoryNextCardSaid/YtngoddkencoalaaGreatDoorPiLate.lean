/- The text PiLate. -/
import Derived.Test.YtngoddkencoalaaGreatDoorPiKOk4
namespace Pi
open Go
theorem tS {a:Act} {dst:Option Nat} {v:Value} {t:Nat} (h:dst≠some t):(a.put dst v).tmps.getD t undef=a.tmps.getD t undef:=by
 cases dst with
 |none=>rfl
 |some d=>
  have hd:d≠t:=fun e=>h (by rw[e])
  simp only[Act.put,zaD]
  rw[zaX hd]
theorem qbN {a:Act} {t:Nat} {v:Value} (h:t<a.tmps.size):(a.put (some t) v).tmps.getD t undef=v:=by
 simp[Act.put,Array.getD,h]
theorem Qa {a:Act} {t:Nat} {v:Value} (h:a.tmps.getD t undef=v):a.put (some t) v=a:=by
 simp only[Act.put]
 congr 1
 refine zcO fun i=> ?_
 simp only[zaD] at h
 grind
theorem Wk {F:Fence} {n:Nat} {Q:Program} {o:Oper} {a:Act} {w:World} {K:Act->World->Prop} {Q':Exit->Act->World->Prop} {t:Nat} (dG:o.dst≠some t)
  (h:o.wpIn F n Q a w (fun a' w'=>a'.tmps.getD t undef=a.tmps.getD t undef->K a' w') Q'):o.wpIn F n Q a w K Q':=by
 refine⟨h.1,?_⟩
 have hh:=h.2
 generalize (o.semAt F.round a.eval).run Q w=r at*
 cases r with
 |ok x w'=>
  cases x<;>simp only[Oper.uponIn] at hh⊢ <;>
   first
    |exact hh (tS dG)
    |exact⟨hh.1,CallsIn.mono hh.2 (fun e w'' he=>by cases e<;>first |exact he (tS dG)|exact he)⟩
    |exact⟨hh.1,RowsIn.mono hh.2 (fun _ _ he=>he (tS dG))⟩
    |grind [tS]
 |halt x w'=>cases x<;>simp only[Oper.uponIn] at hh⊢ <;>exact hh
section
variable {Q:Program} {T:Tg} {F:Nat->Prop} {G:Nat->Value} {w:World} {a:Act} {s:S}
theorem aC.mat (h:aC Q T F G w a s) {n v:Nat} {o:Obj} {s':S} (hs:s.new n o=some (s',v)) {g1:Value} {b:Nat} {cs:Array Value} {t:TypeId} (hb: ∀b',bF g1 o=some b'->b'=b) (hc:w.heap[b]?=some (.cells cs t)) (hF: ¬F b) (hO: ¬Own G s.rg b)
  (ho:ot Q F w (Pi.mY G n g1) (ins n ⟨v,none,o⟩ s.rg) n o):
  aC Q T F (Pi.mY G n g1) w a s'/\(∀b',Own (Pi.mY G n g1) s'.rg b'->Own G s.rg b'\/b'=b)/\Names G (Pi.mY G n g1) s.rg s'.rg/\lk s'.rg n=some ⟨v,none,o⟩:=by
 obtain⟨rfl,xd⟩:=S.kV hs
 have fZ:qN G s.rg n ⟨v,none,o⟩ g1:=fun e he=> .inl (xd e he)
 have hn:=gF fZ
 have oL: ∀m e,lk (ins n (⟨v,none,o⟩:En) s.rg) m=some e->(m=n/\e=⟨v,none,o⟩)\/(n≠m/\lk s.rg m=some e):=fun m e he=>by
  grind [bA,bU]
 have fU: ∀b',Own (Pi.mY G n g1) (ins n (⟨v,none,o⟩:En) s.rg) b'->Own G s.rg b'\/b'=b:=by
  rintro b' ⟨m,e,he,dj⟩
  rcases oL m e he with⟨rfl,rfl⟩| ⟨hm,he⟩
  ·rw[a8] at dj
   grind
  ·rw[eS _ (zbC hm)] at dj
   exact .inl ⟨m,e,he,dj⟩
 refine⟨⟨⟨h.rf.1,fun d hd=> ?_⟩,h.size,fun t p hp=>(h.tm t p hp).mono (fun _ h=>h) (fun _ _=>rfl) hn,?_,?_,?_,h.jm,?_,h.z,h.dr,h.sz⟩,fU,hn,bA _ _ _⟩
 ·obtain⟨D,h1,h0,h2,h3,h4⟩:=h.rf.2 d hd
  grind
 ·intro m e he
  rcases oL m e he with⟨rfl,rfl⟩| ⟨hm,he⟩
  ·exact ho
  ·exact(h.rg m e he).mono (fun _ h=>h) (fun _ _=>rfl) hn (eS _ (zbC hm)) (fun _ _=>rfl)
 ·intro m1 m2 e e' b' he cI jJ cm
  rcases oL m1 e he with⟨rfl,rfl⟩| ⟨L2,DS⟩<;>rcases oL m2 e' cI with⟨rfl,rfl⟩| ⟨EC,U2⟩
  ·rfl
  ·rw[a8] at jJ
   rw[eS _ (zbC EC)] at cm
   rw[hb b' jJ] at cm
   exact absurd ⟨m2,e',U2,cm⟩ hO
  ·rw[a8] at cm
   rw[eS _ (zbC L2)] at jJ
   rw[hb b' cm] at jJ
   exact absurd ⟨m1,e,DS,jJ⟩ hO
  ·rw[eS _ (zbC L2)] at jJ
   rw[eS _ (zbC EC)] at cm
   exact h.own _ _ _ _ b' DS U2 jJ cm
 ·intro m e b' he dj zI
  rcases oL m e he with⟨rfl,rfl⟩| ⟨hm,he⟩
  ·rw[a8] at dj
   rw[hb b' dj] at zI
   exact hF zI
  ·rw[eS _ (zbC hm)] at dj
   exact h.mq m e b' he dj zI
 ·intro m e i he hi hl
  rcases oL m e he with⟨rfl,rfl⟩| ⟨hm,he⟩
  ·cases hi
  ·rw[eS _ (zbC hm)];exact h.tag m e i he hi hl
theorem aC.early (h:aC Q T F G w a s) {cs:Array Value} {e:TypeId} {d:Nat} {v:Value} (hd:lk s.tm d=none):aC Q T F G (w.alloc (.cells cs e)) (a.put (some d) v) s/\Ext (Own G s.rg) (Own G s.rg) F F w (w.alloc (.cells cs e)):=by
 have hk: ∀b,b<w.heap.size->(w.alloc (.cells cs e)).heap[b]?=w.heap[b]?:=fun b hb=>vA w _ b hb
 have dq:(w.alloc (.cells cs e)).heap.size=w.heap.size+1:=by simp
 have hx:Ext (Own G s.rg) (Own G s.rg) F F w (w.alloc (.cells cs e)):=⟨fun _ h=>h,fun _ h=> .inl h,fun _=> .inl,fun b hb _=>hk b hb,by omega,rfl,rfl,rfl⟩
 refine⟨⟨h.rf.go hx,by simpa [Act.put] using h.size,fun t p hp=> ?_,fun n e he=>(h.rg n e he).mono (fun _ h=>h) (fun b hb=>hk b (h.jm b hb)) (Names.refl _ _) rfl (fun b hb=>hk b ((h.rg n e he).lt hb)),h.own,h.mq,fun b hb=>by have:=h.jm b hb;omega,h.tag,fun b hb=>⟨(h.z b hb).1,(hk b (h.jm b (h.z b hb).1)).trans (h.z b hb).2⟩,h.dr,zaI h.sz hx.size⟩,hx⟩
 have dG:(some d:Option Nat)≠some t:=fun e=>by grind
 rw[tS dG]
 exact ct.mono (fun _ h=>h) (fun b hb=>hk b (h.jm b hb)) (Names.refl _ _) (h.tm t p hp)
theorem Mv (s:S) (n:Nat) (p:P):sb s n p none=some (s,p):=by
 cases p with
 |d x=>cases x<;>rfl
 |_=>rfl
theorem uU: ∀(ps:List P) (ts:List (Option TypeId)) (s:S) (n:Nat),ts.any Option.isSome=false->cg s n ps ts=some (s,ps)
 | [],_,_,_,_=>rfl
 |p::ps,ts,s,n,h=>by
  have h1:ts.headD none=none:=by
   cases ts with
   |nil=>rfl
   |cons t r=>
    simp_all
  have h2:ts.tail.any Option.isSome=false:=by
   cases ts with
   |nil=>rfl
   |cons t r=>
    grind
  simp only[cg,h1,Mv,uU ps ts.tail s (n+1) h2]
end
theorem nF {o:Oper} {t:TypeId} {d:Nat} (h:j7 o=some (t,d)):o.op= .alloc t/\o.guard=none/\o.dst=some d:=by
 grind [j7]
theorem xO {Q:Program} {cf:CF} {ops:List Oper} {s s':S} {o:Oper} {t:TypeId} {d:Nat} (ho:j7 o=some (t,d)) (Kj:qH Q t=false) (h:bu Q cf ops s o=some s'):
  ∃i zv z s3 v,Q.info? t=some i/\i.zero=some zv/\D.tF zv=some z/\s.new (site (some d)) (.box t (P.d z).cells)=some (s3,v)/\s3.put (some d) (.ref (site (some d)) v 0)=some s':=by
 obtain⟨h1,h2,h3⟩:=nF ho
 have hg:bn ops o=some none:=by unfold bn;rw[h2]
 unfold bu at h
 simp only[hg] at h
 unfold fY at h
 have hc:gx o=none:=by unfold gx;rw[h1]
 have hm:rb o=none:=by unfold rb;rw[h1]
 have hn:cZ Q o=none:=by unfold cZ;rw[h1]
 have hp:pv Q s o none=none:=by unfold pv;rw[h1]
 simp only[hc] at h
 unfold exec at h
 simp only[hm] at h
 unfold jk at h
 simp only[hn,hp] at h
 unfold ef at h
 grind [ey,nk,uU,qH]
theorem Mw {Q:Program} {w:World} {a:Act} {o:Oper} {t:TypeId} {d:Nat} (ho:j7 o=some (t,d)) {i:TypeInfo} {zv:Value} (hi:Q.info? t=some i) (hz:i.zero=some zv):
  (execOp a.eval o).run Q w= .ok (.value (.pointer (some ⟨w.heap.size,0,none⟩))) (w.alloc (.cells zv.cells t)):=by
 obtain⟨h1,_,_⟩:=nF ho
 have AI:(zeroValue t).run Q w= .ok zv w:=by simp[zeroValue,typeInfo,hi,hz]
 simp[execOp,h1,Instr.alloc,AI,newVar,newRow]
section
variable {Q:Program} {T:Tg} {cf:CF} {ops:List Oper} {M:List Nat} {St:Nat->S} {r:Option Nat} {m:Nat}
def Eff (ops:List Oper) (m:Nat) (L:Nat->Prop):Prop:= ∀x p,x<m->ops[x]?=some p->1<aB p->L x
def Mx (Q:Program) (F:Nat->Prop) (G:Nat->Value) (w0 w:World) (a:Act) (s:S) (t:TypeId) (d:Nat):Prop:=
 ∃b i zv,Q.info? t=some i/\i.zero=some zv/\w.heap[b]?=some (.cells zv.cells t)/\ ¬F b/\ ¬Own G s.rg b/\w0.heap.size<=b/\b<w.heap.size/\a.tmps.getD d undef= .pointer (some ⟨b,0,none⟩)
theorem Mx.go {F F1:Nat->Prop} {G G1:Nat->Value} {w0 w w1:World} {a a1:Act} {s s1:S} {t:TypeId} {d:Nat} (h:Mx Q F G w0 w a s t d) (hx:Ext (Own G s.rg) (Own G1 s1.rg) F F1 w w1) (ha:a1.tmps.getD d undef=a.tmps.getD d undef):Mx Q F1 G1 w0 w1 a1 s1 t d:=by
 obtain⟨b,i,zv,h1,h2,h3,h4,h5,h6,h7,h8⟩:=h
 refine⟨b,i,zv,h1,h2,(hx.keep b h7 h5).trans h3,fun hf=> ?_,fun ho=> ?_,h6,za3 h7 hx.size,ha.trans h8⟩
 ·rcases hx.mD b hf with h |h |h
  ·exact h4 h
  ·exact h5 h
  ·omega
 ·rcases hx.lD b ho with h |h
  ·exact h5 h
  ·omega
theorem qbO {F0 F:Nat->Prop} {G0 G:Nat->Value} {w0 w:World} {a:Act} {R0:List (Nat×En)} {s s2:S} {o:Oper} {t:TypeId} {d:Nat} (ho:j7 o=some (t,d)) (Kj:qH Q t=false) (hs:bu Q cf ops s o=some s2) (h:aC Q T F G w a s)
  (hp:Mx Q F G w0 w a s t d) (hx:Ext (Own G0 R0) (Own G s.rg) F0 F w0 w): ∃G2,aC Q T F G2 w a s2/\Ext (Own G0 R0) (Own G2 s2.rg) F0 F w0 w:=by
 obtain⟨b,i,zv,h1,h2,h3,h4,h5,h6,h7,h8⟩:=hp
 obtain⟨i',zv',z,s3,v,k1,k2,k3,k4,k5⟩:=xO ho Kj hs
 rw[h1] at k1
 cases k1
 rw[h2] at k2
 cases k2
 have GQ:a7 F w zv z:=a7.tF _ _ k3
 obtain⟨c1,c2,c3⟩:=dW GQ
 obtain⟨m1,m2,m3,m4⟩:=h.mat k4 (g1:= .pointer (some ⟨b,0,none⟩)) (b:=b) (fun b' hb=>by grind [bF,aQ]) h3 h4 h5
  ⟨b,zv.cells,a8 _ _ _,h3,by rw[pb,zaa,<-c1];simp,kP GQ,fun j p hj=>by
   rw[pb,zaJ,zaw] at hj
   obtain⟨x,hx',rfl⟩:=hj
   have hj3:j<zv.cells.size:=by grind
   have hu:zv.cells.toList[j]?=some (zv.cells.getD j undef):=by
    simp_all
   exact .d (c3 j _ x hu hx')⟩
 obtain⟨p1,p2⟩:=cv m1 k5 (v:= .pointer (some ⟨b,0,none⟩)) (ct.of (.ref (site (some d)) v 0 _ ⟨_,m4,zaj _,fun _ _=>⟨b,a8 _ _ _,rfl⟩⟩ rfl))
 rw[Qa h8] at p1
 refine⟨_,p1,?_⟩
 rw[p2]
 exact⟨hx.kN,hx.mD,fun b' dj=>by
  rcases m2 b' dj with h |rfl
  ·exact hx.lD b' h
  grind,hx.keep,hx.size,hx.os,hx.tape,hx.output⟩
theorem A3 (acc:List Nat): ∀(es:List Edge) (e:Edge),e∈es->Region.binds .any e=true->Nat.testBit (kJ acc es) e.on=true
 | [],_,h,_=>by cases h
 |e'::r,e,h,hb=>by
  have lor: ∀a b:Nat,Nat.lor a b=a |||b:=fun _ _=>rfl
  unfold kJ
  rcases zav.1 h with rfl |h
  ·rw[zao hb]
   simp
  ·have ih:=A3 acc r e h hb
   grind
theorem Wl (tx:Text Q cf ops M St m) (jq:dt Q T.w0 cf) {om:Oper} {tt:TypeId} {td:Nat} (Ob:ops[m]?=some om) (Kq:j7 om=some (tt,td)) (Kj:qH Q tt=false) (h0:lk (St 0).tm td=none)
  (GU: ∀i o,ops[i]?=some o->Nat.testBit (M.getD i 0) m=true->Eff ops m fun x=>Nat.testBit (M.getD i 0) x=true)
  {F0:Nat->Prop} {G0:Nat->Value} {w0:World} {s0:S} {Q':Exit->Act->World->Prop} (hK: ∀a' w',iM Q T F0 G0 w0 s0 (St ops.length) a' w'->Q' .normal a' w'):
  ∀(fuel:Nat) (listed:Array Bool) (a:Act) (w:World) (s:S) (F:Nat->Prop) (G:Nat->Value),
  listed.size=ops.length->fuel+listed.toList.count true=ops.length->EX ops (fun j=>listed.getD j false=true)->aC Q T F G w a s->Ext (Own G0 s0.rg) (Own G s.rg) F0 F w0 w->
  ((Inv ops St (fun j=>listed.getD j false=true) s/\(listed.getD m false=true->Eff ops m (fun j=>listed.getD j false=true)))\/
   (listed.getD m false=true/\ ¬Eff ops m (fun j=>listed.getD j false=true)/\Inv ops St (fun j=>listed.getD j false=true/\j≠m) s/\Mx Q F G w0 w a s tt td))->
  wpAnyIn (wd r) 0 Q .any ops.toArray Q' fuel listed a w:=by
 obtain⟨ho1,ho2,ho3⟩:=nF Kq
 have VZ:m<ops.length:=(zad.1 Ob).1
 have jV: ∀(i:Nat) (o:Oper),ops.toArray[i]?=some o-> ∀e∈o.after,Region.binds .any e=true->e.on<i:=fun i o ho e he hb=>tx.back (by simpa using ho) he hb
 have fin: ∀(listed:Array Bool) (a:Act) (w:World) (s:S) (F:Nat->Prop) (G:Nat->Value),(∀i,i<ops.length->listed.getD i false=true)->aC Q T F G w a s->Ext (Own G0 s0.rg) (Own G s.rg) F0 F w0 w->
    ((Inv ops St (fun j=>listed.getD j false=true) s/\(listed.getD m false=true->Eff ops m (fun j=>listed.getD j false=true)))\/(listed.getD m false=true/\ ¬Eff ops m (fun j=>listed.getD j false=true)/\Inv ops St (fun j=>listed.getD j false=true/\j≠m) s/\Mx Q F G w0 w a s tt td))->Q' .normal a w:=by
  intro listed a w s F G il h hx hm
  rcases hm with⟨hi,_⟩| ⟨_,dG,_⟩
  · obtain⟨h1,h2,h3⟩:=tx.last hi (fun i o ho=>il i (zad.1 ho).1)
    exact hK a w ⟨F,G,h.alike h1 h2 h3,by rw[<-h2];exact hx⟩
  · exact absurd (fun x p _ hp _=>il x (zad.1 hp).1) dG
 intro fuel
 induction fuel with
 |zero=>
  intro listed a w s F G dq hc hL h hx hm
  have il: ∀i,i<ops.length->listed.getD i false=true:=fun i bG=>by
    have qP:listed.toList.count true=listed.toList.length:=by rw[zcK,dq];omega
    have:=List.count_eq_length.1 qP listed[i] (by simp)
    simp[dq,bG,<-this]
  refine⟨?_,fin listed a w s F G il h hx hm⟩
  cases hr:Region.ready .any ops.toArray listed with
  |nil=>rfl
  |cons i r=>
    have hmm:i∈Region.ready .any ops.toArray listed:=by rw[hr];simp
    obtain⟨h0,o,ho,_⟩:=mem_ready.1 hmm
    have bG:i<ops.length:=by
     have:=(zar.1 ho).1
     simpa using this
    have h1:=il i bG
    have hl:i<listed.size:=by omega
    simp[hl] at h0 h1
    rw[h0] at h1
    cases h1
 |succ fuel ih=>
  intro listed a w s F G dq hc hL h hx hm
  refine⟨fun hr=>fin listed a w s F G (fun i bG=>AX (by simp[dq]) jV hr i (by simpa using bG)) h hx hm,fun i fT=> ?_⟩
  obtain⟨VR,o,ho,CH⟩:=mem_ready.1 fT
  have gf:ops[i]?=some o:=by simpa using ho
  have bG:i<ops.length:=(zad.1 gf).1
  have hl:i<listed.size:=by omega
  have bZ: ¬listed.getD i false=true:=by
    simp[hl] at VR⊢
    exact VR
  have pz: ∀j,((listed.setIfInBounds i true).getD j false=true)↔(listed.getD j false=true\/j=i):=fun j=>by
    by_cases hj:j=i
    ·subst hj;simp[hl]
    ·rw[getD_set_ne false (fun e=>hj e.symm)];simp[hj]
  have Mp:fuel+(listed.setIfInBounds i true).toList.count true=ops.length:=by
    have e:(listed.setIfInBounds i true).toList=listed.toList.set i true:=by simp
    rw[e,List.count_set (by simpa using hl)]
    have:(listed.toList[i]'(by simpa using hl)==true)=false:=by
     simp[hl] at bZ⊢
     exact bZ
    simp only[this]
    simp only[zaz,zbd,zbG,zba]
    omega
  have zS:(fun j=>(listed.setIfInBounds i true).getD j false=true)=(fun j=>listed.getD j false=true\/j=i):=funext fun j=>propext (pz j)
  have Kr:EX ops (fun j=>listed.getD j false=true\/j=i):=by
    intro j x hj ov e he hb
    rcases ov with ov |rfl
    ·exact .inl (hL j x hj ov e he hb)
    ·rw[gf] at hj;cases hj
     exact .inl (CH e he hb)
  have next: ∀(s1:S),bu Q cf ops s o=some s1->(∀a1 w1 F1 G1,aC Q T F1 G1 w1 a1 s1->Ext (Own G0 s0.rg) (Own G1 s1.rg) F0 F1 w0 w1->Ext (Own G s.rg) (Own G1 s1.rg) F F1 w w1->(o.dst≠some td->a1.tmps.getD td undef=a.tmps.getD td undef)->wpAnyIn (wd r) 0 Q .any ops.toArray Q' fuel (listed.setIfInBounds i true) a1 w1)->
     wpOpIn (wd r) 0 Q ops.toArray Q' i (wpAnyIn (wd r) 0 Q .any ops.toArray Q' fuel (listed.setIfInBounds i true)) a w:=by
    intro s1 r0 mv
    unfold wpOpIn
    rw[ho]
    simp only[]
    by_cases hd:o.dst=some td
    ·have kO:=kz jq h r0 (r:=r) (K:=wpAnyIn (wd r) 0 Q .any ops.toArray Q' fuel (listed.setIfInBounds i true)) (Q':=Q') (fun a' w' ⟨F',G',g1,g2⟩=>mv a' w' F' G' g1 (hx.trans g2) g2 fun dG=>absurd hd dG)
     split
     ·rename_i hw;rw[zao hw] at kO;exact kO
     ·rename_i hw;rw[zam hw] at kO;exact⟨fun _ _=>trivial,kO⟩
    ·have kO:=kz jq h r0 (r:=r) (K:=fun a' w'=>a'.tmps.getD td undef=a.tmps.getD td undef->wpAnyIn (wd r) 0 Q .any ops.toArray Q' fuel (listed.setIfInBounds i true) a' w') (Q':=Q') (fun a' w' ⟨F',G',g1,g2⟩ hk=>mv a' w' F' G' g1 (hx.trans g2) g2 fun _=>hk)
     split
     ·rename_i hw;rw[zao hw] at kO;exact Wk hd kO
     ·rename_i hw;rw[zam hw] at kO;exact⟨fun _ _=>trivial,kO (tS hd)⟩
  rcases hm with⟨hi,U4⟩| ⟨hLm,dG,hi,hpe⟩
  · by_cases Qb:i=m/\ ¬Eff ops m (fun j=>listed.getD j false=true)
    ·
     obtain⟨rfl,dG⟩:=Qb
     rw[Ob] at gf
     cases gf
     obtain⟨ii,zv,z,s3,v,k1,k2,_⟩:=xO Kq Kj (tx.run i om Ob)
     have hs0:lk s.tm td=none:=by
      rw[hi.tm2 td (fun j y hj ov hd=>tx.inj hj Ob (fun e=>bZ (e▸ov)) hd ho3)]
      exact h0
     have bX:=Mw (a:=a) (w:=w) Kq k1 k2
     obtain⟨e1,e2⟩:=h.early (cs:=zv.cells) (e:=tt) (v:= .pointer (some ⟨w.heap.size,0,none⟩)) hs0
     unfold wpOpIn
     rw[ho]
     simp only[]
     rw[zao (by simp[Region.wanted,ho2])]
     refine sA (fun c hc=>by rw[ho1] at hc;cases hc) ?_
     rw[bX,Oper.uponIn_value,ho3]
     refine ih _ _ _ s F G (by simp[dq]) Mp (by rw[zS];exact Kr) e1 (hx.trans e2) (.inr ⟨(pz i).2 (.inr rfl),fun hE=>dG fun x p hxm hp hk=>((pz x).1 (hE x p hxm hp hk)).resolve_right (by omega),?_,?_⟩)
     ·have e:(fun j=>(listed.setIfInBounds i true).getD j false=true/\j≠i)=fun j=>listed.getD j false=true:=funext fun j=>propext ⟨fun hh=>((pz j).1 hh.1).resolve_right hh.2,fun hh=>⟨(pz j).2 (.inl hh),fun e=>bZ (e▸hh)⟩⟩
      rw[e]
      exact hi
     ·have htd:td<a.tmps.size:=by
       obtain⟨R',q',Wm⟩:=tx.step Ob
       rw[ho3] at Wm
       have hn1:td<(St i).n:=by
        simp only[S.put] at Wm
        split at Wm
        ·rename_i hb;simp[Nat.blt] at hb;omega
        ·cases Wm
       have UW:=(tx.inv i (by omega)).1
       have hn3:=hi.n
       have:=h.size
       omega
      exact⟨w.heap.size,ii,zv,k1,k2,heap_alloc_new w _,fun hf=>by have:=h.jm _ hf;omega,fun hO=>by obtain⟨n,e,he,hb⟩:=hO;have:=(h.rg n e he).lt hb;omega,hx.size,by simp,qbN htd⟩
    ·
     have EC:i=m-> ∀x p,x<m->ops[x]?=some p->1<aB p->listed.getD x false=true:=fun e x p h1 h2 h3=>zaN fun hc=>Qb ⟨e,fun hE=>hc (hE x p h1 h2 h3)⟩
     obtain⟨s1,r0,N9⟩:=tx.go hL hi gf bZ CH U4 EC
     refine next s1 r0 fun a1 w1 F1 G1 g1 g2 _ _=>ih _ _ _ s1 F1 G1 (by simp[dq]) Mp (by rw[zS];exact Kr) g1 g2 (.inl ⟨by rw[zS];exact N9,fun hmm x p h1 h2 h3=>(pz x).2 ?_⟩)
     rcases(pz m).1 hmm with hmm |e
     ·exact .inl (U4 hmm x p h1 h2 h3)
     ·exact .inl (EC e.symm x p h1 h2 h3)
  ·
    have fB:i≠m:=fun e=>bZ (e▸hLm)
    have E5: ∀(j:Nat) (x:Oper),ops[j]?=some x->(∀e∈x.after,Region.binds .any e=true->listed.getD e.on false=true)-> ∀e∈x.after,Region.binds .any e=true->e.on≠m:=by
     intro j x hj EY e he hb hem
     have qbI:Nat.testBit (M.getD j 0) m=true:=by
      rw[tx.mask hj]
      have:=A3 M x.after.toList e (by simpa using he) hb
      rwa [hem] at this
     exact dG fun y p h1 h2 h3=>tx.sub hL j x hj EY y (GU j x hj qbI y p h1 h2 h3)
    have hL2:EX ops (fun j=>listed.getD j false=true/\j≠m):=fun j x hj ov e he hb=>⟨hL j x hj ov.1 e he hb,E5 j x hj (hL j x hj ov.1) e he hb⟩
    obtain⟨s1,r0,N9⟩:=tx.go hL2 hi gf (fun hh=>bZ hh.1) (fun e he hb=>⟨CH e he hb,E5 i o gf CH e he hb⟩) (fun hh=>absurd rfl hh.2) (fun e=>absurd e fB)
    have qhO:o.dst≠some td:=fun hd=>tx.inj gf Ob fB hd ho3
    have qfa:(fun j=>(listed.getD j false=true/\j≠m)\/j=i)=fun j=>(listed.setIfInBounds i true).getD j false=true/\j≠m:=funext fun j=>propext ⟨fun hh=>hh.elim (fun hh=>⟨(pz j).2 (.inl hh.1),hh.2⟩) (fun e=>⟨(pz j).2 (.inr e),by rw[e];exact fB⟩),fun hh=>((pz j).1 hh.1).elim (fun h1=> .inl ⟨h1,hh.2⟩) .inr⟩
    refine next s1 r0 fun a1 w1 F1 G1 g1 g2 g3 g4=> ?_
    have wo:=hpe.go g3 (g4 qhO)
    rw[qfa] at N9
    have qbP:(listed.setIfInBounds i true).getD m false=true:=(pz m).2 (.inl hLm)
    by_cases hE:Eff ops m (fun j=>(listed.setIfInBounds i true).getD j false=true)
    ·have qfb:EX ops (fun j=>(listed.setIfInBounds i true).getD j false=true):=by rw[zS];exact Kr
     have qhP:EX ops (fun j=>(listed.setIfInBounds i true).getD j false=true/\j≠m):=by
      rw[<-qfa]
      intro j x hj ov e he hb
      rcases ov with ov |rfl
      ·exact .inl (hL2 j x hj ov e he hb)
      ·rw[gf] at hj;cases hj
       exact .inl ⟨CH e he hb,E5 _ _ gf CH e he hb⟩
     obtain⟨s2,hs2,U5⟩:=tx.go qhP N9 Ob (fun hh=>hh.2 rfl) (fun e he hb=>⟨qfb m om Ob qbP e he hb,fun e'=>by have:=tx.back Ob he hb;omega⟩) (fun hh=>absurd rfl hh.2) (fun _ x p h1 h2 h3=>⟨hE x p h1 h2 h3,by omega⟩)
     obtain⟨G2,q1,q2⟩:=qbO Kq Kj hs2 g1 wo g2
     refine ih _ _ _ s2 F1 G2 (by simp[dq]) Mp qfb q1 q2 (.inl ⟨?_,fun _=>hE⟩)
     have e:(fun j=>((listed.setIfInBounds i true).getD j false=true/\j≠m)\/j=m)=fun j=>(listed.setIfInBounds i true).getD j false=true:=funext fun j=>propext ⟨fun hh=>hh.elim (·.1) (fun e=>e▸qbP),fun hh=>(Classical.em (j=m)).elim .inr fun hn=> .inl ⟨hh,hn⟩⟩
     rw[<-e]
     exact U5
    ·exact ih _ _ _ s1 F1 G1 (by simp[dq]) Mp (by rw[zS];exact Kr) g1 g2 (.inr ⟨qbP,hE,N9,wo⟩)
end
theorem uV {ops:List Oper} {M:List Nat}: ∀(l:List Oper) (j m:Nat) (t:TypeId) (d:Nat),tI ops M j l=some (m,t,d)->j<=m/\ ∃o,l[m-j]?=some o/\j7 o=some (t,d)
 | [],_,_,_,_,h=>by cases h
 |o::r,j,m,t,d,h=>by
  unfold tI at h
  have more:tI ops M (j+1) r=some (m,t,d)->j<=m/\ ∃p,(o::r)[m-j]?=some p/\j7 p=some (t,d):=fun h=>by
   obtain⟨h1,p,h2,h3⟩:=uV r (j+1) m t d h
   exact⟨by omega,p,by rw[show m-j=(m-(j+1))+1 by omega,zcu];exact h2,h3⟩
  split at h
  ·rename_i t' d' ha
   split at h
   ·exact more h
   ·cases h
    exact⟨zaj _,o,by simp,ha⟩
  ·exact more h
theorem E6 {Q:Program} {T:Tg} {cf:CF} (jq:dt Q T.w0 cf) {ops:List Oper} {F:Nat->Prop} {G:Nat->Value} {w:World} {a:Act} {s s':S} {r:Option Nat} {Q':Exit->Act->World->Prop}
  (h:aC Q T F G w a s) (hs:sf Q cf ops s=some s') (hK: ∀a' w',iM Q T F G w s s' a' w'->Q' .normal a' w'):wpAnyIn (wd r) 0 Q .any ops.toArray Q' ops.toArray.size (Array.replicate ops.toArray.size false) a {w with drawn:=w.drawn+1}:=by
 unfold sf at hs
 split at hs
 ·rename_i m t d hl
  split at hs
  ·rename_i hc
   obtain⟨mX,Kj,htd⟩:=hc
   split at hs
   ·rename_i s1 l hd
    split at hs
    ·rename_i qbM
     simp at hs
     subst hs
     obtain⟨_,om,Ob,Kq⟩:=uV ops 0 m t d hl
     rw[Nat.sub_zero] at Ob
     simp only[B1,zab] at mX
     obtain⟨⟨c1,c2⟩,c3⟩:=mX
     have zero: ∀i:Nat,0+i=i:=zaF
     obtain⟨St,g1,g2,g3,g4⟩:=me ops _ _ _ hd
     have tx:Text Q cf ops (masks ops []) St m:=⟨fun i o ho=>by have:=fm ops 0 c1 i o ho;rwa [zero] at this,fun i j x y qq hx hy=>by have:=gb ops 0 c2 i j x y qq hx hy;rwa [zero,zero] at this,g3,fun i j x y qq hx hy jH hb=> .inr (by
      obtain⟨q,hq⟩:=rp l 0 True qbM i j _ _ qq (g4 i x hx) (g4 j y hy)
      rw[zero,zero] at hq
      exact xH (g3 i x hx) (g3 j y hy) jH hb hq)⟩
     have GU: ∀i o,ops[i]?=some o->Nat.testBit ((masks ops []).getD i 0) m=true->Eff ops m fun x=>Nat.testBit ((masks ops []).getD i 0) x=true:=by
      intro i o ho hb x p hx hp hk
      have h1:=fm ops 0 c3 i o ho
      rw[zero] at h1
      simp only[OL,hb,zc8,zbo] at h1
      have h2:=fm ops 0 h1 x p hp
      rw[zero] at h2
      simp only[za9,zbZ] at h2
      rcases h2 with(h2 |h2)|h2
      ·omega
      ·omega
      ·exact h2
     have fX:(fun j=>(Array.replicate ops.length false).getD j false=true)=fun _=>False:=by
      funext j
      simp only[zaD,zc7]
      split<;>simp
     have qhQ: ∀j,(Array.replicate ops.length false).getD j false=true->False:=fun j hj=>by
      have:=congrFun fX j
      simp only[eq_iff_iff,iff_false] at this
      exact this hj
     have hsr:aC Q T F G {w with drawn:=w.drawn+1} a s:=h.drawn _ (zc2 _)
     have:=Wl (T:=T) (r:=r) tx jq Ob Kq Kj (by rw[g1];exact htd) GU (F0:=F) (G0:=G) (w0:={w with drawn:=w.drawn+1}) (s0:=s) (Q':=Q')
      (fun a' w' hp=>hK a' w' (by
       obtain⟨F',G',k1,k2⟩:=hp
       rw[g2] at k1 k2
       exact⟨F',G',k1,⟨k2.kN,k2.mD,k2.lD,k2.keep,k2.size,k2.os,k2.tape,k2.output⟩⟩))
      ops.length (Array.replicate ops.length false) a {w with drawn:=w.drawn+1} s F G (by simp) (by
       rw[Array.toList_replicate,List.count_replicate];simp) (by
       rw[fX];intro i o _ hf;exact hf.elim) hsr (Ext.refl _ _ _)
      (.inl ⟨by
       rw[fX]
       exact⟨by rw[g1],fun i o t _ hf=>hf.elim,fun t _=>by rw[g1],⟨0,by omega,by rw[g1],fun i o _ _=>by simp⟩⟩,fun hm=>(qhQ _ hm).elim⟩)
     simpa using this
    ·cases hs
   ·cases hs
  ·cases hs
 ·cases hs
theorem Ie {Q:Program} {T:Tg} {cf:CF} (jq:dt Q T.w0 cf) (hm:Q.follows .mixedOrders=true) {ops:List Oper} {F:Nat->Prop} {G:Nat->Value} {w:World} {a:Act} {s s':S} {r:Option Nat} {id:Nat} {Q':Exit->Act->World->Prop}
  (h:aC Q T F G w a s) (hs:jd Q cf ops s=some s') (hK: ∀a' w',iM Q T F G w s s' a' w'->Q' .normal a' w'):(Code.region id ops.toArray true).wpIn (wd r) 0 Q Q' a w:=by
 refine wpIn_region_any hm ?_
 unfold jd at hs
 split at hs
 ·split at hs
  ·exact E6 jq h hs hK
  ·have:=uT (r:=r) (Q':=Q') jq h hs hK
   have e:(cR ops).toArray.size=ops.toArray.size:=by simp[cR]
   rw[e] at this
   exact E3 _ _ _ _ this
 ·exact uT jq h hs hK
end Pi
