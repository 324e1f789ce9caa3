/- The text PiLate. -/
import Derived.Test.YtngoddkencoalaaGreatDoorPiKOk4
namespace Pi
open Go
theorem s9 {a:Act} {dst:Option Nat} {v:Value} {t:Nat} (h:dst≠some t):(a.put dst v).tmps.getD t undef=a.tmps.getD t undef:=by
 cases dst with
 |none=>rfl
 |some d=>
  have hd:d≠t:=fun e=>h (by rw[e])
  simp only[Act.put,Array.getD_eq_getD_getElem?]
  rw[Array.getElem?_setIfInBounds_ne hd]
theorem qac {a:Act} {t:Nat} {v:Value} (h:t<a.tmps.size):(a.put (some t) v).tmps.getD t undef=v:=by
 simp[Act.put,Array.getD,h]
theorem Oc {a:Act} {t:Nat} {v:Value} (h:a.tmps.getD t undef=v):a.put (some t) v=a:=by
 obtain⟨tm,ds⟩:=a
 simp only[Act.put]
 congr 1
 refine Array.ext_getElem? fun i=> ?_
 simp only[Array.getD_eq_getD_getElem?] at h
 by_cases hi:t=i
 ·subst hi
  by_cases bk:t<tm.size
  ·rw[Array.getElem?_setIfInBounds_self_of_lt bk]
   simp[bk] at h
   simp[bk,h]
  ·simp[bk]
 ·rw[Array.getElem?_setIfInBounds_ne hi]
theorem TK {F:Fence} {n:Nat} {Q:Program} {o:Oper} {a:Act} {w:World} {K:Act->World->Prop} {Q':Exit->Act->World->Prop} {t:Nat} (dz:o.dst≠some t)
  (h:o.wpIn F n Q a w (fun a' w'=>a'.tmps.getD t undef=a.tmps.getD t undef->K a' w') Q'):o.wpIn F n Q a w K Q':=by
 refine⟨h.1,?_⟩
 have hh:=h.2
 generalize (o.semAt F.round a.eval).run Q w=r at*
 cases r with
 |ok x w'=>
  cases x<;>simp only[Oper.uponIn] at hh⊢ <;>
   first
    |exact hh (s9 dz)
    |exact⟨hh.1,CallsIn.mono hh.2 (fun e w'' he=>by cases e<;>first |exact he (s9 dz)|exact he)⟩
    |exact⟨hh.1,RowsIn.mono hh.2 (fun _ _ he=>he (s9 dz))⟩
    |exact⟨hh.1,RoundIn.mono hh.2 (fun e w'' he=>by cases e<;>first |exact he (s9 dz)|exact he)⟩
 |halt x w'=>cases x<;>simp only[Oper.uponIn] at hh⊢ <;>exact hh
section
variable {Q:Program} {T:Tg} {F:Nat->Prop} {G:Nat->Value} {w:World} {a:Act} {s:S}
theorem aB.mat (h:aB Q T F G w a s) {n v:Nat} {o:Obj} {s':S} (hs:s.new n o=some (s',v)) {g1:Value} {b:Nat} {cs:Array Value} {t:TypeId} (hb: ∀b',bu g1 o=some b'->b'=b) (hc:w.heap[b]?=some (.cells cs t)) (hF: ¬F b) (hO: ¬Own G s.rg b)
  (ho:nR Q F w (Pi.mn G n g1) (ins n ⟨v,none,o⟩ s.rg) n o):
  aB Q T F (Pi.mn G n g1) w a s'/\(∀b',Own (Pi.mn G n g1) s'.rg b'->Own G s.rg b'\/b'=b)/\Names G (Pi.mn G n g1) s.rg s'.rg/\lk s'.rg n=some ⟨v,none,o⟩:=by
 obtain⟨rfl,wo⟩:=S.ki hs
 have gF:qo G s.rg n ⟨v,none,o⟩ g1:=fun e he=> .inl (wo e he)
 have hn:=gi gF
 have n0: ∀m e,lk (ins n (⟨v,none,o⟩:En) s.rg) m=some e->(m=n/\e=⟨v,none,o⟩)\/(n≠m/\lk s.rg m=some e):=fun m e he=>by
  by_cases hm:n=m
  ·subst hm;rw[bA] at he;cases he;exact .inl ⟨rfl,rfl⟩
  ·rw[bG _ _ hm] at he;exact .inr ⟨hm,he⟩
 have ep: ∀b',Own (Pi.mn G n g1) (ins n (⟨v,none,o⟩:En) s.rg) b'->Own G s.rg b'\/b'=b:=by
  rintro b' ⟨m,e,he,cU⟩
  rcases n0 m e he with⟨rfl,rfl⟩| ⟨hm,he⟩
  ·rw[aZ] at cU
   exact .inr (hb b' cU)
  ·rw[eI _ (Ne.symm hm)] at cU
   exact .inl ⟨m,e,he,cU⟩
 refine⟨⟨⟨h.qV.1,fun d hd=> ?_⟩,h.size,fun t p hp=>(h.tm t p hp).mono (fun _ h=>h) (fun _ _=>rfl) hn,?_,?_,?_,h.iR,?_,h.z,h.dr,h.sz⟩,ep,hn,bA _ _ _⟩
 ·obtain⟨D,h1,h0,h2,h3,h4⟩:=h.qV.2 d hd
  refine⟨D,h1,h0,h2,h3,fun hD=> ?_⟩
  rcases ep D hD with hD |hD
  ·exact h4 hD
  ·subst hD
   rw[hc] at h2
   cases h2
 ·intro m e he
  rcases n0 m e he with⟨rfl,rfl⟩| ⟨hm,he⟩
  ·exact ho
  ·exact(h.rg m e he).mono (fun _ h=>h) (fun _ _=>rfl) hn (eI _ (Ne.symm hm)) (fun _ _=>rfl)
 ·intro m1 m2 e e' b' he cF jk cu
  rcases n0 m1 e he with⟨rfl,rfl⟩| ⟨Ke,yL⟩<;>rcases n0 m2 e' cF with⟨rfl,rfl⟩| ⟨Kf,Sj⟩
  ·rfl
  ·rw[aZ] at jk
   rw[eI _ (Ne.symm Kf)] at cu
   rw[hb b' jk] at cu
   exact absurd ⟨m2,e',Sj,cu⟩ hO
  ·rw[aZ] at cu
   rw[eI _ (Ne.symm Ke)] at jk
   rw[hb b' cu] at jk
   exact absurd ⟨m1,e,yL,jk⟩ hO
  ·rw[eI _ (Ne.symm Ke)] at jk
   rw[eI _ (Ne.symm Kf)] at cu
   exact h.own _ _ _ _ b' yL Sj jk cu
 ·intro m e b' he cU yM
  rcases n0 m e he with⟨rfl,rfl⟩| ⟨hm,he⟩
  ·rw[aZ] at cU
   rw[hb b' cU] at yM
   exact hF yM
  ·rw[eI _ (Ne.symm hm)] at cU
   exact h.lr m e b' he cU yM
 ·intro m e i he hi hl
  rcases n0 m e he with⟨rfl,rfl⟩| ⟨hm,he⟩
  ·cases hi
  ·rw[eI _ (Ne.symm hm)];exact h.tag m e i he hi hl
theorem aB.early (h:aB Q T F G w a s) {cs:Array Value} {e:TypeId} {d:Nat} {v:Value} (hd:lk s.tm d=none):aB Q T F G (w.alloc (.cells cs e)) (a.put (some d) v) s/\Ext (Own G s.rg) (Own G s.rg) F F w (w.alloc (.cells cs e)):=by
 have hk: ∀b,b<w.heap.size->(w.alloc (.cells cs e)).heap[b]?=w.heap[b]?:=fun b hb=>uS w _ b hb
 have cJ:(w.alloc (.cells cs e)).heap.size=w.heap.size+1:=by simp
 have hx:Ext (Own G s.rg) (Own G s.rg) F F w (w.alloc (.cells cs e)):=⟨fun _ h=>h,fun _ h=> .inl h,fun _=> .inl,fun b hb _=>hk b hb,by omega,rfl,rfl,rfl⟩
 refine⟨⟨h.qV.go hx,by simpa [Act.put] using h.size,fun t p hp=> ?_,fun n e he=>(h.rg n e he).mono (fun _ h=>h) (fun b hb=>hk b (h.iR b hb)) (Names.refl _ _) rfl (fun b hb=>hk b ((h.rg n e he).lt hb)),h.own,h.lr,fun b hb=>by have:=h.iR b hb;omega,h.tag,fun b hb=>⟨(h.z b hb).1,(hk b (h.iR b (h.z b hb).1)).trans (h.z b hb).2⟩,h.dr,Nat.le_trans h.sz hx.size⟩,hx⟩
 have dz:(some d:Option Nat)≠some t:=fun e=>by cases e;rw[hd] at hp;cases hp
 rw[s9 dz]
 exact cr.mono (fun _ h=>h) (fun b hb=>hk b (h.iR b hb)) (Names.refl _ _) (h.tm t p hp)
theorem KM (s:S) (n:Nat) (p:P):rS s n p none=some (s,p):=by
 cases p with
 |d x=>cases x<;>rfl
 |_=>rfl
theorem ui: ∀(ps:List P) (ts:List (Option TypeId)) (s:S) (n:Nat),ts.any Option.isSome=false->cb s n ps ts=some (s,ps)
 | [],_,_,_,_=>rfl
 |p::ps,ts,s,n,h=>by
  have h1:ts.headD none=none:=by
   cases ts with
   |nil=>rfl
   |cons t r=>
    simp only[List.any_cons,Bool.or_eq_false_iff] at h
    simpa using h.1
  have h2:ts.tail.any Option.isSome=false:=by
   cases ts with
   |nil=>rfl
   |cons t r=>
    simp only[List.any_cons,Bool.or_eq_false_iff] at h
    exact h.2
  simp only[cb,h1,KM,ui ps ts.tail s (n+1) h2]
end
theorem mU {o:Oper} {t:TypeId} {d:Nat} (h:jB o=some (t,d)):o.op= .alloc t/\o.guard=none/\o.dst=some d:=by
 unfold jB at h
 split at h
 ·rename_i h1 h2 h3
  cases h
  exact⟨h1,h2,h3⟩
 ·cases h
theorem w5 {Q:Program} {cf:CF} {ops:List Oper} {s s':S} {o:Oper} {t:TypeId} {d:Nat} (ho:jB o=some (t,d)) (Gp:qj Q t=false) (h:br Q cf ops s o=some s'):
  ∃i zv z s3 v,Q.info? t=some i/\i.zero=some zv/\D.sQ zv=some z/\s.new (site (some d)) (.box t (P.d z).cells)=some (s3,v)/\s3.put (some d) (.ref (site (some d)) v 0)=some s':=by
 obtain⟨h1,h2,h3⟩:=mU ho
 have hg:bj ops o=some none:=by unfold bj;rw[h2]
 unfold br at h
 simp only[hg] at h
 unfold fH at h
 have hc:fY o=none:=by unfold fY;rw[h1]
 have hm:qS o=none:=by unfold qS;rw[h1]
 have hn:cP Q o=none:=by unfold cP;rw[h1]
 have hp:pv Q s o none=none:=by unfold pv;rw[h1]
 simp only[hc] at h
 unfold exec at h
 simp only[hm] at h
 unfold iO at h
 simp only[hn,hp] at h
 unfold ef at h
 simp only[h1] at h
 split at h
 ·rename_i z hz
  unfold dY at hz
  split at hz
  ·rename_i i hi
   split at hz
   ·rename_i zv Fs
    unfold mE at h
    rw[ui _ _ _ _ (by simpa [qj] using Gp)] at h
    simp only at h
    split at h
    ·rename_i s3 v hs
     rw[h3] at h hs
     exact⟨i,zv,z,s3,v,hi,Fs,hz,hs,h⟩
    ·cases h
   ·cases hz
  ·cases hz
 ·cases h
theorem KN {Q:Program} {w:World} {a:Act} {o:Oper} {t:TypeId} {d:Nat} (ho:jB o=some (t,d)) {i:TypeInfo} {zv:Value} (hi:Q.info? t=some i) (hz:i.zero=some zv):
  (execOp a.eval o).run Q w= .ok (.value (.pointer (some ⟨w.heap.size,0,none⟩))) (w.alloc (.cells zv.cells t)):=by
 obtain⟨h1,_,_⟩:=mU ho
 have zI:(zeroValue t).run Q w= .ok zv w:=by simp[zeroValue,typeInfo,hi,hz]
 simp[execOp,h1,Instr.alloc,zI,newVar,newRow]
section
variable {Q:Program} {T:Tg} {cf:CF} {ops:List Oper} {M:List Nat} {St:Nat->S} {r:Option Nat} {m:Nat}
def W7 (ops:List Oper) (m:Nat) (L:Nat->Prop):Prop:= ∀x p,x<m->ops[x]?=some p->1<aA p->L x
def KO (Q:Program) (F:Nat->Prop) (G:Nat->Value) (w0 w:World) (a:Act) (s:S) (t:TypeId) (d:Nat):Prop:=
 ∃b i zv,Q.info? t=some i/\i.zero=some zv/\w.heap[b]?=some (.cells zv.cells t)/\ ¬F b/\ ¬Own G s.rg b/\w0.heap.size<=b/\b<w.heap.size/\a.tmps.getD d undef= .pointer (some ⟨b,0,none⟩)
theorem KO.go {F F1:Nat->Prop} {G G1:Nat->Value} {w0 w w1:World} {a a1:Act} {s s1:S} {t:TypeId} {d:Nat} (h:KO Q F G w0 w a s t d) (hx:Ext (Own G s.rg) (Own G1 s1.rg) F F1 w w1) (ha:a1.tmps.getD d undef=a.tmps.getD d undef):KO Q F1 G1 w0 w1 a1 s1 t d:=by
 obtain⟨b,i,zv,h1,h2,h3,h4,h5,h6,h7,h8⟩:=h
 refine⟨b,i,zv,h1,h2,(hx.keep b h7 h5).trans h3,fun hf=> ?_,fun ho=> ?_,h6,Nat.lt_of_lt_of_le h7 hx.size,ha.trans h8⟩
 ·rcases hx.lS b hf with h |h |h
  ·exact h4 h
  ·exact h5 h
  ·omega
 ·rcases hx.kU b ho with h |h
  ·exact h5 h
  ·omega
theorem qad {F0 F:Nat->Prop} {G0 G:Nat->Value} {w0 w:World} {a:Act} {R0:List (Nat×En)} {s s2:S} {o:Oper} {t:TypeId} {d:Nat} (ho:jB o=some (t,d)) (Gp:qj Q t=false) (hs:br Q cf ops s o=some s2) (h:aB Q T F G w a s)
  (hp:KO Q F G w0 w a s t d) (hx:Ext (Own G0 R0) (Own G s.rg) F0 F w0 w): ∃G2,aB Q T F G2 w a s2/\Ext (Own G0 R0) (Own G2 s2.rg) F0 F w0 w:=by
 obtain⟨b,i,zv,h1,h2,h3,h4,h5,h6,h7,h8⟩:=hp
 obtain⟨i',zv',z,s3,v,k1,k2,k3,k4,k5⟩:=w5 ho Gp hs
 rw[h1] at k1
 cases k1
 rw[h2] at k2
 cases k2
 have Ft:aW F w zv z:=aW.sQ _ _ k3
 obtain⟨c1,c2,c3⟩:=dP Ft
 obtain⟨m1,m2,m3,m4⟩:=h.mat k4 (g1:= .pointer (some ⟨b,0,none⟩)) (b:=b) (fun b' hb=>by simp[bu,aL] at hb;exact hb.symm) h3 h4 h5
  ⟨b,zv.cells,aZ _ _ _,h3,by rw[oA,List.length_map,<-c1];simp,j9 Ft,fun j p hj=>by
   rw[oA,List.getElem?_map,Option.map_eq_some_iff] at hj
   obtain⟨x,hx',rfl⟩:=hj
   have hj2:j<z.cells.length:=(List.getElem?_eq_some_iff.1 hx').1
   have hj3:j<zv.cells.size:=by have:=c1;simp at this;omega
   have hu:zv.cells.toList[j]?=some (zv.cells.getD j undef):=by
    simp[Array.getD,hj3]
   exact .d (c3 j _ x hu hx')⟩
 obtain⟨p1,p2⟩:=ct m1 k5 (v:= .pointer (some ⟨b,0,none⟩)) (cr.of (.ref (site (some d)) v 0 _ ⟨_,m4,Nat.le_refl _,fun _ _=>⟨b,aZ _ _ _,rfl⟩⟩ rfl))
 rw[Oc h8] at p1
 refine⟨_,p1,?_⟩
 rw[p2]
 exact⟨hx.j7,hx.lS,fun b' cU=>by
  rcases m2 b' cU with h |rfl
  ·exact hx.kU b' h
  ·exact .inr h6,hx.keep,hx.size,hx.os,hx.tape,hx.output⟩
theorem Ab (acc:List Nat): ∀(es:List Edge) (e:Edge),e∈es->Region.binds .any e=true->Nat.testBit (jX acc es) e.on=true
 | [],_,h,_=>by cases h
 |e'::r,e,h,hb=>by
  have lor: ∀a b:Nat,Nat.lor a b=a |||b:=fun _ _=>rfl
  have shl: ∀a b:Nat,Nat.shiftLeft a b=a<<<b:=fun _ _=>rfl
  unfold jX
  rcases List.mem_cons.1 h with rfl |h
  ·rw[if_pos hb]
   simp only[lor,shl,Nat.testBit_or,Bool.or_eq_true]
   exact .inl (.inl (by rw[Nat.testBit_shiftLeft];simp))
  ·have ih:=Ab acc r e h hb
   split
   ·simp only[lor,Nat.testBit_or,Bool.or_eq_true]
    exact .inr ih
   ·exact ih
theorem TL (tx:Text Q cf ops M St m) (iV:db Q T.w0 cf) {om:Oper} {tt:TypeId} {td:Nat} (Mt:ops[m]?=some om) (Mu:jB om=some (tt,td)) (Gp:qj Q tt=false) (h0:lk (St 0).tm td=none)
  (C3: ∀i o,ops[i]?=some o->Nat.testBit (M.getD i 0) m=true->W7 ops m fun x=>Nat.testBit (M.getD i 0) x=true)
  {F0:Nat->Prop} {G0:Nat->Value} {w0:World} {s0:S} {Q':Exit->Act->World->Prop} (hK: ∀a' w',iv Q T F0 G0 w0 s0 (St ops.length) a' w'->Q' .normal a' w'):
  ∀(fuel:Nat) (listed:Array Bool) (a:Act) (w:World) (s:S) (F:Nat->Prop) (G:Nat->Value),
  listed.size=ops.length->fuel+listed.toList.count true=ops.length->DT ops (fun j=>listed.getD j false=true)->aB Q T F G w a s->Ext (Own G0 s0.rg) (Own G s.rg) F0 F w0 w->
  ((Inv ops St (fun j=>listed.getD j false=true) s/\(listed.getD m false=true->W7 ops m (fun j=>listed.getD j false=true)))\/
   (listed.getD m false=true/\ ¬W7 ops m (fun j=>listed.getD j false=true)/\Inv ops St (fun j=>listed.getD j false=true/\j≠m) s/\KO Q F G w0 w a s tt td))->
  wpAnyIn (wd r) 0 Q .any ops.toArray Q' fuel listed a w:=by
 obtain⟨Y2,ho2,ho3⟩:=mU Mu
 have Kh:m<ops.length:=(List.getElem?_eq_some_iff.1 Mt).1
 have jx: ∀(i:Nat) (o:Oper),ops.toArray[i]?=some o-> ∀e∈o.after,Region.binds .any e=true->e.on<i:=fun i o ho e he hb=>tx.back (by simpa using ho) he hb
 have fin: ∀(listed:Array Bool) (a:Act) (w:World) (s:S) (F:Nat->Prop) (G:Nat->Value),(∀i,i<ops.length->listed.getD i false=true)->aB Q T F G w a s->Ext (Own G0 s0.rg) (Own G s.rg) F0 F w0 w->
    ((Inv ops St (fun j=>listed.getD j false=true) s/\(listed.getD m false=true->W7 ops m (fun j=>listed.getD j false=true)))\/(listed.getD m false=true/\ ¬W7 ops m (fun j=>listed.getD j false=true)/\Inv ops St (fun j=>listed.getD j false=true/\j≠m) s/\KO Q F G w0 w a s tt td))->Q' .normal a w:=by
  intro listed a w s F G gB h hx hm
  rcases hm with⟨hi,_⟩| ⟨_,dz,_⟩
  · obtain⟨h1,h2,h3⟩:=tx.last hi (fun i o ho=>gB i (List.getElem?_eq_some_iff.1 ho).1)
    exact hK a w ⟨F,G,h.alike h1 h2 h3,by rw[<-h2];exact hx⟩
  · exact absurd (fun x p _ hp _=>gB x (List.getElem?_eq_some_iff.1 hp).1) dz
 intro fuel
 induction fuel with
 |zero=>
  intro listed a w s F G cJ hc hL h hx hm
  have gB: ∀i,i<ops.length->listed.getD i false=true:=fun i bk=>by
    have qt:listed.toList.count true=listed.toList.length:=by rw[Array.length_toList,cJ];omega
    have:=List.count_eq_length.1 qt listed[i] (by simp)
    simp[cJ,bk,<-this]
  refine⟨?_,fin listed a w s F G gB h hx hm⟩
  cases hr:Region.ready .any ops.toArray listed with
  |nil=>rfl
  |cons i r=>
    have hmm:i∈Region.ready .any ops.toArray listed:=by rw[hr];simp
    obtain⟨h0,o,ho,_⟩:=mem_ready.1 hmm
    have bk:i<ops.length:=by
     have:=(Array.getElem?_eq_some_iff.1 ho).1
     simpa using this
    have h1:=gB i bk
    have hl:i<listed.size:=by omega
    simp[hl] at h0 h1
    rw[h0] at h1
    cases h1
 |succ fuel ih=>
  intro listed a w s F G cJ hc hL h hx hm
  refine⟨fun hr=>fin listed a w s F G (fun i bk=>zY (by simp[cJ]) jx hr i (by simpa using bk)) h hx hm,fun i iS=> ?_⟩
  obtain⟨Tb,o,ho,BJ⟩:=mem_ready.1 iS
  have lW:ops[i]?=some o:=by simpa using ho
  have bk:i<ops.length:=(List.getElem?_eq_some_iff.1 lW).1
  have hl:i<listed.size:=by omega
  have b9: ¬listed.getD i false=true:=by
    simp[hl] at Tb⊢
    exact Tb
  have oO: ∀j,((listed.setIfInBounds i true).getD j false=true)↔(listed.getD j false=true\/j=i):=fun j=>by
    by_cases hj:j=i
    ·subst hj;simp[hl]
    ·rw[getD_set_ne false (fun e=>hj e.symm)];simp[hj]
  have KE:fuel+(listed.setIfInBounds i true).toList.count true=ops.length:=by
    have e:(listed.setIfInBounds i true).toList=listed.toList.set i true:=by simp
    rw[e,List.count_set (by simpa using hl)]
    have:(listed.toList[i]'(by simpa using hl)==true)=false:=by
     simp[hl] at b9⊢
     exact b9
    simp only[this]
    simp only[Bool.false_eq_true,if_false,beq_self_eq_true,if_true]
    omega
  have yX:(fun j=>(listed.setIfInBounds i true).getD j false=true)=(fun j=>listed.getD j false=true\/j=i):=funext fun j=>propext (oO j)
  have Iz:DT ops (fun j=>listed.getD j false=true\/j=i):=by
    intro j x hj nS e he hb
    rcases nS with nS |rfl
    ·exact .inl (hL j x hj nS e he hb)
    ·rw[lW] at hj;cases hj
     exact .inl (BJ e he hb)
  have next: ∀(s1:S),br Q cf ops s o=some s1->(∀a1 w1 F1 G1,aB Q T F1 G1 w1 a1 s1->Ext (Own G0 s0.rg) (Own G1 s1.rg) F0 F1 w0 w1->Ext (Own G s.rg) (Own G1 s1.rg) F F1 w w1->(o.dst≠some td->a1.tmps.getD td undef=a.tmps.getD td undef)->wpAnyIn (wd r) 0 Q .any ops.toArray Q' fuel (listed.setIfInBounds i true) a1 w1)->
     wpOpIn (wd r) 0 Q ops.toArray Q' i (wpAnyIn (wd r) 0 Q .any ops.toArray Q' fuel (listed.setIfInBounds i true)) a w:=by
    intro s1 pX lL
    unfold wpOpIn
    rw[ho]
    simp only[]
    by_cases hd:o.dst=some td
    ·have jj:=jN iV h pX (r:=r) (K:=wpAnyIn (wd r) 0 Q .any ops.toArray Q' fuel (listed.setIfInBounds i true)) (Q':=Q') (fun a' w' ⟨F',G',g1,g2⟩=>lL a' w' F' G' g1 (hx.trans g2) g2 fun dz=>absurd hd dz)
     split
     ·rename_i hw;rw[if_pos hw] at jj;exact jj
     ·rename_i hw;rw[if_neg hw] at jj;exact⟨fun _ _=>trivial,jj⟩
    ·have jj:=jN iV h pX (r:=r) (K:=fun a' w'=>a'.tmps.getD td undef=a.tmps.getD td undef->wpAnyIn (wd r) 0 Q .any ops.toArray Q' fuel (listed.setIfInBounds i true) a' w') (Q':=Q') (fun a' w' ⟨F',G',g1,g2⟩ hk=>lL a' w' F' G' g1 (hx.trans g2) g2 fun _=>hk)
     split
     ·rename_i hw;rw[if_pos hw] at jj;exact TK hd jj
     ·rename_i hw;rw[if_neg hw] at jj;exact⟨fun _ _=>trivial,jj (s9 hd)⟩
  rcases hm with⟨hi,Sm⟩| ⟨hLm,dz,hi,hpe⟩
  · by_cases Od:i=m/\ ¬W7 ops m (fun j=>listed.getD j false=true)
    ·
     obtain⟨rfl,dz⟩:=Od
     rw[Mt] at lW
     cases lW
     obtain⟨ii,zv,z,s3,v,k1,k2,_⟩:=w5 Mu Gp (tx.run i om Mt)
     have hs0:lk s.tm td=none:=by
      rw[hi.tm2 td (fun j y hj nS hd=>tx.inj hj Mt (fun e=>b9 (e▸nS)) hd ho3)]
      exact h0
     have bE:=KN (a:=a) (w:=w) Mu k1 k2
     obtain⟨e1,e2⟩:=h.early (cs:=zv.cells) (e:=tt) (v:= .pointer (some ⟨w.heap.size,0,none⟩)) hs0
     unfold wpOpIn
     rw[ho]
     simp only[]
     rw[if_pos (by simp[Region.wanted,ho2])]
     refine r9 (fun c hc=>by rw[Y2] at hc;cases hc) ?_
     rw[bE,Oper.uponIn_value,ho3]
     refine ih _ _ _ s F G (by simp[cJ]) KE (by rw[yX];exact Iz) e1 (hx.trans e2) (.inr ⟨(oO i).2 (.inr rfl),fun hE=>dz fun x p WU hp hk=>((oO x).1 (hE x p WU hp hk)).resolve_right (by omega),?_,?_⟩)
     ·have e:(fun j=>(listed.setIfInBounds i true).getD j false=true/\j≠i)=fun j=>listed.getD j false=true:=funext fun j=>propext ⟨fun hh=>((oO j).1 hh.1).resolve_right hh.2,fun hh=>⟨(oO j).2 (.inl hh),fun e=>b9 (e▸hh)⟩⟩
      rw[e]
      exact hi
     ·have htd:td<a.tmps.size:=by
       obtain⟨R',q',TM⟩:=tx.step Mt
       rw[ho3] at TM
       have hn1:td<(St i).n:=by
        simp only[S.put] at TM
        split at TM
        ·rename_i hb;simp[Nat.blt] at hb;omega
        ·cases TM
       have J5:=(tx.inv i (by omega)).1
       have hn3:=hi.n
       have:=h.size
       omega
      exact⟨w.heap.size,ii,zv,k1,k2,heap_alloc_new w _,fun hf=>by have:=h.iR _ hf;omega,fun hO=>by obtain⟨n,e,he,hb⟩:=hO;have:=(h.rg n e he).lt hb;omega,hx.size,by simp,qac htd⟩
    ·
     have Kf:i=m-> ∀x p,x<m->ops[x]?=some p->1<aA p->listed.getD x false=true:=fun e x p h1 h2 h3=>Classical.byContradiction fun hc=>Od ⟨e,fun hE=>hc (hE x p h1 h2 h3)⟩
     obtain⟨s1,pX,Sl⟩:=tx.go hL hi lW b9 BJ Sm Kf
     refine next s1 pX fun a1 w1 F1 G1 g1 g2 _ _=>ih _ _ _ s1 F1 G1 (by simp[cJ]) KE (by rw[yX];exact Iz) g1 g2 (.inl ⟨by rw[yX];exact Sl,fun hmm x p h1 h2 h3=>(oO x).2 ?_⟩)
     rcases(oO m).1 hmm with hmm |e
     ·exact .inl (Sm hmm x p h1 h2 h3)
     ·exact .inl (Kf e.symm x p h1 h2 h3)
  ·
    have n5:i≠m:=fun e=>b9 (e▸hLm)
    have Oe: ∀(j:Nat) (x:Oper),ops[j]?=some x->(∀e∈x.after,Region.binds .any e=true->listed.getD e.on false=true)-> ∀e∈x.after,Region.binds .any e=true->e.on≠m:=by
     intro j x hj DU e he hb hem
     have Zd:Nat.testBit (M.getD j 0) m=true:=by
      rw[tx.mask hj]
      have:=Ab M x.after.toList e (by simpa using he) hb
      rwa [hem] at this
     exact dz fun y p h1 h2 h3=>tx.sub hL j x hj DU y (C3 j x hj Zd y p h1 h2 h3)
    have hL2:DT ops (fun j=>listed.getD j false=true/\j≠m):=fun j x hj nS e he hb=>⟨hL j x hj nS.1 e he hb,Oe j x hj (hL j x hj nS.1) e he hb⟩
    obtain⟨s1,pX,Sl⟩:=tx.go hL2 hi lW (fun hh=>b9 hh.1) (fun e he hb=>⟨BJ e he hb,Oe i o lW BJ e he hb⟩) (fun hh=>absurd rfl hh.2) (fun e=>absurd e n5)
    have qf2:o.dst≠some td:=fun hd=>tx.inj lW Mt n5 hd ho3
    have qdo:(fun j=>(listed.getD j false=true/\j≠m)\/j=i)=fun j=>(listed.setIfInBounds i true).getD j false=true/\j≠m:=funext fun j=>propext ⟨fun hh=>hh.elim (fun hh=>⟨(oO j).2 (.inl hh.1),hh.2⟩) (fun e=>⟨(oO j).2 (.inr e),by rw[e];exact n5⟩),fun hh=>((oO j).1 hh.1).elim (fun h1=> .inl ⟨h1,hh.2⟩) .inr⟩
    refine next s1 pX fun a1 w1 F1 G1 g1 g2 g3 g4=> ?_
    have sO:=hpe.go g3 (g4 qf2)
    rw[qdo] at Sl
    have qae:(listed.setIfInBounds i true).getD m false=true:=(oO m).2 (.inl hLm)
    by_cases hE:W7 ops m (fun j=>(listed.setIfInBounds i true).getD j false=true)
    ·have qdp:DT ops (fun j=>(listed.setIfInBounds i true).getD j false=true):=by rw[yX];exact Iz
     have qf3:DT ops (fun j=>(listed.setIfInBounds i true).getD j false=true/\j≠m):=by
      rw[<-qdo]
      intro j x hj nS e he hb
      rcases nS with nS |rfl
      ·exact .inl (hL2 j x hj nS e he hb)
      ·rw[lW] at hj;cases hj
       exact .inl ⟨BJ e he hb,Oe _ _ lW BJ e he hb⟩
     obtain⟨s2,hs2,Og⟩:=tx.go qf3 Sl Mt (fun hh=>hh.2 rfl) (fun e he hb=>⟨qdp m om Mt qae e he hb,fun e'=>by have:=tx.back Mt he hb;omega⟩) (fun hh=>absurd rfl hh.2) (fun _ x p h1 h2 h3=>⟨hE x p h1 h2 h3,by omega⟩)
     obtain⟨G2,q1,q2⟩:=qad Mu Gp hs2 g1 sO g2
     refine ih _ _ _ s2 F1 G2 (by simp[cJ]) KE qdp q1 q2 (.inl ⟨?_,fun _=>hE⟩)
     have e:(fun j=>((listed.setIfInBounds i true).getD j false=true/\j≠m)\/j=m)=fun j=>(listed.setIfInBounds i true).getD j false=true:=funext fun j=>propext ⟨fun hh=>hh.elim (·.1) (fun e=>e▸qae),fun hh=>(Classical.em (j=m)).elim .inr fun hn=> .inl ⟨hh,hn⟩⟩
     rw[<-e]
     exact Og
    ·exact ih _ _ _ s1 F1 G1 (by simp[cJ]) KE (by rw[yX];exact Iz) g1 g2 (.inr ⟨qae,hE,Sl,sO⟩)
end
theorem uj {ops:List Oper} {M:List Nat}: ∀(l:List Oper) (j m:Nat) (t:TypeId) (d:Nat),sS ops M j l=some (m,t,d)->j<=m/\ ∃o,l[m-j]?=some o/\jB o=some (t,d)
 | [],_,_,_,_,h=>by cases h
 |o::r,j,m,t,d,h=>by
  unfold sS at h
  have more:sS ops M (j+1) r=some (m,t,d)->j<=m/\ ∃p,(o::r)[m-j]?=some p/\jB p=some (t,d):=fun h=>by
   obtain⟨h1,p,h2,h3⟩:=uj r (j+1) m t d h
   exact⟨by omega,p,by rw[show m-j=(m-(j+1))+1 by omega,List.getElem?_cons_succ];exact h2,h3⟩
  split at h
  ·rename_i t' d' ha
   split at h
   ·exact more h
   ·cases h
    exact⟨Nat.le_refl _,o,by simp,ha⟩
  ·exact more h
theorem D1 {Q:Program} {T:Tg} {cf:CF} (iV:db Q T.w0 cf) {ops:List Oper} {F:Nat->Prop} {G:Nat->Value} {w:World} {a:Act} {s s':S} {r:Option Nat} {Q':Exit->Act->World->Prop}
  (h:aB Q T F G w a s) (hs:rW Q cf ops s=some s') (hK: ∀a' w',iv Q T F G w s s' a' w'->Q' .normal a' w'):wpAnyIn (wd r) 0 Q .any ops.toArray Q' ops.toArray.size (Array.replicate ops.toArray.size false) a {w with drawn:=w.drawn+1}:=by
 unfold rW at hs
 split at hs
 ·rename_i m t d hl
  split at hs
  ·rename_i hc
   obtain⟨ml,Gp,htd⟩:=hc
   split at hs
   ·rename_i s1 l hd
    split at hs
    ·rename_i qab
     simp at hs
     subst hs
     obtain⟨_,om,Mt,Mu⟩:=uj ops 0 m t d hl
     rw[Nat.sub_zero] at Mt
     simp only[A1,Bool.and_eq_true] at ml
     obtain⟨⟨c1,c2⟩,c3⟩:=ml
     have zero: ∀i:Nat,0+i=i:=Nat.zero_add
     obtain⟨St,g1,g2,g3,g4⟩:=lz ops _ _ _ hd
     have tx:Text Q cf ops (masks ops []) St m:=⟨fun i o ho=>by have:=fc ops 0 c1 i o ho;rwa [zero] at this,fun i j x y gn hx hy=>by have:=fL ops 0 c2 i j x y gn hx hy;rwa [zero,zero] at this,g3,fun i j x y gn hx hy jh hb=> .inr (by
      obtain⟨q,hq⟩:=q7 l 0 True qab i j _ _ gn (g4 i x hx) (g4 j y hy)
      rw[zero,zero] at hq
      exact wU (g3 i x hx) (g3 j y hy) jh hb hq)⟩
     have C3: ∀i o,ops[i]?=some o->Nat.testBit ((masks ops []).getD i 0) m=true->W7 ops m fun x=>Nat.testBit ((masks ops []).getD i 0) x=true:=by
      intro i o ho hb x p hx hp hk
      have h1:=fc ops 0 c3 i o ho
      rw[zero] at h1
      simp only[MU,hb,Bool.not_true,Bool.false_or] at h1
      have h2:=fc ops 0 h1 x p hp
      rw[zero] at h2
      simp only[Bool.or_eq_true,Nat.ble_eq] at h2
      rcases h2 with(h2 |h2)|h2
      ·omega
      ·omega
      ·exact h2
     have eJ:(fun j=>(Array.replicate ops.length false).getD j false=true)=fun _=>False:=by
      funext j
      simp only[Array.getD_eq_getD_getElem?,Array.getElem?_replicate]
      split<;>simp
     have qf4: ∀j,(Array.replicate ops.length false).getD j false=true->False:=fun j hj=>by
      have:=congrFun eJ j
      simp only[eq_iff_iff,iff_false] at this
      exact this hj
     have hsr:aB Q T F G {w with drawn:=w.drawn+1} a s:=h.drawn _ (Nat.le_succ _)
     have:=TL (T:=T) (r:=r) tx iV Mt Mu Gp (by rw[g1];exact htd) C3 (F0:=F) (G0:=G) (w0:={w with drawn:=w.drawn+1}) (s0:=s) (Q':=Q')
      (fun a' w' hp=>hK a' w' (by
       obtain⟨F',G',k1,k2⟩:=hp
       rw[g2] at k1 k2
       exact⟨F',G',k1,⟨k2.j7,k2.lS,k2.kU,k2.keep,k2.size,k2.os,k2.tape,k2.output⟩⟩))
      ops.length (Array.replicate ops.length false) a {w with drawn:=w.drawn+1} s F G (by simp) (by
       rw[Array.toList_replicate,List.count_replicate];simp) (by
       rw[eJ];intro i o _ hf;exact hf.elim) hsr (Ext.refl _ _ _)
      (.inl ⟨by
       rw[eJ]
       exact⟨by rw[g1],fun i o t _ hf=>hf.elim,fun t _=>by rw[g1],⟨0,by omega,by rw[g1],fun i o _ _=>by simp⟩⟩,fun hm=>(qf4 _ hm).elim⟩)
     simpa using this
    ·cases hs
   ·cases hs
  ·cases hs
 ·cases hs
theorem GJ {Q:Program} {T:Tg} {cf:CF} (iV:db Q T.w0 cf) (hm:Q.follows .mixedOrders=true) {ops:List Oper} {F:Nat->Prop} {G:Nat->Value} {w:World} {a:Act} {s s':S} {r:Option Nat} {id:Nat} {Q':Exit->Act->World->Prop}
  (h:aB Q T F G w a s) (hs:iI Q cf ops s=some s') (hK: ∀a' w',iv Q T F G w s s' a' w'->Q' .normal a' w'):(Code.region id ops.toArray true).wpIn (wd r) 0 Q Q' a w:=by
 refine wpIn_region_any hm ?_
 unfold iI at hs
 split at hs
 ·split at hs
  ·exact D1 iV h hs hK
  ·have:=uh (r:=r) (Q':=Q') iV h hs hK
   have e:(cI ops).toArray.size=ops.toArray.size:=by simp[cI]
   rw[e] at this
   exact DZ _ _ _ _ this
 ·exact uh iV h hs hK
end Pi
