/- The text PiLate. -/
import Derived.Test.YtdgkdigdflkjhaaGreatDoorPiKOk4
namespace Pi
open Go
theorem wj{a:Act}{dst:Option Nat}{v t}(h:dst≠some t):(a.put dst v).tmps.getD t undef=a.tmps.getD t undef:=by
 cases dst with
 |none=>rfl
 |some d=>have hd:d≠t:=λe=>h (by rw[e]);simp only[Act.put,zaF];rw[zaX hd]
theorem qfJ{a:Act}{t v}(h:t<a.tmps.size):(a.put (some t) v).tmps.getD t undef=v:=by simp[Act.put,Array.getD,h]
theorem UJ{a:Act}{t v}(h:a.tmps.getD t undef=v):a.put (some t) v=a:=by simp only[Act.put];congr 1;refine zc9 λi=> ?_;simp only[zaF] at h;grind
theorem qaD{F n Q}{o:Oper}{a w K Q'}{t:Nat}(cO:o.dst≠some t)
  (h:o.wpIn F n Q a w (λa' w'=>a'.tmps.getD t undef=a.tmps.getD t undef->K a' w') Q'):o.wpIn F n Q a w K Q':=by
 refine⟨h.1,?_⟩;have hh:=h.2;generalize (o.semAt F.round a.eval).run Q w=r at*
 cases r with
 |ok x w'=>
  cases x<;>simp only[Oper.uponIn] at hh⊢ <;>
   first
    |exact hh (wj cO)
    |exact⟨hh.1,CallsIn.mono hh.2 (λe w'' he=>by cases e<;>first |exact he (wj cO)|exact he)⟩
    |exact⟨hh.1,RowsIn.mono hh.2 (λ_ _ he=>he (wj cO))⟩
    |grind [wj]
 |halt x w'=>cases x<;>simp only[Oper.uponIn] at hh⊢ <;>exact hh
section
variable{Q:Program}{T:Tg}{F:Nat->Prop}{G:Nat->Value}{w:World}{a:Act}{s:S}
theorem aC.mat(h:aC Q T F G w a s){n v o s'}(hs:s.new n o=some (s',v)){g1 b cs t}(hb: ∀b',bB g1 o=some b'->b'=b)(hc:w.heap[b]?=some (.cells cs t))(hF: ¬F b)(hO: ¬Own G s.rg b)
  (ho:pZ Q F w (Pi.od G n g1) (ins n ⟨v,none,o⟩ s.rg) n o):
  aC Q T F (Pi.od G n g1) w a s'/\(∀b',Own (Pi.od G n g1) s'.rg b'->Own G s.rg b'\/b'=b)/\Names G (Pi.od G n g1) s.rg s'.rg/\lk s'.rg n=some ⟨v,none,o⟩:=by
 obtain⟨rfl,zM⟩:=S.lP hs;have fV:qF G s.rg n ⟨v,none,o⟩ g1:=λe he=> .inl (zM e he);have hn:=ib fV;have qk: ∀m e,lk (ins n (⟨v,none,o⟩:En) s.rg) m=some e->(m=n/\e=⟨v,none,o⟩)\/(n≠m/\lk s.rg m=some e):=λm e he=>by grind [bE,cc]
 have fB: ∀b',Own (Pi.od G n g1) (ins n (⟨v,none,o⟩:En) s.rg) b'->Own G s.rg b'\/b'=b:=by
  rintro b' ⟨m,e,he,dq⟩;rcases qk m e he with⟨rfl,rfl⟩| ⟨hm,he⟩
  ·rw[bc] at dq;grind
  rw[fa _ (zbx hm)] at dq;exact .inl ⟨m,e,he,dq⟩
 refine⟨⟨⟨h.s7.1,λd hd=> ?_⟩,h.size,λt p hp=>(h.tm t p hp).mono (λ_ h=>h) (λ_ _=>rfl) hn,?_,?_,?_,h.jE,?_,h.z,h.dr,h.sz⟩,fB,hn,bE _ _ _⟩
 ·obtain⟨D,h1,h0,h2,h3,h4⟩:=h.s7.2 d hd;grind
 ·intro m e he;rcases qk m e he with⟨rfl,rfl⟩| ⟨hm,he⟩
  ·exact ho
  exact(h.rg m e he).mono (λ_ h=>h) (λ_ _=>rfl) hn (fa _ (zbx hm)) (λ_ _=>rfl)
 ·intro m1 m2 e e' b' he cR la cP;rcases qk m1 e he with⟨rfl,rfl⟩| ⟨Qs,Hi⟩<;>rcases qk m2 e' cR with⟨rfl,rfl⟩| ⟨H6,he2⟩
  ·rfl
  ·rw[bc] at la;rw[fa _ (zbx H6)] at cP;rw[hb b' la] at cP;exact absurd ⟨m2,e',he2,cP⟩ hO
  ·rw[bc] at cP;rw[fa _ (zbx Qs)] at la;rw[hb b' cP] at la;exact absurd ⟨m1,e,Hi,la⟩ hO
  rw[fa _ (zbx Qs)] at la;rw[fa _ (zbx H6)] at cP;exact h.own _ _ _ _ b' Hi he2 la cP
 ·intro m e b' he dq Ct;rcases qk m e he with⟨rfl,rfl⟩| ⟨hm,he⟩
  ·rw[bc] at dq;rw[hb b' dq] at Ct;exact hF Ct
  rw[fa _ (zbx hm)] at dq;exact h.nA m e b' he dq Ct
 intro m e i he hi hl;rcases qk m e he with⟨rfl,rfl⟩| ⟨hm,he⟩
 ·cases hi
 rw[fa _ (zbx hm)];exact h.tag m e i he hi hl
theorem aC.early(h:aC Q T F G w a s){cs e d v}(hd:lk s.tm d=none):aC Q T F G (w.alloc (.cells cs e)) (a.put (some d) v) s/\Ext (Own G s.rg) (Own G s.rg) F F w (w.alloc (.cells cs e)):=by
 have hk: ∀b,b<w.heap.size->(w.alloc (.cells cs e)).heap[b]?=w.heap[b]?:=λb hb=>x9 w _ b hb;have dS:(w.alloc (.cells cs e)).heap.size=w.heap.size+1:=by simp
 have hx:Ext (Own G s.rg) (Own G s.rg) F F w (w.alloc (.cells cs e)):=⟨λ_ h=>h,λ_ h=> .inl h,λ_=> .inl,λb hb _=>hk b hb,by omega,rfl,rfl,rfl⟩
 refine⟨⟨h.s7.go hx,by simpa [Act.put] using h.size,λt p hp=> ?_,λn e he=>(h.rg n e he).mono (λ_ h=>h) (λb hb=>hk b (h.jE b hb)) (Names.refl _ _) rfl (λb hb=>hk b ((h.rg n e he).lt hb)),h.own,h.nA,λb hb=>by have:=h.jE b hb;omega,h.tag,λb hb=>⟨(h.z b hb).1,(hk b (h.jE b (h.z b hb).1)).trans (h.z b hb).2⟩,h.dr,zaL h.sz hx.size⟩,hx⟩;have cO:(some d:Option Nat)≠some t:=λe=>by grind
 rw[wj cO];exact cE.mono (λ_ h=>h) (λb hb=>hk b (h.jE b hb)) (Names.refl _ _) (h.tm t p hp)
theorem QQ s n p:uj s n p none=some (s,p):=by
 cases p with
 |d x=>cases x<;>rfl
 |_=>rfl
theorem xl: ∀ps ts s n,ts.any Option.isSome=false->cw s n ps ts=some (s,ps)
 | [],_,_,_,_=>rfl
 |p::ps,ts,s,n,h=>by
  have h1:ts.headD none=none:=by
   cases ts with
   |nil=>rfl
   |cons t r=>simp_all
  have h2:ts.tail.any Option.isSome=false:=by
   cases ts with
   |nil=>rfl
   |cons t r=>grind
  simp only[cw,h1,QQ,xl ps ts.tail s (n+1) h2]
end
theorem pg{o t d}(h:kN o=some (t,d)):o.op= .alloc t/\o.guard=none/\o.dst=some d:=by grind [kN]
theorem Aq{Q cf ops s s'}{o t d}(ho:kN o=some (t,d))(Dz:sg Q t=false)(h:bu Q cf ops s o=some s'):
  ∃i zv z s3 v,Q.info? t=some i/\i.zero=some zv/\D.vQ zv=some z/\s.new (site (some d)) (.box t (P.d z).cells)=some (s3,v)/\s3.put (some d) (.ref (site (some d)) v 0)=some s':=by
 obtain⟨h1,h2,h3⟩:=pg ho;have hg:br ops o=some none:=by unfold br;rw[h2]
 unfold bu at h;simp only[hg] at h;unfold gI at h;have hc:gV o=none:=by unfold gV;rw[h1]
 have hm:sZ o=none:=by unfold sZ;rw[h1]
 have hn:dn Q o=none:=by unfold dn;rw[h1]
 have hp:pv Q s o none=none:=by unfold pv;rw[h1]
 simp only[hc] at h;unfold exec at h;simp only[hm] at h;unfold jK at h;simp only[hn,hp] at h;unfold ef at h;grind [eK,oV,xl,sg]
theorem QR{Q w}{a:Act}{o t d}(ho:kN o=some (t,d)){i zv}(hi:Q.info? t=some i)(hz:i.zero=some zv):
  (execOp a.eval o).run Q w= .ok (.value (.pointer (some ⟨w.heap.size,0,none⟩))) (w.alloc (.cells zv.cells t)):=by
 obtain⟨h1,_,_⟩:=pg ho;have Dt:(zeroValue t).run Q w= .ok zv w:=by simp[zeroValue,typeInfo,hi,hz]
 simp[execOp,h1,Instr.alloc,Dt,newVar,newRow]
section
variable{Q:Program}{T:Tg}{cf:CF}{ops:List Oper}{M:List Nat}{St:Nat->S}{r:Option Nat}{m:Nat}
def Eff(ops:List Oper) m (L:Nat->Prop):= ∀x p,x<m->ops[x]?=some p->1<aB p->L x
def QS(Q:Program)(F:Nat->Prop) G (w0 w:World)(a:Act)(s:S) t d:=
 ∃b i zv,Q.info? t=some i/\i.zero=some zv/\w.heap[b]?=some (.cells zv.cells t)/\ ¬F b/\ ¬Own G s.rg b/\w0.heap.size<=b/\b<w.heap.size/\a.tmps.getD d undef= .pointer (some ⟨b,0,none⟩)
theorem QS.go{F F1 G G1 w0 w w1 a a1}{s s1 t d}(h:QS Q F G w0 w a s t d)(hx:Ext (Own G s.rg) (Own G1 s1.rg) F F1 w w1)(ha:a1.tmps.getD d undef=a.tmps.getD d undef):QS Q F1 G1 w0 w1 a1 s1 t d:=by
 obtain⟨b,i,zv,h1,h2,h3,h4,h5,h6,h7,h8⟩:=h;refine⟨b,i,zv,h1,h2,(hx.keep b h7 h5).trans h3,λhf=> ?_,λho=> ?_,h6,zbf h7 hx.size,ha.trans h8⟩
 ·rcases hx.n9 b hf with h |h |h
  ·exact h4 h
  ·exact h5 h
  omega
 rcases hx.mH b ho with h |h
 ·exact h5 h
 omega
theorem qfK{F0 F G0 G w0 w a}{R0 s s2 o t}{d}(ho:kN o=some (t,d))(Dz:sg Q t=false)(hs:bu Q cf ops s o=some s2)(h:aC Q T F G w a s)
  (hp:QS Q F G w0 w a s t d) (hx:Ext (Own G0 R0) (Own G s.rg) F0 F w0 w): ∃G2,aC Q T F G2 w a s2/\Ext (Own G0 R0) (Own G2 s2.rg) F0 F w0 w:=by
 obtain⟨b,i,zv,h1,h2,h3,h4,h5,h6,h7,h8⟩:=hp;obtain⟨i',zv',z,s3,v,k1,k2,k3,k4,k5⟩:=Aq ho Dz hs;rw[h1] at k1;cases k1;rw[h2] at k2;cases k2;have E5:aY F w zv z:=aY.vQ _ _ k3;obtain⟨c1,c2,c3⟩:=eB E5;obtain⟨m1,m2,m3,m4⟩:=h.mat k4 (g1:= .pointer (some ⟨b,0,none⟩)) (b:=b) (λb' hb=>by grind [bB,aO]) h3 h4 h5
  ⟨b,zv.cells,bc _ _ _,h3,by rw[qD,zaa,<-c1];simp,lK E5,λj p hj=>by
   rw[qD,zaN,zay] at hj;obtain⟨x,hx',rfl⟩:=hj;have hj3:j<zv.cells.size:=by grind
   have hu:zv.cells.toList[j]?=some (zv.cells.getD j undef):=by simp_all
   exact .d (c3 j _ x hu hx')⟩
 obtain⟨p1,p2⟩:=cy m1 k5 (v:= .pointer (some ⟨b,0,none⟩)) (cE.of (.ref (site (some d)) v 0 _ ⟨_,m4,zal _,λ_ _=>⟨b,bc _ _ _,rfl⟩⟩ rfl));rw[UJ h8] at p1;refine⟨_,p1,?_⟩;rw[p2];exact⟨hx.lH,hx.n9,λb' dq=>by
  rcases m2 b' dq with h |rfl
  ·exact hx.mH b' h
  grind,hx.keep,hx.size,hx.os,hx.tape,hx.output⟩
theorem DN acc: ∀es e,e∈es->Region.binds .any e=true->Nat.testBit (lB acc es) e.on=true
 | [],_,h,_=>by cases h
 |e'::r,e,h,hb=>by
  have lor: ∀a b:Nat,Nat.lor a b=a |||b:=λ_ _=>rfl
  unfold lB;rcases zat.1 h with rfl |h
  ·rw[zap hb];simp
  have ih:=DN acc r e h hb;grind
theorem qaE(tx:Text Q cf ops M St m)(jO:cz Q T.w0 cf){om tt td}(Sz:ops[m]?=some om)(N0:kN om=some (tt,td))(Dz:sg Q tt=false)(h0:lk (St 0).tm td=none)
  (Hj: ∀i o,ops[i]?=some o->Nat.testBit (M.getD i 0) m=true->Eff ops m λx=>Nat.testBit (M.getD i 0) x=true)
  {F0 G0 w0 s0} {Q'} (hK: ∀a' w',jo Q T F0 G0 w0 s0 (St ops.length) a' w'->Q' .normal a' w'):
  ∀fuel listed a w s F G,
  listed.size=ops.length->fuel+listed.toList.count true=ops.length->Is ops (λj=>listed.getD j false=true)->aC Q T F G w a s->Ext (Own G0 s0.rg) (Own G s.rg) F0 F w0 w->
  ((Inv ops St (λj=>listed.getD j false=true) s/\(listed.getD m false=true->Eff ops m (λj=>listed.getD j false=true)))\/
   (listed.getD m false=true/\ ¬Eff ops m (λj=>listed.getD j false=true)/\Inv ops St (λj=>listed.getD j false=true/\j≠m) s/\QS Q F G w0 w a s tt td))->
  wpAnyIn (wd r) 0 Q .any ops.toArray Q' fuel listed a w:=by
 obtain⟨ho1,SA,ho3⟩:=pg N0;have hml:m<ops.length:=(zae.1 Sz).1;have kI: ∀(i:Nat) (o:Oper),ops.toArray[i]?=some o-> ∀e∈o.after,Region.binds .any e=true->e.on<i:=λi o ho e he hb=>tx.back (by simpa using ho) he hb;have fin: ∀(listed:Array Bool) (a:Act) (w:World) (s:S) (F:Nat->Prop) (G:Nat->Value),(∀i,i<ops.length->listed.getD i false=true)->aC Q T F G w a s->Ext (Own G0 s0.rg) (Own G s.rg) F0 F w0 w->
    ((Inv ops St (λj=>listed.getD j false=true) s/\(listed.getD m false=true->Eff ops m (λj=>listed.getD j false=true)))\/(listed.getD m false=true/\ ¬Eff ops m (λj=>listed.getD j false=true)/\Inv ops St (λj=>listed.getD j false=true/\j≠m) s/\QS Q F G w0 w a s tt td))->Q' .normal a w:=by
  intro listed a w s F G ix h hx hm;rcases hm with⟨hi,_⟩| ⟨_,cO,_⟩
  · obtain⟨h1,h2,h3⟩:=tx.last hi (λi o ho=>ix i (zae.1 ho).1);exact hK a w ⟨F,G,h.alike h1 h2 h3,by rw[<-h2];exact hx⟩
  exact absurd (λx p _ hp _=>ix x (zae.1 hp).1) cO
 intro fuel
 induction fuel with
 |zero=>
  intro listed a w s F G dS hc hL h hx hm;have ix: ∀i,i<ops.length->listed.getD i false=true:=λi bK=>by
    have oN:listed.toList.count true=listed.toList.length:=by rw[zc5,dS];omega
    have:=List.count_eq_length.1 oN listed[i] (by simp);simp[dS,bK,<-this]
  refine⟨?_,fin listed a w s F G ix h hx hm⟩;cases hr:Region.ready .any ops.toArray listed with
  |nil=>rfl
  |cons i r=>
    have hmm:i∈Region.ready .any ops.toArray listed:=by rw[hr];simp
    obtain⟨h0,o,ho,_⟩:=mem_ready.1 hmm;have bK:i<ops.length:=by have:=(zax.1 ho).1;simpa using this
    have h1:=ix i bK;have hl:i<listed.size:=by omega
    simp[hl] at h0 h1;rw[h0] at h1;cases h1
 |succ fuel ih=>
  intro listed a w s F G dS hc hL h hx hm;refine⟨λhr=>fin listed a w s F G (λi bK=>DI (by simp[dS]) kI hr i (by simpa using bK)) h hx hm,λi dB=> ?_⟩;obtain⟨hl0,o,ho,Fz⟩:=mem_ready.1 dB;have gK:ops[i]?=some o:=by simpa using ho
  have bK:i<ops.length:=(zae.1 gK).1;have hl:i<listed.size:=by omega
  have bI: ¬listed.getD i false=true:=by simp[hl] at hl0⊢;exact hl0
  have lS: ∀j,((listed.setIfInBounds i true).getD j false=true)↔(listed.getD j false=true\/j=i):=λj=>by
    by_cases hj:j=i
    ·subst hj;simp[hl]
    rw[getD_set_ne false (λe=>hj e.symm)];simp[hj]
  have CC:fuel+(listed.setIfInBounds i true).toList.count true=ops.length:=by
    have e:(listed.setIfInBounds i true).toList=listed.toList.set i true:=by simp
    rw[e,List.count_set (by simpa using hl)];have:(listed.toList[i]'(by simpa using hl)==true)=false:=by simp[hl] at bI⊢;exact bI
    simp only[this];simp only[zaE,zbn,zbA,zbo];omega
  have wg:(λj=>(listed.setIfInBounds i true).getD j false=true)=(λj=>listed.getD j false=true\/j=i):=funext λj=>propext (lS j);have N1:Is ops (λj=>listed.getD j false=true\/j=i):=by
    intro j x hj p8 e he hb;rcases p8 with p8 |rfl
    ·exact .inl (hL j x hj p8 e he hb)
    rw[gK] at hj;cases hj;exact .inl (Fz e he hb)
  have next: ∀(s1:S),bu Q cf ops s o=some s1->(∀a1 w1 F1 G1,aC Q T F1 G1 w1 a1 s1->Ext (Own G0 s0.rg) (Own G1 s1.rg) F0 F1 w0 w1->Ext (Own G s.rg) (Own G1 s1.rg) F F1 w w1->(o.dst≠some td->a1.tmps.getD td undef=a.tmps.getD td undef)->wpAnyIn (wd r) 0 Q .any ops.toArray Q' fuel (listed.setIfInBounds i true) a1 w1)->
     wpOpIn (wd r) 0 Q ops.toArray Q' i (wpAnyIn (wd r) 0 Q .any ops.toArray Q' fuel (listed.setIfInBounds i true)) a w:=by
    intro s1 s9 lI;unfold wpOpIn;rw[ho];simp only[];by_cases hd:o.dst=some td
    ·have kH:=lg jO h s9 (r:=r) (K:=wpAnyIn (wd r) 0 Q .any ops.toArray Q' fuel (listed.setIfInBounds i true)) (Q':=Q') (λa' w' ⟨F',G',g1,g2⟩=>lI a' w' F' G' g1 (hx.trans g2) g2 λcO=>absurd hd cO);split
     next hw=>rw[zap hw] at kH;exact kH
     rename_i hw;rw[zan hw] at kH;exact⟨λ_ _=>trivial,kH⟩
    have kH:=lg jO h s9 (r:=r) (K:=λa' w'=>a'.tmps.getD td undef=a.tmps.getD td undef->wpAnyIn (wd r) 0 Q .any ops.toArray Q' fuel (listed.setIfInBounds i true) a' w') (Q':=Q') (λa' w' ⟨F',G',g1,g2⟩ hk=>lI a' w' F' G' g1 (hx.trans g2) g2 λ_=>hk);split
    next hw=>rw[zap hw] at kH;exact qaD hd kH
    rename_i hw;rw[zan hw] at kH;exact⟨λ_ _=>trivial,kH (wj hd)⟩
  rcases hm with⟨hi,hme⟩| ⟨hLm,cO,hi,hpe⟩
  · by_cases UK:i=m/\ ¬Eff ops m (λj=>listed.getD j false=true)
    ·
     obtain⟨rfl,cO⟩:=UK;rw[Sz] at gK;cases gK;obtain⟨ii,zv,z,s3,v,k1,k2,_⟩:=Aq N0 Dz (tx.run i om Sz);have hs0:lk s.tm td=none:=by rw[hi.tm2 td (λj y hj p8 hd=>tx.inj hj Sz (λe=>bI (e▸p8)) hd ho3)];exact h0
     have ca:=QR (a:=a) (w:=w) N0 k1 k2;obtain⟨e1,e2⟩:=h.early (cs:=zv.cells) (e:=tt) (v:= .pointer (some ⟨w.heap.size,0,none⟩)) hs0;unfold wpOpIn;rw[ho];simp only[];rw[zap (by simp[Region.wanted,SA])];refine uF (λc hc=>by rw[ho1] at hc;cases hc) ?_;rw[ca,Oper.uponIn_value,ho3];refine ih _ _ _ s F G (by simp[dS]) CC (by rw[wg];exact N1) e1 (hx.trans e2) (.inr ⟨(lS i).2 (.inr rfl),λhE=>cO λx p hxm hp hk=>((lS x).1 (hE x p hxm hp hk)).resolve_right (by omega),?_,?_⟩)
     ·have e:(λj=>(listed.setIfInBounds i true).getD j false=true/\j≠i)=λj=>listed.getD j false=true:=funext λj=>propext ⟨λhh=>((lS j).1 hh.1).resolve_right hh.2,λhh=>⟨(lS j).2 (.inl hh),λe=>bI (e▸hh)⟩⟩;rw[e];exact hi
     have htd:td<a.tmps.size:=by
      obtain⟨R',q',qaF⟩:=tx.step Sz;rw[ho3] at qaF;have vM:td<(St i).n:=by
       simp only[S.put] at qaF;split at qaF
       next hb=>simp[Nat.blt] at hb;omega
       cases qaF
      have hn2:=(tx.inv i (by omega)).1;have hn3:=hi.n;have:=h.size;omega
     exact⟨w.heap.size,ii,zv,k1,k2,heap_alloc_new w _,λhf=>by have:=h.jE _ hf;omega,λhO=>by obtain⟨n,e,he,hb⟩:=hO;have:=(h.rg n e he).lt hb;omega,hx.size,by simp,qfJ htd⟩
    have H6:i=m-> ∀x p,x<m->ops[x]?=some p->1<aB p->listed.getD x false=true:=λe x p h1 h2 h3=>zaZ λhc=>UK ⟨e,λhE=>hc (hE x p h1 h2 h3)⟩;obtain⟨s1,s9,Hk⟩:=tx.go hL hi gK bI Fz hme H6;refine next s1 s9 λa1 w1 F1 G1 g1 g2 _ _=>ih _ _ _ s1 F1 G1 (by simp[dS]) CC (by rw[wg];exact N1) g1 g2 (.inl ⟨by rw[wg];exact Hk,λhmm x p h1 h2 h3=>(lS x).2 ?_⟩);rcases(lS m).1 hmm with hmm |e
    ·exact .inl (hme hmm x p h1 h2 h3)
    exact .inl (H6 e.symm x p h1 h2 h3)
  have gQ:i≠m:=λe=>bI (e▸hLm);have yM: ∀(j:Nat) (x:Oper),ops[j]?=some x->(∀e∈x.after,Region.binds .any e=true->listed.getD e.on false=true)-> ∀e∈x.after,Region.binds .any e=true->e.on≠m:=by
   intro j x hj Iv e he hb hem;have qfE:Nat.testBit (M.getD j 0) m=true:=by rw[tx.mask hj];have:=DN M x.after.toList e (by simpa using he) hb;rwa [hem] at this
   exact cO λy p h1 h2 h3=>tx.sub hL j x hj Iv y (Hj j x hj qfE y p h1 h2 h3)
  have hL2:Is ops (λj=>listed.getD j false=true/\j≠m):=λj x hj p8 e he hb=>⟨hL j x hj p8.1 e he hb,yM j x hj (hL j x hj p8.1) e he hb⟩
  obtain⟨s1,s9,Hk⟩:=tx.go hL2 hi gK (λhh=>bI hh.1) (λe he hb=>⟨Fz e he hb,yM i o gK Fz e he hb⟩) (λhh=>absurd rfl hh.2) (λe=>absurd e gQ);have qno:o.dst≠some td:=λhd=>tx.inj gK Sz gQ hd ho3;have qiG:(λj=>(listed.getD j false=true/\j≠m)\/j=i)=λj=>(listed.setIfInBounds i true).getD j false=true/\j≠m:=funext λj=>propext ⟨λhh=>hh.elim (λhh=>⟨(lS j).2 (.inl hh.1),hh.2⟩) (λe=>⟨(lS j).2 (.inr e),by rw[e];exact gQ⟩),λhh=>((lS j).1 hh.1).elim (λh1=> .inl ⟨h1,hh.2⟩) .inr⟩;refine next s1 s9 λa1 w1 F1 G1 g1 g2 g3 g4=> ?_;have yN:=hpe.go g3 (g4 qno);rw[qiG] at Hk;have qfL:(listed.setIfInBounds i true).getD m false=true:=(lS m).2 (.inl hLm);by_cases hE:Eff ops m (λj=>(listed.setIfInBounds i true).getD j false=true)
  ·have qiH:Is ops (λj=>(listed.setIfInBounds i true).getD j false=true):=by rw[wg];exact N1
   have qnp:Is ops (λj=>(listed.setIfInBounds i true).getD j false=true/\j≠m):=by
    rw[<-qiG];intro j x hj p8 e he hb;rcases p8 with p8 |rfl
    ·exact .inl (hL2 j x hj p8 e he hb)
    rw[gK] at hj;cases hj;exact .inl ⟨Fz e he hb,yM _ _ gK Fz e he hb⟩
   obtain⟨s2,hs2,hi2⟩:=tx.go qnp Hk Sz (λhh=>hh.2 rfl) (λe he hb=>⟨qiH m om Sz qfL e he hb,λe'=>by have:=tx.back Sz he hb;omega⟩) (λhh=>absurd rfl hh.2) (λ_ x p h1 h2 h3=>⟨hE x p h1 h2 h3,by omega⟩);obtain⟨G2,q1,q2⟩:=qfK N0 Dz hs2 g1 yN g2;refine ih _ _ _ s2 F1 G2 (by simp[dS]) CC qiH q1 q2 (.inl ⟨?_,λ_=>hE⟩);have e:(λj=>((listed.setIfInBounds i true).getD j false=true/\j≠m)\/j=m)=λj=>(listed.setIfInBounds i true).getD j false=true:=funext λj=>propext ⟨λhh=>hh.elim (·.1) (λe=>e▸qfL),λhh=>(Classical.em (j=m)).elim .inr λhn=> .inl ⟨hh,hn⟩⟩;rw[<-e];exact hi2
  exact ih _ _ _ s1 F1 G1 (by simp[dS]) CC (by rw[wg];exact N1) g1 g2 (.inr ⟨qfL,hE,Hk,yN⟩)
end
theorem xn{ops M}: ∀l j m t d,vT ops M j l=some (m,t,d)->j<=m/\ ∃o,l[m-j]?=some o/\kN o=some (t,d)
 | [],_,_,_,_,h=>by cases h
 |o::r,j,m,t,d,h=>by
  unfold vT at h;have more:vT ops M (j+1) r=some (m,t,d)->j<=m/\ ∃p,(o::r)[m-j]?=some p/\kN p=some (t,d):=λh=>by obtain⟨h1,p,h2,h3⟩:=xn r (j+1) m t d h;exact⟨by omega,p,by rw[show m-j=(m-(j+1))+1 by omega,zcK];exact h2,h3⟩
  split at h
  next t' d' ha=>
   split at h
   ·exact more h
   cases h;exact⟨zal _,o,by simp,ha⟩
  exact more h
theorem IC{Q T cf}(jO:cz Q T.w0 cf){ops F G w}{a s s' r Q'}
  (h:aC Q T F G w a s) (hs:ur Q cf ops s=some s') (hK: ∀a' w',jo Q T F G w s s' a' w'->Q' .normal a' w'):wpAnyIn (wd r) 0 Q .any ops.toArray Q' ops.toArray.size (Array.replicate ops.toArray.size false) a {w with drawn:=w.drawn+1}:=by
 unfold ur at hs;split at hs
 next m t d hl=>
  split at hs
  next hc=>
   obtain⟨oc,Dz,htd⟩:=hc;split at hs
   ·rename_i s1 l hd;split at hs
    ·rename_i qfI;simp at hs;subst hs;obtain⟨_,om,Sz,N0⟩:=xn ops 0 m t d hl;rw[Nat.sub_zero] at Sz;simp only[EX,zac] at oc;obtain⟨⟨c1,c2⟩,c3⟩:=oc;have zero: ∀i:Nat,0+i=i:=zaD;obtain⟨St,g1,g2,g3,g4⟩:=nG ops _ _ _ hd;have tx:Text Q cf ops (masks ops []) St m:=⟨λi o ho=>by have:=fG ops 0 c1 i o ho;rwa [zero] at this,λi j x y rY hx hy=>by have:=gJ ops 0 c2 i j x y rY hx hy;rwa [zero,zero] at this,g3,λi j x y rY hx hy kj hb=> .inr (by obtain⟨q,hq⟩:=tu l 0 True qfI i j _ _ rY (g4 i x hx) (g4 j y hy);rw[zero,zero] at hq;exact Ak (g3 i x hx) (g3 j y hy) kj hb hq)⟩
     have Hj: ∀i o,ops[i]?=some o->Nat.testBit ((masks ops []).getD i 0) m=true->Eff ops m λx=>Nat.testBit ((masks ops []).getD i 0) x=true:=by
      intro i o ho hb x p hx hp hk;have h1:=fG ops 0 c3 i o ho;rw[zero] at h1;simp only[Tt,hb,zdB,zby] at h1;have h2:=fG ops 0 h1 x p hp;rw[zero] at h2;simp only[za8,zcf] at h2;rcases h2 with(h2 |h2)|h2
      ·omega
      ·omega
      exact h2
     have gC:(λj=>(Array.replicate ops.length false).getD j false=true)=λ_=>False:=by funext j;simp only[zaF,zdz];split<;>simp
     have qnq: ∀j,(Array.replicate ops.length false).getD j false=true->False:=λj hj=>by have:=congrFun gC j;simp only[eq_iff_iff,iff_false] at this;exact this hj
     have hsr:aC Q T F G {w with drawn:=w.drawn+1} a s:=h.drawn _ (zdv _);have:=qaE (T:=T) (r:=r) tx jO Sz N0 Dz (by rw[g1];exact htd) Hj (F0:=F) (G0:=G) (w0:={w with drawn:=w.drawn+1}) (s0:=s) (Q':=Q')
      (λa' w' hp=>hK a' w' (by obtain⟨F',G',k1,k2⟩:=hp;rw[g2] at k1 k2;exact⟨F',G',k1,⟨k2.lH,k2.n9,k2.mH,k2.keep,k2.size,k2.os,k2.tape,k2.output⟩⟩))
      ops.length (Array.replicate ops.length false) a {w with drawn:=w.drawn+1} s F G (by simp) (by
       rw[Array.toList_replicate,List.count_replicate];simp) (by
       rw[gC];intro i o _ hf;exact hf.elim) hsr (Ext.refl _ _ _)
      (.inl ⟨by rw[gC];exact⟨by rw[g1],λi o t _ hf=>hf.elim,λt _=>by rw[g1],⟨0,by omega,by rw[g1],λi o _ _=>by simp⟩⟩,λhm=>(qnq _ hm).elim⟩)
     simpa using this
    cases hs
   cases hs
  cases hs
 cases hs
theorem L9{Q T cf}(jO:cz Q T.w0 cf)(hm:Q.follows .mixedOrders=true){ops F G w}{a s s' r id}{Q'}
  (h:aC Q T F G w a s) (hs:jC Q cf ops s=some s') (hK: ∀a' w',jo Q T F G w s s' a' w'->Q' .normal a' w'):(Code.region id ops.toArray true).wpIn (wd r) 0 Q Q' a w:=by
 refine wpIn_region_any hm ?_;unfold jC at hs;split at hs
 ·split at hs
  ·exact IC jO h hs hK
  have:=xj (r:=r) (Q':=Q') jO h hs hK;have e:(da ops).toArray.size=ops.toArray.size:=by simp[da]
  rw[e] at this;exact IA _ _ _ _ this
 exact xj jO h hs hK
end Pi
