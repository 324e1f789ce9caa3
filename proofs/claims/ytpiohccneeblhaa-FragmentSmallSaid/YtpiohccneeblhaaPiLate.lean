/- The text PiLate. -/
import Derived.Test.YtpiohccneeblhaaPiKOk4
namespace Pi
open Go
theorem nB{a:Act}{dst:Option Nat}{v:Value}{t:Nat}(h:dst≠some t):(a.put dst v).tmps.getD t undef=a.tmps.getD t undef:=by
 cases dst with
 |none=>rfl
 |some d=>have hd:d≠t:=λe=>h (by rw[e]);simp only[Act.put,zav];rw[zaC hd]
theorem Hv{a:Act}{t:Nat}{v:Value}(h:t<a.tmps.size):(a.put (some t) v).tmps.getD t undef=v:=by simp[Act.put,Array.getD,h]
theorem C8{a:Act}{t:Nat}{v:Value}(h:a.tmps.getD t undef=v):a.put (some t) v=a:=by simp only[Act.put];congr 1;refine Array.ext_getElem? λi=> ?_;simp only[zav] at h;grind
theorem Fh{F:Fence}{n:Nat}{Q:Program}{o:Oper}{a:Act}{w:World}{K:Act->World->Prop}{Q':Exit->Act->World->Prop}{t:Nat}(ca:o.dst≠some t)
  (h:o.wpIn F n Q a w (λa' w'=>a'.tmps.getD t undef=a.tmps.getD t undef->K a' w') Q'):o.wpIn F n Q a w K Q':=by
 refine⟨h.1,?_⟩;have hh:=h.2;generalize (o.semAt F.round a.eval).run Q w=r at*
 cases r with
 |ok x w'=>
  cases x<;>simp only[Oper.uponIn] at hh⊢ <;>
   first
    |exact hh (nB ca)
    |exact⟨hh.1,CallsIn.mono hh.2 (λe Om he=>by cases e<;>first |exact he (nB ca)|exact he)⟩
    |exact⟨hh.1,RowsIn.mono hh.2 (λ_ _ he=>he (nB ca))⟩
    |grind [nB]
 |halt x w'=>cases x<;>simp only[Oper.uponIn] at hh⊢ <;>exact hh
section
variable{Q:Program}{T:Tg}{F:Nat->Prop}{G:Nat->Value}{w:World}{a:Act}{s:S}
theorem aq.PK(h:aq Q T F G w a s){n v:Nat}{o:Obj}{s':S}(hs:s.new n o=some (s',v)){g1:Value}{b:Nat}{cs:Array Value}{t:TypeId}(hb: ∀b',ay g1 o b'->b'=b)(hc:w.heap[b]?=some (.cells cs t))(hF: ¬F b)(hO: ¬Own G s.rg b)
  (ho:eO Q F w (Pi.iH G n g1) (ins n ⟨v,none,o⟩ s.rg) n o):
  aq Q T F (Pi.iH G n g1) w a s'/\(∀b',Own (Pi.iH G n g1) s'.rg b'->Own G s.rg b'\/b'=b)/\Names G (Pi.iH G n g1) s.rg s'.rg/\lk s'.rg n=some ⟨v,none,o⟩:=by
 obtain⟨rfl,pO⟩:=S.gO hs;have bX:jJ G s.rg n ⟨v,none,o⟩ g1:=λe he=> .inl (pO e he);have hn:=cI bX;have jZ: ∀m e,lk (ins n (⟨v,none,o⟩:En) s.rg) m=some e->(m=n/\e=⟨v,none,o⟩)\/(n≠m/\lk s.rg m=some e):=λm e he=>by grind [aH,aV]
 have cA: ∀b',Own (Pi.iH G n g1) (ins n (⟨v,none,o⟩:En) s.rg) b'->Own G s.rg b'\/b'=b:=by
  rintro b' ⟨m,e,he,cb⟩;rcases jZ m e he with⟨rfl,rfl⟩| ⟨hm,he⟩
  ·rw[aC] at cb;grind
  rw[da _ (za5 hm)] at cb;exact .inl ⟨m,e,he,cb⟩
 refine⟨⟨⟨h.mf.1,λd hd=> ?_⟩,h.size,λt p hp=>(h.tm t p hp).mono (λ_ h=>h) (λ_ _=>rfl) hn,?_,?_,?_,h.fw,?_,h.z,h.dr,h.sz⟩,cA,hn,aH _ _ _⟩
 ·obtain⟨D,h1,h0,h2,h3,h4⟩:=h.mf.2 d hd;grind
 ·intro m e he;rcases jZ m e he with⟨rfl,rfl⟩| ⟨hm,he⟩
  ·exact ho
  exact(h.rg m e he).mono (λ_ h=>h) (λ_ _=>rfl) hn (da _ (za5 hm)) (λ_ _=>rfl)
 ·intro m1 m2 e e' b' he bb nf jT;rcases jZ m1 e he with⟨rfl,rfl⟩| ⟨Ah,zd⟩<;>rcases jZ m2 e' bb with⟨rfl,rfl⟩| ⟨Ai,ze⟩
  ·rfl
  ·rw[aC] at nf;rw[da _ (za5 Ai)] at jT;rw[hb b' nf] at jT;exact absurd ⟨m2,e',ze,jT⟩ hO
  ·rw[aC] at jT;rw[da _ (za5 Ah)] at nf;rw[hb b' jT] at nf;exact absurd ⟨m1,e,zd,nf⟩ hO
  rw[da _ (za5 Ah)] at nf;rw[da _ (za5 Ai)] at jT;exact h.own _ _ _ _ b' zd ze nf jT
 ·intro m e b' he cb rA;rcases jZ m e he with⟨rfl,rfl⟩| ⟨hm,he⟩
  ·rw[aC] at cb;rw[hb b' cb] at rA;exact hF rA
  rw[da _ (za5 hm)] at cb;exact h.gG m e b' he cb rA
 intro m e i he hi hl;rcases jZ m e he with⟨rfl,rfl⟩| ⟨hm,he⟩
 ·cases hi
 rw[da _ (za5 hm)];exact h.tag m e i he hi hl
theorem aq.early(h:aq Q T F G w a s){cs:Array Value}{e:TypeId}{d:Nat}{v:Value}(hd:lk s.tm d=none):aq Q T F G (w.alloc (.cells cs e)) (a.put (some d) v) s/\Ext (Own G s.rg) (Own G s.rg) F F w (w.alloc (.cells cs e)):=by
 have hk: ∀b,b<w.heap.size->(w.alloc (.cells cs e)).heap[b]?=w.heap[b]?:=λb hb=>oK w _ b hb;have cp:(w.alloc (.cells cs e)).heap.size=w.heap.size+1:=by simp
 have hx:Ext (Own G s.rg) (Own G s.rg) F F w (w.alloc (.cells cs e)):=⟨λ_ h=>h,λ_ h=> .inl h,λ_=> .inl,λb hb _=>hk b hb,by omega,rfl,rfl,rfl⟩
 refine⟨⟨h.mf.go hx,by simpa [Act.put] using h.size,λt p hp=> ?_,λn e he=>(h.rg n e he).mono (λ_ h=>h) (λb hb=>hk b (h.fw b hb)) (Names.refl _ _) rfl (λb hb=>hk b ((h.rg n e he).lt hb)),h.own,h.gG,λb hb=>by have:=h.fw b hb;omega,h.tag,λb hb=>⟨(h.z b hb).1,(hk b (h.fw b (h.z b hb).1)).trans (h.z b hb).2⟩,h.dr,zaN h.sz hx.size⟩,hx⟩;have ca:(some d:Option Nat)≠some t:=λe=>by grind
 rw[nB ca];exact bt.mono (λ_ h=>h) (λb hb=>hk b (h.fw b hb)) (Names.refl _ _) (h.tm t p hp)
theorem AR(s:S)(n:Nat)(p:P):ml s n p none=some (s,p):=by
 cases p with
 |d x=>cases x<;>rfl
 |_=>rfl
theorem nW: ∀(ps:List P) (ts:List (Option TypeId)) (s:S) (n:Nat),ts.any Option.isSome=false->bh s n ps ts=some (s,ps)
 | [],_,_,_,_=>rfl
 |p::ps,ts,s,n,h=>by
  have h1:ts.headD none=none:=by
   cases ts with
   |nil=>rfl
   |cons t r=>simp_all
  have h2:ts.tail.any Option.isSome=false:=by
   cases ts with
   |nil=>rfl
   |cons t r=>grind
  simp only[bh,h1,AR,nW ps ts.tail s (n+1) h2]
end
theorem jx{o:Oper}{t:TypeId}{d:Nat}(h:ga o=some (t,d)):o.op= .alloc t/\o.guard=none/\o.dst=some d:=by grind [ga]
theorem qy{Q:Program}{cf:CF}{ops:List Oper}{s s':S}{o:Oper}{t:TypeId}{d:Nat}(ho:ga o=some (t,d))(xe:lz Q t=false)(h:aM Q cf ops s o=some s'):
  ∃i zv z s3 v,Q.info? t=some i/\i.zero=some zv/\D.nh zv=some z/\s.new (site (some d)) (.box t (P.d z).cells)=some (s3,v)/\s3.put (some d) (.ref (site (some d)) v 0)=some s':=by
 obtain⟨h1,h2,h3⟩:=jx ho;have hg:aG ops o=some none:=by unfold aG;rw[h2]
 unfold aM at h;simp only[hg] at h;unfold dL at h;have hc:dU o=none:=by unfold dU;rw[h1]
 have hm:lN o=none:=by unfold lN;rw[h1]
 have hn:bT Q o=none:=by unfold bT;rw[h1]
 have hp:pv Q s o none=none:=by unfold pv;rw[h1]
 simp only[hc] at h;unfold exec at h;simp only[hm] at h;unfold fA at h;simp only[hn,hp] at h;unfold ef at h;grind [cQ,jg,nW,lz]
theorem AT{Q:Program}{w:World}{a:Act}{o:Oper}{t:TypeId}{d:Nat}(ho:ga o=some (t,d)){i:TypeInfo}{zv:Value}(hi:Q.info? t=some i)(hz:i.zero=some zv):
  (execOp a.eval o).run Q w= .ok (.value (.pointer (some ⟨w.heap.size,0,none⟩))) (w.alloc (.cells zv.cells t)):=by
 obtain⟨h1,_,_⟩:=jx ho;have qW:(zeroValue t).run Q w= .ok zv w:=by simp[zeroValue,typeInfo,hi,hz]
 simp[execOp,h1,Instr.alloc,qW,newVar,newRow]
section
variable{Q:Program}{T:Tg}{cf:CF}{ops:List Oper}{M:List Nat}{St:Nat->S}{r:Option Nat}{m:Nat}
def Gs(ops:List Oper)(m:Nat)(L:Nat->Prop):Prop:= ∀x p,x<m->ops[x]?=some p->1<ar p->L x
def AU(Q:Program)(F:Nat->Prop)(G:Nat->Value)(w0 w:World)(a:Act)(s:S)(t:TypeId)(d:Nat):Prop:=
 ∃b i zv,Q.info? t=some i/\i.zero=some zv/\w.heap[b]?=some (.cells zv.cells t)/\ ¬F b/\ ¬Own G s.rg b/\w0.heap.size<=b/\b<w.heap.size/\a.tmps.getD d undef= .pointer (some ⟨b,0,none⟩)
theorem AU.go{F F1:Nat->Prop}{G G1:Nat->Value}{w0 w w1:World}{a a1:Act}{s s1:S}{t:TypeId}{d:Nat}(h:AU Q F G w0 w a s t d)(hx:Ext (Own G s.rg) (Own G1 s1.rg) F F1 w w1)(ha:a1.tmps.getD d undef=a.tmps.getD d undef):AU Q F1 G1 w0 w1 a1 s1 t d:=by
 obtain⟨b,i,zv,h1,h2,h3,h4,h5,h6,h7,h8⟩:=h;refine⟨b,i,zv,h1,h2,(hx.keep b h7 h5).trans h3,λhf=> ?_,λho=> ?_,h6,zaK h7 hx.size,ha.trans h8⟩
 ·rcases hx.iN b hf with h |h |h
  ·exact h4 h
  ·exact h5 h
  omega
 rcases hx.fe b ho with h |h
 ·exact h5 h
 omega
theorem Hw{F0 F:Nat->Prop}{G0 G:Nat->Value}{w0 w:World}{a:Act}{R0:List (Nat×En)}{s s2:S}{o:Oper}{t:TypeId}{d:Nat}(ho:ga o=some (t,d))(xe:lz Q t=false)(hs:aM Q cf ops s o=some s2)(h:aq Q T F G w a s)
  (hp:AU Q F G w0 w a s t d) (hx:Ext (Own G0 R0) (Own G s.rg) F0 F w0 w): ∃G2,aq Q T F G2 w a s2/\Ext (Own G0 R0) (Own G2 s2.rg) F0 F w0 w:=by
 obtain⟨b,i,zv,h1,h2,h3,h4,h5,h6,h7,h8⟩:=hp;obtain⟨i',Q0,z,s3,v,k1,k2,k3,k4,k5⟩:=qy ho xe hs;rw[h1] at k1;cases k1;rw[h2] at k2;cases k2;have uU:aA F w zv z:=aA.nh _ _ k3;obtain⟨c1,c2,c3⟩:=cH uU;obtain⟨m1,m2,m3,m4⟩:=h.PK k4 (g1:= .pointer (some ⟨b,0,none⟩)) (b:=b) (λb' hb=>by grind [ay,aj]) h3 h4 h5
  ⟨b,zv.cells,aC _ _ _,h3,by rw[kr,zag,<-c1];simp,gI uU,λj p hj=>by
   rw[kr,zai,zaj] at hj;obtain⟨x,PL,rfl⟩:=hj;have Oi:j<zv.cells.size:=by grind
   have hu:zv.cells.toList[j]?=some (zv.cells.getD j undef):=by simp_all
   exact .d (c3 j _ x hu PL)⟩
 obtain⟨p1,p2⟩:=bc m1 k5 (v:= .pointer (some ⟨b,0,none⟩)) (bt.of (.ref (site (some d)) v 0 _ ⟨_,m4,zae _,λ_ _=>⟨b,aC _ _ _,rfl⟩⟩ rfl));rw[C8 h8] at p1;refine⟨_,p1,?_⟩;rw[p2];exact⟨hx.fV,hx.iN,λb' cb=>by
  rcases m2 b' cb with h |rfl
  ·exact hx.fe b' h
  grind,hx.keep,hx.size,hx.os,hx.tape,hx.output⟩
theorem sN(acc:List Nat): ∀(es:List Edge) (e:Edge),e∈es->Region.binds .any e=true->Nat.testBit (gC acc es) e.on=true
 | [],_,h,_=>by cases h
 |e'::r,e,h,hb=>by
  have lor: ∀a b:Nat,Nat.lor a b=a |||b:=λ_ _=>rfl
  unfold gC;rcases zan.1 h with rfl |h
  ·rw[zat hb];simp
  have ih:=sN acc r e h hb;grind
theorem Fj(tx:Text Q cf ops M St m)(fG:cL Q T.w0 cf){om:Oper}{tt:TypeId}{td:Nat}(Bz:ops[m]?=some om)(AV:ga om=some (tt,td))(xe:lz Q tt=false)(h0:lk (St 0).tm td=none)
  (Ap: ∀i o,ops[i]?=some o->Nat.testBit (M.getD i 0) m=true->Gs ops m λx=>Nat.testBit (M.getD i 0) x=true)
  {F0:Nat->Prop} {G0:Nat->Value} {w0:World} {s0:S} {Q':Exit->Act->World->Prop} (hK: ∀a' w',fh Q T F0 G0 w0 s0 (St ops.length) a' w'->Q' .normal a' w'):
  ∀(fuel:Nat) (ak:Array Bool) (a:Act) (w:World) (s:S) (F:Nat->Prop) (G:Nat->Value),
  ak.size=ops.length->fuel+ak.toList.count true=ops.length->wg ops (λj=>ak.getD j false=true)->aq Q T F G w a s->Ext (Own G0 s0.rg) (Own G s.rg) F0 F w0 w->
  ((Inv ops St (λj=>ak.getD j false=true) s/\(ak.getD m false=true->Gs ops m (λj=>ak.getD j false=true)))\/
   (ak.getD m false=true/\ ¬Gs ops m (λj=>ak.getD j false=true)/\Inv ops St (λj=>ak.getD j false=true/\j≠m) s/\AU Q F G w0 w a s tt td))->
  wpAnyIn (wd r) 0 Q .any ops.toArray Q' fuel ak a w:=by
 obtain⟨zb,Lm,IC⟩:=jx AV;have Iv:m<ops.length:=(zaa.1 Bz).1;have fX: ∀(i:Nat) (o:Oper),ops.toArray[i]?=some o-> ∀e∈o.after,Region.binds .any e=true->e.on<i:=λi o ho e he hb=>tx.back (by simpa using ho) he hb;have fin: ∀(ak:Array Bool) (a:Act) (w:World) (s:S) (F:Nat->Prop) (G:Nat->Value),(∀i,i<ops.length->ak.getD i false=true)->aq Q T F G w a s->Ext (Own G0 s0.rg) (Own G s.rg) F0 F w0 w->
    ((Inv ops St (λj=>ak.getD j false=true) s/\(ak.getD m false=true->Gs ops m (λj=>ak.getD j false=true)))\/(ak.getD m false=true/\ ¬Gs ops m (λj=>ak.getD j false=true)/\Inv ops St (λj=>ak.getD j false=true/\j≠m) s/\AU Q F G w0 w a s tt td))->Q' .normal a w:=by
  intro ak a w s F G eW h hx hm;rcases hm with⟨hi,_⟩| ⟨_,ca,_⟩
  · obtain⟨h1,h2,h3⟩:=tx.last hi (λi o ho=>eW i (zaa.1 ho).1);exact hK a w ⟨F,G,h.alike h1 h2 h3,by rw[<-h2];exact hx⟩
  exact absurd (λx p _ hp _=>eW x (zaa.1 hp).1) ca
 intro fuel
 induction fuel with
 |zero=>
  intro ak a w s F G cp hc hL h hx hm;have eW: ∀i,i<ops.length->ak.getD i false=true:=λi bj=>by
    have tU:ak.toList.count true=ak.toList.length:=by rw[zci,cp];omega
    have:=List.count_eq_length.1 tU ak[i] (by simp);simp[cp,bj,<-this]
  refine⟨?_,fin ak a w s F G eW h hx hm⟩;cases hr:Region.ready .any ops.toArray ak with
  |nil=>rfl
  |cons i r=>
    have Gt:i∈Region.ready .any ops.toArray ak:=by rw[hr];simp
    obtain⟨h0,o,ho,_⟩:=mem_ready.1 Gt;have bj:i<ops.length:=by have:=(zap.1 ho).1;simpa using this
    have h1:=eW i bj;have hl:i<ak.size:=by omega
    simp[hl] at h0 h1;rw[h0] at h1;cases h1
 |succ fuel ih=>
  intro ak a w s F G cp hc hL h hx hm;refine⟨λhr=>fin ak a w s F G (λi bj=>sG (by simp[cp]) fX hr i (by simpa using bj)) h hx hm,λi eD=> ?_⟩;obtain⟨Cm,o,ho,um⟩:=mem_ready.1 eD;have eZ:ops[i]?=some o:=by simpa using ho
  have bj:i<ops.length:=(zaa.1 eZ).1;have hl:i<ak.size:=by omega
  have bg: ¬ak.getD i false=true:=by simp[hl] at Cm⊢;exact Cm
  have kN: ∀j,((ak.setIfInBounds i true).getD j false=true)↔(ak.getD j false=true\/j=i):=λj=>by
    by_cases hj:j=i
    ·subst hj;simp[hl]
    rw[getD_set_ne false (λe=>hj e.symm)];simp[hj]
  have AL:fuel+(ak.setIfInBounds i true).toList.count true=ops.length:=by
    have e:(ak.setIfInBounds i true).toList=ak.toList.set i true:=by simp
    rw[e,List.count_set (by simpa using hl)];have:(ak.toList[i]'(by simpa using hl)==true)=false:=by simp[hl] at bg⊢;exact bg
    simp only[this];simp only[zar,za3,beq_self_eq_true,zaT];omega
  have rN:(λj=>(ak.setIfInBounds i true).getD j false=true)=(λj=>ak.getD j false=true\/j=i):=funext λj=>propext (kN j);have zr:wg ops (λj=>ak.getD j false=true\/j=i):=by
    intro j x hj jU e he hb;rcases jU with jU |rfl
    ·exact .inl (hL j x hj jU e he hb)
    rw[eZ] at hj;cases hj;exact .inl (um e he hb)
  have next: ∀(s1:S),aM Q cf ops s o=some s1->(∀a1 w1 F1 G1,aq Q T F1 G1 w1 a1 s1->Ext (Own G0 s0.rg) (Own G1 s1.rg) F0 F1 w0 w1->Ext (Own G s.rg) (Own G1 s1.rg) F F1 w w1->(o.dst≠some td->a1.tmps.getD td undef=a.tmps.getD td undef)->wpAnyIn (wd r) 0 Q .any ops.toArray Q' fuel (ak.setIfInBounds i true) a1 w1)->
     wpOpIn (wd r) 0 Q ops.toArray Q' i (wpAnyIn (wd r) 0 Q .any ops.toArray Q' fuel (ak.setIfInBounds i true)) a w:=by
    intro s1 mH Gd;unfold wpOpIn;rw[ho];simp only[];by_cases hd:o.dst=some td
    ·have iO:=gq fG h mH (r:=r) (K:=wpAnyIn (wd r) 0 Q .any ops.toArray Q' fuel (ak.setIfInBounds i true)) (Q':=Q') (λa' w' ⟨F',G',g1,g2⟩=>Gd a' w' F' G' g1 (hx.trans g2) g2 λca=>absurd hd ca);split
     next hw=>rw[zat hw] at iO;exact iO
     rename_i hw;rw[zaB hw] at iO;exact⟨λ_ _=>trivial,iO⟩
    have iO:=gq fG h mH (r:=r) (K:=λa' w'=>a'.tmps.getD td undef=a.tmps.getD td undef->wpAnyIn (wd r) 0 Q .any ops.toArray Q' fuel (ak.setIfInBounds i true) a' w') (Q':=Q') (λa' w' ⟨F',G',g1,g2⟩ hk=>Gd a' w' F' G' g1 (hx.trans g2) g2 λ_=>hk);split
    next hw=>rw[zat hw] at iO;exact Fh hd iO
    rename_i hw;rw[zaB hw] at iO;exact⟨λ_ _=>trivial,iO (nB hd)⟩
  rcases hm with⟨hi,OC⟩| ⟨OD,ca,hi,PN⟩
  · by_cases C9:i=m/\ ¬Gs ops m (λj=>ak.getD j false=true)
    ·
     obtain⟨rfl,ca⟩:=C9;rw[Bz] at eZ;cases eZ;obtain⟨ii,zv,z,s3,v,k1,k2,_⟩:=qy AV xe (tx.run i om Bz);have J7:lk s.tm td=none:=by rw[hi.IB td (λj y hj jU hd=>tx.inj hj Bz (λe=>bg (e▸jU)) hd IC)];exact h0
     have aX:=AT (a:=a) (w:=w) AV k1 k2;obtain⟨e1,e2⟩:=h.early (cs:=zv.cells) (e:=tt) (v:= .pointer (some ⟨w.heap.size,0,none⟩)) J7;unfold wpOpIn;rw[ho];simp only[];rw[zat (by simp[Region.wanted,Lm])];refine mJ (λc hc=>by rw[zb] at hc;cases hc) ?_;rw[aX,Oper.uponIn_value,IC];refine ih _ _ _ s F G (by simp[cp]) AL (by rw[rN];exact zr) e1 (hx.trans e2) (.inr ⟨(kN i).2 (.inr rfl),λhE=>ca λx p lD hp hk=>((kN x).1 (hE x p lD hp hk)).resolve_right (by omega),?_,?_⟩)
     ·have e:(λj=>(ak.setIfInBounds i true).getD j false=true/\j≠i)=λj=>ak.getD j false=true:=funext λj=>propext ⟨λhh=>((kN j).1 hh.1).resolve_right hh.2,λhh=>⟨(kN j).2 (.inl hh),λe=>bg (e▸hh)⟩⟩;rw[e];exact hi
     have MR:td<a.tmps.size:=by
      obtain⟨R',q',Fk⟩:=tx.step Bz;rw[IC] at Fk;have OE:td<(St i).n:=by
       simp only[S.put] at Fk;split at Fk
       next hb=>simp[Nat.blt] at hb;omega
       cases Fk
      have Ir:=(tx.inv i (by omega)).1;have Q5:=hi.n;have:=h.size;omega
     exact⟨w.heap.size,ii,zv,k1,k2,heap_alloc_new w _,λhf=>by have:=h.fw _ hf;omega,λhO=>by obtain⟨n,e,he,hb⟩:=hO;have:=(h.rg n e he).lt hb;omega,hx.size,by simp,Hv MR⟩
    have Ai:i=m-> ∀x p,x<m->ops[x]?=some p->1<ar p->ak.getD x false=true:=λe x p h1 h2 h3=>zcw λhc=>C9 ⟨e,λhE=>hc (hE x p h1 h2 h3)⟩;obtain⟨s1,mH,By⟩:=tx.go hL hi eZ bg um OC Ai;refine next s1 mH λa1 w1 F1 G1 g1 g2 _ _=>ih _ _ _ s1 F1 G1 (by simp[cp]) AL (by rw[rN];exact zr) g1 g2 (.inl ⟨by rw[rN];exact By,λGt x p h1 h2 h3=>(kN x).2 ?_⟩);rcases(kN m).1 Gt with Gt |e
    ·exact .inl (OC Gt x p h1 h2 h3)
    exact .inl (Ai e.symm x p h1 h2 h3)
  have MS:i≠m:=λe=>bg (e▸OD);have zi: ∀(j:Nat) (x:Oper),ops[j]?=some x->(∀e∈x.after,Region.binds .any e=true->ak.getD e.on false=true)-> ∀e∈x.after,Region.binds .any e=true->e.on≠m:=by
   intro j x hj wi e he hb PO;have Hq:Nat.testBit (M.getD j 0) m=true:=by rw[tx.mask hj];have:=sN M x.after.toList e (by simpa using he) hb;rwa [PO] at this
   exact ca λy p h1 h2 h3=>tx.sub hL j x hj wi y (Ap j x hj Hq y p h1 h2 h3)
  have OG:wg ops (λj=>ak.getD j false=true/\j≠m):=λj x hj jU e he hb=>⟨hL j x hj jU.1 e he hb,zi j x hj (hL j x hj jU.1) e he hb⟩
  obtain⟨s1,mH,By⟩:=tx.go OG hi eZ (λhh=>bg hh.1) (λe he hb=>⟨um e he hb,zi i o eZ um e he hb⟩) (λhh=>absurd rfl hh.2) (λe=>absurd e MS);have MT:o.dst≠some td:=λhd=>tx.inj eZ Bz MS hd IC;have J8:(λj=>(ak.getD j false=true/\j≠m)\/j=i)=λj=>(ak.setIfInBounds i true).getD j false=true/\j≠m:=funext λj=>propext ⟨λhh=>hh.elim (λhh=>⟨(kN j).2 (.inl hh.1),hh.2⟩) (λe=>⟨(kN j).2 (.inr e),by rw[e];exact MS⟩),λhh=>((kN j).1 hh.1).elim (λh1=> .inl ⟨h1,hh.2⟩) .inr⟩;refine next s1 mH λa1 w1 F1 G1 g1 g2 g3 g4=> ?_;have qZ:=PN.go g3 (g4 MT);rw[J8] at By;have Hx:(ak.setIfInBounds i true).getD m false=true:=(kN m).2 (.inl OD);by_cases hE:Gs ops m (λj=>(ak.setIfInBounds i true).getD j false=true)
  ·have J9:wg ops (λj=>(ak.setIfInBounds i true).getD j false=true):=by rw[rN];exact zr
   have MU:wg ops (λj=>(ak.setIfInBounds i true).getD j false=true/\j≠m):=by
    rw[<-J8];intro j x hj jU e he hb;rcases jU with jU |rfl
    ·exact .inl (OG j x hj jU e he hb)
    rw[eZ] at hj;cases hj;exact .inl ⟨um e he hb,zi _ _ eZ um e he hb⟩
   obtain⟨s2,Aj,Ll⟩:=tx.go MU By Bz (λhh=>hh.2 rfl) (λe he hb=>⟨J9 m om Bz Hx e he hb,λe'=>by have:=tx.back Bz he hb;omega⟩) (λhh=>absurd rfl hh.2) (λ_ x p h1 h2 h3=>⟨hE x p h1 h2 h3,by omega⟩);obtain⟨G2,q1,q2⟩:=Hw AV xe Aj g1 qZ g2;refine ih _ _ _ s2 F1 G2 (by simp[cp]) AL J9 q1 q2 (.inl ⟨?_,λ_=>hE⟩);have e:(λj=>((ak.setIfInBounds i true).getD j false=true/\j≠m)\/j=m)=λj=>(ak.setIfInBounds i true).getD j false=true:=funext λj=>propext ⟨λhh=>hh.elim (·.1) (λe=>e▸Hx),λhh=>(Classical.em (j=m)).elim .inr λhn=> .inl ⟨hh,hn⟩⟩;rw[<-e];exact Ll
  exact ih _ _ _ s1 F1 G1 (by simp[cp]) AL (by rw[rN];exact zr) g1 g2 (.inr ⟨Hx,hE,By,qZ⟩)
end
theorem nX{ops:List Oper}{M:List Nat}: ∀(l:List Oper) (j m:Nat) (t:TypeId) (d:Nat),np ops M j l=some (m,t,d)->j<=m/\ ∃o,l[m-j]?=some o/\ga o=some (t,d)
 | [],_,_,_,_,h=>by cases h
 |o::r,j,m,t,d,h=>by
  unfold np at h;have more:np ops M (j+1) r=some (m,t,d)->j<=m/\ ∃p,(o::r)[m-j]?=some p/\ga p=some (t,d):=λh=>by obtain⟨h1,p,h2,h3⟩:=nX r (j+1) m t d h;exact⟨by omega,p,by rw[show m-j=(m-(j+1))+1 by omega,zbo];exact h2,h3⟩
  split at h
  next t' d' ha=>
   split at h
   ·exact more h
   cases h;exact⟨zae _,o,by simp,ha⟩
  exact more h
theorem wv{Q:Program}{T:Tg}{cf:CF}(fG:cL Q T.w0 cf){ops:List Oper}{F:Nat->Prop}{G:Nat->Value}{w:World}{a:Act}{s s':S}{r:Option Nat}{Q':Exit->Act->World->Prop}
  (h:aq Q T F G w a s) (hs:mx Q cf ops s=some s') (hK: ∀a' w',fh Q T F G w s s' a' w'->Q' .normal a' w'):wpAnyIn (wd r) 0 Q .any ops.toArray Q' ops.toArray.size (Array.replicate ops.toArray.size false) a {w with drawn:=w.drawn+1}:=by
 unfold mx at hs;split at hs
 next m t d hl=>
  split at hs
  next hc=>
   obtain⟨fK,xe,MR⟩:=hc;split at hs
   ·rename_i s1 l hd;split at hs
    ·rename_i Hu;simp at hs;subst hs;obtain⟨_,om,Bz,AV⟩:=nX ops 0 m t d hl;rw[Nat.sub_zero] at Bz;simp only[tp,zad] at fK;obtain⟨⟨c1,c2⟩,c3⟩:=fK;have zero: ∀i:Nat,0+i=i:=zbK;obtain⟨St,g1,g2,g3,g4⟩:=iI ops _ _ _ hd;have tx:Text Q cf ops (masks ops []) St m:=⟨λi o ho=>by have:=dw ops 0 c1 i o ho;rwa [zero] at this,λi j x y ng hx hy=>by have:=dN ops 0 c2 i j x y ng hx hy;rwa [zero,zero] at this,g3,λi j x y ng hx hy dW hb=> .inr (by obtain⟨q,hq⟩:=lX l 0 True Hu i j _ _ ng (g4 i x hx) (g4 j y hy);rw[zero,zero] at hq;exact qq (g3 i x hx) (g3 j y hy) dW hb hq)⟩
     have Ap: ∀i o,ops[i]?=some o->Nat.testBit ((masks ops []).getD i 0) m=true->Gs ops m λx=>Nat.testBit ((masks ops []).getD i 0) x=true:=by
      intro i o ho hb x p hx hp hk;have h1:=dw ops 0 c3 i o ho;rw[zero] at h1;simp only[BO,hb,Bool.not_true,zcA] at h1;have h2:=dw ops 0 h1 x p hp;rw[zero] at h2;simp only[zbR,zbd] at h2;rcases h2 with(h2 |h2)|h2
      ·omega
      ·omega
      exact h2
     have fg:(λj=>(Array.replicate ops.length false).getD j false=true)=λ_=>False:=by funext j;simp only[zav,zcz];split<;>simp
     have MV: ∀j,(Array.replicate ops.length false).getD j false=true->False:=λj hj=>by have:=congrFun fg j;simp only[eq_iff_iff,iff_false] at this;exact this hj
     have MN:aq Q T F G {w with drawn:=w.drawn+1} a s:=h.drawn _ (zbq _);have:=Fj (T:=T) (r:=r) tx fG Bz AV xe (by rw[g1];exact MR) Ap (F0:=F) (G0:=G) (w0:={w with drawn:=w.drawn+1}) (s0:=s) (Q':=Q')
      (λa' w' hp=>hK a' w' (by obtain⟨F',G',k1,k2⟩:=hp;rw[g2] at k1 k2;exact⟨F',G',k1,⟨k2.fV,k2.iN,k2.fe,k2.keep,k2.size,k2.os,k2.tape,k2.output⟩⟩))
      ops.length (Array.replicate ops.length false) a {w with drawn:=w.drawn+1} s F G (by simp) (by
       rw[Array.toList_replicate,List.count_replicate];simp) (by
       rw[fg];intro i o _ hf;exact hf.elim) MN (Ext.refl _ _ _)
      (.inl ⟨by rw[fg];exact⟨by rw[g1],λi o t _ hf=>hf.elim,λt _=>by rw[g1],⟨0,by omega,by rw[g1],λi o _ _=>by simp⟩⟩,λhm=>(MV _ hm).elim⟩)
     simpa using this
    cases hs
   cases hs
  cases hs
 cases hs
theorem yu{Q:Program}{T:Tg}{cf:CF}(fG:cL Q T.w0 cf)(hm:Q.follows .mixedOrders=true){ops:List Oper}{F:Nat->Prop}{G:Nat->Value}{w:World}{a:Act}{s s':S}{r:Option Nat}{id:Nat}{Q':Exit->Act->World->Prop}
  (h:aq Q T F G w a s) (hs:fu Q cf ops s=some s') (hK: ∀a' w',fh Q T F G w s s' a' w'->Q' .normal a' w'):(Code.region id ops.toArray true).wpIn (wd r) 0 Q Q' a w:=by
 refine wpIn_region_any hm ?_;unfold fu at hs;split at hs
 ·split at hs
  ·exact wv fG h hs hK
  have:=nV (r:=r) (Q':=Q') fG h hs hK;have e:(bO ops).toArray.size=ops.toArray.size:=by simp[bO]
  rw[e] at this;exact wq _ _ _ _ this
 exact nV fG h hs hK
end Pi
