/- The text PiLate. -/
import Derived.Test.YtngoddkencoalaaGreatDoorPiKOk4
namespace Pi
open Go
theorem uX{a:Act}{dst:Option Nat}{v:Value}{t:Nat}(h:dst≠some t):(a.put dst v).tmps.getD t undef=a.tmps.getD t undef:=by
 cases dst with
 |none=>rfl
 |some d=>have hd:d≠t:=λe=>h (by rw[e]);simp only[Act.put,zaD];rw[zaZ hd]
theorem qcD{a:Act}{t:Nat}{v:Value}(h:t<a.tmps.size):(a.put (some t) v).tmps.getD t undef=v:=by simp[Act.put,Array.getD,h]
theorem Q6{a:Act}{t:Nat}{v:Value}(h:a.tmps.getD t undef=v):a.put (some t) v=a:=by simp only[Act.put];congr 1;refine zcR λi=> ?_;simp only[zaD] at h;grind
theorem Xh{F:Fence}{n:Nat}{Q:Program}{o:Oper}{a:Act}{w:World}{K:Act->World->Prop}{Q':Exit->Act->World->Prop}{t:Nat}(dP:o.dst≠some t)
  (h:o.wpIn F n Q a w (λa' w'=>a'.tmps.getD t undef=a.tmps.getD t undef->K a' w') Q'):o.wpIn F n Q a w K Q':=by
 refine⟨h.1,?_⟩;have hh:=h.2;generalize (o.semAt F.round a.eval).run Q w=r at*
 cases r with
 |ok x w'=>
  cases x<;>simp only[Oper.uponIn] at hh⊢ <;>
   first
    |exact hh (uX dP)
    |exact⟨hh.1,CallsIn.mono hh.2 (λe w'' he=>by cases e<;>first |exact he (uX dP)|exact he)⟩
    |exact⟨hh.1,RowsIn.mono hh.2 (λ_ _ he=>he (uX dP))⟩
    |grind [uX]
 |halt x w'=>cases x<;>simp only[Oper.uponIn] at hh⊢ <;>exact hh
section
variable{Q:Program}{T:Tg}{F:Nat->Prop}{G:Nat->Value}{w:World}{a:Act}{s:S}
theorem aG.mat(h:aG Q T F G w a s){n v:Nat}{o:Obj}{s':S}(hs:s.new n o=some (s',v)){g1:Value}{b:Nat}{cs:Array Value}{t:TypeId}(hb: ∀b',bL g1 o=some b'->b'=b)(hc:w.heap[b]?=some (.cells cs t))(hF: ¬F b)(hO: ¬Own G s.rg b)
  (ho:o6 Q F w (Pi.nL G n g1) (ins n ⟨v,none,o⟩ s.rg) n o):
  aG Q T F (Pi.nL G n g1) w a s'/\(∀b',Own (Pi.nL G n g1) s'.rg b'->Own G s.rg b'\/b'=b)/\Names G (Pi.nL G n g1) s.rg s'.rg/\lk s'.rg n=some ⟨v,none,o⟩:=by
 obtain⟨rfl,x8⟩:=S.lz hs;have gl:rG G s.rg n ⟨v,none,o⟩ g1:=λe he=> .inl (x8 e he);have hn:=gN gl;have pj: ∀m e,lk (ins n (⟨v,none,o⟩:En) s.rg) m=some e->(m=n/\e=⟨v,none,o⟩)\/(n≠m/\lk s.rg m=some e):=λm e he=>by grind [bF,b9]
 have gb: ∀b',Own (Pi.nL G n g1) (ins n (⟨v,none,o⟩:En) s.rg) b'->Own G s.rg b'\/b'=b:=by
  rintro b' ⟨m,e,he,du⟩;rcases pj m e he with⟨rfl,rfl⟩| ⟨hm,he⟩
  ·rw[bf] at du;grind
  rw[eW _ (zbD hm)] at du;exact .inl ⟨m,e,he,du⟩
 refine⟨⟨⟨h.r9.1,λd hd=> ?_⟩,h.size,λt p hp=>(h.tm t p hp).mono (λ_ h=>h) (λ_ _=>rfl) hn,?_,?_,?_,h.jz,?_,h.z,h.dr,h.sz⟩,gb,hn,bF _ _ _⟩
 ·obtain⟨D,h1,h0,h2,h3,h4⟩:=h.r9.2 d hd;grind
 ·intro m e he;rcases pj m e he with⟨rfl,rfl⟩| ⟨hm,he⟩
  ·exact ho
  exact(h.rg m e he).mono (λ_ h=>h) (λ_ _=>rfl) hn (eW _ (zbD hm)) (λ_ _=>rfl)
 ·intro m1 m2 e e' b' he cR jX cm;rcases pj m1 e he with⟨rfl,rfl⟩| ⟨ML,Bx⟩<;>rcases pj m2 e' cR with⟨rfl,rfl⟩| ⟨Fl,VT⟩
  ·rfl
  ·rw[bf] at jX;rw[eW _ (zbD Fl)] at cm;rw[hb b' jX] at cm;exact absurd ⟨m2,e',VT,cm⟩ hO
  ·rw[bf] at cm;rw[eW _ (zbD ML)] at jX;rw[hb b' cm] at jX;exact absurd ⟨m1,e,Bx,jX⟩ hO
  rw[eW _ (zbD ML)] at jX;rw[eW _ (zbD Fl)] at cm;exact h.own _ _ _ _ b' Bx VT jX cm
 ·intro m e b' he du AB;rcases pj m e he with⟨rfl,rfl⟩| ⟨hm,he⟩
  ·rw[bf] at du;rw[hb b' du] at AB;exact hF AB
  rw[eW _ (zbD hm)] at du;exact h.mU m e b' he du AB
 intro m e i he hi hl;rcases pj m e he with⟨rfl,rfl⟩| ⟨hm,he⟩
 ·cases hi
 rw[eW _ (zbD hm)];exact h.tag m e i he hi hl
theorem aG.early(h:aG Q T F G w a s){cs:Array Value}{e:TypeId}{d:Nat}{v:Value}(hd:lk s.tm d=none):aG Q T F G (w.alloc (.cells cs e)) (a.put (some d) v) s/\Ext (Own G s.rg) (Own G s.rg) F F w (w.alloc (.cells cs e)):=by
 have hk: ∀b,b<w.heap.size->(w.alloc (.cells cs e)).heap[b]?=w.heap[b]?:=λb hb=>wN w _ b hb;have dB:(w.alloc (.cells cs e)).heap.size=w.heap.size+1:=by simp
 have hx:Ext (Own G s.rg) (Own G s.rg) F F w (w.alloc (.cells cs e)):=⟨λ_ h=>h,λ_ h=> .inl h,λ_=> .inl,λb hb _=>hk b hb,by omega,rfl,rfl,rfl⟩
 refine⟨⟨h.r9.go hx,by simpa [Act.put] using h.size,λt p hp=> ?_,λn e he=>(h.rg n e he).mono (λ_ h=>h) (λb hb=>hk b (h.jz b hb)) (Names.refl _ _) rfl (λb hb=>hk b ((h.rg n e he).lt hb)),h.own,h.mU,λb hb=>by have:=h.jz b hb;omega,h.tag,λb hb=>⟨(h.z b hb).1,(hk b (h.jz b (h.z b hb).1)).trans (h.z b hb).2⟩,h.dr,zaG h.sz hx.size⟩,hx⟩;have dP:(some d:Option Nat)≠some t:=λe=>by grind
 rw[uX dP];exact cB.mono (λ_ h=>h) (λb hb=>hk b (h.jz b hb)) (Names.refl _ _) (h.tm t p hp)
theorem Ng(s:S)(n:Nat)(p:P):ti s n p none=some (s,p):=by
 cases p with
 |d x=>cases x<;>rfl
 |_=>rfl
theorem wb: ∀(ps:List P) (ts:List (Option TypeId)) (s:S) (n:Nat),ts.any Option.isSome=false->cv s n ps ts=some (s,ps)
 | [],_,_,_,_=>rfl
 |p::ps,ts,s,n,h=>by
  have h1:ts.headD none=none:=by
   cases ts with
   |nil=>rfl
   |cons t r=>simp_all
  have h2:ts.tail.any Option.isSome=false:=by
   cases ts with
   |nil=>rfl
   |cons t r=>grind
  simp only[cv,h1,Ng,wb ps ts.tail s (n+1) h2]
end
theorem oe{o:Oper}{t:TypeId}{d:Nat}(h:kC o=some (t,d)):o.op= .alloc t/\o.guard=none/\o.dst=some d:=by grind [kC]
theorem yI{Q:Program}{cf:CF}{ops:List Oper}{s s':S}{o:Oper}{t:TypeId}{d:Nat}(ho:kC o=some (t,d))(KY:rA Q t=false)(h:bx Q cf ops s o=some s'):
  ∃i zv z s3 v,Q.info? t=some i/\i.zero=some zv/\D.uK zv=some z/\s.new (site (some d)) (.box t (P.d z).cells)=some (s3,v)/\s3.put (some d) (.ref (site (some d)) v 0)=some s':=by
 obtain⟨h1,h2,h3⟩:=oe ho;have hg:br ops o=some none:=by unfold br;rw[h2]
 unfold bx at h;simp only[hg] at h;unfold gk at h;have hc:gG o=none:=by unfold gG;rw[h1]
 have hm:r7 o=none:=by unfold r7;rw[h1]
 have hn:dh Q o=none:=by unfold dh;rw[h1]
 have hp:pv Q s o none=none:=by unfold pv;rw[h1]
 simp only[hc] at h;unfold exec at h;simp only[hm] at h;unfold jx at h;simp only[hn,hp] at h;unfold ef at h;grind [eF,nS,wb,rA]
theorem Nh{Q:Program}{w:World}{a:Act}{o:Oper}{t:TypeId}{d:Nat}(ho:kC o=some (t,d)){i:TypeInfo}{zv:Value}(hi:Q.info? t=some i)(hz:i.zero=some zv):
  (execOp a.eval o).run Q w= .ok (.value (.pointer (some ⟨w.heap.size,0,none⟩))) (w.alloc (.cells zv.cells t)):=by
 obtain⟨h1,_,_⟩:=oe ho;have Bu:(zeroValue t).run Q w= .ok zv w:=by simp[zeroValue,typeInfo,hi,hz]
 simp[execOp,h1,Instr.alloc,Bu,newVar,newRow]
section
variable{Q:Program}{T:Tg}{cf:CF}{ops:List Oper}{M:List Nat}{St:Nat->S}{r:Option Nat}{m:Nat}
def Eff(ops:List Oper)(m:Nat)(L:Nat->Prop):Prop:= ∀x p,x<m->ops[x]?=some p->1<aF p->L x
def Ni(Q:Program)(F:Nat->Prop)(G:Nat->Value)(w0 w:World)(a:Act)(s:S)(t:TypeId)(d:Nat):Prop:=
 ∃b i zv,Q.info? t=some i/\i.zero=some zv/\w.heap[b]?=some (.cells zv.cells t)/\ ¬F b/\ ¬Own G s.rg b/\w0.heap.size<=b/\b<w.heap.size/\a.tmps.getD d undef= .pointer (some ⟨b,0,none⟩)
theorem Ni.go{F F1:Nat->Prop}{G G1:Nat->Value}{w0 w w1:World}{a a1:Act}{s s1:S}{t:TypeId}{d:Nat}(h:Ni Q F G w0 w a s t d)(hx:Ext (Own G s.rg) (Own G1 s1.rg) F F1 w w1)(ha:a1.tmps.getD d undef=a.tmps.getD d undef):Ni Q F1 G1 w0 w1 a1 s1 t d:=by
 obtain⟨b,i,zv,h1,h2,h3,h4,h5,h6,h7,h8⟩:=h;refine⟨b,i,zv,h1,h2,(hx.keep b h7 h5).trans h3,λhf=> ?_,λho=> ?_,h6,za4 h7 hx.size,ha.trans h8⟩
 ·rcases hx.nj b hf with h |h |h
  ·exact h4 h
  ·exact h5 h
  omega
 rcases hx.l4 b ho with h |h
 ·exact h5 h
 omega
theorem qcE{F0 F:Nat->Prop}{G0 G:Nat->Value}{w0 w:World}{a:Act}{R0:List (Nat×En)}{s s2:S}{o:Oper}{t:TypeId}{d:Nat}(ho:kC o=some (t,d))(KY:rA Q t=false)(hs:bx Q cf ops s o=some s2)(h:aG Q T F G w a s)
  (hp:Ni Q F G w0 w a s t d) (hx:Ext (Own G0 R0) (Own G s.rg) F0 F w0 w): ∃G2,aG Q T F G2 w a s2/\Ext (Own G0 R0) (Own G2 s2.rg) F0 F w0 w:=by
 obtain⟨b,i,zv,h1,h2,h3,h4,h5,h6,h7,h8⟩:=hp;obtain⟨i',zv',z,s3,v,k1,k2,k3,k4,k5⟩:=yI ho KY hs;rw[h1] at k1;cases k1;rw[h2] at k2;cases k2;have HI:bc F w zv z:=bc.uK _ _ k3;obtain⟨c1,c2,c3⟩:=eu HI;obtain⟨m1,m2,m3,m4⟩:=h.mat k4 (g1:= .pointer (some ⟨b,0,none⟩)) (b:=b) (λb' hb=>by grind [bL,aR]) h3 h4 h5
  ⟨b,zv.cells,bf _ _ _,h3,by rw[pJ,zaa,<-c1];simp,lq HI,λj p hj=>by
   rw[pJ,zaK,zax] at hj;obtain⟨x,hx',rfl⟩:=hj;have hj3:j<zv.cells.size:=by grind
   have hu:zv.cells.toList[j]?=some (zv.cells.getD j undef):=by simp_all
   exact .d (c3 j _ x hu hx')⟩
 obtain⟨p1,p2⟩:=cD m1 k5 (v:= .pointer (some ⟨b,0,none⟩)) (cB.of (.ref (site (some d)) v 0 _ ⟨_,m4,zak _,λ_ _=>⟨b,bf _ _ _,rfl⟩⟩ rfl));rw[Q6 h8] at p1;refine⟨_,p1,?_⟩;rw[p2];exact⟨hx.ll,hx.nj,λb' du=>by
  rcases m2 b' du with h |rfl
  ·exact hx.l4 b' h
  grind,hx.keep,hx.size,hx.os,hx.tape,hx.output⟩
theorem BP(acc:List Nat): ∀(es:List Edge) (e:Edge),e∈es->Region.binds .any e=true->Nat.testBit (lb acc es) e.on=true
 | [],_,h,_=>by cases h
 |e'::r,e,h,hb=>by
  have lor: ∀a b:Nat,Nat.lor a b=a |||b:=λ_ _=>rfl
  unfold lb;rcases zaw.1 h with rfl |h
  ·rw[zao hb];simp
  have ih:=BP acc r e h hb;grind
theorem Xi(tx:Text Q cf ops M St m)(jC:dC Q T.w0 cf){om:Oper}{tt:TypeId}{td:Nat}(O5:ops[m]?=some om)(K5:kC om=some (tt,td))(KY:rA Q tt=false)(h0:lk (St 0).tm td=none)
  (HM: ∀i o,ops[i]?=some o->Nat.testBit (M.getD i 0) m=true->Eff ops m λx=>Nat.testBit (M.getD i 0) x=true)
  {F0:Nat->Prop} {G0:Nat->Value} {w0:World} {s0:S} {Q':Exit->Act->World->Prop} (hK: ∀a' w',iY Q T F0 G0 w0 s0 (St ops.length) a' w'->Q' .normal a' w'):
  ∀(fuel:Nat) (listed:Array Bool) (a:Act) (w:World) (s:S) (F:Nat->Prop) (G:Nat->Value),
  listed.size=ops.length->fuel+listed.toList.count true=ops.length->FJ ops (λj=>listed.getD j false=true)->aG Q T F G w a s->Ext (Own G0 s0.rg) (Own G s.rg) F0 F w0 w->
  ((Inv ops St (λj=>listed.getD j false=true) s/\(listed.getD m false=true->Eff ops m (λj=>listed.getD j false=true)))\/
   (listed.getD m false=true/\ ¬Eff ops m (λj=>listed.getD j false=true)/\Inv ops St (λj=>listed.getD j false=true/\j≠m) s/\Ni Q F G w0 w a s tt td))->
  wpAnyIn (wd r) 0 Q .any ops.toArray Q' fuel listed a w:=by
 obtain⟨ho1,ho2,ho3⟩:=oe K5;have IE:m<ops.length:=(zad.1 O5).1;have ku: ∀(i:Nat) (o:Oper),ops.toArray[i]?=some o-> ∀e∈o.after,Region.binds .any e=true->e.on<i:=λi o ho e he hb=>tx.back (by simpa using ho) he hb;have fin: ∀(listed:Array Bool) (a:Act) (w:World) (s:S) (F:Nat->Prop) (G:Nat->Value),(∀i,i<ops.length->listed.getD i false=true)->aG Q T F G w a s->Ext (Own G0 s0.rg) (Own G s.rg) F0 F w0 w->
    ((Inv ops St (λj=>listed.getD j false=true) s/\(listed.getD m false=true->Eff ops m (λj=>listed.getD j false=true)))\/(listed.getD m false=true/\ ¬Eff ops m (λj=>listed.getD j false=true)/\Inv ops St (λj=>listed.getD j false=true/\j≠m) s/\Ni Q F G w0 w a s tt td))->Q' .normal a w:=by
  intro listed a w s F G iF h hx hm;rcases hm with⟨hi,_⟩| ⟨_,dP,_⟩
  · obtain⟨h1,h2,h3⟩:=tx.last hi (λi o ho=>iF i (zad.1 ho).1);exact hK a w ⟨F,G,h.alike h1 h2 h3,by rw[<-h2];exact hx⟩
  exact absurd (λx p _ hp _=>iF x (zad.1 hp).1) dP
 intro fuel
 induction fuel with
 |zero=>
  intro listed a w s F G dB hc hL h hx hm;have iF: ∀i,i<ops.length->listed.getD i false=true:=λi bG=>by
    have rJ:listed.toList.count true=listed.toList.length:=by rw[zcM,dB];omega
    have:=List.count_eq_length.1 rJ listed[i] (by simp);simp[dB,bG,<-this]
  refine⟨?_,fin listed a w s F G iF h hx hm⟩;cases hr:Region.ready .any ops.toArray listed with
  |nil=>rfl
  |cons i r=>
    have hmm:i∈Region.ready .any ops.toArray listed:=by rw[hr];simp
    obtain⟨h0,o,ho,_⟩:=mem_ready.1 hmm;have bG:i<ops.length:=by have:=(zar.1 ho).1;simpa using this
    have h1:=iF i bG;have hl:i<listed.size:=by omega
    simp[hl] at h0 h1;rw[h0] at h1;cases h1
 |succ fuel ih=>
  intro listed a w s F G dB hc hL h hx hm;refine⟨λhr=>fin listed a w s F G (λi bG=>BJ (by simp[dB]) ku hr i (by simpa using bG)) h hx hm,λi ga=> ?_⟩;obtain⟨WO,o,ho,Di⟩:=mem_ready.1 ga;have gg:ops[i]?=some o:=by simpa using ho
  have bG:i<ops.length:=(zad.1 gg).1;have hl:i<listed.size:=by omega
  have bX: ¬listed.getD i false=true:=by simp[hl] at WO⊢;exact WO
  have pX: ∀j,((listed.setIfInBounds i true).getD j false=true)↔(listed.getD j false=true\/j=i):=λj=>by
    by_cases hj:j=i
    ·subst hj;simp[hl]
    rw[getD_set_ne false (λe=>hj e.symm)];simp[hj]
  have M9:fuel+(listed.setIfInBounds i true).toList.count true=ops.length:=by
    have e:(listed.setIfInBounds i true).toList=listed.toList.set i true:=by simp
    rw[e,List.count_set (by simpa using hl)];have:(listed.toList[i]'(by simpa using hl)==true)=false:=by simp[hl] at bX⊢;exact bX
    simp only[this];simp only[zaz,zbk,zbH,zba];omega
  have AN:(λj=>(listed.setIfInBounds i true).getD j false=true)=(λj=>listed.getD j false=true\/j=i):=funext λj=>propext (pX j);have K6:FJ ops (λj=>listed.getD j false=true\/j=i):=by
    intro j x hj o8 e he hb;rcases o8 with o8 |rfl
    ·exact .inl (hL j x hj o8 e he hb)
    rw[gg] at hj;cases hj;exact .inl (Di e he hb)
  have next: ∀(s1:S),bx Q cf ops s o=some s1->(∀a1 w1 F1 G1,aG Q T F1 G1 w1 a1 s1->Ext (Own G0 s0.rg) (Own G1 s1.rg) F0 F1 w0 w1->Ext (Own G s.rg) (Own G1 s1.rg) F F1 w w1->(o.dst≠some td->a1.tmps.getD td undef=a.tmps.getD td undef)->wpAnyIn (wd r) 0 Q .any ops.toArray Q' fuel (listed.setIfInBounds i true) a1 w1)->
     wpOpIn (wd r) 0 Q ops.toArray Q' i (wpAnyIn (wd r) 0 Q .any ops.toArray Q' fuel (listed.setIfInBounds i true)) a w:=by
    intro s1 sX mW;unfold wpOpIn;rw[ho];simp only[];by_cases hd:o.dst=some td
    ·have ln:=kT jC h sX (r:=r) (K:=wpAnyIn (wd r) 0 Q .any ops.toArray Q' fuel (listed.setIfInBounds i true)) (Q':=Q') (λa' w' ⟨F',G',g1,g2⟩=>mW a' w' F' G' g1 (hx.trans g2) g2 λdP=>absurd hd dP);split
     next hw=>rw[zao hw] at ln;exact ln
     rename_i hw;rw[zal hw] at ln;exact⟨λ_ _=>trivial,ln⟩
    have ln:=kT jC h sX (r:=r) (K:=λa' w'=>a'.tmps.getD td undef=a.tmps.getD td undef->wpAnyIn (wd r) 0 Q .any ops.toArray Q' fuel (listed.setIfInBounds i true) a' w') (Q':=Q') (λa' w' ⟨F',G',g1,g2⟩ hk=>mW a' w' F' G' g1 (hx.trans g2) g2 λ_=>hk);split
    next hw=>rw[zao hw] at ln;exact Xh hd ln
    rename_i hw;rw[zal hw] at ln;exact⟨λ_ _=>trivial,ln (uX hd)⟩
  rcases hm with⟨hi,VX⟩| ⟨hLm,dP,hi,hpe⟩
  · by_cases Q7:i=m/\ ¬Eff ops m (λj=>listed.getD j false=true)
    ·
     obtain⟨rfl,dP⟩:=Q7;rw[O5] at gg;cases gg;obtain⟨ii,zv,z,s3,v,k1,k2,_⟩:=yI K5 KY (tx.run i om O5);have hs0:lk s.tm td=none:=by rw[hi.tm2 td (λj y hj o8 hd=>tx.inj hj O5 (λe=>bX (e▸o8)) hd ho3)];exact h0
     have cc:=Nh (a:=a) (w:=w) K5 k1 k2;obtain⟨e1,e2⟩:=h.early (cs:=zv.cells) (e:=tt) (v:= .pointer (some ⟨w.heap.size,0,none⟩)) hs0;unfold wpOpIn;rw[ho];simp only[];rw[zao (by simp[Region.wanted,ho2])];refine tJ (λc hc=>by rw[ho1] at hc;cases hc) ?_;rw[cc,Oper.uponIn_value,ho3];refine ih _ _ _ s F G (by simp[dB]) M9 (by rw[AN];exact K6) e1 (hx.trans e2) (.inr ⟨(pX i).2 (.inr rfl),λhE=>dP λx p hxm hp hk=>((pX x).1 (hE x p hxm hp hk)).resolve_right (by omega),?_,?_⟩)
     ·have e:(λj=>(listed.setIfInBounds i true).getD j false=true/\j≠i)=λj=>listed.getD j false=true:=funext λj=>propext ⟨λhh=>((pX j).1 hh.1).resolve_right hh.2,λhh=>⟨(pX j).2 (.inl hh),λe=>bX (e▸hh)⟩⟩;rw[e];exact hi
     have htd:td<a.tmps.size:=by
      obtain⟨R',q',Xj⟩:=tx.step O5;rw[ho3] at Xj;have hn1:td<(St i).n:=by
       simp only[S.put] at Xj;split at Xj
       next hb=>simp[Nat.blt] at hb;omega
       cases Xj
      have Mz:=(tx.inv i (by omega)).1;have hn3:=hi.n;have:=h.size;omega
     exact⟨w.heap.size,ii,zv,k1,k2,heap_alloc_new w _,λhf=>by have:=h.jz _ hf;omega,λhO=>by obtain⟨n,e,he,hb⟩:=hO;have:=(h.rg n e he).lt hb;omega,hx.size,by simp,qcD htd⟩
    have Fl:i=m-> ∀x p,x<m->ops[x]?=some p->1<aF p->listed.getD x false=true:=λe x p h1 h2 h3=>zaM λhc=>Q7 ⟨e,λhE=>hc (hE x p h1 h2 h3)⟩;obtain⟨s1,sX,O3⟩:=tx.go hL hi gg bX Di VX Fl;refine next s1 sX λa1 w1 F1 G1 g1 g2 _ _=>ih _ _ _ s1 F1 G1 (by simp[dB]) M9 (by rw[AN];exact K6) g1 g2 (.inl ⟨by rw[AN];exact O3,λhmm x p h1 h2 h3=>(pX x).2 ?_⟩);rcases(pX m).1 hmm with hmm |e
    ·exact .inl (VX hmm x p h1 h2 h3)
    exact .inl (Fl e.symm x p h1 h2 h3)
  have gq:i≠m:=λe=>bX (e▸hLm);have FT: ∀(j:Nat) (x:Oper),ops[j]?=some x->(∀e∈x.after,Region.binds .any e=true->listed.getD e.on false=true)-> ∀e∈x.after,Region.binds .any e=true->e.on≠m:=by
   intro j x hj FK e he hb hem;have qcy:Nat.testBit (M.getD j 0) m=true:=by rw[tx.mask hj];have:=BP M x.after.toList e (by simpa using he) hb;rwa [hem] at this
   exact dP λy p h1 h2 h3=>tx.sub hL j x hj FK y (HM j x hj qcy y p h1 h2 h3)
  have hL2:FJ ops (λj=>listed.getD j false=true/\j≠m):=λj x hj o8 e he hb=>⟨hL j x hj o8.1 e he hb,FT j x hj (hL j x hj o8.1) e he hb⟩
  obtain⟨s1,sX,O3⟩:=tx.go hL2 hi gg (λhh=>bX hh.1) (λe he hb=>⟨Di e he hb,FT i o gg Di e he hb⟩) (λhh=>absurd rfl hh.2) (λe=>absurd e gq);have qiX:o.dst≠some td:=λhd=>tx.inj gg O5 gq hd ho3;have qf9:(λj=>(listed.getD j false=true/\j≠m)\/j=i)=λj=>(listed.setIfInBounds i true).getD j false=true/\j≠m:=funext λj=>propext ⟨λhh=>hh.elim (λhh=>⟨(pX j).2 (.inl hh.1),hh.2⟩) (λe=>⟨(pX j).2 (.inr e),by rw[e];exact gq⟩),λhh=>((pX j).1 hh.1).elim (λh1=> .inl ⟨h1,hh.2⟩) .inr⟩;refine next s1 sX λa1 w1 F1 G1 g1 g2 g3 g4=> ?_;have uC:=hpe.go g3 (g4 qiX);rw[qf9] at O3;have qcF:(listed.setIfInBounds i true).getD m false=true:=(pX m).2 (.inl hLm);by_cases hE:Eff ops m (λj=>(listed.setIfInBounds i true).getD j false=true)
  ·have qga:FJ ops (λj=>(listed.setIfInBounds i true).getD j false=true):=by rw[AN];exact K6
   have qiY:FJ ops (λj=>(listed.setIfInBounds i true).getD j false=true/\j≠m):=by
    rw[<-qf9];intro j x hj o8 e he hb;rcases o8 with o8 |rfl
    ·exact .inl (hL2 j x hj o8 e he hb)
    rw[gg] at hj;cases hj;exact .inl ⟨Di e he hb,FT _ _ gg Di e he hb⟩
   obtain⟨s2,hs2,VY⟩:=tx.go qiY O3 O5 (λhh=>hh.2 rfl) (λe he hb=>⟨qga m om O5 qcF e he hb,λe'=>by have:=tx.back O5 he hb;omega⟩) (λhh=>absurd rfl hh.2) (λ_ x p h1 h2 h3=>⟨hE x p h1 h2 h3,by omega⟩);obtain⟨G2,q1,q2⟩:=qcE K5 KY hs2 g1 uC g2;refine ih _ _ _ s2 F1 G2 (by simp[dB]) M9 qga q1 q2 (.inl ⟨?_,λ_=>hE⟩);have e:(λj=>((listed.setIfInBounds i true).getD j false=true/\j≠m)\/j=m)=λj=>(listed.setIfInBounds i true).getD j false=true:=funext λj=>propext ⟨λhh=>hh.elim (·.1) (λe=>e▸qcF),λhh=>(Classical.em (j=m)).elim .inr λhn=> .inl ⟨hh,hn⟩⟩;rw[<-e];exact VY
  exact ih _ _ _ s1 F1 G1 (by simp[dB]) M9 (by rw[AN];exact K6) g1 g2 (.inr ⟨qcF,hE,O3,uC⟩)
end
theorem wc{ops:List Oper}{M:List Nat}: ∀(l:List Oper) (j m:Nat) (t:TypeId) (d:Nat),uN ops M j l=some (m,t,d)->j<=m/\ ∃o,l[m-j]?=some o/\kC o=some (t,d)
 | [],_,_,_,_,h=>by cases h
 |o::r,j,m,t,d,h=>by
  unfold uN at h;have more:uN ops M (j+1) r=some (m,t,d)->j<=m/\ ∃p,(o::r)[m-j]?=some p/\kC p=some (t,d):=λh=>by obtain⟨h1,p,h2,h3⟩:=wc r (j+1) m t d h;exact⟨by omega,p,by rw[show m-j=(m-(j+1))+1 by omega,zcy];exact h2,h3⟩
  split at h
  next t' d' ha=>
   split at h
   ·exact more h
   cases h;exact⟨zak _,o,by simp,ha⟩
  exact more h
theorem FU{Q:Program}{T:Tg}{cf:CF}(jC:dC Q T.w0 cf){ops:List Oper}{F:Nat->Prop}{G:Nat->Value}{w:World}{a:Act}{s s':S}{r:Option Nat}{Q':Exit->Act->World->Prop}
  (h:aG Q T F G w a s) (hs:tv Q cf ops s=some s') (hK: ∀a' w',iY Q T F G w s s' a' w'->Q' .normal a' w'):wpAnyIn (wd r) 0 Q .any ops.toArray Q' ops.toArray.size (Array.replicate ops.toArray.size false) a {w with drawn:=w.drawn+1}:=by
 unfold tv at hs;split at hs
 next m t d hl=>
  split at hs
  next hc=>
   obtain⟨nK,KY,htd⟩:=hc;split at hs
   ·rename_i s1 l hd;split at hs
    ·rename_i qcC;simp at hs;subst hs;obtain⟨_,om,O5,K5⟩:=wc ops 0 m t d hl;rw[Nat.sub_zero] at O5;simp only[CG,zab] at nK;obtain⟨⟨c1,c2⟩,c3⟩:=nK;have zero: ∀i:Nat,0+i=i:=zaF;obtain⟨St,g1,g2,g3,g4⟩:=mL ops _ _ _ hd;have tx:Text Q cf ops (masks ops []) St m:=⟨λi o ho=>by have:=fA ops 0 c1 i o ho;rwa [zero] at this,λi j x y q6 hx hy=>by have:=gn ops 0 c2 i j x y q6 hx hy;rwa [zero,zero] at this,g3,λi j x y q6 hx hy jV hb=> .inr (by obtain⟨q,hq⟩:=sg l 0 True qcC i j _ _ q6 (g4 i x hx) (g4 j y hy);rw[zero,zero] at hq;exact yC (g3 i x hx) (g3 j y hy) jV hb hq)⟩
     have HM: ∀i o,ops[i]?=some o->Nat.testBit ((masks ops []).getD i 0) m=true->Eff ops m λx=>Nat.testBit ((masks ops []).getD i 0) x=true:=by
      intro i o ho hb x p hx hp hk;have h1:=fA ops 0 c3 i o ho;rw[zero] at h1;simp only[PE,hb,zdb,zbo] at h1;have h2:=fA ops 0 h1 x p hp;rw[zero] at h2;simp only[za9,zb0] at h2;rcases h2 with(h2 |h2)|h2
      ·omega
      ·omega
      exact h2
     have gj:(λj=>(Array.replicate ops.length false).getD j false=true)=λ_=>False:=by funext j;simp only[zaD,zda];split<;>simp
     have qiZ: ∀j,(Array.replicate ops.length false).getD j false=true->False:=λj hj=>by have:=congrFun gj j;simp only[eq_iff_iff,iff_false] at this;exact this hj
     have hsr:aG Q T F G {w with drawn:=w.drawn+1} a s:=h.drawn _ (zc5 _);have:=Xi (T:=T) (r:=r) tx jC O5 K5 KY (by rw[g1];exact htd) HM (F0:=F) (G0:=G) (w0:={w with drawn:=w.drawn+1}) (s0:=s) (Q':=Q')
      (λa' w' hp=>hK a' w' (by obtain⟨F',G',k1,k2⟩:=hp;rw[g2] at k1 k2;exact⟨F',G',k1,⟨k2.ll,k2.nj,k2.l4,k2.keep,k2.size,k2.os,k2.tape,k2.output⟩⟩))
      ops.length (Array.replicate ops.length false) a {w with drawn:=w.drawn+1} s F G (by simp) (by
       rw[Array.toList_replicate,List.count_replicate];simp) (by
       rw[gj];intro i o _ hf;exact hf.elim) hsr (Ext.refl _ _ _)
      (.inl ⟨by rw[gj];exact⟨by rw[g1],λi o t _ hf=>hf.elim,λt _=>by rw[g1],⟨0,by omega,by rw[g1],λi o _ _=>by simp⟩⟩,λhm=>(qiZ _ hm).elim⟩)
     simpa using this
    cases hs
   cases hs
  cases hs
 cases hs
theorem I8{Q:Program}{T:Tg}{cf:CF}(jC:dC Q T.w0 cf)(hm:Q.follows .mixedOrders=true){ops:List Oper}{F:Nat->Prop}{G:Nat->Value}{w:World}{a:Act}{s s':S}{r:Option Nat}{id:Nat}{Q':Exit->Act->World->Prop}
  (h:aG Q T F G w a s) (hs:jq Q cf ops s=some s') (hK: ∀a' w',iY Q T F G w s s' a' w'->Q' .normal a' w'):(Code.region id ops.toArray true).wpIn (wd r) 0 Q Q' a w:=by
 refine wpIn_region_any hm ?_;unfold jq at hs;split at hs
 ·split at hs
  ·exact FU jC h hs hK
  have:=wa (r:=r) (Q':=Q') jC h hs hK;have e:(c7 ops).toArray.size=ops.toArray.size:=by simp[c7]
  rw[e] at this;exact FQ _ _ _ _ this
 exact wa jC h hs hK
end Pi
