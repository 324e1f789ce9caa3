/- The text PiLate. -/
import Derived.Test.YtngoddkencoalaaGreatDoorPiKOk4
namespace Pi
open Go
theorem tZ{a:Act}{dst:Option Nat}{v:Value}{t:Nat}(h:dst≠some t):(a.put dst v).tmps.getD t undef=a.tmps.getD t undef:=by
 cases dst with
 |none=>rfl
 |some d=>have hd:d≠t:=λe=>h (by rw[e]);simp only[Act.put,zaD];rw[zaY hd]
theorem qbS{a:Act}{t:Nat}{v:Value}(h:t<a.tmps.size):(a.put (some t) v).tmps.getD t undef=v:=by simp[Act.put,Array.getD,h]
theorem Qj{a:Act}{t:Nat}{v:Value}(h:a.tmps.getD t undef=v):a.put (some t) v=a:=by simp only[Act.put];congr 1;refine zcR λi=> ?_;simp only[zaD] at h;grind
theorem Wx{F:Fence}{n:Nat}{Q:Program}{o:Oper}{a:Act}{w:World}{K:Act->World->Prop}{Q':Exit->Act->World->Prop}{t:Nat}(dI:o.dst≠some t)
  (h:o.wpIn F n Q a w (λa' w'=>a'.tmps.getD t undef=a.tmps.getD t undef->K a' w') Q'):o.wpIn F n Q a w K Q':=by
 refine⟨h.1,?_⟩;have hh:=h.2;generalize (o.semAt F.round a.eval).run Q w=r at*
 cases r with
 |ok x w'=>
  cases x<;>simp only[Oper.uponIn] at hh⊢ <;>
   first
    |exact hh (tZ dI)
    |exact⟨hh.1,CallsIn.mono hh.2 (λe w'' he=>by cases e<;>first |exact he (tZ dI)|exact he)⟩
    |exact⟨hh.1,RowsIn.mono hh.2 (λ_ _ he=>he (tZ dI))⟩
    |grind [tZ]
 |halt x w'=>cases x<;>simp only[Oper.uponIn] at hh⊢ <;>exact hh
section
variable{Q:Program}{T:Tg}{F:Nat->Prop}{G:Nat->Value}{w:World}{a:Act}{s:S}
theorem aD.mat(h:aD Q T F G w a s){n v:Nat}{o:Obj}{s':S}(hs:s.new n o=some (s',v)){g1:Value}{b:Nat}{cs:Array Value}{t:TypeId}(hb: ∀b',bH g1 o=some b'->b'=b)(hc:w.heap[b]?=some (.cells cs t))(hF: ¬F b)(hO: ¬Own G s.rg b)
  (ho:oB Q F w (Pi.ni G n g1) (ins n ⟨v,none,o⟩ s.rg) n o):
  aD Q T F (Pi.ni G n g1) w a s'/\(∀b',Own (Pi.ni G n g1) s'.rg b'->Own G s.rg b'\/b'=b)/\Names G (Pi.ni G n g1) s.rg s'.rg/\lk s'.rg n=some ⟨v,none,o⟩:=by
 obtain⟨rfl,xn⟩:=S.kV hs;have fY:qT G s.rg n ⟨v,none,o⟩ g1:=λe he=> .inl (xn e he);have hn:=gG fY;have oM: ∀m e,lk (ins n (⟨v,none,o⟩:En) s.rg) m=some e->(m=n/\e=⟨v,none,o⟩)\/(n≠m/\lk s.rg m=some e):=λm e he=>by grind [bC,bU]
 have fT: ∀b',Own (Pi.ni G n g1) (ins n (⟨v,none,o⟩:En) s.rg) b'->Own G s.rg b'\/b'=b:=by
  rintro b' ⟨m,e,he,dj⟩;rcases oM m e he with⟨rfl,rfl⟩| ⟨hm,he⟩
  ·rw[bb] at dj;grind
  rw[eT _ (zbD hm)] at dj;exact .inl ⟨m,e,he,dj⟩
 refine⟨⟨⟨h.rp.1,λd hd=> ?_⟩,h.size,λt p hp=>(h.tm t p hp).mono (λ_ h=>h) (λ_ _=>rfl) hn,?_,?_,?_,h.ji,?_,h.z,h.dr,h.sz⟩,fT,hn,bC _ _ _⟩
 ·obtain⟨D,h1,h0,h2,h3,h4⟩:=h.rp.2 d hd;grind
 ·intro m e he;rcases oM m e he with⟨rfl,rfl⟩| ⟨hm,he⟩
  ·exact ho
  exact(h.rg m e he).mono (λ_ h=>h) (λ_ _=>rfl) hn (eT _ (zbD hm)) (λ_ _=>rfl)
 ·intro m1 m2 e e' b' he cK jL cr;rcases oM m1 e he with⟨rfl,rfl⟩| ⟨Mc,DY⟩<;>rcases oM m2 e' cK with⟨rfl,rfl⟩| ⟨EH,Vg⟩
  ·rfl
  ·rw[bb] at jL;rw[eT _ (zbD EH)] at cr;rw[hb b' jL] at cr;exact absurd ⟨m2,e',Vg,cr⟩ hO
  ·rw[bb] at cr;rw[eT _ (zbD Mc)] at jL;rw[hb b' cr] at jL;exact absurd ⟨m1,e,DY,jL⟩ hO
  rw[eT _ (zbD Mc)] at jL;rw[eT _ (zbD EH)] at cr;exact h.own _ _ _ _ b' DY Vg jL cr
 ·intro m e b' he dj zR;rcases oM m e he with⟨rfl,rfl⟩| ⟨hm,he⟩
  ·rw[bb] at dj;rw[hb b' dj] at zR;exact hF zR
  rw[eT _ (zbD hm)] at dj;exact h.my m e b' he dj zR
 intro m e i he hi hl;rcases oM m e he with⟨rfl,rfl⟩| ⟨hm,he⟩
 ·cases hi
 rw[eT _ (zbD hm)];exact h.tag m e i he hi hl
theorem aD.early(h:aD Q T F G w a s){cs:Array Value}{e:TypeId}{d:Nat}{v:Value}(hd:lk s.tm d=none):aD Q T F G (w.alloc (.cells cs e)) (a.put (some d) v) s/\Ext (Own G s.rg) (Own G s.rg) F F w (w.alloc (.cells cs e)):=by
 have hk: ∀b,b<w.heap.size->(w.alloc (.cells cs e)).heap[b]?=w.heap[b]?:=λb hb=>vL w _ b hb;have dt:(w.alloc (.cells cs e)).heap.size=w.heap.size+1:=by simp
 have hx:Ext (Own G s.rg) (Own G s.rg) F F w (w.alloc (.cells cs e)):=⟨λ_ h=>h,λ_ h=> .inl h,λ_=> .inl,λb hb _=>hk b hb,by omega,rfl,rfl,rfl⟩
 refine⟨⟨h.rp.go hx,by simpa [Act.put] using h.size,λt p hp=> ?_,λn e he=>(h.rg n e he).mono (λ_ h=>h) (λb hb=>hk b (h.ji b hb)) (Names.refl _ _) rfl (λb hb=>hk b ((h.rg n e he).lt hb)),h.own,h.my,λb hb=>by have:=h.ji b hb;omega,h.tag,λb hb=>⟨(h.z b hb).1,(hk b (h.ji b (h.z b hb).1)).trans (h.z b hb).2⟩,h.dr,zaI h.sz hx.size⟩,hx⟩;have dI:(some d:Option Nat)≠some t:=λe=>by grind
 rw[tZ dI];exact cx.mono (λ_ h=>h) (λb hb=>hk b (h.ji b hb)) (Names.refl _ _) (h.tm t p hp)
theorem MF(s:S)(n:Nat)(p:P):sj s n p none=some (s,p):=by
 cases p with
 |d x=>cases x<;>rfl
 |_=>rfl
theorem uZ: ∀(ps:List P) (ts:List (Option TypeId)) (s:S) (n:Nat),ts.any Option.isSome=false->cm s n ps ts=some (s,ps)
 | [],_,_,_,_=>rfl
 |p::ps,ts,s,n,h=>by
  have h1:ts.headD none=none:=by
   cases ts with
   |nil=>rfl
   |cons t r=>simp_all
  have h2:ts.tail.any Option.isSome=false:=by
   cases ts with
   |nil=>rfl
   |cons t r=>grind
  simp only[cm,h1,MF,uZ ps ts.tail s (n+1) h2]
end
theorem nJ{o:Oper}{t:TypeId}{d:Nat}(h:j8 o=some (t,d)):o.op= .alloc t/\o.guard=none/\o.dst=some d:=by grind [j8]
theorem xW{Q:Program}{cf:CF}{ops:List Oper}{s s':S}{o:Oper}{t:TypeId}{d:Nat}(ho:j8 o=some (t,d))(Ko:qN Q t=false)(h:bu Q cf ops s o=some s'):
  ∃i zv z s3 v,Q.info? t=some i/\i.zero=some zv/\D.tM zv=some z/\s.new (site (some d)) (.box t (P.d z).cells)=some (s3,v)/\s3.put (some d) (.ref (site (some d)) v 0)=some s':=by
 obtain⟨h1,h2,h3⟩:=nJ ho;have hg:bp ops o=some none:=by unfold bp;rw[h2]
 unfold bu at h;simp only[hg] at h;unfold fX at h;have hc:gy o=none:=by unfold gy;rw[h1]
 have hm:rl o=none:=by unfold rl;rw[h1]
 have hn:c7 Q o=none:=by unfold c7;rw[h1]
 have hp:pv Q s o none=none:=by unfold pv;rw[h1]
 simp only[hc] at h;unfold exec at h;simp only[hm] at h;unfold jg at h;simp only[hn,hp] at h;unfold ef at h;grind [ey,nu,uZ,qN]
theorem MG{Q:Program}{w:World}{a:Act}{o:Oper}{t:TypeId}{d:Nat}(ho:j8 o=some (t,d)){i:TypeInfo}{zv:Value}(hi:Q.info? t=some i)(hz:i.zero=some zv):
  (execOp a.eval o).run Q w= .ok (.value (.pointer (some ⟨w.heap.size,0,none⟩))) (w.alloc (.cells zv.cells t)):=by
 obtain⟨h1,_,_⟩:=nJ ho;have AP:(zeroValue t).run Q w= .ok zv w:=by simp[zeroValue,typeInfo,hi,hz]
 simp[execOp,h1,Instr.alloc,AP,newVar,newRow]
section
variable{Q:Program}{T:Tg}{cf:CF}{ops:List Oper}{M:List Nat}{St:Nat->S}{r:Option Nat}{m:Nat}
def Eff(ops:List Oper)(m:Nat)(L:Nat->Prop):Prop:= ∀x p,x<m->ops[x]?=some p->1<aC p->L x
def MH(Q:Program)(F:Nat->Prop)(G:Nat->Value)(w0 w:World)(a:Act)(s:S)(t:TypeId)(d:Nat):Prop:=
 ∃b i zv,Q.info? t=some i/\i.zero=some zv/\w.heap[b]?=some (.cells zv.cells t)/\ ¬F b/\ ¬Own G s.rg b/\w0.heap.size<=b/\b<w.heap.size/\a.tmps.getD d undef= .pointer (some ⟨b,0,none⟩)
theorem MH.go{F F1:Nat->Prop}{G G1:Nat->Value}{w0 w w1:World}{a a1:Act}{s s1:S}{t:TypeId}{d:Nat}(h:MH Q F G w0 w a s t d)(hx:Ext (Own G s.rg) (Own G1 s1.rg) F F1 w w1)(ha:a1.tmps.getD d undef=a.tmps.getD d undef):MH Q F1 G1 w0 w1 a1 s1 t d:=by
 obtain⟨b,i,zv,h1,h2,h3,h4,h5,h6,h7,h8⟩:=h;refine⟨b,i,zv,h1,h2,(hx.keep b h7 h5).trans h3,λhf=> ?_,λho=> ?_,h6,za4 h7 hx.size,ha.trans h8⟩
 ·rcases hx.mH b hf with h |h |h
  ·exact h4 h
  ·exact h5 h
  omega
 rcases hx.lH b ho with h |h
 ·exact h5 h
 omega
theorem qbT{F0 F:Nat->Prop}{G0 G:Nat->Value}{w0 w:World}{a:Act}{R0:List (Nat×En)}{s s2:S}{o:Oper}{t:TypeId}{d:Nat}(ho:j8 o=some (t,d))(Ko:qN Q t=false)(hs:bu Q cf ops s o=some s2)(h:aD Q T F G w a s)
  (hp:MH Q F G w0 w a s t d) (hx:Ext (Own G0 R0) (Own G s.rg) F0 F w0 w): ∃G2,aD Q T F G2 w a s2/\Ext (Own G0 R0) (Own G2 s2.rg) F0 F w0 w:=by
 obtain⟨b,i,zv,h1,h2,h3,h4,h5,h6,h7,h8⟩:=hp;obtain⟨i',zv',z,s3,v,k1,k2,k3,k4,k5⟩:=xW ho Ko hs;rw[h1] at k1;cases k1;rw[h2] at k2;cases k2;have GY:a8 F w zv z:=a8.tM _ _ k3;obtain⟨c1,c2,c3⟩:=dY GY;obtain⟨m1,m2,m3,m4⟩:=h.mat k4 (g1:= .pointer (some ⟨b,0,none⟩)) (b:=b) (λb' hb=>by grind [bH,aR]) h3 h4 h5
  ⟨b,zv.cells,bb _ _ _,h3,by rw[o9,zaa,<-c1];simp,kP GY,λj p hj=>by
   rw[o9,zaJ,zaw] at hj;obtain⟨x,hx',rfl⟩:=hj;have hj3:j<zv.cells.size:=by grind
   have hu:zv.cells.toList[j]?=some (zv.cells.getD j undef):=by simp_all
   exact .d (c3 j _ x hu hx')⟩
 obtain⟨p1,p2⟩:=cz m1 k5 (v:= .pointer (some ⟨b,0,none⟩)) (cx.of (.ref (site (some d)) v 0 _ ⟨_,m4,zaj _,λ_ _=>⟨b,bb _ _ _,rfl⟩⟩ rfl));rw[Qj h8] at p1;refine⟨_,p1,?_⟩;rw[p2];exact⟨hx.kN,hx.mH,λb' dj=>by
  rcases m2 b' dj with h |rfl
  ·exact hx.lH b' h
  grind,hx.keep,hx.size,hx.os,hx.tape,hx.output⟩
theorem A9(acc:List Nat): ∀(es:List Edge) (e:Edge),e∈es->Region.binds .any e=true->Nat.testBit (kJ acc es) e.on=true
 | [],_,h,_=>by cases h
 |e'::r,e,h,hb=>by
  have lor: ∀a b:Nat,Nat.lor a b=a |||b:=λ_ _=>rfl
  unfold kJ;rcases zav.1 h with rfl |h
  ·rw[zao hb];simp
  have ih:=A9 acc r e h hb;grind
theorem Wy(tx:Text Q cf ops M St m)(jl:du Q T.w0 cf){om:Oper}{tt:TypeId}{td:Nat}(On:ops[m]?=some om)(Kv:j8 om=some (tt,td))(Ko:qN Q tt=false)(h0:lk (St 0).tm td=none)
  (G7: ∀i o,ops[i]?=some o->Nat.testBit (M.getD i 0) m=true->Eff ops m λx=>Nat.testBit (M.getD i 0) x=true)
  {F0:Nat->Prop} {G0:Nat->Value} {w0:World} {s0:S} {Q':Exit->Act->World->Prop} (hK: ∀a' w',iN Q T F0 G0 w0 s0 (St ops.length) a' w'->Q' .normal a' w'):
  ∀(fuel:Nat) (listed:Array Bool) (a:Act) (w:World) (s:S) (F:Nat->Prop) (G:Nat->Value),
  listed.size=ops.length->fuel+listed.toList.count true=ops.length->E2 ops (λj=>listed.getD j false=true)->aD Q T F G w a s->Ext (Own G0 s0.rg) (Own G s.rg) F0 F w0 w->
  ((Inv ops St (λj=>listed.getD j false=true) s/\(listed.getD m false=true->Eff ops m (λj=>listed.getD j false=true)))\/
   (listed.getD m false=true/\ ¬Eff ops m (λj=>listed.getD j false=true)/\Inv ops St (λj=>listed.getD j false=true/\j≠m) s/\MH Q F G w0 w a s tt td))->
  wpAnyIn (wd r) 0 Q .any ops.toArray Q' fuel listed a w:=by
 obtain⟨ho1,ho2,ho3⟩:=nJ Kv;have Wc:m<ops.length:=(zad.1 On).1;have jY: ∀(i:Nat) (o:Oper),ops.toArray[i]?=some o-> ∀e∈o.after,Region.binds .any e=true->e.on<i:=λi o ho e he hb=>tx.back (by simpa using ho) he hb;have fin: ∀(listed:Array Bool) (a:Act) (w:World) (s:S) (F:Nat->Prop) (G:Nat->Value),(∀i,i<ops.length->listed.getD i false=true)->aD Q T F G w a s->Ext (Own G0 s0.rg) (Own G s.rg) F0 F w0 w->
    ((Inv ops St (λj=>listed.getD j false=true) s/\(listed.getD m false=true->Eff ops m (λj=>listed.getD j false=true)))\/(listed.getD m false=true/\ ¬Eff ops m (λj=>listed.getD j false=true)/\Inv ops St (λj=>listed.getD j false=true/\j≠m) s/\MH Q F G w0 w a s tt td))->Q' .normal a w:=by
  intro listed a w s F G iq h hx hm;rcases hm with⟨hi,_⟩| ⟨_,dI,_⟩
  · obtain⟨h1,h2,h3⟩:=tx.last hi (λi o ho=>iq i (zad.1 ho).1);exact hK a w ⟨F,G,h.alike h1 h2 h3,by rw[<-h2];exact hx⟩
  exact absurd (λx p _ hp _=>iq x (zad.1 hp).1) dI
 intro fuel
 induction fuel with
 |zero=>
  intro listed a w s F G dt hc hL h hx hm;have iq: ∀i,i<ops.length->listed.getD i false=true:=λi bI=>by
    have qV:listed.toList.count true=listed.toList.length:=by rw[zcM,dt];omega
    have:=List.count_eq_length.1 qV listed[i] (by simp);simp[dt,bI,<-this]
  refine⟨?_,fin listed a w s F G iq h hx hm⟩;cases hr:Region.ready .any ops.toArray listed with
  |nil=>rfl
  |cons i r=>
    have hmm:i∈Region.ready .any ops.toArray listed:=by rw[hr];simp
    obtain⟨h0,o,ho,_⟩:=mem_ready.1 hmm;have bI:i<ops.length:=by have:=(zar.1 ho).1;simpa using this
    have h1:=iq i bI;have hl:i<listed.size:=by omega
    simp[hl] at h0 h1;rw[h0] at h1;cases h1
 |succ fuel ih=>
  intro listed a w s F G dt hc hL h hx hm;refine⟨λhr=>fin listed a w s F G (λi bI=>A3 (by simp[dt]) jY hr i (by simpa using bI)) h hx hm,λi fS=> ?_⟩;obtain⟨V5,o,ho,CK⟩:=mem_ready.1 fS;have gb:ops[i]?=some o:=by simpa using ho
  have bI:i<ops.length:=(zad.1 gb).1;have hl:i<listed.size:=by omega
  have b7: ¬listed.getD i false=true:=by simp[hl] at V5⊢;exact V5
  have py: ∀j,((listed.setIfInBounds i true).getD j false=true)↔(listed.getD j false=true\/j=i):=λj=>by
    by_cases hj:j=i
    ·subst hj;simp[hl]
    rw[getD_set_ne false (λe=>hj e.symm)];simp[hj]
  have Mz:fuel+(listed.setIfInBounds i true).toList.count true=ops.length:=by
    have e:(listed.setIfInBounds i true).toList=listed.toList.set i true:=by simp
    rw[e,List.count_set (by simpa using hl)];have:(listed.toList[i]'(by simpa using hl)==true)=false:=by simp[hl] at b7⊢;exact b7
    simp only[this];simp only[zaB,zbj,zbl,zbb];omega
  have z7:(λj=>(listed.setIfInBounds i true).getD j false=true)=(λj=>listed.getD j false=true\/j=i):=funext λj=>propext (py j);have Kw:E2 ops (λj=>listed.getD j false=true\/j=i):=by
    intro j x hj oD e he hb;rcases oD with oD |rfl
    ·exact .inl (hL j x hj oD e he hb)
    rw[gb] at hj;cases hj;exact .inl (CK e he hb)
  have next: ∀(s1:S),bu Q cf ops s o=some s1->(∀a1 w1 F1 G1,aD Q T F1 G1 w1 a1 s1->Ext (Own G0 s0.rg) (Own G1 s1.rg) F0 F1 w0 w1->Ext (Own G s.rg) (Own G1 s1.rg) F F1 w w1->(o.dst≠some td->a1.tmps.getD td undef=a.tmps.getD td undef)->wpAnyIn (wd r) 0 Q .any ops.toArray Q' fuel (listed.setIfInBounds i true) a1 w1)->
     wpOpIn (wd r) 0 Q ops.toArray Q' i (wpAnyIn (wd r) 0 Q .any ops.toArray Q' fuel (listed.setIfInBounds i true)) a w:=by
    intro s1 r8 mA;unfold wpOpIn;rw[ho];simp only[];by_cases hd:o.dst=some td
    ·have kO:=kz jl h r8 (r:=r) (K:=wpAnyIn (wd r) 0 Q .any ops.toArray Q' fuel (listed.setIfInBounds i true)) (Q':=Q') (λa' w' ⟨F',G',g1,g2⟩=>mA a' w' F' G' g1 (hx.trans g2) g2 λdI=>absurd hd dI);split
     next hw=>rw[zao hw] at kO;exact kO
     rename_i hw;rw[zam hw] at kO;exact⟨λ_ _=>trivial,kO⟩
    have kO:=kz jl h r8 (r:=r) (K:=λa' w'=>a'.tmps.getD td undef=a.tmps.getD td undef->wpAnyIn (wd r) 0 Q .any ops.toArray Q' fuel (listed.setIfInBounds i true) a' w') (Q':=Q') (λa' w' ⟨F',G',g1,g2⟩ hk=>mA a' w' F' G' g1 (hx.trans g2) g2 λ_=>hk);split
    next hw=>rw[zao hw] at kO;exact Wx hd kO
    rename_i hw;rw[zam hw] at kO;exact⟨λ_ _=>trivial,kO (tZ hd)⟩
  rcases hm with⟨hi,Vi⟩| ⟨hLm,dI,hi,hpe⟩
  · by_cases Qk:i=m/\ ¬Eff ops m (λj=>listed.getD j false=true)
    ·
     obtain⟨rfl,dI⟩:=Qk;rw[On] at gb;cases gb;obtain⟨ii,zv,z,s3,v,k1,k2,_⟩:=xW Kv Ko (tx.run i om On);have hs0:lk s.tm td=none:=by rw[hi.tm2 td (λj y hj oD hd=>tx.inj hj On (λe=>b7 (e▸oD)) hd ho3)];exact h0
     have bX:=MG (a:=a) (w:=w) Kv k1 k2;obtain⟨e1,e2⟩:=h.early (cs:=zv.cells) (e:=tt) (v:= .pointer (some ⟨w.heap.size,0,none⟩)) hs0;unfold wpOpIn;rw[ho];simp only[];rw[zao (by simp[Region.wanted,ho2])];refine sH (λc hc=>by rw[ho1] at hc;cases hc) ?_;rw[bX,Oper.uponIn_value,ho3];refine ih _ _ _ s F G (by simp[dt]) Mz (by rw[z7];exact Kw) e1 (hx.trans e2) (.inr ⟨(py i).2 (.inr rfl),λhE=>dI λx p hxm hp hk=>((py x).1 (hE x p hxm hp hk)).resolve_right (by omega),?_,?_⟩)
     ·have e:(λj=>(listed.setIfInBounds i true).getD j false=true/\j≠i)=λj=>listed.getD j false=true:=funext λj=>propext ⟨λhh=>((py j).1 hh.1).resolve_right hh.2,λhh=>⟨(py j).2 (.inl hh),λe=>b7 (e▸hh)⟩⟩;rw[e];exact hi
     have htd:td<a.tmps.size:=by
      obtain⟨R',q',Wz⟩:=tx.step On;rw[ho3] at Wz;have hn1:td<(St i).n:=by
       simp only[S.put] at Wz;split at Wz
       next hb=>simp[Nat.blt] at hb;omega
       cases Wz
      have Va:=(tx.inv i (by omega)).1;have hn3:=hi.n;have:=h.size;omega
     exact⟨w.heap.size,ii,zv,k1,k2,heap_alloc_new w _,λhf=>by have:=h.ji _ hf;omega,λhO=>by obtain⟨n,e,he,hb⟩:=hO;have:=(h.rg n e he).lt hb;omega,hx.size,by simp,qbS htd⟩
    have EH:i=m-> ∀x p,x<m->ops[x]?=some p->1<aC p->listed.getD x false=true:=λe x p h1 h2 h3=>zaN λhc=>Qk ⟨e,λhE=>hc (hE x p h1 h2 h3)⟩;obtain⟨s1,r8,Ol⟩:=tx.go hL hi gb b7 CK Vi EH;refine next s1 r8 λa1 w1 F1 G1 g1 g2 _ _=>ih _ _ _ s1 F1 G1 (by simp[dt]) Mz (by rw[z7];exact Kw) g1 g2 (.inl ⟨by rw[z7];exact Ol,λhmm x p h1 h2 h3=>(py x).2 ?_⟩);rcases(py m).1 hmm with hmm |e
    ·exact .inl (Vi hmm x p h1 h2 h3)
    exact .inl (EH e.symm x p h1 h2 h3)
  have gf:i≠m:=λe=>b7 (e▸hLm);have Fa: ∀(j:Nat) (x:Oper),ops[j]?=some x->(∀e∈x.after,Region.binds .any e=true->listed.getD e.on false=true)-> ∀e∈x.after,Region.binds .any e=true->e.on≠m:=by
   intro j x hj E3 e he hb hem;have qbN:Nat.testBit (M.getD j 0) m=true:=by rw[tx.mask hj];have:=A9 M x.after.toList e (by simpa using he) hb;rwa [hem] at this
   exact dI λy p h1 h2 h3=>tx.sub hL j x hj E3 y (G7 j x hj qbN y p h1 h2 h3)
  have hL2:E2 ops (λj=>listed.getD j false=true/\j≠m):=λj x hj oD e he hb=>⟨hL j x hj oD.1 e he hb,Fa j x hj (hL j x hj oD.1) e he hb⟩
  obtain⟨s1,r8,Ol⟩:=tx.go hL2 hi gb (λhh=>b7 hh.1) (λe he hb=>⟨CK e he hb,Fa i o gb CK e he hb⟩) (λhh=>absurd rfl hh.2) (λe=>absurd e gf);have qhT:o.dst≠some td:=λhd=>tx.inj gb On gf hd ho3;have qff:(λj=>(listed.getD j false=true/\j≠m)\/j=i)=λj=>(listed.setIfInBounds i true).getD j false=true/\j≠m:=funext λj=>propext ⟨λhh=>hh.elim (λhh=>⟨(py j).2 (.inl hh.1),hh.2⟩) (λe=>⟨(py j).2 (.inr e),by rw[e];exact gf⟩),λhh=>((py j).1 hh.1).elim (λh1=> .inl ⟨h1,hh.2⟩) .inr⟩;refine next s1 r8 λa1 w1 F1 G1 g1 g2 g3 g4=> ?_;have wE:=hpe.go g3 (g4 qhT);rw[qff] at Ol;have qbU:(listed.setIfInBounds i true).getD m false=true:=(py m).2 (.inl hLm);by_cases hE:Eff ops m (λj=>(listed.setIfInBounds i true).getD j false=true)
  ·have qfg:E2 ops (λj=>(listed.setIfInBounds i true).getD j false=true):=by rw[z7];exact Kw
   have qhU:E2 ops (λj=>(listed.setIfInBounds i true).getD j false=true/\j≠m):=by
    rw[<-qff];intro j x hj oD e he hb;rcases oD with oD |rfl
    ·exact .inl (hL2 j x hj oD e he hb)
    rw[gb] at hj;cases hj;exact .inl ⟨CK e he hb,Fa _ _ gb CK e he hb⟩
   obtain⟨s2,hs2,Vj⟩:=tx.go qhU Ol On (λhh=>hh.2 rfl) (λe he hb=>⟨qfg m om On qbU e he hb,λe'=>by have:=tx.back On he hb;omega⟩) (λhh=>absurd rfl hh.2) (λ_ x p h1 h2 h3=>⟨hE x p h1 h2 h3,by omega⟩);obtain⟨G2,q1,q2⟩:=qbT Kv Ko hs2 g1 wE g2;refine ih _ _ _ s2 F1 G2 (by simp[dt]) Mz qfg q1 q2 (.inl ⟨?_,λ_=>hE⟩);have e:(λj=>((listed.setIfInBounds i true).getD j false=true/\j≠m)\/j=m)=λj=>(listed.setIfInBounds i true).getD j false=true:=funext λj=>propext ⟨λhh=>hh.elim (·.1) (λe=>e▸qbU),λhh=>(Classical.em (j=m)).elim .inr λhn=> .inl ⟨hh,hn⟩⟩;rw[<-e];exact Vj
  exact ih _ _ _ s1 F1 G1 (by simp[dt]) Mz (by rw[z7];exact Kw) g1 g2 (.inr ⟨qbU,hE,Ol,wE⟩)
end
theorem u4{ops:List Oper}{M:List Nat}: ∀(l:List Oper) (j m:Nat) (t:TypeId) (d:Nat),tP ops M j l=some (m,t,d)->j<=m/\ ∃o,l[m-j]?=some o/\j8 o=some (t,d)
 | [],_,_,_,_,h=>by cases h
 |o::r,j,m,t,d,h=>by
  unfold tP at h;have more:tP ops M (j+1) r=some (m,t,d)->j<=m/\ ∃p,(o::r)[m-j]?=some p/\j8 p=some (t,d):=λh=>by obtain⟨h1,p,h2,h3⟩:=u4 r (j+1) m t d h;exact⟨by omega,p,by rw[show m-j=(m-(j+1))+1 by omega,zcv];exact h2,h3⟩
  split at h
  next t' d' ha=>
   split at h
   ·exact more h
   cases h;exact⟨zaj _,o,by simp,ha⟩
  exact more h
theorem Fb{Q:Program}{T:Tg}{cf:CF}(jl:du Q T.w0 cf){ops:List Oper}{F:Nat->Prop}{G:Nat->Value}{w:World}{a:Act}{s s':S}{r:Option Nat}{Q':Exit->Act->World->Prop}
  (h:aD Q T F G w a s) (hs:su Q cf ops s=some s') (hK: ∀a' w',iN Q T F G w s s' a' w'->Q' .normal a' w'):wpAnyIn (wd r) 0 Q .any ops.toArray Q' ops.toArray.size (Array.replicate ops.toArray.size false) a {w with drawn:=w.drawn+1}:=by
 unfold su at hs;split at hs
 next m t d hl=>
  split at hs
  next hc=>
   obtain⟨nf,Ko,htd⟩:=hc;split at hs
   ·rename_i s1 l hd;split at hs
    ·rename_i qbR;simp at hs;subst hs;obtain⟨_,om,On,Kv⟩:=u4 ops 0 m t d hl;rw[Nat.sub_zero] at On;simp only[B4,zab] at nf;obtain⟨⟨c1,c2⟩,c3⟩:=nf;have zero: ∀i:Nat,0+i=i:=zaG;obtain⟨St,g1,g2,g3,g4⟩:=mf ops _ _ _ hd;have tx:Text Q cf ops (masks ops []) St m:=⟨λi o ho=>by have:=fp ops 0 c1 i o ho;rwa [zero] at this,λi j x y qw hx hy=>by have:=ga ops 0 c2 i j x y qw hx hy;rwa [zero,zero] at this,g3,λi j x y qw hx hy jJ hb=> .inr (by obtain⟨q,hq⟩:=rB l 0 True qbR i j _ _ qw (g4 i x hx) (g4 j y hy);rw[zero,zero] at hq;exact xQ (g3 i x hx) (g3 j y hy) jJ hb hq)⟩
     have G7: ∀i o,ops[i]?=some o->Nat.testBit ((masks ops []).getD i 0) m=true->Eff ops m λx=>Nat.testBit ((masks ops []).getD i 0) x=true:=by
      intro i o ho hb x p hx hp hk;have h1:=fp ops 0 c3 i o ho;rw[zero] at h1;simp only[OT,hb,zdc,zbp] at h1;have h2:=fp ops 0 h1 x p hp;rw[zero] at h2;simp only[zba,zb0] at h2;rcases h2 with(h2 |h2)|h2
      ·omega
      ·omega
      exact h2
     have fW:(λj=>(Array.replicate ops.length false).getD j false=true)=λ_=>False:=by funext j;simp only[zaD,zdb];split<;>simp
     have qhV: ∀j,(Array.replicate ops.length false).getD j false=true->False:=λj hj=>by have:=congrFun fW j;simp only[eq_iff_iff,iff_false] at this;exact this hj
     have hsr:aD Q T F G {w with drawn:=w.drawn+1} a s:=h.drawn _ (zc6 _);have:=Wy (T:=T) (r:=r) tx jl On Kv Ko (by rw[g1];exact htd) G7 (F0:=F) (G0:=G) (w0:={w with drawn:=w.drawn+1}) (s0:=s) (Q':=Q')
      (λa' w' hp=>hK a' w' (by obtain⟨F',G',k1,k2⟩:=hp;rw[g2] at k1 k2;exact⟨F',G',k1,⟨k2.kN,k2.mH,k2.lH,k2.keep,k2.size,k2.os,k2.tape,k2.output⟩⟩))
      ops.length (Array.replicate ops.length false) a {w with drawn:=w.drawn+1} s F G (by simp) (by
       rw[Array.toList_replicate,List.count_replicate];simp) (by
       rw[fW];intro i o _ hf;exact hf.elim) hsr (Ext.refl _ _ _)
      (.inl ⟨by rw[fW];exact⟨by rw[g1],λi o t _ hf=>hf.elim,λt _=>by rw[g1],⟨0,by omega,by rw[g1],λi o _ _=>by simp⟩⟩,λhm=>(qhV _ hm).elim⟩)
     simpa using this
    cases hs
   cases hs
  cases hs
 cases hs
theorem Ip{Q:Program}{T:Tg}{cf:CF}(jl:du Q T.w0 cf)(hm:Q.follows .mixedOrders=true){ops:List Oper}{F:Nat->Prop}{G:Nat->Value}{w:World}{a:Act}{s s':S}{r:Option Nat}{id:Nat}{Q':Exit->Act->World->Prop}
  (h:aD Q T F G w a s) (hs:jc Q cf ops s=some s') (hK: ∀a' w',iN Q T F G w s s' a' w'->Q' .normal a' w'):(Code.region id ops.toArray true).wpIn (wd r) 0 Q Q' a w:=by
 refine wpIn_region_any hm ?_;unfold jc at hs;split at hs
 ·split at hs
  ·exact Fb jl h hs hK
  have:=uY (r:=r) (Q':=Q') jl h hs hK;have e:(cT ops).toArray.size=ops.toArray.size:=by simp[cT]
  rw[e] at this;exact E8 _ _ _ _ this
 exact uY jl h hs hK
end Pi
