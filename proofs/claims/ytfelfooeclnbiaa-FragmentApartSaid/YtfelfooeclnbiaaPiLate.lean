/- The text PiLate. -/
import Derived.Test.YtfelfooeclnbiaaPiKOk4
namespace Pi
open Go
theorem kU{a:Act}{dst:Option Nat}{v:Value}{t:Nat}(h:dst≠some t):(a.put dst v).tmps.getD t undef=a.tmps.getD t undef:=by
 cases dst with
 |none=>rfl
 |some d=>have hd:d≠t:=λe=>h (by rw[e]);simp only[Act.put,zak];rw[zay hd]
theorem Br{a:Act}{t:Nat}{v:Value}(h:t<a.tmps.size):(a.put (some t) v).tmps.getD t undef=v:=by simp[Act.put,Array.getD,h]
theorem xF{a:Act}{t:Nat}{v:Value}(h:a.tmps.getD t undef=v):a.put (some t) v=a:=by simp only[Act.put];congr 1;refine Array.ext_getElem? λi=> ?_;simp only[zak] at h;grind
theorem zw{F:Fence}{n:Nat}{Q:Program}{o:Oper}{a:Act}{w:World}{K:Act->World->Prop}{Q':Exit->Act->World->Prop}{t:Nat}(bY:o.dst≠some t)
  (h:o.wpIn F n Q a w (λa' w'=>a'.tmps.getD t undef=a.tmps.getD t undef->K a' w') Q'):o.wpIn F n Q a w K Q':=by
 refine⟨h.1,?_⟩;have hh:=h.2;generalize (o.semAt F.round a.eval).run Q w=r at*
 cases r with
 |ok x w'=>
  cases x<;>simp only[Oper.uponIn] at hh⊢ <;>
   first
    |exact hh (kU bY)
    |exact⟨hh.1,CallsIn.mono hh.2 (λe I1 he=>by cases e<;>first |exact he (kU bY)|exact he)⟩
    |exact⟨hh.1,RowsIn.mono hh.2 (λ_ _ he=>he (kU bY))⟩
    |grind [kU]
 |halt x w'=>cases x<;>simp only[Oper.uponIn] at hh⊢ <;>exact hh
section
variable{Q:Program}{T:Tg}{F:Nat->Prop}{G:Nat->Value}{w:World}{a:Act}{s:S}
theorem aq.Ig(h:aq Q T F G w a s){n v:Nat}{o:Obj}{s':S}(hs:s.new n o=some (s',v)){g1:Value}{b:Nat}{cs:Array Value}{t:TypeId}(hb: ∀b',aG g1 o=some b'->b'=b)(hc:w.heap[b]?=some (.cells cs t))(hF: ¬F b)(hO: ¬Own G s.rg b)
  (ho:hZ Q F w (Pi.gR G n g1) (ins n ⟨v,none,o⟩ s.rg) n o):
  aq Q T F (Pi.gR G n g1) w a s'/\(∀b',Own (Pi.gR G n g1) s'.rg b'->Own G s.rg b'\/b'=b)/\Names G (Pi.gR G n g1) s.rg s'.rg/\lk s'.rg n=some ⟨v,none,o⟩:=by
 obtain⟨rfl,mF⟩:=S.eR hs;have c6:gA G s.rg n ⟨v,none,o⟩ g1:=λe he=> .inl (mF e he);have hn:=cw c6;have gS: ∀m e,lk (ins n (⟨v,none,o⟩:En) s.rg) m=some e->(m=n/\e=⟨v,none,o⟩)\/(n≠m/\lk s.rg m=some e):=λm e he=>by grind [aJ,aR]
 have cx: ∀b',Own (Pi.gR G n g1) (ins n (⟨v,none,o⟩:En) s.rg) b'->Own G s.rg b'\/b'=b:=by
  rintro b' ⟨m,e,he,bU⟩;rcases gS m e he with⟨rfl,rfl⟩| ⟨hm,he⟩
  ·rw[av] at bU;grind
  rw[cb _ (zaS hm)] at bU;exact .inl ⟨m,e,he,bU⟩
 refine⟨⟨⟨h.si.1,λd hd=> ?_⟩,h.size,λt p hp=>(h.tm t p hp).mono (λ_ h=>h) (λ_ _=>rfl) hn,?_,?_,?_,h.gQ,?_,h.z,h.dr,h.sz⟩,cx,hn,aJ _ _ _⟩
 ·obtain⟨D,h1,h0,h2,h3,h4⟩:=h.si.2 d hd;grind
 ·intro m e he;rcases gS m e he with⟨rfl,rfl⟩| ⟨hm,he⟩
  ·exact ho
  exact(h.rg m e he).mono (λ_ h=>h) (λ_ _=>rfl) hn (cb _ (zaS hm)) (λ_ _=>rfl)
 ·intro m1 m2 e e' b' he a7 lh ja;rcases gS m1 e he with⟨rfl,rfl⟩| ⟨rV,nT⟩<;>rcases gS m2 e' a7 with⟨rfl,rfl⟩| ⟨uG,yp⟩
  ·rfl
  ·rw[av] at lh;rw[cb _ (zaS uG)] at ja;rw[hb b' lh] at ja;exact absurd ⟨m2,e',yp,ja⟩ hO
  ·rw[av] at ja;rw[cb _ (zaS rV)] at lh;rw[hb b' ja] at lh;exact absurd ⟨m1,e,nT,lh⟩ hO
  rw[cb _ (zaS rV)] at lh;rw[cb _ (zaS uG)] at ja;exact h.own _ _ _ _ b' nT yp lh ja
 ·intro m e b' he bU nU;rcases gS m e he with⟨rfl,rfl⟩| ⟨hm,he⟩
  ·rw[av] at bU;rw[hb b' bU] at nU;exact hF nU
  rw[cb _ (zaS hm)] at bU;exact h.iY m e b' he bU nU
 intro m e i he hi hl;rcases gS m e he with⟨rfl,rfl⟩| ⟨hm,he⟩
 ·cases hi
 rw[cb _ (zaS hm)];exact h.tag m e i he hi hl
theorem aq.early(h:aq Q T F G w a s){cs:Array Value}{e:TypeId}{d:Nat}{v:Value}(hd:lk s.tm d=none):aq Q T F G (w.alloc (.cells cs e)) (a.put (some d) v) s/\Ext (Own G s.rg) (Own G s.rg) F F w (w.alloc (.cells cs e)):=by
 have hk: ∀b,b<w.heap.size->(w.alloc (.cells cs e)).heap[b]?=w.heap[b]?:=λb hb=>lV w _ b hb;have bK:(w.alloc (.cells cs e)).heap.size=w.heap.size+1:=by simp
 have hx:Ext (Own G s.rg) (Own G s.rg) F F w (w.alloc (.cells cs e)):=⟨λ_ h=>h,λ_ h=> .inl h,λ_=> .inl,λb hb _=>hk b hb,by omega,rfl,rfl,rfl⟩
 refine⟨⟨h.si.go hx,by simpa [Act.put] using h.size,λt p hp=> ?_,λn e he=>(h.rg n e he).mono (λ_ h=>h) (λb hb=>hk b (h.gQ b hb)) (Names.refl _ _) rfl (λb hb=>hk b ((h.rg n e he).lt hb)),h.own,h.iY,λb hb=>by have:=h.gQ b hb;omega,h.tag,λb hb=>⟨(h.z b hb).1,(hk b (h.gQ b (h.z b hb).1)).trans (h.z b hb).2⟩,h.dr,zaB h.sz hx.size⟩,hx⟩;have bY:(some d:Option Nat)≠some t:=λe=>by grind
 rw[kU bY];exact bt.mono (λ_ h=>h) (λb hb=>hk b (h.gQ b hb)) (Names.refl _ _) (h.tm t p hp)
theorem vg(s:S)(n:Nat)(p:P):jU s n p none=some (s,p):=by
 cases p with
 |d x=>cases x<;>rfl
 |_=>rfl
theorem lF: ∀(ps:List P) (ts:List (Option TypeId)) (s:S) (n:Nat),ts.any Option.isSome=false->aS s n ps ts=some (s,ps)
 | [],_,_,_,_=>rfl
 |p::ps,ts,s,n,h=>by
  have h1:ts.headD none=none:=by
   cases ts with
   |nil=>rfl
   |cons t r=>simp_all
  have h2:ts.tail.any Option.isSome=false:=by
   cases ts with
   |nil=>rfl
   |cons t r=>grind
  simp only[aS,h1,vg,lF ps ts.tail s (n+1) h2]
end
theorem gp{o:Oper}{t:TypeId}{d:Nat}(h:ek o=some (t,d)):o.op= .alloc t/\o.guard=none/\o.dst=some d:=by grind [ek]
theorem nt{Q:Program}{cf:CF}{ops:List Oper}{s s':S}{o:Oper}{t:TypeId}{d:Nat}(ho:ek o=some (t,d))(lu:jj Q t=false)(h:aC Q cf ops s o=some s'):
  ∃i zv z s3 v,Q.info? t=some i/\i.zero=some zv/\D.kD zv=some z/\s.new (site (some d)) (.box t (P.d z).cells)=some (s3,v)/\s3.put (some d) (.ref (site (some d)) v 0)=some s':=by
 obtain⟨h1,h2,h3⟩:=gp ho;have hg:ay ops o=some none:=by unfold ay;rw[h2]
 unfold aC at h;simp only[hg] at h;unfold cC at h;have hc:eI o=none:=by unfold eI;rw[h1]
 have hm:jy o=none:=by unfold jy;rw[h1]
 have hn:bj Q o=none:=by unfold bj;rw[h1]
 have hp:pv Q s o none=none:=by unfold pv;rw[h1]
 simp only[hc] at h;unfold exec at h;simp only[hm] at h;unfold dI at h;simp only[hn,hp] at h;unfold ef at h;grind [bS,fV,lF,jj]
theorem vi{Q:Program}{w:World}{a:Act}{o:Oper}{t:TypeId}{d:Nat}(ho:ek o=some (t,d)){i:TypeInfo}{zv:Value}(hi:Q.info? t=some i)(hz:i.zero=some zv):
  (execOp a.eval o).run Q w= .ok (.value (.pointer (some ⟨w.heap.size,0,none⟩))) (w.alloc (.cells zv.cells t)):=by
 obtain⟨h1,_,_⟩:=gp ho;have nH:(zeroValue t).run Q w= .ok zv w:=by simp[zeroValue,typeInfo,hi,hz]
 simp[execOp,h1,Instr.alloc,nH,newVar,newRow]
section
variable{Q:Program}{T:Tg}{cf:CF}{ops:List Oper}{M:List Nat}{St:Nat->S}{r:Option Nat}{m:Nat}
def Ar(ops:List Oper)(m:Nat)(L:Nat->Prop):Prop:= ∀x p,x<m->ops[x]?=some p->1<aj p->L x
def vj(Q:Program)(F:Nat->Prop)(G:Nat->Value)(w0 w:World)(a:Act)(s:S)(t:TypeId)(d:Nat):Prop:=
 ∃b i zv,Q.info? t=some i/\i.zero=some zv/\w.heap[b]?=some (.cells zv.cells t)/\ ¬F b/\ ¬Own G s.rg b/\w0.heap.size<=b/\b<w.heap.size/\a.tmps.getD d undef= .pointer (some ⟨b,0,none⟩)
theorem vj.go{F F1:Nat->Prop}{G G1:Nat->Value}{w0 w w1:World}{a a1:Act}{s s1:S}{t:TypeId}{d:Nat}(h:vj Q F G w0 w a s t d)(hx:Ext (Own G s.rg) (Own G1 s1.rg) F F1 w w1)(ha:a1.tmps.getD d undef=a.tmps.getD d undef):vj Q F1 G1 w0 w1 a1 s1 t d:=by
 obtain⟨b,i,zv,h1,h2,h3,h4,h5,h6,h7,h8⟩:=h;refine⟨b,i,zv,h1,h2,(hx.keep b h7 h5).trans h3,λhf=> ?_,λho=> ?_,h6,zbe h7 hx.size,ha.trans h8⟩
 ·rcases hx.mr b hf with h |h |h
  ·exact h4 h
  ·exact h5 h
  omega
 rcases hx.kb b ho with h |h
 ·exact h5 h
 omega
theorem Bs{F0 F:Nat->Prop}{G0 G:Nat->Value}{w0 w:World}{a:Act}{R0:List (Nat×En)}{s s2:S}{o:Oper}{t:TypeId}{d:Nat}(ho:ek o=some (t,d))(lu:jj Q t=false)(hs:aC Q cf ops s o=some s2)(h:aq Q T F G w a s)
  (hp:vj Q F G w0 w a s t d) (hx:Ext (Own G0 R0) (Own G s.rg) F0 F w0 w): ∃G2,aq Q T F G2 w a s2/\Ext (Own G0 R0) (Own G2 s2.rg) F0 F w0 w:=by
 obtain⟨b,i,zv,h1,h2,h3,h4,h5,h6,h7,h8⟩:=hp;obtain⟨i',I2,z,s3,v,k1,k2,k3,k4,k5⟩:=nt ho lu hs;rw[h1] at k1;cases k1;rw[h2] at k2;cases k2;have ql:ax F w zv z:=ax.kD _ _ k3;obtain⟨c1,c2,c3⟩:=bO ql;obtain⟨m1,m2,m3,m4⟩:=h.Ig k4 (g1:= .pointer (some ⟨b,0,none⟩)) (b:=b) (λb' hb=>by grind [aG,ar]) h3 h4 h5
  ⟨b,zv.cells,av _ _ _,h3,by rw[ic,zar,<-c1];simp,eM ql,λj p hj=>by
   rw[ic,zao,zaj] at hj;obtain⟨x,Ih,rfl⟩:=hj;have GC:j<zv.cells.size:=by grind
   have hu:zv.cells.toList[j]?=some (zv.cells.getD j undef):=by simp_all
   exact .d (c3 j _ x hu Ih)⟩
 obtain⟨p1,p2⟩:=bg m1 k5 (v:= .pointer (some ⟨b,0,none⟩)) (bt.of (.ref (site (some d)) v 0 _ ⟨_,m4,zaf _,λ_ _=>⟨b,av _ _ _,rfl⟩⟩ rfl));rw[xF h8] at p1;refine⟨_,p1,?_⟩;rw[p2];exact⟨hx.h9,hx.mr,λb' bU=>by
  rcases m2 b' bU with h |rfl
  ·exact hx.kb b' h
  grind,hx.keep,hx.size,hx.os,hx.tape,hx.output⟩
theorem oU(acc:List Nat): ∀(es:List Edge) (e:Edge),e∈es->Region.binds .any e=true->Nat.testBit (eJ acc es) e.on=true
 | [],_,h,_=>by cases h
 |e'::r,e,h,hb=>by
  have lor: ∀a b:Nat,Nat.lor a b=a |||b:=λ_ _=>rfl
  unfold eJ;rcases zaw.1 h with rfl |h
  ·rw[zat hb];simp
  have ih:=oU acc r e h hb;grind
theorem zx(tx:Text Q cf ops M St m)(iQ:jc Q T.w0 cf){om:Oper}{tt:TypeId}{td:Nat}(vL:ops[m]?=some om)(Cp:ek om=some (tt,td))(lu:jj Q tt=false)(h0:lk (St 0).tm td=none)
  (Ch: ∀i o,ops[i]?=some o->Nat.testBit (M.getD i 0) m=true->Ar ops m λx=>Nat.testBit (M.getD i 0) x=true)
  {F0:Nat->Prop} {G0:Nat->Value} {w0:World} {s0:S} {Q':Exit->Act->World->Prop} (hK: ∀a' w',gk Q T F0 G0 w0 s0 (St ops.length) a' w'->Q' .normal a' w'):
  ∀(fuel:Nat) (ai:Array Bool) (a:Act) (w:World) (s:S) (F:Nat->Prop) (G:Nat->Value),
  ai.size=ops.length->fuel+ai.toList.count true=ops.length->rj ops (λj=>ai.getD j false=true)->aq Q T F G w a s->Ext (Own G0 s0.rg) (Own G s.rg) F0 F w0 w->
  ((Inv ops St (λj=>ai.getD j false=true) s/\(ai.getD m false=true->Ar ops m (λj=>ai.getD j false=true)))\/
   (ai.getD m false=true/\ ¬Ar ops m (λj=>ai.getD j false=true)/\Inv ops St (λj=>ai.getD j false=true/\j≠m) s/\vj Q F G w0 w a s tt td))->
  wpAnyIn (wd r) 0 Q .any ops.toArray Q' fuel ai a w:=by
 obtain⟨Bd,Ii,Er⟩:=gp Cp;have CW:m<ops.length:=(zaa.1 vL).1;have gy: ∀(i:Nat) (o:Oper),ops.toArray[i]?=some o-> ∀e∈o.after,Region.binds .any e=true->e.on<i:=λi o ho e he hb=>tx.back (by simpa using ho) he hb;have fin: ∀(ai:Array Bool) (a:Act) (w:World) (s:S) (F:Nat->Prop) (G:Nat->Value),(∀i,i<ops.length->ai.getD i false=true)->aq Q T F G w a s->Ext (Own G0 s0.rg) (Own G s.rg) F0 F w0 w->
    ((Inv ops St (λj=>ai.getD j false=true) s/\(ai.getD m false=true->Ar ops m (λj=>ai.getD j false=true)))\/(ai.getD m false=true/\ ¬Ar ops m (λj=>ai.getD j false=true)/\Inv ops St (λj=>ai.getD j false=true/\j≠m) s/\vj Q F G w0 w a s tt td))->Q' .normal a w:=by
  intro ai a w s F G dg h hx hm;rcases hm with⟨hi,_⟩| ⟨_,bY,_⟩
  · obtain⟨h1,h2,h3⟩:=tx.last hi (λi o ho=>dg i (zaa.1 ho).1);exact hK a w ⟨F,G,h.alike h1 h2 h3,by rw[<-h2];exact hx⟩
  exact absurd (λx p _ hp _=>dg x (zaa.1 hp).1) bY
 intro fuel
 induction fuel with
 |zero=>
  intro ai a w s F G bK hc hL h hx hm;have dg: ∀i,i<ops.length->ai.getD i false=true:=λi bu=>by
    have Al:ai.toList.count true=ai.toList.length:=by rw[zbG,bK];omega
    have:=List.count_eq_length.1 Al ai[i] (by simp);simp[bK,bu,<-this]
  refine⟨?_,fin ai a w s F G dg h hx hm⟩;cases hr:Region.ready .any ops.toArray ai with
  |nil=>rfl
  |cons i r=>
    have Dh:i∈Region.ready .any ops.toArray ai:=by rw[hr];simp
    obtain⟨h0,o,ho,_⟩:=mem_ready.1 Dh;have bu:i<ops.length:=by have:=(zal.1 ho).1;simpa using this
    have h1:=dg i bu;have hl:i<ai.size:=by omega
    simp[hl] at h0 h1;rw[h0] at h1;cases h1
 |succ fuel ih=>
  intro ai a w s F G bK hc hL h hx hm;refine⟨λhr=>fin ai a w s F G (λi bu=>oN (by simp[bK]) gy hr i (by simpa using bu)) h hx hm,λi kg=> ?_⟩;obtain⟨yi,o,ho,pW⟩:=mem_ready.1 kg;have pV:ops[i]?=some o:=by simpa using ho
  have bu:i<ops.length:=(zaa.1 pV).1;have hl:i<ai.size:=by omega
  have eb: ¬ai.getD i false=true:=by simp[hl] at yi⊢;exact yi
  have iz: ∀j,((ai.setIfInBounds i true).getD j false=true)↔(ai.getD j false=true\/j=i):=λj=>by
    by_cases hj:j=i
    ·subst hj;simp[hl]
    rw[getD_set_ne false (λe=>hj e.symm)];simp[hj]
  have vb:fuel+(ai.setIfInBounds i true).toList.count true=ops.length:=by
    have e:(ai.setIfInBounds i true).toList=ai.toList.set i true:=by simp
    rw[e,List.count_set (by simpa using hl)];have:(ai.toList[i]'(by simpa using hl)==true)=false:=by simp[hl] at eb⊢;exact eb
    simp only[this];simp only[zaz,za6,zbQ,zaT];omega
  have rl:(λj=>(ai.setIfInBounds i true).getD j false=true)=(λj=>ai.getD j false=true\/j=i):=funext λj=>propext (iz j);have tY:rj ops (λj=>ai.getD j false=true\/j=i):=by
    intro j x hj gI e he hb;rcases gI with gI |rfl
    ·exact .inl (hL j x hj gI e he hb)
    rw[pV] at hj;cases hj;exact .inl (pW e he hb)
  have next: ∀(s1:S),aC Q cf ops s o=some s1->(∀a1 w1 F1 G1,aq Q T F1 G1 w1 a1 s1->Ext (Own G0 s0.rg) (Own G1 s1.rg) F0 F1 w0 w1->Ext (Own G s.rg) (Own G1 s1.rg) F F1 w w1->(o.dst≠some td->a1.tmps.getD td undef=a.tmps.getD td undef)->wpAnyIn (wd r) 0 Q .any ops.toArray Q' fuel (ai.setIfInBounds i true) a1 w1)->
     wpOpIn (wd r) 0 Q ops.toArray Q' i (wpAnyIn (wd r) 0 Q .any ops.toArray Q' fuel (ai.setIfInBounds i true)) a w:=by
    intro s1 nJ Ag;unfold wpOpIn;rw[ho];simp only[];by_cases hd:o.dst=some td
    ·have gH:=iR iQ h nJ (r:=r) (K:=wpAnyIn (wd r) 0 Q .any ops.toArray Q' fuel (ai.setIfInBounds i true)) (Q':=Q') (λa' w' ⟨F',G',g1,g2⟩=>Ag a' w' F' G' g1 (hx.trans g2) g2 λbY=>absurd hd bY);split
     next hw=>rw[zat hw] at gH;exact gH
     rename_i hw;rw[zav hw] at gH;exact⟨λ_ _=>trivial,gH⟩
    have gH:=iR iQ h nJ (r:=r) (K:=λa' w'=>a'.tmps.getD td undef=a.tmps.getD td undef->wpAnyIn (wd r) 0 Q .any ops.toArray Q' fuel (ai.setIfInBounds i true) a' w') (Q':=Q') (λa' w' ⟨F',G',g1,g2⟩ hk=>Ag a' w' F' G' g1 (hx.trans g2) g2 λ_=>hk);split
    next hw=>rw[zat hw] at gH;exact zw hd gH
    rename_i hw;rw[zav hw] at gH;exact⟨λ_ _=>trivial,gH (kU hd)⟩
  rcases hm with⟨hi,GX⟩| ⟨GY,bY,hi,Ij⟩
  · by_cases xG:i=m/\ ¬Ar ops m (λj=>ai.getD j false=true)
    ·
     obtain⟨rfl,bY⟩:=xG;rw[vL] at pV;cases pV;obtain⟨ii,zv,z,s3,v,k1,k2,_⟩:=nt Cp lu (tx.run i om vL);have xH:lk s.tm td=none:=by rw[hi.Cn td (λj y hj gI hd=>tx.inj hj vL (λe=>eb (e▸gI)) hd Er)];exact h0
     have aY:=vi (a:=a) (w:=w) Cp k1 k2;obtain⟨e1,e2⟩:=h.early (cs:=zv.cells) (e:=tt) (v:= .pointer (some ⟨w.heap.size,0,none⟩)) xH;unfold wpOpIn;rw[ho];simp only[];rw[zat (by simp[Region.wanted,Ii])];refine pH (λc hc=>by rw[Bd] at hc;cases hc) ?_;rw[aY,Oper.uponIn_value,Er];refine ih _ _ _ s F G (by simp[bK]) vb (by rw[rl];exact tY) e1 (hx.trans e2) (.inr ⟨(iz i).2 (.inr rfl),λhE=>bY λx p Af hp hk=>((iz x).1 (hE x p Af hp hk)).resolve_right (by omega),?_,?_⟩)
     ·have e:(λj=>(ai.setIfInBounds i true).getD j false=true/\j≠i)=λj=>ai.getD j false=true:=funext λj=>propext ⟨λhh=>((iz j).1 hh.1).resolve_right hh.2,λhh=>⟨(iz j).2 (.inl hh),λe=>eb (e▸hh)⟩⟩;rw[e];exact hi
     have FJ:td<a.tmps.size:=by
      obtain⟨R',q',zy⟩:=tx.step vL;rw[Er] at zy;have I3:td<(St i).n:=by
       simp only[S.put] at zy;split at zy
       next hb=>simp[Nat.blt] at hb;omega
       cases zy
      have Ed:=(tx.inv i (by omega)).1;have I4:=hi.n;have:=h.size;omega
     exact⟨w.heap.size,ii,zv,k1,k2,heap_alloc_new w _,λhf=>by have:=h.gQ _ hf;omega,λhO=>by obtain⟨n,e,he,hb⟩:=hO;have:=(h.rg n e he).lt hb;omega,hx.size,by simp,Br FJ⟩
    have uG:i=m-> ∀x p,x<m->ops[x]?=some p->1<aj p->ai.getD x false=true:=λe x p h1 h2 h3=>zb1 λhc=>xG ⟨e,λhE=>hc (hE x p h1 h2 h3)⟩;obtain⟨s1,nJ,Bo⟩:=tx.go hL hi pV eb pW GX uG;refine next s1 nJ λa1 w1 F1 G1 g1 g2 _ _=>ih _ _ _ s1 F1 G1 (by simp[bK]) vb (by rw[rl];exact tY) g1 g2 (.inl ⟨by rw[rl];exact Bo,λDh x p h1 h2 h3=>(iz x).2 ?_⟩);rcases(iz m).1 Dh with Dh |e
    ·exact .inl (GX Dh x p h1 h2 h3)
    exact .inl (uG e.symm x p h1 h2 h3)
  have FK:i≠m:=λe=>eb (e▸GY);have Cj: ∀(j:Nat) (x:Oper),ops[j]?=some x->(∀e∈x.after,Region.binds .any e=true->ai.getD e.on false=true)-> ∀e∈x.after,Region.binds .any e=true->e.on≠m:=by
   intro j x hj rk e he hb Cq;have Bk:Nat.testBit (M.getD j 0) m=true:=by rw[tx.mask hj];have:=oU M x.after.toList e (by simpa using he) hb;rwa [Cq] at this
   exact bY λy p h1 h2 h3=>tx.sub hL j x hj rk y (Ch j x hj Bk y p h1 h2 h3)
  have GZ:rj ops (λj=>ai.getD j false=true/\j≠m):=λj x hj gI e he hb=>⟨hL j x hj gI.1 e he hb,Cj j x hj (hL j x hj gI.1) e he hb⟩
  obtain⟨s1,nJ,Bo⟩:=tx.go GZ hi pV (λhh=>eb hh.1) (λe he hb=>⟨pW e he hb,Cj i o pV pW e he hb⟩) (λhh=>absurd rfl hh.2) (λe=>absurd e FK);have FL:o.dst≠some td:=λhd=>tx.inj pV vL FK hd Er;have Di:(λj=>(ai.getD j false=true/\j≠m)\/j=i)=λj=>(ai.setIfInBounds i true).getD j false=true/\j≠m:=funext λj=>propext ⟨λhh=>hh.elim (λhh=>⟨(iz j).2 (.inl hh.1),hh.2⟩) (λe=>⟨(iz j).2 (.inr e),by rw[e];exact FK⟩),λhh=>((iz j).1 hh.1).elim (λh1=> .inl ⟨h1,hh.2⟩) .inr⟩;refine next s1 nJ λa1 w1 F1 G1 g1 g2 g3 g4=> ?_;have Dj:=Ij.go g3 (g4 FL);rw[Di] at Bo;have Bt:(ai.setIfInBounds i true).getD m false=true:=(iz m).2 (.inl GY);by_cases hE:Ar ops m (λj=>(ai.setIfInBounds i true).getD j false=true)
  ·have Dk:rj ops (λj=>(ai.setIfInBounds i true).getD j false=true):=by rw[rl];exact tY
   have FM:rj ops (λj=>(ai.setIfInBounds i true).getD j false=true/\j≠m):=by
    rw[<-Di];intro j x hj gI e he hb;rcases gI with gI |rfl
    ·exact .inl (GZ j x hj gI e he hb)
    rw[pV] at hj;cases hj;exact .inl ⟨pW e he hb,Cj _ _ pV pW e he hb⟩
   obtain⟨s2,GK,Es⟩:=tx.go FM Bo vL (λhh=>hh.2 rfl) (λe he hb=>⟨Dk m om vL Bt e he hb,λe'=>by have:=tx.back vL he hb;omega⟩) (λhh=>absurd rfl hh.2) (λ_ x p h1 h2 h3=>⟨hE x p h1 h2 h3,by omega⟩);obtain⟨G2,q1,q2⟩:=Bs Cp lu GK g1 Dj g2;refine ih _ _ _ s2 F1 G2 (by simp[bK]) vb Dk q1 q2 (.inl ⟨?_,λ_=>hE⟩);have e:(λj=>((ai.setIfInBounds i true).getD j false=true/\j≠m)\/j=m)=λj=>(ai.setIfInBounds i true).getD j false=true:=funext λj=>propext ⟨λhh=>hh.elim (·.1) (λe=>e▸Bt),λhh=>(Classical.em (j=m)).elim .inr λhn=> .inl ⟨hh,hn⟩⟩;rw[<-e];exact Es
  exact ih _ _ _ s1 F1 G1 (by simp[bK]) vb (by rw[rl];exact tY) g1 g2 (.inr ⟨Bt,hE,Bo,Dj⟩)
end
theorem lG{ops:List Oper}{M:List Nat}: ∀(l:List Oper) (j m:Nat) (t:TypeId) (d:Nat),kH ops M j l=some (m,t,d)->j<=m/\ ∃o,l[m-j]?=some o/\ek o=some (t,d)
 | [],_,_,_,_,h=>by cases h
 |o::r,j,m,t,d,h=>by
  unfold kH at h;have more:kH ops M (j+1) r=some (m,t,d)->j<=m/\ ∃p,(o::r)[m-j]?=some p/\ek p=some (t,d):=λh=>by obtain⟨h1,p,h2,h3⟩:=lG r (j+1) m t d h;exact⟨by omega,p,by rw[show m-j=(m-(j+1))+1 by omega,zbv];exact h2,h3⟩
  split at h
  next t' d' ha=>
   split at h
   ·exact more h
   cases h;exact⟨zaf _,o,by simp,ha⟩
  exact more h
theorem ry{Q:Program}{T:Tg}{cf:CF}(iQ:jc Q T.w0 cf){ops:List Oper}{F:Nat->Prop}{G:Nat->Value}{w:World}{a:Act}{s s':S}{r:Option Nat}{Q':Exit->Act->World->Prop}
  (h:aq Q T F G w a s) (hs:jY Q cf ops s=some s') (hK: ∀a' w',gk Q T F G w s s' a' w'->Q' .normal a' w'):wpAnyIn (wd r) 0 Q .any ops.toArray Q' ops.toArray.size (Array.replicate ops.toArray.size false) a {w with drawn:=w.drawn+1}:=by
 unfold jY at hs;split at hs
 next m t d hl=>
  split at hs
  next hc=>
   obtain⟨iN,lu,FJ⟩:=hc;split at hs
   ·rename_i s1 l hd;split at hs
    ·rename_i Bp;simp at hs;subst hs;obtain⟨_,om,vL,Cp⟩:=lG ops 0 m t d hl;rw[Nat.sub_zero] at vL;simp only[pe,zac] at iN;obtain⟨⟨c1,c2⟩,c3⟩:=iN;have zero: ∀i:Nat,0+i=i:=zbc;obtain⟨St,g1,g2,g3,g4⟩:=fy ops _ _ _ hd;have tx:Text Q cf ops (masks ops []) St m:=⟨λi o ho=>by have:=cu ops 0 c1 i o ho;rwa [zero] at this,λi j x y jo hx hy=>by have:=cE ops 0 c2 i j x y jo hx hy;rwa [zero,zero] at this,g3,λi j x y jo hx hy dS hb=> .inr (by obtain⟨q,hq⟩:=jJ l 0 True Bp i j _ _ jo (g4 i x hx) (g4 j y hy);rw[zero,zero] at hq;exact ni (g3 i x hx) (g3 j y hy) dS hb hq)⟩
     have Ch: ∀i o,ops[i]?=some o->Nat.testBit ((masks ops []).getD i 0) m=true->Ar ops m λx=>Nat.testBit ((masks ops []).getD i 0) x=true:=by
      intro i o ho hb x p hx hp hk;have h1:=cu ops 0 c3 i o ho;rw[zero] at h1;simp only[vZ,hb,Bool.not_true,zbL] at h1;have h2:=cu ops 0 h1 x p hp;rw[zero] at h2;simp only[zbm,zbd] at h2;rcases h2 with(h2 |h2)|h2
      ·omega
      ·omega
      exact h2
     have jD:(λj=>(Array.replicate ops.length false).getD j false=true)=λ_=>False:=by funext j;simp only[zak,zb3];split<;>simp
     have FN: ∀j,(Array.replicate ops.length false).getD j false=true->False:=λj hj=>by have:=congrFun jD j;simp only[eq_iff_iff,iff_false] at this;exact this hj
     have FG:aq Q T F G {w with drawn:=w.drawn+1} a s:=h.drawn _ (zbH _);have:=zx (T:=T) (r:=r) tx iQ vL Cp lu (by rw[g1];exact FJ) Ch (F0:=F) (G0:=G) (w0:={w with drawn:=w.drawn+1}) (s0:=s) (Q':=Q')
      (λa' w' hp=>hK a' w' (by obtain⟨F',G',k1,k2⟩:=hp;rw[g2] at k1 k2;exact⟨F',G',k1,⟨k2.h9,k2.mr,k2.kb,k2.keep,k2.size,k2.os,k2.tape,k2.output⟩⟩))
      ops.length (Array.replicate ops.length false) a {w with drawn:=w.drawn+1} s F G (by simp) (by
       rw[Array.toList_replicate,List.count_replicate];simp) (by
       rw[jD];intro i o _ hf;exact hf.elim) FG (Ext.refl _ _ _)
      (.inl ⟨by rw[jD];exact⟨by rw[g1],λi o t _ hf=>hf.elim,λt _=>by rw[g1],⟨0,by omega,by rw[g1],λi o _ _=>by simp⟩⟩,λhm=>(FN _ hm).elim⟩)
     simpa using this
    cases hs
   cases hs
  cases hs
 cases hs
theorem s7{Q:Program}{T:Tg}{cf:CF}(iQ:jc Q T.w0 cf)(hm:Q.follows .mixedOrders=true){ops:List Oper}{F:Nat->Prop}{G:Nat->Value}{w:World}{a:Act}{s s':S}{r:Option Nat}{id:Nat}{Q':Exit->Act->World->Prop}
  (h:aq Q T F G w a s) (hs:dE Q cf ops s=some s') (hK: ∀a' w',gk Q T F G w s s' a' w'->Q' .normal a' w'):(Code.region id ops.toArray true).wpIn (wd r) 0 Q Q' a w:=by
 refine wpIn_region_any hm ?_;unfold dE at hs;split at hs
 ·split at hs
  ·exact ry iQ h hs hK
  have:=lD (r:=r) (Q':=Q') iQ h hs hK;have e:(bf ops).toArray.size=ops.toArray.size:=by simp[bf]
  rw[e] at this;exact rr _ _ _ _ this
 exact lD iQ h hs hK
end Pi
