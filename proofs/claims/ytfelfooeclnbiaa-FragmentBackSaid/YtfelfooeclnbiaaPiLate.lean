/- The text PiLate. -/
import Derived.Test.YtfelfooeclnbiaaPiKOk4
namespace Pi
open Go
theorem kM{a:Act}{dst:Option Nat}{v:Value}{t:Nat}(h:dst≠some t):(a.put dst v).tmps.getD t undef=a.tmps.getD t undef:=by
 cases dst with
 |none=>rfl
 |some d=>have hd:d≠t:=λe=>h (by rw[e]);simp only[Act.put,zam];rw[zax hd]
theorem A9{a:Act}{t:Nat}{v:Value}(h:t<a.tmps.size):(a.put (some t) v).tmps.getD t undef=v:=by simp[Act.put,Array.getD,h]
theorem xE{a:Act}{t:Nat}{v:Value}(h:a.tmps.getD t undef=v):a.put (some t) v=a:=by simp only[Act.put];congr 1;refine Array.ext_getElem? λi=> ?_;simp only[zam] at h;grind
theorem zo{F:Fence}{n:Nat}{Q:Program}{o:Oper}{a:Act}{w:World}{K:Act->World->Prop}{Q':Exit->Act->World->Prop}{t:Nat}(cc:o.dst≠some t)
  (h:o.wpIn F n Q a w (λa' w'=>a'.tmps.getD t undef=a.tmps.getD t undef->K a' w') Q'):o.wpIn F n Q a w K Q':=by
 refine⟨h.1,?_⟩;have hh:=h.2;generalize (o.semAt F.round a.eval).run Q w=r at*
 cases r with
 |ok x w'=>
  cases x<;>simp only[Oper.uponIn] at hh⊢ <;>
   first
    |exact hh (kM cc)
    |exact⟨hh.1,CallsIn.mono hh.2 (λe Ig he=>by cases e<;>first |exact he (kM cc)|exact he)⟩
    |exact⟨hh.1,RowsIn.mono hh.2 (λ_ _ he=>he (kM cc))⟩
    |grind [kM]
 |halt x w'=>cases x<;>simp only[Oper.uponIn] at hh⊢ <;>exact hh
section
variable{Q:Program}{T:Tg}{F:Nat->Prop}{G:Nat->Value}{w:World}{a:Act}{s:S}
theorem ar.Hz(h:ar Q T F G w a s){n v:Nat}{o:Obj}{s':S}(hs:s.new n o=some (s',v)){g1:Value}{b:Nat}{cs:Array Value}{t:TypeId}(hb: ∀b',aH g1 o=some b'->b'=b)(hc:w.heap[b]?=some (.cells cs t))(hF: ¬F b)(hO: ¬Own G s.rg b)
  (ho:gY Q F w (Pi.gL G n g1) (ins n ⟨v,none,o⟩ s.rg) n o):
  ar Q T F (Pi.gL G n g1) w a s'/\(∀b',Own (Pi.gL G n g1) s'.rg b'->Own G s.rg b'\/b'=b)/\Names G (Pi.gL G n g1) s.rg s'.rg/\lk s'.rg n=some ⟨v,none,o⟩:=by
 obtain⟨rfl,mw⟩:=S.eS hs;have df:gx G s.rg n ⟨v,none,o⟩ g1:=λe he=> .inl (mw e he);have hn:=cz df;have gM: ∀m e,lk (ins n (⟨v,none,o⟩:En) s.rg) m=some e->(m=n/\e=⟨v,none,o⟩)\/(n≠m/\lk s.rg m=some e):=λm e he=>by grind [aK,aS]
 have cA: ∀b',Own (Pi.gL G n g1) (ins n (⟨v,none,o⟩:En) s.rg) b'->Own G s.rg b'\/b'=b:=by
  rintro b' ⟨m,e,he,bX⟩;rcases gM m e he with⟨rfl,rfl⟩| ⟨hm,he⟩
  ·rw[ax] at bX;grind
  rw[cd _ (za1 hm)] at bX;exact .inl ⟨m,e,he,bX⟩
 refine⟨⟨⟨h.r4.1,λd hd=> ?_⟩,h.size,λt p hp=>(h.tm t p hp).mono (λ_ h=>h) (λ_ _=>rfl) hn,?_,?_,?_,h.gK,?_,h.z,h.dr,h.sz⟩,cA,hn,aK _ _ _⟩
 ·obtain⟨D,h1,h0,h2,h3,h4⟩:=h.r4.2 d hd;grind
 ·intro m e he;rcases gM m e he with⟨rfl,rfl⟩| ⟨hm,he⟩
  ·exact ho
  exact(h.rg m e he).mono (λ_ h=>h) (λ_ _=>rfl) hn (cd _ (za1 hm)) (λ_ _=>rfl)
 ·intro m1 m2 e e' b' he bb k7 js;rcases gM m1 e he with⟨rfl,rfl⟩| ⟨tH,nM⟩<;>rcases gM m2 e' bb with⟨rfl,rfl⟩| ⟨uE,yp⟩
  ·rfl
  ·rw[ax] at k7;rw[cd _ (za1 uE)] at js;rw[hb b' k7] at js;exact absurd ⟨m2,e',yp,js⟩ hO
  ·rw[ax] at js;rw[cd _ (za1 tH)] at k7;rw[hb b' js] at k7;exact absurd ⟨m1,e,nM,k7⟩ hO
  rw[cd _ (za1 tH)] at k7;rw[cd _ (za1 uE)] at js;exact h.own _ _ _ _ b' nM yp k7 js
 ·intro m e b' he bX nN;rcases gM m e he with⟨rfl,rfl⟩| ⟨hm,he⟩
  ·rw[ax] at bX;rw[hb b' bX] at nN;exact hF nN
  rw[cd _ (za1 hm)] at bX;exact h.iO m e b' he bX nN
 intro m e i he hi hl;rcases gM m e he with⟨rfl,rfl⟩| ⟨hm,he⟩
 ·cases hi
 rw[cd _ (za1 hm)];exact h.tag m e i he hi hl
theorem ar.early(h:ar Q T F G w a s){cs:Array Value}{e:TypeId}{d:Nat}{v:Value}(hd:lk s.tm d=none):ar Q T F G (w.alloc (.cells cs e)) (a.put (some d) v) s/\Ext (Own G s.rg) (Own G s.rg) F F w (w.alloc (.cells cs e)):=by
 have hk: ∀b,b<w.heap.size->(w.alloc (.cells cs e)).heap[b]?=w.heap[b]?:=λb hb=>lQ w _ b hb;have bM:(w.alloc (.cells cs e)).heap.size=w.heap.size+1:=by simp
 have hx:Ext (Own G s.rg) (Own G s.rg) F F w (w.alloc (.cells cs e)):=⟨λ_ h=>h,λ_ h=> .inl h,λ_=> .inl,λb hb _=>hk b hb,by omega,rfl,rfl,rfl⟩
 refine⟨⟨h.r4.go hx,by simpa [Act.put] using h.size,λt p hp=> ?_,λn e he=>(h.rg n e he).mono (λ_ h=>h) (λb hb=>hk b (h.gK b hb)) (Names.refl _ _) rfl (λb hb=>hk b ((h.rg n e he).lt hb)),h.own,h.iO,λb hb=>by have:=h.gK b hb;omega,h.tag,λb hb=>⟨(h.z b hb).1,(hk b (h.gK b (h.z b hb).1)).trans (h.z b hb).2⟩,h.dr,zaB h.sz hx.size⟩,hx⟩;have cc:(some d:Option Nat)≠some t:=λe=>by grind
 rw[kM cc];exact bx.mono (λ_ h=>h) (λb hb=>hk b (h.gK b hb)) (Names.refl _ _) (h.tm t p hp)
theorem vg(s:S)(n:Nat)(p:P):jL s n p none=some (s,p):=by
 cases p with
 |d x=>cases x<;>rfl
 |_=>rfl
theorem ly: ∀(ps:List P) (ts:List (Option TypeId)) (s:S) (n:Nat),ts.any Option.isSome=false->aT s n ps ts=some (s,ps)
 | [],_,_,_,_=>rfl
 |p::ps,ts,s,n,h=>by
  have h1:ts.headD none=none:=by
   cases ts with
   |nil=>rfl
   |cons t r=>simp_all
  have h2:ts.tail.any Option.isSome=false:=by
   cases ts with
   |nil=>rfl
   |cons t r=>grind
  simp only[aT,h1,vg,ly ps ts.tail s (n+1) h2]
end
theorem gl{o:Oper}{t:TypeId}{d:Nat}(h:ec o=some (t,d)):o.op= .alloc t/\o.guard=none/\o.dst=some d:=by grind [ec]
theorem nf{Q:Program}{cf:CF}{ops:List Oper}{s s':S}{o:Oper}{t:TypeId}{d:Nat}(ho:ec o=some (t,d))(qF:iZ Q t=false)(h:aE Q cf ops s o=some s'):
  ∃i zv z s3 v,Q.info? t=some i/\i.zero=some zv/\D.kq zv=some z/\s.new (site (some d)) (.box t (P.d z).cells)=some (s3,v)/\s3.put (some d) (.ref (site (some d)) v 0)=some s':=by
 obtain⟨h1,h2,h3⟩:=gl ho;have hg:aA ops o=some none:=by unfold aA;rw[h2]
 unfold aE at h;simp only[hg] at h;unfold cG at h;have hc:eJ o=none:=by unfold eJ;rw[h1]
 have hm:jl o=none:=by unfold jl;rw[h1]
 have hn:bm Q o=none:=by unfold bm;rw[h1]
 have hp:pv Q s o none=none:=by unfold pv;rw[h1]
 simp only[hc] at h;unfold exec at h;simp only[hm] at h;unfold dL at h;simp only[hn,hp] at h;unfold ef at h;grind [bV,fT,ly,iZ]
theorem vi{Q:Program}{w:World}{a:Act}{o:Oper}{t:TypeId}{d:Nat}(ho:ec o=some (t,d)){i:TypeInfo}{zv:Value}(hi:Q.info? t=some i)(hz:i.zero=some zv):
  (execOp a.eval o).run Q w= .ok (.value (.pointer (some ⟨w.heap.size,0,none⟩))) (w.alloc (.cells zv.cells t)):=by
 obtain⟨h1,_,_⟩:=gl ho;have nw:(zeroValue t).run Q w= .ok zv w:=by simp[zeroValue,typeInfo,hi,hz]
 simp[execOp,h1,Instr.alloc,nw,newVar,newRow]
section
variable{Q:Program}{T:Tg}{cf:CF}{ops:List Oper}{M:List Nat}{St:Nat->S}{r:Option Nat}{m:Nat}
def Ai(ops:List Oper)(m:Nat)(L:Nat->Prop):Prop:= ∀x p,x<m->ops[x]?=some p->1<ak p->L x
def vj(Q:Program)(F:Nat->Prop)(G:Nat->Value)(w0 w:World)(a:Act)(s:S)(t:TypeId)(d:Nat):Prop:=
 ∃b i zv,Q.info? t=some i/\i.zero=some zv/\w.heap[b]?=some (.cells zv.cells t)/\ ¬F b/\ ¬Own G s.rg b/\w0.heap.size<=b/\b<w.heap.size/\a.tmps.getD d undef= .pointer (some ⟨b,0,none⟩)
theorem vj.go{F F1:Nat->Prop}{G G1:Nat->Value}{w0 w w1:World}{a a1:Act}{s s1:S}{t:TypeId}{d:Nat}(h:vj Q F G w0 w a s t d)(hx:Ext (Own G s.rg) (Own G1 s1.rg) F F1 w w1)(ha:a1.tmps.getD d undef=a.tmps.getD d undef):vj Q F1 G1 w0 w1 a1 s1 t d:=by
 obtain⟨b,i,zv,h1,h2,h3,h4,h5,h6,h7,h8⟩:=h;refine⟨b,i,zv,h1,h2,(hx.keep b h7 h5).trans h3,λhf=> ?_,λho=> ?_,h6,zbm h7 hx.size,ha.trans h8⟩
 ·rcases hx.mc b hf with h |h |h
  ·exact h4 h
  ·exact h5 h
  omega
 rcases hx.jU b ho with h |h
 ·exact h5 h
 omega
theorem Ba{F0 F:Nat->Prop}{G0 G:Nat->Value}{w0 w:World}{a:Act}{R0:List (Nat×En)}{s s2:S}{o:Oper}{t:TypeId}{d:Nat}(ho:ec o=some (t,d))(qF:iZ Q t=false)(hs:aE Q cf ops s o=some s2)(h:ar Q T F G w a s)
  (hp:vj Q F G w0 w a s t d) (hx:Ext (Own G0 R0) (Own G s.rg) F0 F w0 w): ∃G2,ar Q T F G2 w a s2/\Ext (Own G0 R0) (Own G2 s2.rg) F0 F w0 w:=by
 obtain⟨b,i,zv,h1,h2,h3,h4,h5,h6,h7,h8⟩:=hp;obtain⟨i',Ih,z,s3,v,k1,k2,k3,k4,k5⟩:=nf ho qF hs;rw[h1] at k1;cases k1;rw[h2] at k2;cases k2;have qd:az F w zv z:=az.kq _ _ k3;obtain⟨c1,c2,c3⟩:=bR qd;obtain⟨m1,m2,m3,m4⟩:=h.Hz k4 (g1:= .pointer (some ⟨b,0,none⟩)) (b:=b) (λb' hb=>by grind [aH,au]) h3 h4 h5
  ⟨b,zv.cells,ax _ _ _,h3,by rw[hI,zat,<-c1];simp,eN qd,λj p hj=>by
   rw[hI,zao,zak] at hj;obtain⟨x,HA,rfl⟩:=hj;have FY:j<zv.cells.size:=by grind
   have hu:zv.cells.toList[j]?=some (zv.cells.getD j undef):=by simp_all
   exact .d (c3 j _ x hu HA)⟩
 obtain⟨p1,p2⟩:=bh m1 k5 (v:= .pointer (some ⟨b,0,none⟩)) (bx.of (.ref (site (some d)) v 0 _ ⟨_,m4,zaf _,λ_ _=>⟨b,ax _ _ _,rfl⟩⟩ rfl));rw[xE h8] at p1;refine⟨_,p1,?_⟩;rw[p2];exact⟨hx.gZ,hx.mc,λb' bX=>by
  rcases m2 b' bX with h |rfl
  ·exact hx.jU b' h
  grind,hx.keep,hx.size,hx.os,hx.tape,hx.output⟩
theorem oO(acc:List Nat): ∀(es:List Edge) (e:Edge),e∈es->Region.binds .any e=true->Nat.testBit (eK acc es) e.on=true
 | [],_,h,_=>by cases h
 |e'::r,e,h,hb=>by
  have lor: ∀a b:Nat,Nat.lor a b=a |||b:=λ_ _=>rfl
  unfold eK;rcases zav.1 h with rfl |h
  ·rw[zau hb];simp
  have ih:=oO acc r e h hb;grind
theorem zp(tx:Text Q cf ops M St m)(iG:iR Q T.w0 cf){om:Oper}{tt:TypeId}{td:Nat}(vN:ops[m]?=some om)(B1:ec om=some (tt,td))(qF:iZ Q tt=false)(h0:lk (St 0).tm td=none)
  (BT: ∀i o,ops[i]?=some o->Nat.testBit (M.getD i 0) m=true->Ai ops m λx=>Nat.testBit (M.getD i 0) x=true)
  {F0:Nat->Prop} {G0:Nat->Value} {w0:World} {s0:S} {Q':Exit->Act->World->Prop} (hK: ∀a' w',gi Q T F0 G0 w0 s0 (St ops.length) a' w'->Q' .normal a' w'):
  ∀(fuel:Nat) (aj:Array Bool) (a:Act) (w:World) (s:S) (F:Nat->Prop) (G:Nat->Value),
  aj.size=ops.length->fuel+aj.toList.count true=ops.length->qW ops (λj=>aj.getD j false=true)->ar Q T F G w a s->Ext (Own G0 s0.rg) (Own G s.rg) F0 F w0 w->
  ((Inv ops St (λj=>aj.getD j false=true) s/\(aj.getD m false=true->Ai ops m (λj=>aj.getD j false=true)))\/
   (aj.getD m false=true/\ ¬Ai ops m (λj=>aj.getD j false=true)/\Inv ops St (λj=>aj.getD j false=true/\j≠m) s/\vj Q F G w0 w a s tt td))->
  wpAnyIn (wd r) 0 Q .any ops.toArray Q' fuel aj a w:=by
 obtain⟨AW,HB,DM⟩:=gl B1;have Cr:m<ops.length:=(zaa.1 vN).1;have gw: ∀(i:Nat) (o:Oper),ops.toArray[i]?=some o-> ∀e∈o.after,Region.binds .any e=true->e.on<i:=λi o ho e he hb=>tx.back (by simpa using ho) he hb;have fin: ∀(aj:Array Bool) (a:Act) (w:World) (s:S) (F:Nat->Prop) (G:Nat->Value),(∀i,i<ops.length->aj.getD i false=true)->ar Q T F G w a s->Ext (Own G0 s0.rg) (Own G s.rg) F0 F w0 w->
    ((Inv ops St (λj=>aj.getD j false=true) s/\(aj.getD m false=true->Ai ops m (λj=>aj.getD j false=true)))\/(aj.getD m false=true/\ ¬Ai ops m (λj=>aj.getD j false=true)/\Inv ops St (λj=>aj.getD j false=true/\j≠m) s/\vj Q F G w0 w a s tt td))->Q' .normal a w:=by
  intro aj a w s F G dk h hx hm;rcases hm with⟨hi,_⟩| ⟨_,cc,_⟩
  · obtain⟨h1,h2,h3⟩:=tx.last hi (λi o ho=>dk i (zaa.1 ho).1);exact hK a w ⟨F,G,h.alike h1 h2 h3,by rw[<-h2];exact hx⟩
  exact absurd (λx p _ hp _=>dk x (zaa.1 hp).1) cc
 intro fuel
 induction fuel with
 |zero=>
  intro aj a w s F G bM hc hL h hx hm;have dk: ∀i,i<ops.length->aj.getD i false=true:=λi bA=>by
    have Ad:aj.toList.count true=aj.toList.length:=by rw[zbQ,bM];omega
    have:=List.count_eq_length.1 Ad aj[i] (by simp);simp[bM,bA,<-this]
  refine⟨?_,fin aj a w s F G dk h hx hm⟩;cases hr:Region.ready .any ops.toArray aj with
  |nil=>rfl
  |cons i r=>
    have CO:i∈Region.ready .any ops.toArray aj:=by rw[hr];simp
    obtain⟨h0,o,ho,_⟩:=mem_ready.1 CO;have bA:i<ops.length:=by have:=(zan.1 ho).1;simpa using this
    have h1:=dk i bA;have hl:i<aj.size:=by omega
    simp[hl] at h0 h1;rw[h0] at h1;cases h1
 |succ fuel ih=>
  intro aj a w s F G bM hc hL h hx hm;refine⟨λhr=>fin aj a w s F G (λi bA=>oJ (by simp[bM]) gw hr i (by simpa using bA)) h hx hm,λi jX=> ?_⟩;obtain⟨yi,o,ho,pR⟩:=mem_ready.1 jX;have pQ:ops[i]?=some o:=by simpa using ho
  have bA:i<ops.length:=(zaa.1 pQ).1;have hl:i<aj.size:=by omega
  have dY: ¬aj.getD i false=true:=by simp[hl] at yi⊢;exact yi
  have ij: ∀j,((aj.setIfInBounds i true).getD j false=true)↔(aj.getD j false=true\/j=i):=λj=>by
    by_cases hj:j=i
    ·subst hj;simp[hl]
    rw[getD_set_ne false (λe=>hj e.symm)];simp[hj]
  have u6:fuel+(aj.setIfInBounds i true).toList.count true=ops.length:=by
    have e:(aj.setIfInBounds i true).toList=aj.toList.set i true:=by simp
    rw[e,List.count_set (by simpa using hl)];have:(aj.toList[i]'(by simpa using hl)==true)=false:=by simp[hl] at dY⊢;exact dY
    simp only[this];simp only[zaz,zbe,zaE,za2];omega
  have qY:(λj=>(aj.setIfInBounds i true).getD j false=true)=(λj=>aj.getD j false=true\/j=i):=funext λj=>propext (ij j);have tQ:qW ops (λj=>aj.getD j false=true\/j=i):=by
    intro j x hj gI e he hb;rcases gI with gI |rfl
    ·exact .inl (hL j x hj gI e he hb)
    rw[pQ] at hj;cases hj;exact .inl (pR e he hb)
  have next: ∀(s1:S),aE Q cf ops s o=some s1->(∀a1 w1 F1 G1,ar Q T F1 G1 w1 a1 s1->Ext (Own G0 s0.rg) (Own G1 s1.rg) F0 F1 w0 w1->Ext (Own G s.rg) (Own G1 s1.rg) F F1 w w1->(o.dst≠some td->a1.tmps.getD td undef=a.tmps.getD td undef)->wpAnyIn (wd r) 0 Q .any ops.toArray Q' fuel (aj.setIfInBounds i true) a1 w1)->
     wpOpIn (wd r) 0 Q ops.toArray Q' i (wpAnyIn (wd r) 0 Q .any ops.toArray Q' fuel (aj.setIfInBounds i true)) a w:=by
    intro s1 ny z8;unfold wpOpIn;rw[ho];simp only[];by_cases hd:o.dst=some td
    ·have gH:=iH iG h ny (r:=r) (K:=wpAnyIn (wd r) 0 Q .any ops.toArray Q' fuel (aj.setIfInBounds i true)) (Q':=Q') (λa' w' ⟨F',G',g1,g2⟩=>z8 a' w' F' G' g1 (hx.trans g2) g2 λcc=>absurd hd cc);split
     next hw=>rw[zau hw] at gH;exact gH
     rename_i hw;rw[zay hw] at gH;exact⟨λ_ _=>trivial,gH⟩
    have gH:=iH iG h ny (r:=r) (K:=λa' w'=>a'.tmps.getD td undef=a.tmps.getD td undef->wpAnyIn (wd r) 0 Q .any ops.toArray Q' fuel (aj.setIfInBounds i true) a' w') (Q':=Q') (λa' w' ⟨F',G',g1,g2⟩ hk=>z8 a' w' F' G' g1 (hx.trans g2) g2 λ_=>hk);split
    next hw=>rw[zau hw] at gH;exact zo hd gH
    rename_i hw;rw[zay hw] at gH;exact⟨λ_ _=>trivial,gH (kM hd)⟩
  rcases hm with⟨hi,Gm⟩| ⟨Gn,cc,hi,HE⟩
  · by_cases xF:i=m/\ ¬Ai ops m (λj=>aj.getD j false=true)
    ·
     obtain⟨rfl,cc⟩:=xF;rw[vN] at pQ;cases pQ;obtain⟨ii,zv,z,s3,v,k1,k2,_⟩:=nf B1 qF (tx.run i om vN);have xG:lk s.tm td=none:=by rw[hi.BZ td (λj y hj gI hd=>tx.inj hj vN (λe=>dY (e▸gI)) hd DM)];exact h0
     have a8:=vi (a:=a) (w:=w) B1 k1 k2;obtain⟨e1,e2⟩:=h.early (cs:=zv.cells) (e:=tt) (v:= .pointer (some ⟨w.heap.size,0,none⟩)) xG;unfold wpOpIn;rw[ho];simp only[];rw[zau (by simp[Region.wanted,HB])];refine pB (λc hc=>by rw[AW] at hc;cases hc) ?_;rw[a8,Oper.uponIn_value,DM];refine ih _ _ _ s F G (by simp[bM]) u6 (by rw[qY];exact tQ) e1 (hx.trans e2) (.inr ⟨(ij i).2 (.inr rfl),λhE=>cc λx p z7 hp hk=>((ij x).1 (hE x p z7 hp hk)).resolve_right (by omega),?_,?_⟩)
     ·have e:(λj=>(aj.setIfInBounds i true).getD j false=true/\j≠i)=λj=>aj.getD j false=true:=funext λj=>propext ⟨λhh=>((ij j).1 hh.1).resolve_right hh.2,λhh=>⟨(ij j).2 (.inl hh),λe=>dY (e▸hh)⟩⟩;rw[e];exact hi
     have E0:td<a.tmps.size:=by
      obtain⟨R',q',zq⟩:=tx.step vN;rw[DM] at zq;have Ii:td<(St i).n:=by
       simp only[S.put] at zq;split at zq
       next hb=>simp[Nat.blt] at hb;omega
       cases zq
      have Dz:=(tx.inv i (by omega)).1;have Ij:=hi.n;have:=h.size;omega
     exact⟨w.heap.size,ii,zv,k1,k2,heap_alloc_new w _,λhf=>by have:=h.gK _ hf;omega,λhO=>by obtain⟨n,e,he,hb⟩:=hO;have:=(h.rg n e he).lt hb;omega,hx.size,by simp,A9 E0⟩
    have uE:i=m-> ∀x p,x<m->ops[x]?=some p->1<ak p->aj.getD x false=true:=λe x p h1 h2 h3=>zcc λhc=>xF ⟨e,λhE=>hc (hE x p h1 h2 h3)⟩;obtain⟨s1,ny,u2⟩:=tx.go hL hi pQ dY pR Gm uE;refine next s1 ny λa1 w1 F1 G1 g1 g2 _ _=>ih _ _ _ s1 F1 G1 (by simp[bM]) u6 (by rw[qY];exact tQ) g1 g2 (.inl ⟨by rw[qY];exact u2,λCO x p h1 h2 h3=>(ij x).2 ?_⟩);rcases(ij m).1 CO with CO |e
    ·exact .inl (Gm CO x p h1 h2 h3)
    exact .inl (uE e.symm x p h1 h2 h3)
  have E1:i≠m:=λe=>dY (e▸Gn);have BV: ∀(j:Nat) (x:Oper),ops[j]?=some x->(∀e∈x.after,Region.binds .any e=true->aj.getD e.on false=true)-> ∀e∈x.after,Region.binds .any e=true->e.on≠m:=by
   intro j x hj qX e he hb B2;have A3:Nat.testBit (M.getD j 0) m=true:=by rw[tx.mask hj];have:=oO M x.after.toList e (by simpa using he) hb;rwa [B2] at this
   exact cc λy p h1 h2 h3=>tx.sub hL j x hj qX y (BT j x hj A3 y p h1 h2 h3)
  have Gp:qW ops (λj=>aj.getD j false=true/\j≠m):=λj x hj gI e he hb=>⟨hL j x hj gI.1 e he hb,BV j x hj (hL j x hj gI.1) e he hb⟩
  obtain⟨s1,ny,u2⟩:=tx.go Gp hi pQ (λhh=>dY hh.1) (λe he hb=>⟨pR e he hb,BV i o pQ pR e he hb⟩) (λhh=>absurd rfl hh.2) (λe=>absurd e E1);have E2:o.dst≠some td:=λhd=>tx.inj pQ vN E1 hd DM;have CP:(λj=>(aj.getD j false=true/\j≠m)\/j=i)=λj=>(aj.setIfInBounds i true).getD j false=true/\j≠m:=funext λj=>propext ⟨λhh=>hh.elim (λhh=>⟨(ij j).2 (.inl hh.1),hh.2⟩) (λe=>⟨(ij j).2 (.inr e),by rw[e];exact E1⟩),λhh=>((ij j).1 hh.1).elim (λh1=> .inl ⟨h1,hh.2⟩) .inr⟩;refine next s1 ny λa1 w1 F1 G1 g1 g2 g3 g4=> ?_;have CQ:=HE.go g3 (g4 E2);rw[CP] at u2;have Bb:(aj.setIfInBounds i true).getD m false=true:=(ij m).2 (.inl Gn);by_cases hE:Ai ops m (λj=>(aj.setIfInBounds i true).getD j false=true)
  ·have CR:qW ops (λj=>(aj.setIfInBounds i true).getD j false=true):=by rw[qY];exact tQ
   have E3:qW ops (λj=>(aj.setIfInBounds i true).getD j false=true/\j≠m):=by
    rw[<-CP];intro j x hj gI e he hb;rcases gI with gI |rfl
    ·exact .inl (Gp j x hj gI e he hb)
    rw[pQ] at hj;cases hj;exact .inl ⟨pR e he hb,BV _ _ pQ pR e he hb⟩
   obtain⟨s2,F9,DN⟩:=tx.go E3 u2 vN (λhh=>hh.2 rfl) (λe he hb=>⟨CR m om vN Bb e he hb,λe'=>by have:=tx.back vN he hb;omega⟩) (λhh=>absurd rfl hh.2) (λ_ x p h1 h2 h3=>⟨hE x p h1 h2 h3,by omega⟩);obtain⟨G2,q1,q2⟩:=Ba B1 qF F9 g1 CQ g2;refine ih _ _ _ s2 F1 G2 (by simp[bM]) u6 CR q1 q2 (.inl ⟨?_,λ_=>hE⟩);have e:(λj=>((aj.setIfInBounds i true).getD j false=true/\j≠m)\/j=m)=λj=>(aj.setIfInBounds i true).getD j false=true:=funext λj=>propext ⟨λhh=>hh.elim (·.1) (λe=>e▸Bb),λhh=>(Classical.em (j=m)).elim .inr λhn=> .inl ⟨hh,hn⟩⟩;rw[<-e];exact DN
  exact ih _ _ _ s1 F1 G1 (by simp[bM]) u6 (by rw[qY];exact tQ) g1 g2 (.inr ⟨Bb,hE,u2,CQ⟩)
end
theorem lz{ops:List Oper}{M:List Nat}: ∀(l:List Oper) (j m:Nat) (t:TypeId) (d:Nat),kx ops M j l=some (m,t,d)->j<=m/\ ∃o,l[m-j]?=some o/\ec o=some (t,d)
 | [],_,_,_,_,h=>by cases h
 |o::r,j,m,t,d,h=>by
  unfold kx at h;have more:kx ops M (j+1) r=some (m,t,d)->j<=m/\ ∃p,(o::r)[m-j]?=some p/\ec p=some (t,d):=λh=>by obtain⟨h1,p,h2,h3⟩:=lz r (j+1) m t d h;exact⟨by omega,p,by rw[show m-j=(m-(j+1))+1 by omega,zbC];exact h2,h3⟩
  split at h
  next t' d' ha=>
   split at h
   ·exact more h
   cases h;exact⟨zaf _,o,by simp,ha⟩
  exact more h
theorem ra{Q:Program}{T:Tg}{cf:CF}(iG:iR Q T.w0 cf){ops:List Oper}{F:Nat->Prop}{G:Nat->Value}{w:World}{a:Act}{s s':S}{r:Option Nat}{Q':Exit->Act->World->Prop}
  (h:ar Q T F G w a s) (hs:jP Q cf ops s=some s') (hK: ∀a' w',gi Q T F G w s s' a' w'->Q' .normal a' w'):wpAnyIn (wd r) 0 Q .any ops.toArray Q' ops.toArray.size (Array.replicate ops.toArray.size false) a {w with drawn:=w.drawn+1}:=by
 unfold jP at hs;split at hs
 next m t d hl=>
  split at hs
  next hc=>
   obtain⟨iC,qF,E0⟩:=hc;split at hs
   ·rename_i s1 l hd;split at hs
    ·rename_i A7;simp at hs;subst hs;obtain⟨_,om,vN,B1⟩:=lz ops 0 m t d hl;rw[Nat.sub_zero] at vN;simp only[o5,zac] at iC;obtain⟨⟨c1,c2⟩,c3⟩:=iC;have zero: ∀i:Nat,0+i=i:=zbk;obtain⟨St,g1,g2,g3,g4⟩:=fu ops _ _ _ hd;have tx:Text Q cf ops (masks ops []) St m:=⟨λi o ho=>by have:=cx ops 0 c1 i o ho;rwa [zero] at this,λi j x y je hx hy=>by have:=cI ops 0 c2 i j x y je hx hy;rwa [zero,zero] at this,g3,λi j x y je hx hy dT hb=> .inr (by obtain⟨q,hq⟩:=jA l 0 True A7 i j _ _ je (g4 i x hx) (g4 j y hy);rw[zero,zero] at hq;exact mX (g3 i x hx) (g3 j y hy) dT hb hq)⟩
     have BT: ∀i o,ops[i]?=some o->Nat.testBit ((masks ops []).getD i 0) m=true->Ai ops m λx=>Nat.testBit ((masks ops []).getD i 0) x=true:=by
      intro i o ho hb x p hx hp hk;have h1:=cx ops 0 c3 i o ho;rw[zero] at h1;simp only[vY,hb,zaN,zcg] at h1;have h2:=cx ops 0 h1 x p hp;rw[zero] at h2;simp only[zbu,zbl] at h2;rcases h2 with(h2 |h2)|h2
      ·omega
      ·omega
      exact h2
     have jt:(λj=>(Array.replicate ops.length false).getD j false=true)=λ_=>False:=by funext j;simp only[zam,zce];split<;>simp
     have E4: ∀j,(Array.replicate ops.length false).getD j false=true->False:=λj hj=>by have:=congrFun jt j;simp only[eq_iff_iff,iff_false] at this;exact this hj
     have EX:ar Q T F G {w with drawn:=w.drawn+1} a s:=h.drawn _ (zbR _);have:=zp (T:=T) (r:=r) tx iG vN B1 qF (by rw[g1];exact E0) BT (F0:=F) (G0:=G) (w0:={w with drawn:=w.drawn+1}) (s0:=s) (Q':=Q')
      (λa' w' hp=>hK a' w' (by obtain⟨F',G',k1,k2⟩:=hp;rw[g2] at k1 k2;exact⟨F',G',k1,⟨k2.gZ,k2.mc,k2.jU,k2.keep,k2.size,k2.os,k2.tape,k2.output⟩⟩))
      ops.length (Array.replicate ops.length false) a {w with drawn:=w.drawn+1} s F G (by simp) (by
       rw[Array.toList_replicate,List.count_replicate];simp) (by
       rw[jt];intro i o _ hf;exact hf.elim) EX (Ext.refl _ _ _)
      (.inl ⟨by rw[jt];exact⟨by rw[g1],λi o t _ hf=>hf.elim,λt _=>by rw[g1],⟨0,by omega,by rw[g1],λi o _ _=>by simp⟩⟩,λhm=>(E4 _ hm).elim⟩)
     simpa using this
    cases hs
   cases hs
  cases hs
 cases hs
theorem sR{Q:Program}{T:Tg}{cf:CF}(iG:iR Q T.w0 cf)(hm:Q.follows .mixedOrders=true){ops:List Oper}{F:Nat->Prop}{G:Nat->Value}{w:World}{a:Act}{s s':S}{r:Option Nat}{id:Nat}{Q':Exit->Act->World->Prop}
  (h:ar Q T F G w a s) (hs:dH Q cf ops s=some s') (hK: ∀a' w',gi Q T F G w s s' a' w'->Q' .normal a' w'):(Code.region id ops.toArray true).wpIn (wd r) 0 Q Q' a w:=by
 refine wpIn_region_any hm ?_;unfold dH at hs;split at hs
 ·split at hs
  ·exact ra iG h hs hK
  have:=lv (r:=r) (Q':=Q') iG h hs hK;have e:(bg ops).toArray.size=ops.toArray.size:=by simp[bg]
  rw[e] at this;exact q7 _ _ _ _ this
 exact lv iG h hs hK
end Pi
