/- The text PiLate. -/
import Derived.Test.YtfelfooeclnbiaaGreatDoorPiKOk4
namespace Pi
open Go
theorem ur{a:Act}{dst:Option Nat}{v:Value}{t:Nat}(h:dst≠some t):(a.put dst v).tmps.getD t undef=a.tmps.getD t undef:=by
 cases dst with
 |none=>rfl
 |some d=>have hd:d≠t:=λe=>h (by rw[e]);simp only[Act.put,zaA];rw[zaV hd]
theorem qb4{a:Act}{t:Nat}{v:Value}(h:t<a.tmps.size):(a.put (some t) v).tmps.getD t undef=v:=by simp[Act.put,Array.getD,h]
theorem Ql{a:Act}{t:Nat}{v:Value}(h:a.tmps.getD t undef=v):a.put (some t) v=a:=by simp only[Act.put];congr 1;refine zcV λi=> ?_;simp only[zaA] at h;grind
theorem WA{F:Fence}{n:Nat}{Q:Program}{o:Oper}{a:Act}{w:World}{K:Act->World->Prop}{Q':Exit->Act->World->Prop}{t:Nat}(cU:o.dst≠some t)
  (h:o.wpIn F n Q a w (λa' w'=>a'.tmps.getD t undef=a.tmps.getD t undef->K a' w') Q'):o.wpIn F n Q a w K Q':=by
 refine⟨h.1,?_⟩;have hh:=h.2;generalize (o.semAt F.round a.eval).run Q w=r at*
 cases r with
 |ok x w'=>
  cases x<;>simp only[Oper.uponIn] at hh⊢ <;>
   first
    |exact hh (ur cU)
    |exact⟨hh.1,CallsIn.mono hh.2 (λe w'' he=>by cases e<;>first |exact he (ur cU)|exact he)⟩
    |exact⟨hh.1,RowsIn.mono hh.2 (λ_ _ he=>he (ur cU))⟩
    |grind [ur]
 |halt x w'=>cases x<;>simp only[Oper.uponIn] at hh⊢ <;>exact hh
section
variable{Q:Program}{T:Tg}{F:Nat->Prop}{G:Nat->Value}{w:World}{a:Act}{s:S}
theorem aB.mat(h:aB Q T F G w a s){n v:Nat}{o:Obj}{s':S}(hs:s.new n o=some (s',v)){g1:Value}{b:Nat}{cs:Array Value}{t:TypeId}(hb: ∀b',bm g1 o=some b'->b'=b)(hc:w.heap[b]?=some (.cells cs t))(hF: ¬F b)(hO: ¬Own G s.rg b)
  (ho:oJ Q F w (Pi.mh G n g1) (ins n ⟨v,none,o⟩ s.rg) n o):
  aB Q T F (Pi.mh G n g1) w a s'/\(∀b',Own (Pi.mh G n g1) s'.rg b'->Own G s.rg b'\/b'=b)/\Names G (Pi.mh G n g1) s.rg s'.rg/\lk s'.rg n=some ⟨v,none,o⟩:=by
 obtain⟨rfl,xo⟩:=S.kR hs;have eS:oo G s.rg n ⟨v,none,o⟩ g1:=λe he=> .inl (xo e he);have hn:=fI eS;have oU: ∀m e,lk (ins n (⟨v,none,o⟩:En) s.rg) m=some e->(m=n/\e=⟨v,none,o⟩)\/(n≠m/\lk s.rg m=some e):=λm e he=>by grind [bp,bT]
 have fV: ∀b',Own (Pi.mh G n g1) (ins n (⟨v,none,o⟩:En) s.rg) b'->Own G s.rg b'\/b'=b:=by
  rintro b' ⟨m,e,he,cV⟩;rcases oU m e he with⟨rfl,rfl⟩| ⟨hm,he⟩
  ·rw[aV] at cV;grind
  rw[eR _ (zbs hm)] at cV;exact .inl ⟨m,e,he,cV⟩
 refine⟨⟨⟨h.r0.1,λd hd=> ?_⟩,h.size,λt p hp=>(h.tm t p hp).mono (λ_ h=>h) (λ_ _=>rfl) hn,?_,?_,?_,h.ja,?_,h.z,h.dr,h.sz⟩,fV,hn,bp _ _ _⟩
 ·obtain⟨D,h1,h0,h2,h3,h4⟩:=h.r0.2 d hd;grind
 ·intro m e he;rcases oU m e he with⟨rfl,rfl⟩| ⟨hm,he⟩
  ·exact ho
  exact(h.rg m e he).mono (λ_ h=>h) (λ_ _=>rfl) hn (eR _ (zbs hm)) (λ_ _=>rfl)
 ·intro m1 m2 e e' b' he cx ji dM;rcases oU m1 e he with⟨rfl,rfl⟩| ⟨Mf,qK⟩<;>rcases oU m2 e' cx with⟨rfl,rfl⟩| ⟨Ch,Vt⟩
  ·rfl
  ·rw[aV] at ji;rw[eR _ (zbs Ch)] at dM;rw[hb b' ji] at dM;exact absurd ⟨m2,e',Vt,dM⟩ hO
  ·rw[aV] at dM;rw[eR _ (zbs Mf)] at ji;rw[hb b' dM] at ji;exact absurd ⟨m1,e,qK,ji⟩ hO
  rw[eR _ (zbs Mf)] at ji;rw[eR _ (zbs Ch)] at dM;exact h.own _ _ _ _ b' qK Vt ji dM
 ·intro m e b' he cV zK;rcases oU m e he with⟨rfl,rfl⟩| ⟨hm,he⟩
  ·rw[aV] at cV;rw[hb b' cV] at zK;exact hF zK
  rw[eR _ (zbs hm)] at cV;exact h.mg m e b' he cV zK
 intro m e i he hi hl;rcases oU m e he with⟨rfl,rfl⟩| ⟨hm,he⟩
 ·cases hi
 rw[eR _ (zbs hm)];exact h.tag m e i he hi hl
theorem aB.early(h:aB Q T F G w a s){cs:Array Value}{e:TypeId}{d:Nat}{v:Value}(hd:lk s.tm d=none):aB Q T F G (w.alloc (.cells cs e)) (a.put (some d) v) s/\Ext (Own G s.rg) (Own G s.rg) F F w (w.alloc (.cells cs e)):=by
 have hk: ∀b,b<w.heap.size->(w.alloc (.cells cs e)).heap[b]?=w.heap[b]?:=λb hb=>wi w _ b hb;have cM:(w.alloc (.cells cs e)).heap.size=w.heap.size+1:=by simp
 have hx:Ext (Own G s.rg) (Own G s.rg) F F w (w.alloc (.cells cs e)):=⟨λ_ h=>h,λ_ h=> .inl h,λ_=> .inl,λb hb _=>hk b hb,by omega,rfl,rfl,rfl⟩
 refine⟨⟨h.r0.go hx,by simpa [Act.put] using h.size,λt p hp=> ?_,λn e he=>(h.rg n e he).mono (λ_ h=>h) (λb hb=>hk b (h.ja b hb)) (Names.refl _ _) rfl (λb hb=>hk b ((h.rg n e he).lt hb)),h.own,h.mg,λb hb=>by have:=h.ja b hb;omega,h.tag,λb hb=>⟨(h.z b hb).1,(hk b (h.ja b (h.z b hb).1)).trans (h.z b hb).2⟩,h.dr,zaE h.sz hx.size⟩,hx⟩;have cU:(some d:Option Nat)≠some t:=λe=>by grind
 rw[ur cU];exact cy.mono (λ_ h=>h) (λb hb=>hk b (h.ja b hb)) (Names.refl _ _) (h.tm t p hp)
theorem MI(s:S)(n:Nat)(p:P):sf s n p none=some (s,p):=by
 cases p with
 |d x=>cases x<;>rfl
 |_=>rfl
theorem vE: ∀(ps:List P) (ts:List (Option TypeId)) (s:S) (n:Nat),ts.any Option.isSome=false->ca s n ps ts=some (s,ps)
 | [],_,_,_,_=>rfl
 |p::ps,ts,s,n,h=>by
  have h1:ts.headD none=none:=by
   cases ts with
   |nil=>rfl
   |cons t r=>simp_all
  have h2:ts.tail.any Option.isSome=false:=by
   cases ts with
   |nil=>rfl
   |cons t r=>grind
  simp only[ca,h1,MI,vE ps ts.tail s (n+1) h2]
end
theorem nH{o:Oper}{t:TypeId}{d:Nat}(h:jW o=some (t,d)):o.op= .alloc t/\o.guard=none/\o.dst=some d:=by grind [jW]
theorem xW{Q:Program}{cf:CF}{ops:List Oper}{s s':S}{o:Oper}{t:TypeId}{d:Nat}(ho:jW o=some (t,d))(Hm:qF Q t=false)(h:bj Q cf ops s o=some s'):
  ∃i zv z s3 v,Q.info? t=some i/\i.zero=some zv/\D.tX zv=some z/\s.new (site (some d)) (.box t (P.d z).cells)=some (s3,v)/\s3.put (some d) (.ref (site (some d)) v 0)=some s':=by
 obtain⟨h1,h2,h3⟩:=nH ho;have hg:bf ops o=some none:=by unfold bf;rw[h2]
 unfold bj at h;simp only[hg] at h;unfold ga at h;have hc:gx o=none:=by unfold gx;rw[h1]
 have hm:re o=none:=by unfold re;rw[h1]
 have hn:cS Q o=none:=by unfold cS;rw[h1]
 have hp:pv Q s o none=none:=by unfold pv;rw[h1]
 simp only[hc] at h;unfold exec at h;simp only[hm] at h;unfold jg at h;simp only[hn,hp] at h;unfold ef at h;grind [dX,nk,vE,qF]
theorem MJ{Q:Program}{w:World}{a:Act}{o:Oper}{t:TypeId}{d:Nat}(ho:jW o=some (t,d)){i:TypeInfo}{zv:Value}(hi:Q.info? t=some i)(hz:i.zero=some zv):
  (execOp a.eval o).run Q w= .ok (.value (.pointer (some ⟨w.heap.size,0,none⟩))) (w.alloc (.cells zv.cells t)):=by
 obtain⟨h1,_,_⟩:=nH ho;have AH:(zeroValue t).run Q w= .ok zv w:=by simp[zeroValue,typeInfo,hi,hz]
 simp[execOp,h1,Instr.alloc,AH,newVar,newRow]
section
variable{Q:Program}{T:Tg}{cf:CF}{ops:List Oper}{M:List Nat}{St:Nat->S}{r:Option Nat}{m:Nat}
def Eff(ops:List Oper)(m:Nat)(L:Nat->Prop):Prop:= ∀x p,x<m->ops[x]?=some p->1<aA p->L x
def MK(Q:Program)(F:Nat->Prop)(G:Nat->Value)(w0 w:World)(a:Act)(s:S)(t:TypeId)(d:Nat):Prop:=
 ∃b i zv,Q.info? t=some i/\i.zero=some zv/\w.heap[b]?=some (.cells zv.cells t)/\ ¬F b/\ ¬Own G s.rg b/\w0.heap.size<=b/\b<w.heap.size/\a.tmps.getD d undef= .pointer (some ⟨b,0,none⟩)
theorem MK.go{F F1:Nat->Prop}{G G1:Nat->Value}{w0 w w1:World}{a a1:Act}{s s1:S}{t:TypeId}{d:Nat}(h:MK Q F G w0 w a s t d)(hx:Ext (Own G s.rg) (Own G1 s1.rg) F F1 w w1)(ha:a1.tmps.getD d undef=a.tmps.getD d undef):MK Q F1 G1 w0 w1 a1 s1 t d:=by
 obtain⟨b,i,zv,h1,h2,h3,h4,h5,h6,h7,h8⟩:=h;refine⟨b,i,zv,h1,h2,(hx.keep b h7 h5).trans h3,λhf=> ?_,λho=> ?_,h6,zaW h7 hx.size,ha.trans h8⟩
 ·rcases hx.mz b hf with h |h |h
  ·exact h4 h
  ·exact h5 h
  omega
 rcases hx.lv b ho with h |h
 ·exact h5 h
 omega
theorem qb5{F0 F:Nat->Prop}{G0 G:Nat->Value}{w0 w:World}{a:Act}{R0:List (Nat×En)}{s s2:S}{o:Oper}{t:TypeId}{d:Nat}(ho:jW o=some (t,d))(Hm:qF Q t=false)(hs:bj Q cf ops s o=some s2)(h:aB Q T F G w a s)
  (hp:MK Q F G w0 w a s t d) (hx:Ext (Own G0 R0) (Own G s.rg) F0 F w0 w): ∃G2,aB Q T F G2 w a s2/\Ext (Own G0 R0) (Own G2 s2.rg) F0 F w0 w:=by
 obtain⟨b,i,zv,h1,h2,h3,h4,h5,h6,h7,h8⟩:=hp;obtain⟨i',zv',z,s3,v,k1,k2,k3,k4,k5⟩:=xW ho Hm hs;rw[h1] at k1;cases k1;rw[h2] at k2;cases k2;have Hi:aU F w zv z:=aU.tX _ _ k3;obtain⟨c1,c2,c3⟩:=dL Hi;obtain⟨m1,m2,m3,m4⟩:=h.mat k4 (g1:= .pointer (some ⟨b,0,none⟩)) (b:=b) (λb' hb=>by grind [bm,aI]) h3 h4 h5
  ⟨b,zv.cells,aV _ _ _,h3,by rw[pj,zaa,<-c1];simp,kL Hi,λj p hj=>by
   rw[pj,zaD,zav] at hj;obtain⟨x,hx',rfl⟩:=hj;have hj3:j<zv.cells.size:=by grind
   have hu:zv.cells.toList[j]?=some (zv.cells.getD j undef):=by simp_all
   exact .d (c3 j _ x hu hx')⟩
 obtain⟨p1,p2⟩:=cr m1 k5 (v:= .pointer (some ⟨b,0,none⟩)) (cy.of (.ref (site (some d)) v 0 _ ⟨_,m4,zai _,λ_ _=>⟨b,aV _ _ _,rfl⟩⟩ rfl));rw[Ql h8] at p1;refine⟨_,p1,?_⟩;rw[p2];exact⟨hx.kK,hx.mz,λb' cV=>by
  rcases m2 b' cV with h |rfl
  ·exact hx.lv b' h
  grind,hx.keep,hx.size,hx.os,hx.tape,hx.output⟩
theorem A7(acc:List Nat): ∀(es:List Edge) (e:Edge),e∈es->Region.binds .any e=true->Nat.testBit (kG acc es) e.on=true
 | [],_,h,_=>by cases h
 |e'::r,e,h,hb=>by
  have lor: ∀a b:Nat,Nat.lor a b=a |||b:=λ_ _=>rfl
  unfold kG;rcases zas.1 h with rfl |h
  ·rw[zaq hb];simp
  have ih:=A7 acc r e h hb;grind
theorem WB(tx:Text Q cf ops M St m)(jl:eG Q T.w0 cf){om:Oper}{tt:TypeId}{td:Nat}(Oi:ops[m]?=some om)(Kw:jW om=some (tt,td))(Hm:qF Q tt=false)(h0:lk (St 0).tm td=none)
  (H9: ∀i o,ops[i]?=some o->Nat.testBit (M.getD i 0) m=true->Eff ops m λx=>Nat.testBit (M.getD i 0) x=true)
  {F0:Nat->Prop} {G0:Nat->Value} {w0:World} {s0:S} {Q':Exit->Act->World->Prop} (hK: ∀a' w',iH Q T F0 G0 w0 s0 (St ops.length) a' w'->Q' .normal a' w'):
  ∀(fuel:Nat) (listed:Array Bool) (a:Act) (w:World) (s:S) (F:Nat->Prop) (G:Nat->Value),
  listed.size=ops.length->fuel+listed.toList.count true=ops.length->EW ops (λj=>listed.getD j false=true)->aB Q T F G w a s->Ext (Own G0 s0.rg) (Own G s.rg) F0 F w0 w->
  ((Inv ops St (λj=>listed.getD j false=true) s/\(listed.getD m false=true->Eff ops m (λj=>listed.getD j false=true)))\/
   (listed.getD m false=true/\ ¬Eff ops m (λj=>listed.getD j false=true)/\Inv ops St (λj=>listed.getD j false=true/\j≠m) s/\MK Q F G w0 w a s tt td))->
  wpAnyIn (wd r) 0 Q .any ops.toArray Q' fuel listed a w:=by
 obtain⟨ho1,ho2,ho3⟩:=nH Kw;have hml:m<ops.length:=(zae.1 Oi).1;have jT: ∀(i:Nat) (o:Oper),ops.toArray[i]?=some o-> ∀e∈o.after,Region.binds .any e=true->e.on<i:=λi o ho e he hb=>tx.back (by simpa using ho) he hb;have fin: ∀(listed:Array Bool) (a:Act) (w:World) (s:S) (F:Nat->Prop) (G:Nat->Value),(∀i,i<ops.length->listed.getD i false=true)->aB Q T F G w a s->Ext (Own G0 s0.rg) (Own G s.rg) F0 F w0 w->
    ((Inv ops St (λj=>listed.getD j false=true) s/\(listed.getD m false=true->Eff ops m (λj=>listed.getD j false=true)))\/(listed.getD m false=true/\ ¬Eff ops m (λj=>listed.getD j false=true)/\Inv ops St (λj=>listed.getD j false=true/\j≠m) s/\MK Q F G w0 w a s tt td))->Q' .normal a w:=by
  intro listed a w s F G gy h hx hm;rcases hm with⟨hi,_⟩| ⟨_,cU,_⟩
  · obtain⟨h1,h2,h3⟩:=tx.last hi (λi o ho=>gy i (zae.1 ho).1);exact hK a w ⟨F,G,h.alike h1 h2 h3,by rw[<-h2];exact hx⟩
  exact absurd (λx p _ hp _=>gy x (zae.1 hp).1) cU
 intro fuel
 induction fuel with
 |zero=>
  intro listed a w s F G cM hc hL h hx hm;have gy: ∀i,i<ops.length->listed.getD i false=true:=λi bz=>by
    have zm:listed.toList.count true=listed.toList.length:=by rw[zcQ,cM];omega
    have:=List.count_eq_length.1 zm listed[i] (by simp);simp[cM,bz,<-this]
  refine⟨?_,fin listed a w s F G gy h hx hm⟩;cases hr:Region.ready .any ops.toArray listed with
  |nil=>rfl
  |cons i r=>
    have hmm:i∈Region.ready .any ops.toArray listed:=by rw[hr];simp
    obtain⟨h0,o,ho,_⟩:=mem_ready.1 hmm;have bz:i<ops.length:=by have:=(zau.1 ho).1;simpa using this
    have h1:=gy i bz;have hl:i<listed.size:=by omega
    simp[hl] at h0 h1;rw[h0] at h1;cases h1
 |succ fuel ih=>
  intro listed a w s F G cM hc hL h hx hm;refine⟨λhr=>fin listed a w s F G (λi bz=>A0 (by simp[cM]) jT hr i (by simpa using bz)) h hx hm,λi b9=> ?_⟩;obtain⟨Kj,o,ho,CC⟩:=mem_ready.1 b9;have fA:ops[i]?=some o:=by simpa using ho
  have bz:i<ops.length:=(zae.1 fA).1;have hl:i<listed.size:=by omega
  have bk: ¬listed.getD i false=true:=by simp[hl] at Kj⊢;exact Kj
  have pH: ∀j,((listed.setIfInBounds i true).getD j false=true)↔(listed.getD j false=true\/j=i):=λj=>by
    by_cases hj:j=i
    ·subst hj;simp[hl]
    rw[getD_set_ne false (λe=>hj e.symm)];simp[hj]
  have CD:fuel+(listed.setIfInBounds i true).toList.count true=ops.length:=by
    have e:(listed.setIfInBounds i true).toList=listed.toList.set i true:=by simp
    rw[e,List.count_set (by simpa using hl)];have:(listed.toList[i]'(by simpa using hl)==true)=false:=by simp[hl] at bk⊢;exact bk
    simp only[this];simp only[zaC,zbq,zc7,zbg];omega
  have zU:(λj=>(listed.setIfInBounds i true).getD j false=true)=(λj=>listed.getD j false=true\/j=i):=funext λj=>propext (pH j);have Kx:EW ops (λj=>listed.getD j false=true\/j=i):=by
    intro j x hj oL e he hb;rcases oL with oL |rfl
    ·exact .inl (hL j x hj oL e he hb)
    rw[fA] at hj;cases hj;exact .inl (CC e he hb)
  have next: ∀(s1:S),bj Q cf ops s o=some s1->(∀a1 w1 F1 G1,aB Q T F1 G1 w1 a1 s1->Ext (Own G0 s0.rg) (Own G1 s1.rg) F0 F1 w0 w1->Ext (Own G s.rg) (Own G1 s1.rg) F F1 w w1->(o.dst≠some td->a1.tmps.getD td undef=a.tmps.getD td undef)->wpAnyIn (wd r) 0 Q .any ops.toArray Q' fuel (listed.setIfInBounds i true) a1 w1)->
     wpOpIn (wd r) 0 Q ops.toArray Q' i (wpAnyIn (wd r) 0 Q .any ops.toArray Q' fuel (listed.setIfInBounds i true)) a w:=by
    intro s1 oK uf;unfold wpOpIn;rw[ho];simp only[];by_cases hd:o.dst=some td
    ·have jy:=ku jl h oK (r:=r) (K:=wpAnyIn (wd r) 0 Q .any ops.toArray Q' fuel (listed.setIfInBounds i true)) (Q':=Q') (λa' w' ⟨F',G',g1,g2⟩=>uf a' w' F' G' g1 (hx.trans g2) g2 λcU=>absurd hd cU);split
     next hw=>rw[zaq hw] at jy;exact jy
     rename_i hw;rw[zap hw] at jy;exact⟨λ_ _=>trivial,jy⟩
    have jy:=ku jl h oK (r:=r) (K:=λa' w'=>a'.tmps.getD td undef=a.tmps.getD td undef->wpAnyIn (wd r) 0 Q .any ops.toArray Q' fuel (listed.setIfInBounds i true) a' w') (Q':=Q') (λa' w' ⟨F',G',g1,g2⟩ hk=>uf a' w' F' G' g1 (hx.trans g2) g2 λ_=>hk);split
    next hw=>rw[zaq hw] at jy;exact WA hd jy
    rename_i hw;rw[zap hw] at jy;exact⟨λ_ _=>trivial,jy (ur hd)⟩
  rcases hm with⟨hi,hme⟩| ⟨hLm,cU,hi,hpe⟩
  · by_cases Qm:i=m/\ ¬Eff ops m (λj=>listed.getD j false=true)
    ·
     obtain⟨rfl,cU⟩:=Qm;rw[Oi] at fA;cases fA;obtain⟨ii,zv,z,s3,v,k1,k2,_⟩:=xW Kw Hm (tx.run i om Oi);have ML:lk s.tm td=none:=by rw[hi.tm2 td (λj y hj oL hd=>tx.inj hj Oi (λe=>bk (e▸oL)) hd ho3)];exact h0
     have bX:=MJ (a:=a) (w:=w) Kw k1 k2;obtain⟨e1,e2⟩:=h.early (cs:=zv.cells) (e:=tt) (v:= .pointer (some ⟨w.heap.size,0,none⟩)) ML;unfold wpOpIn;rw[ho];simp only[];rw[zaq (by simp[Region.wanted,ho2])];refine sH (λc hc=>by rw[ho1] at hc;cases hc) ?_;rw[bX,Oper.uponIn_value,ho3];refine ih _ _ _ s F G (by simp[cM]) CD (by rw[zU];exact Kx) e1 (hx.trans e2) (.inr ⟨(pH i).2 (.inr rfl),λhE=>cU λx p hxm hp hk=>((pH x).1 (hE x p hxm hp hk)).resolve_right (by omega),?_,?_⟩)
     ·have e:(λj=>(listed.setIfInBounds i true).getD j false=true/\j≠i)=λj=>listed.getD j false=true:=funext λj=>propext ⟨λhh=>((pH j).1 hh.1).resolve_right hh.2,λhh=>⟨(pH j).2 (.inl hh),λe=>bk (e▸hh)⟩⟩;rw[e];exact hi
     have htd:td<a.tmps.size:=by
      obtain⟨R',q',WC⟩:=tx.step Oi;rw[ho3] at WC;have Oj:td<(St i).n:=by
       simp only[S.put] at WC;split at WC
       next hb=>simp[Nat.blt] at hb;omega
       cases WC
      have hn2:=(tx.inv i (by omega)).1;have hn3:=hi.n;have:=h.size;omega
     exact⟨w.heap.size,ii,zv,k1,k2,heap_alloc_new w _,λhf=>by have:=h.ja _ hf;omega,λhO=>by obtain⟨n,e,he,hb⟩:=hO;have:=(h.rg n e he).lt hb;omega,hx.size,by simp,qb4 htd⟩
    have Ch:i=m-> ∀x p,x<m->ops[x]?=some p->1<aA p->listed.getD x false=true:=λe x p h1 h2 h3=>zaK λhc=>Qm ⟨e,λhE=>hc (hE x p h1 h2 h3)⟩;obtain⟨s1,oK,MC⟩:=tx.go hL hi fA bk CC hme Ch;refine next s1 oK λa1 w1 F1 G1 g1 g2 _ _=>ih _ _ _ s1 F1 G1 (by simp[cM]) CD (by rw[zU];exact Kx) g1 g2 (.inl ⟨by rw[zU];exact MC,λhmm x p h1 h2 h3=>(pH x).2 ?_⟩);rcases(pH m).1 hmm with hmm |e
    ·exact .inl (hme hmm x p h1 h2 h3)
    exact .inl (Ch e.symm x p h1 h2 h3)
  have eH:i≠m:=λe=>bk (e▸hLm);have zW: ∀(j:Nat) (x:Oper),ops[j]?=some x->(∀e∈x.after,Region.binds .any e=true->listed.getD e.on false=true)-> ∀e∈x.after,Region.binds .any e=true->e.on≠m:=by
   intro j x hj EX e he hb hem;have qbZ:Nat.testBit (M.getD j 0) m=true:=by rw[tx.mask hj];have:=A7 M x.after.toList e (by simpa using he) hb;rwa [hem] at this
   exact cU λy p h1 h2 h3=>tx.sub hL j x hj EX y (H9 j x hj qbZ y p h1 h2 h3)
  have hL2:EW ops (λj=>listed.getD j false=true/\j≠m):=λj x hj oL e he hb=>⟨hL j x hj oL.1 e he hb,zW j x hj (hL j x hj oL.1) e he hb⟩
  obtain⟨s1,oK,MC⟩:=tx.go hL2 hi fA (λhh=>bk hh.1) (λe he hb=>⟨CC e he hb,zW i o fA CC e he hb⟩) (λhh=>absurd rfl hh.2) (λe=>absurd e eH);have qhP:o.dst≠some td:=λhd=>tx.inj fA Oi eH hd ho3;have qft:(λj=>(listed.getD j false=true/\j≠m)\/j=i)=λj=>(listed.setIfInBounds i true).getD j false=true/\j≠m:=funext λj=>propext ⟨λhh=>hh.elim (λhh=>⟨(pH j).2 (.inl hh.1),hh.2⟩) (λe=>⟨(pH j).2 (.inr e),by rw[e];exact eH⟩),λhh=>((pH j).1 hh.1).elim (λh1=> .inl ⟨h1,hh.2⟩) .inr⟩;refine next s1 oK λa1 w1 F1 G1 g1 g2 g3 g4=> ?_;have uu:=hpe.go g3 (g4 qhP);rw[qft] at MC;have qb6:(listed.setIfInBounds i true).getD m false=true:=(pH m).2 (.inl hLm);by_cases hE:Eff ops m (λj=>(listed.setIfInBounds i true).getD j false=true)
  ·have qfu:EW ops (λj=>(listed.setIfInBounds i true).getD j false=true):=by rw[zU];exact Kx
   have qhQ:EW ops (λj=>(listed.setIfInBounds i true).getD j false=true/\j≠m):=by
    rw[<-qft];intro j x hj oL e he hb;rcases oL with oL |rfl
    ·exact .inl (hL2 j x hj oL e he hb)
    rw[fA] at hj;cases hj;exact .inl ⟨CC e he hb,zW _ _ fA CC e he hb⟩
   obtain⟨s2,Wc,hi2⟩:=tx.go qhQ MC Oi (λhh=>hh.2 rfl) (λe he hb=>⟨qfu m om Oi qb6 e he hb,λe'=>by have:=tx.back Oi he hb;omega⟩) (λhh=>absurd rfl hh.2) (λ_ x p h1 h2 h3=>⟨hE x p h1 h2 h3,by omega⟩);obtain⟨G2,q1,q2⟩:=qb5 Kw Hm Wc g1 uu g2;refine ih _ _ _ s2 F1 G2 (by simp[cM]) CD qfu q1 q2 (.inl ⟨?_,λ_=>hE⟩);have e:(λj=>((listed.setIfInBounds i true).getD j false=true/\j≠m)\/j=m)=λj=>(listed.setIfInBounds i true).getD j false=true:=funext λj=>propext ⟨λhh=>hh.elim (·.1) (λe=>e▸qb6),λhh=>(Classical.em (j=m)).elim .inr λhn=> .inl ⟨hh,hn⟩⟩;rw[<-e];exact hi2
  exact ih _ _ _ s1 F1 G1 (by simp[cM]) CD (by rw[zU];exact Kx) g1 g2 (.inr ⟨qb6,hE,MC,uu⟩)
end
theorem vF{ops:List Oper}{M:List Nat}: ∀(l:List Oper) (j m:Nat) (t:TypeId) (d:Nat),uc ops M j l=some (m,t,d)->j<=m/\ ∃o,l[m-j]?=some o/\jW o=some (t,d)
 | [],_,_,_,_,h=>by cases h
 |o::r,j,m,t,d,h=>by
  unfold uc at h;have more:uc ops M (j+1) r=some (m,t,d)->j<=m/\ ∃p,(o::r)[m-j]?=some p/\jW p=some (t,d):=λh=>by obtain⟨h1,p,h2,h3⟩:=vF r (j+1) m t d h;exact⟨by omega,p,by rw[show m-j=(m-(j+1))+1 by omega,zcy];exact h2,h3⟩
  split at h
  next t' d' ha=>
   split at h
   ·exact more h
   cases h;exact⟨zai _,o,by simp,ha⟩
  exact more h
theorem E4{Q:Program}{T:Tg}{cf:CF}(jl:eG Q T.w0 cf){ops:List Oper}{F:Nat->Prop}{G:Nat->Value}{w:World}{a:Act}{s s':S}{r:Option Nat}{Q':Exit->Act->World->Prop}
  (h:aB Q T F G w a s) (hs:sq Q cf ops s=some s') (hK: ∀a' w',iH Q T F G w s s' a' w'->Q' .normal a' w'):wpAnyIn (wd r) 0 Q .any ops.toArray Q' ops.toArray.size (Array.replicate ops.toArray.size false) a {w with drawn:=w.drawn+1}:=by
 unfold sq at hs;split at hs
 next m t d hl=>
  split at hs
  next hc=>
   obtain⟨nx,Hm,htd⟩:=hc;split at hs
   ·rename_i s1 l hd;split at hs
    ·rename_i qb3;simp at hs;subst hs;obtain⟨_,om,Oi,Kw⟩:=vF ops 0 m t d hl;rw[Nat.sub_zero] at Oi;simp only[B1,zad] at nx;obtain⟨⟨c1,c2⟩,c3⟩:=nx;have zero: ∀i:Nat,0+i=i:=zaI;obtain⟨St,g1,g2,g3,g4⟩:=l7 ops _ _ _ hd;have tx:Text Q cf ops (masks ops []) St m:=⟨λi o ho=>by have:=fm ops 0 c1 i o ho;rwa [zero] at this,λi j x y sF hx hy=>by have:=gg ops 0 c2 i j x y sF hx hy;rwa [zero,zero] at this,g3,λi j x y sF hx hy jG hb=> .inr (by obtain⟨q,hq⟩:=rp l 0 True qb3 i j _ _ sF (g4 i x hx) (g4 j y hy);rw[zero,zero] at hq;exact xQ (g3 i x hx) (g3 j y hy) jG hb hq)⟩
     have H9: ∀i o,ops[i]?=some o->Nat.testBit ((masks ops []).getD i 0) m=true->Eff ops m λx=>Nat.testBit ((masks ops []).getD i 0) x=true:=by
      intro i o ho hb x p hx hp hk;have h1:=fm ops 0 c3 i o ho;rw[zero] at h1;simp only[O1,hb,zdj,zcb] at h1;have h2:=fm ops 0 h1 x p hp;rw[zero] at h2;simp only[za1,zb7] at h2;rcases h2 with(h2 |h2)|h2
      ·omega
      ·omega
      exact h2
     have gK:(λj=>(Array.replicate ops.length false).getD j false=true)=λ_=>False:=by funext j;simp only[zaA,zdi];split<;>simp
     have qhR: ∀j,(Array.replicate ops.length false).getD j false=true->False:=λj hj=>by have:=congrFun gK j;simp only[eq_iff_iff,iff_false] at this;exact this hj
     have hsr:aB Q T F G {w with drawn:=w.drawn+1} a s:=h.drawn _ (zcR _);have:=WB (T:=T) (r:=r) tx jl Oi Kw Hm (by rw[g1];exact htd) H9 (F0:=F) (G0:=G) (w0:={w with drawn:=w.drawn+1}) (s0:=s) (Q':=Q')
      (λa' w' hp=>hK a' w' (by obtain⟨F',G',k1,k2⟩:=hp;rw[g2] at k1 k2;exact⟨F',G',k1,⟨k2.kK,k2.mz,k2.lv,k2.keep,k2.size,k2.os,k2.tape,k2.output⟩⟩))
      ops.length (Array.replicate ops.length false) a {w with drawn:=w.drawn+1} s F G (by simp) (by
       rw[Array.toList_replicate,List.count_replicate];simp) (by
       rw[gK];intro i o _ hf;exact hf.elim) hsr (Ext.refl _ _ _)
      (.inl ⟨by rw[gK];exact⟨by rw[g1],λi o t _ hf=>hf.elim,λt _=>by rw[g1],⟨0,by omega,by rw[g1],λi o _ _=>by simp⟩⟩,λhm=>(qhR _ hm).elim⟩)
     simpa using this
    cases hs
   cases hs
  cases hs
 cases hs
theorem Iy{Q:Program}{T:Tg}{cf:CF}(jl:eG Q T.w0 cf)(hm:Q.follows .mixedOrders=true){ops:List Oper}{F:Nat->Prop}{G:Nat->Value}{w:World}{a:Act}{s s':S}{r:Option Nat}{id:Nat}{Q':Exit->Act->World->Prop}
  (h:aB Q T F G w a s) (hs:iY Q cf ops s=some s') (hK: ∀a' w',iH Q T F G w s s' a' w'->Q' .normal a' w'):(Code.region id ops.toArray true).wpIn (wd r) 0 Q Q' a w:=by
 refine wpIn_region_any hm ?_;unfold iY at hs;split at hs
 ·split at hs
  ·exact E4 jl h hs hK
  have:=vC (r:=r) (Q':=Q') jl h hs hK;have e:(cP ops).toArray.size=ops.toArray.size:=by simp[cP]
  rw[e] at this;exact E2 _ _ _ _ this
 exact vC jl h hs hK
end Pi
