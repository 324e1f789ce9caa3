/- The text PiLate. -/
import Derived.Test.YtpiohccneeblhaaPiKOk4
namespace Pi
open Go
theorem nz{a:Act}{dst:Option Nat}{v:Value}{t:Nat}(h:dst≠some t):(a.put dst v).tmps.getD t undef=a.tmps.getD t undef:=by
 cases dst with
 |none=>rfl
 |some d=>have hd:d≠t:=λe=>h (by rw[e]);simp only[Act.put,zav];rw[zaD hd]
theorem Hg{a:Act}{t:Nat}{v:Value}(h:t<a.tmps.size):(a.put (some t) v).tmps.getD t undef=v:=by simp[Act.put,Array.getD,h]
theorem CS{a:Act}{t:Nat}{v:Value}(h:a.tmps.getD t undef=v):a.put (some t) v=a:=by simp only[Act.put];congr 1;refine Array.ext_getElem? λi=> ?_;simp only[zav] at h;grind
theorem E0{F:Fence}{n:Nat}{Q:Program}{o:Oper}{a:Act}{w:World}{K:Act->World->Prop}{Q':Exit->Act->World->Prop}{t:Nat}(b9:o.dst≠some t)
  (h:o.wpIn F n Q a w (λa' w'=>a'.tmps.getD t undef=a.tmps.getD t undef->K a' w') Q'):o.wpIn F n Q a w K Q':=by
 refine⟨h.1,?_⟩;have hh:=h.2;generalize (o.semAt F.round a.eval).run Q w=r at*
 cases r with
 |ok x w'=>
  cases x<;>simp only[Oper.uponIn] at hh⊢ <;>
   first
    |exact hh (nz b9)
    |exact⟨hh.1,CallsIn.mono hh.2 (λe NN he=>by cases e<;>first |exact he (nz b9)|exact he)⟩
    |exact⟨hh.1,RowsIn.mono hh.2 (λ_ _ he=>he (nz b9))⟩
    |grind [nz]
 |halt x w'=>cases x<;>simp only[Oper.uponIn] at hh⊢ <;>exact hh
section
variable{Q:Program}{T:Tg}{F:Nat->Prop}{G:Nat->Value}{w:World}{a:Act}{s:S}
theorem aq.Pb(h:aq Q T F G w a s){n v:Nat}{o:Obj}{s':S}(hs:s.new n o=some (s',v)){g1:Value}{b:Nat}{cs:Array Value}{t:TypeId}(hb: ∀b',ax g1 o b'->b'=b)(hc:w.heap[b]?=some (.cells cs t))(hF: ¬F b)(hO: ¬Own G s.rg b)
  (ho:eN Q F w (Pi.iG G n g1) (ins n ⟨v,none,o⟩ s.rg) n o):
  aq Q T F (Pi.iG G n g1) w a s'/\(∀b',Own (Pi.iG G n g1) s'.rg b'->Own G s.rg b'\/b'=b)/\Names G (Pi.iG G n g1) s.rg s'.rg/\lk s'.rg n=some ⟨v,none,o⟩:=by
 obtain⟨rfl,pJ⟩:=S.gO hs;have bV:jK G s.rg n ⟨v,none,o⟩ g1:=λe he=> .inl (pJ e he);have hn:=cI bV;have jZ: ∀m e,lk (ins n (⟨v,none,o⟩:En) s.rg) m=some e->(m=n/\e=⟨v,none,o⟩)\/(n≠m/\lk s.rg m=some e):=λm e he=>by grind [aH,aV]
 have cz: ∀b',Own (Pi.iG G n g1) (ins n (⟨v,none,o⟩:En) s.rg) b'->Own G s.rg b'\/b'=b:=by
  rintro b' ⟨m,e,he,ca⟩;rcases jZ m e he with⟨rfl,rfl⟩| ⟨hm,he⟩
  ·rw[aB] at ca;grind
  rw[da _ (za4 hm)] at ca;exact .inl ⟨m,e,he,ca⟩
 refine⟨⟨⟨h.ma.1,λd hd=> ?_⟩,h.size,λt p hp=>(h.tm t p hp).mono (λ_ h=>h) (λ_ _=>rfl) hn,?_,?_,?_,h.fw,?_,h.z,h.dr,h.sz⟩,cz,hn,aH _ _ _⟩
 ·obtain⟨D,h1,h0,h2,h3,h4⟩:=h.ma.2 d hd;grind
 ·intro m e he;rcases jZ m e he with⟨rfl,rfl⟩| ⟨hm,he⟩
  ·exact ho
  exact(h.rg m e he).mono (λ_ h=>h) (λ_ _=>rfl) hn (da _ (za4 hm)) (λ_ _=>rfl)
 ·intro m1 m2 e e' b' he bc na jT;rcases jZ m1 e he with⟨rfl,rfl⟩| ⟨zV,yQ⟩<;>rcases jZ m2 e' bc with⟨rfl,rfl⟩| ⟨zW,yR⟩
  ·rfl
  ·rw[aB] at na;rw[da _ (za4 zW)] at jT;rw[hb b' na] at jT;exact absurd ⟨m2,e',yR,jT⟩ hO
  ·rw[aB] at jT;rw[da _ (za4 zV)] at na;rw[hb b' jT] at na;exact absurd ⟨m1,e,yQ,na⟩ hO
  rw[da _ (za4 zV)] at na;rw[da _ (za4 zW)] at jT;exact h.own _ _ _ _ b' yQ yR na jT
 ·intro m e b' he ca rr;rcases jZ m e he with⟨rfl,rfl⟩| ⟨hm,he⟩
  ·rw[aB] at ca;rw[hb b' ca] at rr;exact hF rr
  rw[da _ (za4 hm)] at ca;exact h.gG m e b' he ca rr
 intro m e i he hi hl;rcases jZ m e he with⟨rfl,rfl⟩| ⟨hm,he⟩
 ·cases hi
 rw[da _ (za4 hm)];exact h.tag m e i he hi hl
theorem aq.early(h:aq Q T F G w a s){cs:Array Value}{e:TypeId}{d:Nat}{v:Value}(hd:lk s.tm d=none):aq Q T F G (w.alloc (.cells cs e)) (a.put (some d) v) s/\Ext (Own G s.rg) (Own G s.rg) F F w (w.alloc (.cells cs e)):=by
 have hk: ∀b,b<w.heap.size->(w.alloc (.cells cs e)).heap[b]?=w.heap[b]?:=λb hb=>oJ w _ b hb;have cm:(w.alloc (.cells cs e)).heap.size=w.heap.size+1:=by simp
 have hx:Ext (Own G s.rg) (Own G s.rg) F F w (w.alloc (.cells cs e)):=⟨λ_ h=>h,λ_ h=> .inl h,λ_=> .inl,λb hb _=>hk b hb,by omega,rfl,rfl,rfl⟩
 refine⟨⟨h.ma.go hx,by simpa [Act.put] using h.size,λt p hp=> ?_,λn e he=>(h.rg n e he).mono (λ_ h=>h) (λb hb=>hk b (h.fw b hb)) (Names.refl _ _) rfl (λb hb=>hk b ((h.rg n e he).lt hb)),h.own,h.gG,λb hb=>by have:=h.fw b hb;omega,h.tag,λb hb=>⟨(h.z b hb).1,(hk b (h.fw b (h.z b hb).1)).trans (h.z b hb).2⟩,h.dr,zaN h.sz hx.size⟩,hx⟩;have b9:(some d:Option Nat)≠some t:=λe=>by grind
 rw[nz b9];exact br.mono (λ_ h=>h) (λb hb=>hk b (h.fw b hb)) (Names.refl _ _) (h.tm t p hp)
theorem AA(s:S)(n:Nat)(p:P):mf s n p none=some (s,p):=by
 cases p with
 |d x=>cases x<;>rfl
 |_=>rfl
theorem nU: ∀(ps:List P) (ts:List (Option TypeId)) (s:S) (n:Nat),ts.any Option.isSome=false->bh s n ps ts=some (s,ps)
 | [],_,_,_,_=>rfl
 |p::ps,ts,s,n,h=>by
  have h1:ts.headD none=none:=by
   cases ts with
   |nil=>rfl
   |cons t r=>simp_all
  have h2:ts.tail.any Option.isSome=false:=by
   cases ts with
   |nil=>rfl
   |cons t r=>grind
  simp only[bh,h1,AA,nU ps ts.tail s (n+1) h2]
end
theorem jx{o:Oper}{t:TypeId}{d:Nat}(h:fZ o=some (t,d)):o.op= .alloc t/\o.guard=none/\o.dst=some d:=by grind [fZ]
theorem qt{Q:Program}{cf:CF}{ops:List Oper}{s s':S}{o:Oper}{t:TypeId}{d:Nat}(ho:fZ o=some (t,d))(w5:lx Q t=false)(h:aM Q cf ops s o=some s'):
  ∃i zv z s3 v,Q.info? t=some i/\i.zero=some zv/\D.nc zv=some z/\s.new (site (some d)) (.box t (P.d z).cells)=some (s3,v)/\s3.put (some d) (.ref (site (some d)) v 0)=some s':=by
 obtain⟨h1,h2,h3⟩:=jx ho;have hg:aG ops o=some none:=by unfold aG;rw[h2]
 unfold aM at h;simp only[hg] at h;unfold dK at h;have hc:dT o=none:=by unfold dT;rw[h1]
 have hm:lL o=none:=by unfold lL;rw[h1]
 have hn:bR Q o=none:=by unfold bR;rw[h1]
 have hp:pv Q s o none=none:=by unfold pv;rw[h1]
 simp only[hc] at h;unfold exec at h;simp only[hm] at h;unfold fA at h;simp only[hn,hp] at h;unfold ef at h;grind [cQ,jg,nU,lx]
theorem AB{Q:Program}{w:World}{a:Act}{o:Oper}{t:TypeId}{d:Nat}(ho:fZ o=some (t,d)){i:TypeInfo}{zv:Value}(hi:Q.info? t=some i)(hz:i.zero=some zv):
  (execOp a.eval o).run Q w= .ok (.value (.pointer (some ⟨w.heap.size,0,none⟩))) (w.alloc (.cells zv.cells t)):=by
 obtain⟨h1,_,_⟩:=jx ho;have qT:(zeroValue t).run Q w= .ok zv w:=by simp[zeroValue,typeInfo,hi,hz]
 simp[execOp,h1,Instr.alloc,qT,newVar,newRow]
section
variable{Q:Program}{T:Tg}{cf:CF}{ops:List Oper}{M:List Nat}{St:Nat->S}{r:Option Nat}{m:Nat}
def Gc(ops:List Oper)(m:Nat)(L:Nat->Prop):Prop:= ∀x p,x<m->ops[x]?=some p->1<ar p->L x
def AE(Q:Program)(F:Nat->Prop)(G:Nat->Value)(w0 w:World)(a:Act)(s:S)(t:TypeId)(d:Nat):Prop:=
 ∃b i zv,Q.info? t=some i/\i.zero=some zv/\w.heap[b]?=some (.cells zv.cells t)/\ ¬F b/\ ¬Own G s.rg b/\w0.heap.size<=b/\b<w.heap.size/\a.tmps.getD d undef= .pointer (some ⟨b,0,none⟩)
theorem AE.go{F F1:Nat->Prop}{G G1:Nat->Value}{w0 w w1:World}{a a1:Act}{s s1:S}{t:TypeId}{d:Nat}(h:AE Q F G w0 w a s t d)(hx:Ext (Own G s.rg) (Own G1 s1.rg) F F1 w w1)(ha:a1.tmps.getD d undef=a.tmps.getD d undef):AE Q F1 G1 w0 w1 a1 s1 t d:=by
 obtain⟨b,i,zv,h1,h2,h3,h4,h5,h6,h7,h8⟩:=h;refine⟨b,i,zv,h1,h2,(hx.keep b h7 h5).trans h3,λhf=> ?_,λho=> ?_,h6,zaK h7 hx.size,ha.trans h8⟩
 ·rcases hx.iN b hf with h |h |h
  ·exact h4 h
  ·exact h5 h
  omega
 rcases hx.fe b ho with h |h
 ·exact h5 h
 omega
theorem Hh{F0 F:Nat->Prop}{G0 G:Nat->Value}{w0 w:World}{a:Act}{R0:List (Nat×En)}{s s2:S}{o:Oper}{t:TypeId}{d:Nat}(ho:fZ o=some (t,d))(w5:lx Q t=false)(hs:aM Q cf ops s o=some s2)(h:aq Q T F G w a s)
  (hp:AE Q F G w0 w a s t d) (hx:Ext (Own G0 R0) (Own G s.rg) F0 F w0 w): ∃G2,aq Q T F G2 w a s2/\Ext (Own G0 R0) (Own G2 s2.rg) F0 F w0 w:=by
 obtain⟨b,i,zv,h1,h2,h3,h4,h5,h6,h7,h8⟩:=hp;obtain⟨i',Qs,z,s3,v,k1,k2,k3,k4,k5⟩:=qt ho w5 hs;rw[h1] at k1;cases k1;rw[h2] at k2;cases k2;have uK:az F w zv z:=az.nc _ _ k3;obtain⟨c1,c2,c3⟩:=cH uK;obtain⟨m1,m2,m3,m4⟩:=h.Pb k4 (g1:= .pointer (some ⟨b,0,none⟩)) (b:=b) (λb' hb=>by grind [ax,aj]) h3 h4 h5
  ⟨b,zv.cells,aB _ _ _,h3,by rw[kr,zai,<-c1];simp,gI uK,λj p hj=>by
   rw[kr,zah,zaj] at hj;obtain⟨x,Pc,rfl⟩:=hj;have NJ:j<zv.cells.size:=by grind
   have hu:zv.cells.toList[j]?=some (zv.cells.getD j undef):=by simp_all
   exact .d (c3 j _ x hu Pc)⟩
 obtain⟨p1,p2⟩:=bf m1 k5 (v:= .pointer (some ⟨b,0,none⟩)) (br.of (.ref (site (some d)) v 0 _ ⟨_,m4,zae _,λ_ _=>⟨b,aB _ _ _,rfl⟩⟩ rfl));rw[CS h8] at p1;refine⟨_,p1,?_⟩;rw[p2];exact⟨hx.fV,hx.iN,λb' ca=>by
  rcases m2 b' ca with h |rfl
  ·exact hx.fe b' h
  grind,hx.keep,hx.size,hx.os,hx.tape,hx.output⟩
theorem sI(acc:List Nat): ∀(es:List Edge) (e:Edge),e∈es->Region.binds .any e=true->Nat.testBit (gC acc es) e.on=true
 | [],_,h,_=>by cases h
 |e'::r,e,h,hb=>by
  have lor: ∀a b:Nat,Nat.lor a b=a |||b:=λ_ _=>rfl
  unfold gC;rcases zan.1 h with rfl |h
  ·rw[zat hb];simp
  have ih:=sI acc r e h hb;grind
theorem E1(tx:Text Q cf ops M St m)(fG:cL Q T.w0 cf){om:Oper}{tt:TypeId}{td:Nat}(Bj:ops[m]?=some om)(AF:fZ om=some (tt,td))(w5:lx Q tt=false)(h0:lk (St 0).tm td=none)
  (Ab: ∀i o,ops[i]?=some o->Nat.testBit (M.getD i 0) m=true->Gc ops m λx=>Nat.testBit (M.getD i 0) x=true)
  {F0:Nat->Prop} {G0:Nat->Value} {w0:World} {s0:S} {Q':Exit->Act->World->Prop} (hK: ∀a' w',fh Q T F0 G0 w0 s0 (St ops.length) a' w'->Q' .normal a' w'):
  ∀(fuel:Nat) (ak:Array Bool) (a:Act) (w:World) (s:S) (F:Nat->Prop) (G:Nat->Value),
  ak.size=ops.length->fuel+ak.toList.count true=ops.length->vV ops (λj=>ak.getD j false=true)->aq Q T F G w a s->Ext (Own G0 s0.rg) (Own G s.rg) F0 F w0 w->
  ((Inv ops St (λj=>ak.getD j false=true) s/\(ak.getD m false=true->Gc ops m (λj=>ak.getD j false=true)))\/
   (ak.getD m false=true/\ ¬Gc ops m (λj=>ak.getD j false=true)/\Inv ops St (λj=>ak.getD j false=true/\j≠m) s/\AE Q F G w0 w a s tt td))->
  wpAnyIn (wd r) 0 Q .any ops.toArray Q' fuel ak a w:=by
 obtain⟨yP,KR,Ik⟩:=jx AF;have Ib:m<ops.length:=(zaa.1 Bj).1;have fX: ∀(i:Nat) (o:Oper),ops.toArray[i]?=some o-> ∀e∈o.after,Region.binds .any e=true->e.on<i:=λi o ho e he hb=>tx.back (by simpa using ho) he hb;have fin: ∀(ak:Array Bool) (a:Act) (w:World) (s:S) (F:Nat->Prop) (G:Nat->Value),(∀i,i<ops.length->ak.getD i false=true)->aq Q T F G w a s->Ext (Own G0 s0.rg) (Own G s.rg) F0 F w0 w->
    ((Inv ops St (λj=>ak.getD j false=true) s/\(ak.getD m false=true->Gc ops m (λj=>ak.getD j false=true)))\/(ak.getD m false=true/\ ¬Gc ops m (λj=>ak.getD j false=true)/\Inv ops St (λj=>ak.getD j false=true/\j≠m) s/\AE Q F G w0 w a s tt td))->Q' .normal a w:=by
  intro ak a w s F G eW h hx hm;rcases hm with⟨hi,_⟩| ⟨_,b9,_⟩
  · obtain⟨h1,h2,h3⟩:=tx.last hi (λi o ho=>eW i (zaa.1 ho).1);exact hK a w ⟨F,G,h.alike h1 h2 h3,by rw[<-h2];exact hx⟩
  exact absurd (λx p _ hp _=>eW x (zaa.1 hp).1) b9
 intro fuel
 induction fuel with
 |zero=>
  intro ak a w s F G cm hc hL h hx hm;have eW: ∀i,i<ops.length->ak.getD i false=true:=λi bj=>by
    have tN:ak.toList.count true=ak.toList.length:=by rw[zch,cm];omega
    have:=List.count_eq_length.1 tN ak[i] (by simp);simp[cm,bj,<-this]
  refine⟨?_,fin ak a w s F G eW h hx hm⟩;cases hr:Region.ready .any ops.toArray ak with
  |nil=>rfl
  |cons i r=>
    have Gd:i∈Region.ready .any ops.toArray ak:=by rw[hr];simp
    obtain⟨h0,o,ho,_⟩:=mem_ready.1 Gd;have bj:i<ops.length:=by have:=(zap.1 ho).1;simpa using this
    have h1:=eW i bj;have hl:i<ak.size:=by omega
    simp[hl] at h0 h1;rw[h0] at h1;cases h1
 |succ fuel ih=>
  intro ak a w s F G cm hc hL h hx hm;refine⟨λhr=>fin ak a w s F G (λi bj=>sA (by simp[cm]) fX hr i (by simpa using bj)) h hx hm,λi eC=> ?_⟩;obtain⟨B6,o,ho,ud⟩:=mem_ready.1 eC;have eZ:ops[i]?=some o:=by simpa using ho
  have bj:i<ops.length:=(zaa.1 eZ).1;have hl:i<ak.size:=by omega
  have bg: ¬ak.getD i false=true:=by simp[hl] at B6⊢;exact B6
  have kN: ∀j,((ak.setIfInBounds i true).getD j false=true)↔(ak.getD j false=true\/j=i):=λj=>by
    by_cases hj:j=i
    ·subst hj;simp[hl]
    rw[getD_set_ne false (λe=>hj e.symm)];simp[hj]
  have Av:fuel+(ak.setIfInBounds i true).toList.count true=ops.length:=by
    have e:(ak.setIfInBounds i true).toList=ak.toList.set i true:=by simp
    rw[e,List.count_set (by simpa using hl)];have:(ak.toList[i]'(by simpa using hl)==true)=false:=by simp[hl] at bg⊢;exact bg
    simp only[this];simp only[zar,za2,beq_self_eq_true,zaT];omega
  have rI:(λj=>(ak.setIfInBounds i true).getD j false=true)=(λj=>ak.getD j false=true\/j=i):=funext λj=>propext (kN j);have zd:vV ops (λj=>ak.getD j false=true\/j=i):=by
    intro j x hj jU e he hb;rcases jU with jU |rfl
    ·exact .inl (hL j x hj jU e he hb)
    rw[eZ] at hj;cases hj;exact .inl (ud e he hb)
  have next: ∀(s1:S),aM Q cf ops s o=some s1->(∀a1 w1 F1 G1,aq Q T F1 G1 w1 a1 s1->Ext (Own G0 s0.rg) (Own G1 s1.rg) F0 F1 w0 w1->Ext (Own G s.rg) (Own G1 s1.rg) F F1 w w1->(o.dst≠some td->a1.tmps.getD td undef=a.tmps.getD td undef)->wpAnyIn (wd r) 0 Q .any ops.toArray Q' fuel (ak.setIfInBounds i true) a1 w1)->
     wpOpIn (wd r) 0 Q ops.toArray Q' i (wpAnyIn (wd r) 0 Q .any ops.toArray Q' fuel (ak.setIfInBounds i true)) a w:=by
    intro s1 mD FV;unfold wpOpIn;rw[ho];simp only[];by_cases hd:o.dst=some td
    ·have iO:=gq fG h mD (r:=r) (K:=wpAnyIn (wd r) 0 Q .any ops.toArray Q' fuel (ak.setIfInBounds i true)) (Q':=Q') (λa' w' ⟨F',G',g1,g2⟩=>FV a' w' F' G' g1 (hx.trans g2) g2 λb9=>absurd hd b9);split
     next hw=>rw[zat hw] at iO;exact iO
     rename_i hw;rw[zaC hw] at iO;exact⟨λ_ _=>trivial,iO⟩
    have iO:=gq fG h mD (r:=r) (K:=λa' w'=>a'.tmps.getD td undef=a.tmps.getD td undef->wpAnyIn (wd r) 0 Q .any ops.toArray Q' fuel (ak.setIfInBounds i true) a' w') (Q':=Q') (λa' w' ⟨F',G',g1,g2⟩ hk=>FV a' w' F' G' g1 (hx.trans g2) g2 λ_=>hk);split
    next hw=>rw[zat hw] at iO;exact E0 hd iO
    rename_i hw;rw[zaC hw] at iO;exact⟨λ_ _=>trivial,iO (nz hd)⟩
  rcases hm with⟨hi,N1⟩| ⟨N3,b9,hi,Pd⟩
  · by_cases CT:i=m/\ ¬Gc ops m (λj=>ak.getD j false=true)
    ·
     obtain⟨rfl,b9⟩:=CT;rw[Bj] at eZ;cases eZ;obtain⟨ii,zv,z,s3,v,k1,k2,_⟩:=qt AF w5 (tx.run i om Bj);have Jz:lk s.tm td=none:=by rw[hi.Ij td (λj y hj jU hd=>tx.inj hj Bj (λe=>bg (e▸jU)) hd Ik)];exact h0
     have aX:=AB (a:=a) (w:=w) AF k1 k2;obtain⟨e1,e2⟩:=h.early (cs:=zv.cells) (e:=tt) (v:= .pointer (some ⟨w.heap.size,0,none⟩)) Jz;unfold wpOpIn;rw[ho];simp only[];rw[zat (by simp[Region.wanted,KR])];refine mF (λc hc=>by rw[yP] at hc;cases hc) ?_;rw[aX,Oper.uponIn_value,Ik];refine ih _ _ _ s F G (by simp[cm]) Av (by rw[rI];exact zd) e1 (hx.trans e2) (.inr ⟨(kN i).2 (.inr rfl),λhE=>b9 λx p lB hp hk=>((kN x).1 (hE x p lB hp hk)).resolve_right (by omega),?_,?_⟩)
     ·have e:(λj=>(ak.setIfInBounds i true).getD j false=true/\j≠i)=λj=>ak.getD j false=true:=funext λj=>propext ⟨λhh=>((kN j).1 hh.1).resolve_right hh.2,λhh=>⟨(kN j).2 (.inl hh),λe=>bg (e▸hh)⟩⟩;rw[e];exact hi
     have Mn:td<a.tmps.size:=by
      obtain⟨R',q',E2⟩:=tx.step Bj;rw[Ik] at E2;have N4:td<(St i).n:=by
       simp only[S.put] at E2;split at E2
       next hb=>simp[Nat.blt] at hb;omega
       cases E2
      have H8:=(tx.inv i (by omega)).1;have Qt:=hi.n;have:=h.size;omega
     exact⟨w.heap.size,ii,zv,k1,k2,heap_alloc_new w _,λhf=>by have:=h.fw _ hf;omega,λhO=>by obtain⟨n,e,he,hb⟩:=hO;have:=(h.rg n e he).lt hb;omega,hx.size,by simp,Hg Mn⟩
    have zW:i=m-> ∀x p,x<m->ops[x]?=some p->1<ar p->ak.getD x false=true:=λe x p h1 h2 h3=>zcw λhc=>CT ⟨e,λhE=>hc (hE x p h1 h2 h3)⟩;obtain⟨s1,mD,Bi⟩:=tx.go hL hi eZ bg ud N1 zW;refine next s1 mD λa1 w1 F1 G1 g1 g2 _ _=>ih _ _ _ s1 F1 G1 (by simp[cm]) Av (by rw[rI];exact zd) g1 g2 (.inl ⟨by rw[rI];exact Bi,λGd x p h1 h2 h3=>(kN x).2 ?_⟩);rcases(kN m).1 Gd with Gd |e
    ·exact .inl (N1 Gd x p h1 h2 h3)
    exact .inl (zW e.symm x p h1 h2 h3)
  have Mp:i≠m:=λe=>bg (e▸N3);have yV: ∀(j:Nat) (x:Oper),ops[j]?=some x->(∀e∈x.after,Region.binds .any e=true->ak.getD e.on false=true)-> ∀e∈x.after,Region.binds .any e=true->e.on≠m:=by
   intro j x hj vX e he hb Pe;have Hb:Nat.testBit (M.getD j 0) m=true:=by rw[tx.mask hj];have:=sI M x.after.toList e (by simpa using he) hb;rwa [Pe] at this
   exact b9 λy p h1 h2 h3=>tx.sub hL j x hj vX y (Ab j x hj Hb y p h1 h2 h3)
  have N5:vV ops (λj=>ak.getD j false=true/\j≠m):=λj x hj jU e he hb=>⟨hL j x hj jU.1 e he hb,yV j x hj (hL j x hj jU.1) e he hb⟩
  obtain⟨s1,mD,Bi⟩:=tx.go N5 hi eZ (λhh=>bg hh.1) (λe he hb=>⟨ud e he hb,yV i o eZ ud e he hb⟩) (λhh=>absurd rfl hh.2) (λe=>absurd e Mp);have Mq:o.dst≠some td:=λhd=>tx.inj eZ Bj Mp hd Ik;have JA:(λj=>(ak.getD j false=true/\j≠m)\/j=i)=λj=>(ak.setIfInBounds i true).getD j false=true/\j≠m:=funext λj=>propext ⟨λhh=>hh.elim (λhh=>⟨(kN j).2 (.inl hh.1),hh.2⟩) (λe=>⟨(kN j).2 (.inr e),by rw[e];exact Mp⟩),λhh=>((kN j).1 hh.1).elim (λh1=> .inl ⟨h1,hh.2⟩) .inr⟩;refine next s1 mD λa1 w1 F1 G1 g1 g2 g3 g4=> ?_;have qW:=Pd.go g3 (g4 Mq);rw[JA] at Bi;have Hi:(ak.setIfInBounds i true).getD m false=true:=(kN m).2 (.inl N3);by_cases hE:Gc ops m (λj=>(ak.setIfInBounds i true).getD j false=true)
  ·have JB:vV ops (λj=>(ak.setIfInBounds i true).getD j false=true):=by rw[rI];exact zd
   have Mr:vV ops (λj=>(ak.setIfInBounds i true).getD j false=true/\j≠m):=by
    rw[<-JA];intro j x hj jU e he hb;rcases jU with jU |rfl
    ·exact .inl (N5 j x hj jU e he hb)
    rw[eZ] at hj;cases hj;exact .inl ⟨ud e he hb,yV _ _ eZ ud e he hb⟩
   obtain⟨s2,zX,KQ⟩:=tx.go Mr Bi Bj (λhh=>hh.2 rfl) (λe he hb=>⟨JB m om Bj Hi e he hb,λe'=>by have:=tx.back Bj he hb;omega⟩) (λhh=>absurd rfl hh.2) (λ_ x p h1 h2 h3=>⟨hE x p h1 h2 h3,by omega⟩);obtain⟨G2,q1,q2⟩:=Hh AF w5 zX g1 qW g2;refine ih _ _ _ s2 F1 G2 (by simp[cm]) Av JB q1 q2 (.inl ⟨?_,λ_=>hE⟩);have e:(λj=>((ak.setIfInBounds i true).getD j false=true/\j≠m)\/j=m)=λj=>(ak.setIfInBounds i true).getD j false=true:=funext λj=>propext ⟨λhh=>hh.elim (·.1) (λe=>e▸Hi),λhh=>(Classical.em (j=m)).elim .inr λhn=> .inl ⟨hh,hn⟩⟩;rw[<-e];exact KQ
  exact ih _ _ _ s1 F1 G1 (by simp[cm]) Av (by rw[rI];exact zd) g1 g2 (.inr ⟨Hi,hE,Bi,qW⟩)
end
theorem nV{ops:List Oper}{M:List Nat}: ∀(l:List Oper) (j m:Nat) (t:TypeId) (d:Nat),ni ops M j l=some (m,t,d)->j<=m/\ ∃o,l[m-j]?=some o/\fZ o=some (t,d)
 | [],_,_,_,_,h=>by cases h
 |o::r,j,m,t,d,h=>by
  unfold ni at h;have more:ni ops M (j+1) r=some (m,t,d)->j<=m/\ ∃p,(o::r)[m-j]?=some p/\fZ p=some (t,d):=λh=>by obtain⟨h1,p,h2,h3⟩:=nV r (j+1) m t d h;exact⟨by omega,p,by rw[show m-j=(m-(j+1))+1 by omega,zbl];exact h2,h3⟩
  split at h
  next t' d' ha=>
   split at h
   ·exact more h
   cases h;exact⟨zae _,o,by simp,ha⟩
  exact more h
theorem wc{Q:Program}{T:Tg}{cf:CF}(fG:cL Q T.w0 cf){ops:List Oper}{F:Nat->Prop}{G:Nat->Value}{w:World}{a:Act}{s s':S}{r:Option Nat}{Q':Exit->Act->World->Prop}
  (h:aq Q T F G w a s) (hs:mq Q cf ops s=some s') (hK: ∀a' w',fh Q T F G w s s' a' w'->Q' .normal a' w'):wpAnyIn (wd r) 0 Q .any ops.toArray Q' ops.toArray.size (Array.replicate ops.toArray.size false) a {w with drawn:=w.drawn+1}:=by
 unfold mq at hs;split at hs
 next m t d hl=>
  split at hs
  next hc=>
   obtain⟨fK,w5,Mn⟩:=hc;split at hs
   ·rename_i s1 l hd;split at hs
    ·rename_i Hf;simp at hs;subst hs;obtain⟨_,om,Bj,AF⟩:=nV ops 0 m t d hl;rw[Nat.sub_zero] at Bj;simp only[tc,zad] at fK;obtain⟨⟨c1,c2⟩,c3⟩:=fK;have zero: ∀i:Nat,0+i=i:=zbK;obtain⟨St,g1,g2,g3,g4⟩:=iH ops _ _ _ hd;have tx:Text Q cf ops (masks ops []) St m:=⟨λi o ho=>by have:=dw ops 0 c1 i o ho;rwa [zero] at this,λi j x y nb hx hy=>by have:=dM ops 0 c2 i j x y nb hx hy;rwa [zero,zero] at this,g3,λi j x y nb hx hy dV hb=> .inr (by obtain⟨q,hq⟩:=lV l 0 True Hf i j _ _ nb (g4 i x hx) (g4 j y hy);rw[zero,zero] at hq;exact ql (g3 i x hx) (g3 j y hy) dV hb hq)⟩
     have Ab: ∀i o,ops[i]?=some o->Nat.testBit ((masks ops []).getD i 0) m=true->Gc ops m λx=>Nat.testBit ((masks ops []).getD i 0) x=true:=by
      intro i o ho hb x p hx hp hk;have h1:=dw ops 0 c3 i o ho;rw[zero] at h1;simp only[Bx,hb,Bool.not_true,zcA] at h1;have h2:=dw ops 0 h1 x p hp;rw[zero] at h2;simp only[zbQ,zbd] at h2;rcases h2 with(h2 |h2)|h2
      ·omega
      ·omega
      exact h2
     have fg:(λj=>(Array.replicate ops.length false).getD j false=true)=λ_=>False:=by funext j;simp only[zav,zcz];split<;>simp
     have Ms: ∀j,(Array.replicate ops.length false).getD j false=true->False:=λj hj=>by have:=congrFun fg j;simp only[eq_iff_iff,iff_false] at this;exact this hj
     have Mk:aq Q T F G {w with drawn:=w.drawn+1} a s:=h.drawn _ (zbn _);have:=E1 (T:=T) (r:=r) tx fG Bj AF w5 (by rw[g1];exact Mn) Ab (F0:=F) (G0:=G) (w0:={w with drawn:=w.drawn+1}) (s0:=s) (Q':=Q')
      (λa' w' hp=>hK a' w' (by obtain⟨F',G',k1,k2⟩:=hp;rw[g2] at k1 k2;exact⟨F',G',k1,⟨k2.fV,k2.iN,k2.fe,k2.keep,k2.size,k2.os,k2.tape,k2.output⟩⟩))
      ops.length (Array.replicate ops.length false) a {w with drawn:=w.drawn+1} s F G (by simp) (by
       rw[Array.toList_replicate,List.count_replicate];simp) (by
       rw[fg];intro i o _ hf;exact hf.elim) Mk (Ext.refl _ _ _)
      (.inl ⟨by rw[fg];exact⟨by rw[g1],λi o t _ hf=>hf.elim,λt _=>by rw[g1],⟨0,by omega,by rw[g1],λi o _ _=>by simp⟩⟩,λhm=>(Ms _ hm).elim⟩)
     simpa using this
    cases hs
   cases hs
  cases hs
 cases hs
theorem yc{Q:Program}{T:Tg}{cf:CF}(fG:cL Q T.w0 cf)(hm:Q.follows .mixedOrders=true){ops:List Oper}{F:Nat->Prop}{G:Nat->Value}{w:World}{a:Act}{s s':S}{r:Option Nat}{id:Nat}{Q':Exit->Act->World->Prop}
  (h:aq Q T F G w a s) (hs:fu Q cf ops s=some s') (hK: ∀a' w',fh Q T F G w s s' a' w'->Q' .normal a' w'):(Code.region id ops.toArray true).wpIn (wd r) 0 Q Q' a w:=by
 refine wpIn_region_any hm ?_;unfold fu at hs;split at hs
 ·split at hs
  ·exact wc fG h hs hK
  have:=nT (r:=r) (Q':=Q') fG h hs hK;have e:(bM ops).toArray.size=ops.toArray.size:=by simp[bM]
  rw[e] at this;exact wa _ _ _ _ this
 exact nT fG h hs hK
end Pi
