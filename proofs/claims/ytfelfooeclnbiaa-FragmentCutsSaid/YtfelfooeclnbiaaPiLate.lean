/- The text PiLate. -/
import Derived.Test.YtfelfooeclnbiaaPiKOk4
namespace Pi
open Go
theorem j7{a:Act}{dst:Option Nat}{v:Value}{t:Nat}(h:dst≠some t):(a.put dst v).tmps.getD t undef=a.tmps.getD t undef:=by
 cases dst with
 |none=>rfl
 |some d=>have hd:d≠t:=λe=>h (by rw[e]);simp only[Act.put,zak];rw[zav hd]
theorem zb{a:Act}{t:Nat}{v:Value}(h:t<a.tmps.size):(a.put (some t) v).tmps.getD t undef=v:=by simp[Act.put,Array.getD,h]
theorem wi{a:Act}{t:Nat}{v:Value}(h:a.tmps.getD t undef=v):a.put (some t) v=a:=by simp only[Act.put];congr 1;refine Array.ext_getElem? λi=> ?_;simp only[zak] at h;grind
theorem xI{F:Fence}{n:Nat}{Q:Program}{o:Oper}{a:Act}{w:World}{K:Act->World->Prop}{Q':Exit->Act->World->Prop}{t:Nat}(bz:o.dst≠some t)
  (h:o.wpIn F n Q a w (λa' w'=>a'.tmps.getD t undef=a.tmps.getD t undef->K a' w') Q'):o.wpIn F n Q a w K Q':=by
 refine⟨h.1,?_⟩;have hh:=h.2;generalize (o.semAt F.round a.eval).run Q w=r at*
 cases r with
 |ok x w'=>
  cases x<;>simp only[Oper.uponIn] at hh⊢ <;>
   first
    |exact hh (j7 bz)
    |exact⟨hh.1,CallsIn.mono hh.2 (λe E0 he=>by cases e<;>first |exact he (j7 bz)|exact he)⟩
    |exact⟨hh.1,RowsIn.mono hh.2 (λ_ _ he=>he (j7 bz))⟩
    |grind [j7]
 |halt x w'=>cases x<;>simp only[Oper.uponIn] at hh⊢ <;>exact hh
section
variable{Q:Program}{T:Tg}{F:Nat->Prop}{G:Nat->Value}{w:World}{a:Act}{s:S}
theorem ar.Ei(h:ar Q T F G w a s){n v:Nat}{o:Obj}{s':S}(hs:s.new n o=some (s',v)){g1:Value}{b:Nat}{cs:Array Value}{t:TypeId}(hb: ∀b',aD g1 o=some b'->b'=b)(hc:w.heap[b]?=some (.cells cs t))(hF: ¬F b)(hO: ¬Own G s.rg b)
  (ho:gi Q F w (Pi.gk G n g1) (ins n ⟨v,none,o⟩ s.rg) n o):
  ar Q T F (Pi.gk G n g1) w a s'/\(∀b',Own (Pi.gk G n g1) s'.rg b'->Own G s.rg b'\/b'=b)/\Names G (Pi.gk G n g1) s.rg s'.rg/\lk s'.rg n=some ⟨v,none,o⟩:=by
 obtain⟨rfl,lN⟩:=S.eD hs;have cD:fm G s.rg n ⟨v,none,o⟩ g1:=λe he=> .inl (lN e he);have hn:=cd cD;have gp: ∀m e,lk (ins n (⟨v,none,o⟩:En) s.rg) m=some e->(m=n/\e=⟨v,none,o⟩)\/(n≠m/\lk s.rg m=some e):=λm e he=>by grind [aK,aQ]
 have cg: ∀b',Own (Pi.gk G n g1) (ins n (⟨v,none,o⟩:En) s.rg) b'->Own G s.rg b'\/b'=b:=by
  rintro b' ⟨m,e,he,bM⟩;rcases gp m e he with⟨rfl,rfl⟩| ⟨hm,he⟩
  ·rw[ax] at bM;grind
  rw[bQ _ (zaP hm)] at bM;exact .inl ⟨m,e,he,bM⟩
 refine⟨⟨⟨h.qX.1,λd hd=> ?_⟩,h.size,λt p hp=>(h.tm t p hp).mono (λ_ h=>h) (λ_ _=>rfl) hn,?_,?_,?_,h.fL,?_,h.z,h.dr,h.sz⟩,cg,hn,aK _ _ _⟩
 ·obtain⟨D,h1,h0,h2,h3,h4⟩:=h.qX.2 d hd;grind
 ·intro m e he;rcases gp m e he with⟨rfl,rfl⟩| ⟨hm,he⟩
  ·exact ho
  exact(h.rg m e he).mono (λ_ h=>h) (λ_ _=>rfl) hn (bQ _ (zaP hm)) (λ_ _=>rfl)
 ·intro m1 m2 e e' b' he aW ko iS;rcases gp m1 e he with⟨rfl,rfl⟩| ⟨s9,jJ⟩<;>rcases gp m2 e' aW with⟨rfl,rfl⟩| ⟨ta,wQ⟩
  ·rfl
  ·rw[ax] at ko;rw[bQ _ (zaP ta)] at iS;rw[hb b' ko] at iS;exact absurd ⟨m2,e',wQ,iS⟩ hO
  ·rw[ax] at iS;rw[bQ _ (zaP s9)] at ko;rw[hb b' iS] at ko;exact absurd ⟨m1,e,jJ,ko⟩ hO
  rw[bQ _ (zaP s9)] at ko;rw[bQ _ (zaP ta)] at iS;exact h.own _ _ _ _ b' jJ wQ ko iS
 ·intro m e b' he bM mT;rcases gp m e he with⟨rfl,rfl⟩| ⟨hm,he⟩
  ·rw[ax] at bM;rw[hb b' bM] at mT;exact hF mT
  rw[bQ _ (zaP hm)] at bM;exact h.hS m e b' he bM mT
 intro m e i he hi hl;rcases gp m e he with⟨rfl,rfl⟩| ⟨hm,he⟩
 ·cases hi
 rw[bQ _ (zaP hm)];exact h.tag m e i he hi hl
theorem ar.early(h:ar Q T F G w a s){cs:Array Value}{e:TypeId}{d:Nat}{v:Value}(hd:lk s.tm d=none):ar Q T F G (w.alloc (.cells cs e)) (a.put (some d) v) s/\Ext (Own G s.rg) (Own G s.rg) F F w (w.alloc (.cells cs e)):=by
 have hk: ∀b,b<w.heap.size->(w.alloc (.cells cs e)).heap[b]?=w.heap[b]?:=λb hb=>k7 w _ b hb;have bn:(w.alloc (.cells cs e)).heap.size=w.heap.size+1:=by simp
 have hx:Ext (Own G s.rg) (Own G s.rg) F F w (w.alloc (.cells cs e)):=⟨λ_ h=>h,λ_ h=> .inl h,λ_=> .inl,λb hb _=>hk b hb,by omega,rfl,rfl,rfl⟩
 refine⟨⟨h.qX.go hx,by simpa [Act.put] using h.size,λt p hp=> ?_,λn e he=>(h.rg n e he).mono (λ_ h=>h) (λb hb=>hk b (h.fL b hb)) (Names.refl _ _) rfl (λb hb=>hk b ((h.rg n e he).lt hb)),h.own,h.hS,λb hb=>by have:=h.fL b hb;omega,h.tag,λb hb=>⟨(h.z b hb).1,(hk b (h.fL b (h.z b hb).1)).trans (h.z b hb).2⟩,h.dr,zaA h.sz hx.size⟩,hx⟩;have bz:(some d:Option Nat)≠some t:=λe=>by grind
 rw[j7 bz];exact bj.mono (λ_ h=>h) (λb hb=>hk b (h.fL b hb)) (Names.refl _ _) (h.tm t p hp)
theorem tS(s:S)(n:Nat)(p:P):ji s n p none=some (s,p):=by
 cases p with
 |d x=>cases x<;>rfl
 |_=>rfl
theorem kJ: ∀(ps:List P) (ts:List (Option TypeId)) (s:S) (n:Nat),ts.any Option.isSome=false->aR s n ps ts=some (s,ps)
 | [],_,_,_,_=>rfl
 |p::ps,ts,s,n,h=>by
  have h1:ts.headD none=none:=by
   cases ts with
   |nil=>rfl
   |cons t r=>simp_all
  have h2:ts.tail.any Option.isSome=false:=by
   cases ts with
   |nil=>rfl
   |cons t r=>grind
  simp only[aR,h1,tS,kJ ps ts.tail s (n+1) h2]
end
theorem fT{o:Oper}{t:TypeId}{d:Nat}(h:dT o=some (t,d)):o.op= .alloc t/\o.guard=none/\o.dst=some d:=by grind [dT]
theorem mv{Q:Program}{cf:CF}{ops:List Oper}{s s':S}{o:Oper}{t:TypeId}{d:Nat}(ho:dT o=some (t,d))(vG:iv Q t=false)(h:aC Q cf ops s o=some s'):
  ∃i zv z s3 v,Q.info? t=some i/\i.zero=some zv/\D.jK zv=some z/\s.new (site (some d)) (.box t (P.d z).cells)=some (s3,v)/\s3.put (some d) (.ref (site (some d)) v 0)=some s':=by
 obtain⟨h1,h2,h3⟩:=fT ho;have hg:az ops o=some none:=by unfold az;rw[h2]
 unfold aC at h;simp only[hg] at h;unfold ct at h;have hc:ep o=none:=by unfold ep;rw[h1]
 have hm:iL o=none:=by unfold iL;rw[h1]
 have hn:bb Q o=none:=by unfold bb;rw[h1]
 have hp:pv Q s o none=none:=by unfold pv;rw[h1]
 simp only[hc] at h;unfold exec at h;simp only[hm] at h;unfold dE at h;simp only[hn,hp] at h;unfold ef at h;grind [bK,fD,kJ,iv]
theorem tT{Q:Program}{w:World}{a:Act}{o:Oper}{t:TypeId}{d:Nat}(ho:dT o=some (t,d)){i:TypeInfo}{zv:Value}(hi:Q.info? t=some i)(hz:i.zero=some zv):
  (execOp a.eval o).run Q w= .ok (.value (.pointer (some ⟨w.heap.size,0,none⟩))) (w.alloc (.cells zv.cells t)):=by
 obtain⟨h1,_,_⟩:=fT ho;have mI:(zeroValue t).run Q w= .ok zv w:=by simp[zeroValue,typeInfo,hi,hz]
 simp[execOp,h1,Instr.alloc,mI,newVar,newRow]
section
variable{Q:Program}{T:Tg}{cf:CF}{ops:List Oper}{M:List Nat}{St:Nat->S}{r:Option Nat}{m:Nat}
def yn(ops:List Oper)(m:Nat)(L:Nat->Prop):Prop:= ∀x p,x<m->ops[x]?=some p->1<ak p->L x
def tU(Q:Program)(F:Nat->Prop)(G:Nat->Value)(w0 w:World)(a:Act)(s:S)(t:TypeId)(d:Nat):Prop:=
 ∃b i zv,Q.info? t=some i/\i.zero=some zv/\w.heap[b]?=some (.cells zv.cells t)/\ ¬F b/\ ¬Own G s.rg b/\w0.heap.size<=b/\b<w.heap.size/\a.tmps.getD d undef= .pointer (some ⟨b,0,none⟩)
theorem tU.go{F F1:Nat->Prop}{G G1:Nat->Value}{w0 w w1:World}{a a1:Act}{s s1:S}{t:TypeId}{d:Nat}(h:tU Q F G w0 w a s t d)(hx:Ext (Own G s.rg) (Own G1 s1.rg) F F1 w w1)(ha:a1.tmps.getD d undef=a.tmps.getD d undef):tU Q F1 G1 w0 w1 a1 s1 t d:=by
 obtain⟨b,i,zv,h1,h2,h3,h4,h5,h6,h7,h8⟩:=h;refine⟨b,i,zv,h1,h2,(hx.keep b h7 h5).trans h3,λhf=> ?_,λho=> ?_,h6,zaS h7 hx.size,ha.trans h8⟩
 ·rcases hx.lD b hf with h |h |h
  ·exact h4 h
  ·exact h5 h
  omega
 rcases hx.jr b ho with h |h
 ·exact h5 h
 omega
theorem zd{F0 F:Nat->Prop}{G0 G:Nat->Value}{w0 w:World}{a:Act}{R0:List (Nat×En)}{s s2:S}{o:Oper}{t:TypeId}{d:Nat}(ho:dT o=some (t,d))(vG:iv Q t=false)(hs:aC Q cf ops s o=some s2)(h:ar Q T F G w a s)
  (hp:tU Q F G w0 w a s t d) (hx:Ext (Own G0 R0) (Own G s.rg) F0 F w0 w): ∃G2,ar Q T F G2 w a s2/\Ext (Own G0 R0) (Own G2 s2.rg) F0 F w0 w:=by
 obtain⟨b,i,zv,h1,h2,h3,h4,h5,h6,h7,h8⟩:=hp;obtain⟨i',E1,z,s3,v,k1,k2,k3,k4,k5⟩:=mv ho vG hs;rw[h1] at k1;cases k1;rw[h2] at k2;cases k2;have ph:ay F w zv z:=ay.jK _ _ k3;obtain⟨c1,c2,c3⟩:=bG ph;obtain⟨m1,m2,m3,m4⟩:=h.Ei k4 (g1:= .pointer (some ⟨b,0,none⟩)) (b:=b) (λb' hb=>by grind [aD,au]) h3 h4 h5
  ⟨b,zv.cells,ax _ _ _,h3,by rw[gJ,zaD,<-c1];simp,ey ph,λj p hj=>by
   rw[gJ,zap,zaj] at hj;obtain⟨x,Ej,rfl⟩:=hj;have CP:j<zv.cells.size:=by grind
   have hu:zv.cells.toList[j]?=some (zv.cells.getD j undef):=by simp_all
   exact .d (c3 j _ x hu Ej)⟩
 obtain⟨p1,p2⟩:=a7 m1 k5 (v:= .pointer (some ⟨b,0,none⟩)) (bj.of (.ref (site (some d)) v 0 _ ⟨_,m4,zag _,λ_ _=>⟨b,ax _ _ _,rfl⟩⟩ rfl));rw[wi h8] at p1;refine⟨_,p1,?_⟩;rw[p2];exact⟨hx.gG,hx.lD,λb' bM=>by
  rcases m2 b' bM with h |rfl
  ·exact hx.jr b' h
  grind,hx.keep,hx.size,hx.os,hx.tape,hx.output⟩
theorem nU(acc:List Nat): ∀(es:List Edge) (e:Edge),e∈es->Region.binds .any e=true->Nat.testBit (er acc es) e.on=true
 | [],_,h,_=>by cases h
 |e'::r,e,h,hb=>by
  have lor: ∀a b:Nat,Nat.lor a b=a |||b:=λ_ _=>rfl
  unfold er;rcases zaz.1 h with rfl |h
  ·rw[zax hb];simp
  have ih:=nU acc r e h hb;grind
theorem xJ(tx:Text Q cf ops M St m)(hZ:gl Q T.w0 cf){om:Oper}{tt:TypeId}{td:Nat}(uq:ops[m]?=some om)(z7:dT om=some (tt,td))(vG:iv Q tt=false)(h0:lk (St 0).tm td=none)
  (yO: ∀i o,ops[i]?=some o->Nat.testBit (M.getD i 0) m=true->yn ops m λx=>Nat.testBit (M.getD i 0) x=true)
  {F0:Nat->Prop} {G0:Nat->Value} {w0:World} {s0:S} {Q':Exit->Act->World->Prop} (hK: ∀a' w',fQ Q T F0 G0 w0 s0 (St ops.length) a' w'->Q' .normal a' w'):
  ∀(fuel:Nat) (aj:Array Bool) (a:Act) (w:World) (s:S) (F:Nat->Prop) (G:Nat->Value),
  aj.size=ops.length->fuel+aj.toList.count true=ops.length->p9 ops (λj=>aj.getD j false=true)->ar Q T F G w a s->Ext (Own G0 s0.rg) (Own G s.rg) F0 F w0 w->
  ((Inv ops St (λj=>aj.getD j false=true) s/\(aj.getD m false=true->yn ops m (λj=>aj.getD j false=true)))\/
   (aj.getD m false=true/\ ¬yn ops m (λj=>aj.getD j false=true)/\Inv ops St (λj=>aj.getD j false=true/\j≠m) s/\tU Q F G w0 w a s tt td))->
  wpAnyIn (wd r) 0 Q .any ops.toArray Q' fuel aj a w:=by
 obtain⟨yT,Ek,Bw⟩:=fT z7;have Ao:m<ops.length:=(zaa.1 uq).1;have fZ: ∀(i:Nat) (o:Oper),ops.toArray[i]?=some o-> ∀e∈o.after,Region.binds .any e=true->e.on<i:=λi o ho e he hb=>tx.back (by simpa using ho) he hb;have fin: ∀(aj:Array Bool) (a:Act) (w:World) (s:S) (F:Nat->Prop) (G:Nat->Value),(∀i,i<ops.length->aj.getD i false=true)->ar Q T F G w a s->Ext (Own G0 s0.rg) (Own G s.rg) F0 F w0 w->
    ((Inv ops St (λj=>aj.getD j false=true) s/\(aj.getD m false=true->yn ops m (λj=>aj.getD j false=true)))\/(aj.getD m false=true/\ ¬yn ops m (λj=>aj.getD j false=true)/\Inv ops St (λj=>aj.getD j false=true/\j≠m) s/\tU Q F G w0 w a s tt td))->Q' .normal a w:=by
  intro aj a w s F G cY h hx hm;rcases hm with⟨hi,_⟩| ⟨_,bz,_⟩
  · obtain⟨h1,h2,h3⟩:=tx.last hi (λi o ho=>cY i (zaa.1 ho).1);exact hK a w ⟨F,G,h.alike h1 h2 h3,by rw[<-h2];exact hx⟩
  exact absurd (λx p _ hp _=>cY x (zaa.1 hp).1) bz
 intro fuel
 induction fuel with
 |zero=>
  intro aj a w s F G bn hc hL h hx hm;have cY: ∀i,i<ops.length->aj.getD i false=true:=λi bm=>by
    have yf:aj.toList.count true=aj.toList.length:=by rw[zbI,bn];omega
    have:=List.count_eq_length.1 yf aj[i] (by simp);simp[bn,bm,<-this]
  refine⟨?_,fin aj a w s F G cY h hx hm⟩;cases hr:Region.ready .any ops.toArray aj with
  |nil=>rfl
  |cons i r=>
    have AN:i∈Region.ready .any ops.toArray aj:=by rw[hr];simp
    obtain⟨h0,o,ho,_⟩:=mem_ready.1 AN;have bm:i<ops.length:=by have:=(zal.1 ho).1;simpa using this
    have h1:=cY i bm;have hl:i<aj.size:=by omega
    simp[hl] at h0 h1;rw[h0] at h1;cases h1
 |succ fuel ih=>
  intro aj a w s F G bn hc hL h hx hm;refine⟨λhr=>fin aj a w s F G (λi bm=>nP (by simp[bn]) fZ hr i (by simpa using bm)) h hx hm,λi jv=> ?_⟩;obtain⟨wL,o,ho,oW⟩:=mem_ready.1 jv;have oV:ops[i]?=some o:=by simpa using ho
  have bm:i<ops.length:=(zaa.1 oV).1;have hl:i<aj.size:=by omega
  have dH: ¬aj.getD i false=true:=by simp[hl] at wL⊢;exact wL
  have gW: ∀j,((aj.setIfInBounds i true).getD j false=true)↔(aj.getD j false=true\/j=i):=λj=>by
    by_cases hj:j=i
    ·subst hj;simp[hl]
    rw[getD_set_ne false (λe=>hj e.symm)];simp[hj]
  have tM:fuel+(aj.setIfInBounds i true).toList.count true=ops.length:=by
    have e:(aj.setIfInBounds i true).toList=aj.toList.set i true:=by simp
    rw[e,List.count_set (by simpa using hl)];have:(aj.toList[i]'(by simpa using hl)==true)=false:=by simp[hl] at dH⊢;exact dH
    simp only[this];simp only[zaw,za6,zbS,zaR];omega
  have qb:(λj=>(aj.setIfInBounds i true).getD j false=true)=(λj=>aj.getD j false=true\/j=i):=funext λj=>propext (gW j);have sF:p9 ops (λj=>aj.getD j false=true\/j=i):=by
    intro j x hj gm e he hb;rcases gm with gm |rfl
    ·exact .inl (hL j x hj gm e he hb)
    rw[oV] at hj;cases hj;exact .inl (oW e he hb)
  have next: ∀(s1:S),aC Q cf ops s o=some s1->(∀a1 w1 F1 G1,ar Q T F1 G1 w1 a1 s1->Ext (Own G0 s0.rg) (Own G1 s1.rg) F0 F1 w0 w1->Ext (Own G s.rg) (Own G1 s1.rg) F F1 w w1->(o.dst≠some td->a1.tmps.getD td undef=a.tmps.getD td undef)->wpAnyIn (wd r) 0 Q .any ops.toArray Q' fuel (aj.setIfInBounds i true) a1 w1)->
     wpOpIn (wd r) 0 Q ops.toArray Q' i (wpAnyIn (wd r) 0 Q .any ops.toArray Q' fuel (aj.setIfInBounds i true)) a w:=by
    intro s1 mJ ya;unfold wpOpIn;rw[ho];simp only[];by_cases hd:o.dst=some td
    ·have gj:=h9 hZ h mJ (r:=r) (K:=wpAnyIn (wd r) 0 Q .any ops.toArray Q' fuel (aj.setIfInBounds i true)) (Q':=Q') (λa' w' ⟨F',G',g1,g2⟩=>ya a' w' F' G' g1 (hx.trans g2) g2 λbz=>absurd hd bz);split
     next hw=>rw[zax hw] at gj;exact gj
     rename_i hw;rw[zaB hw] at gj;exact⟨λ_ _=>trivial,gj⟩
    have gj:=h9 hZ h mJ (r:=r) (K:=λa' w'=>a'.tmps.getD td undef=a.tmps.getD td undef->wpAnyIn (wd r) 0 Q .any ops.toArray Q' fuel (aj.setIfInBounds i true) a' w') (Q':=Q') (λa' w' ⟨F',G',g1,g2⟩ hk=>ya a' w' F' G' g1 (hx.trans g2) g2 λ_=>hk);split
    next hw=>rw[zax hw] at gj;exact xI hd gj
    rename_i hw;rw[zaB hw] at gj;exact⟨λ_ _=>trivial,gj (j7 hd)⟩
  rcases hm with⟨hi,C8⟩| ⟨C9,bz,hi,El⟩
  · by_cases wj:i=m/\ ¬yn ops m (λj=>aj.getD j false=true)
    ·
     obtain⟨rfl,bz⟩:=wj;rw[uq] at oV;cases oV;obtain⟨ii,zv,z,s3,v,k1,k2,_⟩:=mv z7 vG (tx.run i om uq);have wk:lk s.tm td=none:=by rw[hi.zZ td (λj y hj gm hd=>tx.inj hj uq (λe=>dH (e▸gm)) hd Bw)];exact h0
     have aU:=tT (a:=a) (w:=w) z7 k1 k2;obtain⟨e1,e2⟩:=h.early (cs:=zv.cells) (e:=tt) (v:= .pointer (some ⟨w.heap.size,0,none⟩)) wk;unfold wpOpIn;rw[ho];simp only[];rw[zax (by simp[Region.wanted,Ek])];refine oH (λc hc=>by rw[yT] at hc;cases hc) ?_;rw[aU,Oper.uponIn_value,Bw];refine ih _ _ _ s F G (by simp[bn]) tM (by rw[qb];exact sF) e1 (hx.trans e2) (.inr ⟨(gW i).2 (.inr rfl),λhE=>bz λx p x9 hp hk=>((gW x).1 (hE x p x9 hp hk)).resolve_right (by omega),?_,?_⟩)
     ·have e:(λj=>(aj.setIfInBounds i true).getD j false=true/\j≠i)=λj=>aj.getD j false=true:=funext λj=>propext ⟨λhh=>((gW j).1 hh.1).resolve_right hh.2,λhh=>⟨(gW j).2 (.inl hh),λe=>dH (e▸hh)⟩⟩;rw[e];exact hi
     have Cl:td<a.tmps.size:=by
      obtain⟨R',q',xK⟩:=tx.step uq;rw[Bw] at xK;have E2:td<(St i).n:=by
       simp only[S.put] at xK;split at xK
       next hb=>simp[Nat.blt] at hb;omega
       cases xK
      have Bi:=(tx.inv i (by omega)).1;have E3:=hi.n;have:=h.size;omega
     exact⟨w.heap.size,ii,zv,k1,k2,heap_alloc_new w _,λhf=>by have:=h.fL _ hf;omega,λhO=>by obtain⟨n,e,he,hb⟩:=hO;have:=(h.rg n e he).lt hb;omega,hx.size,by simp,zb Cl⟩
    have ta:i=m-> ∀x p,x<m->ops[x]?=some p->1<ak p->aj.getD x false=true:=λe x p h1 h2 h3=>zb6 λhc=>wj ⟨e,λhE=>hc (hE x p h1 h2 h3)⟩;obtain⟨s1,mJ,y8⟩:=tx.go hL hi oV dH oW C8 ta;refine next s1 mJ λa1 w1 F1 G1 g1 g2 _ _=>ih _ _ _ s1 F1 G1 (by simp[bn]) tM (by rw[qb];exact sF) g1 g2 (.inl ⟨by rw[qb];exact y8,λAN x p h1 h2 h3=>(gW x).2 ?_⟩);rcases(gW m).1 AN with AN |e
    ·exact .inl (C8 AN x p h1 h2 h3)
    exact .inl (ta e.symm x p h1 h2 h3)
  have Cm:i≠m:=λe=>dH (e▸C9);have zU: ∀(j:Nat) (x:Oper),ops[j]?=some x->(∀e∈x.after,Region.binds .any e=true->aj.getD e.on false=true)-> ∀e∈x.after,Region.binds .any e=true->e.on≠m:=by
   intro j x hj qa e he hb z8;have y4:Nat.testBit (M.getD j 0) m=true:=by rw[tx.mask hj];have:=nU M x.after.toList e (by simpa using he) hb;rwa [z8] at this
   exact bz λy p h1 h2 h3=>tx.sub hL j x hj qa y (yO j x hj y4 y p h1 h2 h3)
  have Da:p9 ops (λj=>aj.getD j false=true/\j≠m):=λj x hj gm e he hb=>⟨hL j x hj gm.1 e he hb,zU j x hj (hL j x hj gm.1) e he hb⟩
  obtain⟨s1,mJ,y8⟩:=tx.go Da hi oV (λhh=>dH hh.1) (λe he hb=>⟨oW e he hb,zU i o oV oW e he hb⟩) (λhh=>absurd rfl hh.2) (λe=>absurd e Cm);have Cn:o.dst≠some td:=λhd=>tx.inj oV uq Cm hd Bw;have AO:(λj=>(aj.getD j false=true/\j≠m)\/j=i)=λj=>(aj.setIfInBounds i true).getD j false=true/\j≠m:=funext λj=>propext ⟨λhh=>hh.elim (λhh=>⟨(gW j).2 (.inl hh.1),hh.2⟩) (λe=>⟨(gW j).2 (.inr e),by rw[e];exact Cm⟩),λhh=>((gW j).1 hh.1).elim (λh1=> .inl ⟨h1,hh.2⟩) .inr⟩;refine next s1 mJ λa1 w1 F1 G1 g1 g2 g3 g4=> ?_;have ze:=El.go g3 (g4 Cn);rw[AO] at y8;have zf:(aj.setIfInBounds i true).getD m false=true:=(gW m).2 (.inl C9);by_cases hE:yn ops m (λj=>(aj.setIfInBounds i true).getD j false=true)
  ·have AP:p9 ops (λj=>(aj.setIfInBounds i true).getD j false=true):=by rw[qb];exact sF
   have Co:p9 ops (λj=>(aj.setIfInBounds i true).getD j false=true/\j≠m):=by
    rw[<-AO];intro j x hj gm e he hb;rcases gm with gm |rfl
    ·exact .inl (Da j x hj gm e he hb)
    rw[oV] at hj;cases hj;exact .inl ⟨oW e he hb,zU _ _ oV oW e he hb⟩
   obtain⟨s2,Bm,Bx⟩:=tx.go Co y8 uq (λhh=>hh.2 rfl) (λe he hb=>⟨AP m om uq zf e he hb,λe'=>by have:=tx.back uq he hb;omega⟩) (λhh=>absurd rfl hh.2) (λ_ x p h1 h2 h3=>⟨hE x p h1 h2 h3,by omega⟩);obtain⟨G2,q1,q2⟩:=zd z7 vG Bm g1 ze g2;refine ih _ _ _ s2 F1 G2 (by simp[bn]) tM AP q1 q2 (.inl ⟨?_,λ_=>hE⟩);have e:(λj=>((aj.setIfInBounds i true).getD j false=true/\j≠m)\/j=m)=λj=>(aj.setIfInBounds i true).getD j false=true:=funext λj=>propext ⟨λhh=>hh.elim (·.1) (λe=>e▸zf),λhh=>(Classical.em (j=m)).elim .inr λhn=> .inl ⟨hh,hn⟩⟩;rw[<-e];exact Bx
  exact ih _ _ _ s1 F1 G1 (by simp[bn]) tM (by rw[qb];exact sF) g1 g2 (.inr ⟨zf,hE,y8,ze⟩)
end
theorem kK{ops:List Oper}{M:List Nat}: ∀(l:List Oper) (j m:Nat) (t:TypeId) (d:Nat),jN ops M j l=some (m,t,d)->j<=m/\ ∃o,l[m-j]?=some o/\dT o=some (t,d)
 | [],_,_,_,_,h=>by cases h
 |o::r,j,m,t,d,h=>by
  unfold jN at h;have more:jN ops M (j+1) r=some (m,t,d)->j<=m/\ ∃p,(o::r)[m-j]?=some p/\dT p=some (t,d):=λh=>by obtain⟨h1,p,h2,h3⟩:=kK r (j+1) m t d h;exact⟨by omega,p,by rw[show m-j=(m-(j+1))+1 by omega,zbd];exact h2,h3⟩
  split at h
  next t' d' ha=>
   split at h
   ·exact more h
   cases h;exact⟨zag _,o,by simp,ha⟩
  exact more h
theorem qj{Q:Program}{T:Tg}{cf:CF}(hZ:gl Q T.w0 cf){ops:List Oper}{F:Nat->Prop}{G:Nat->Value}{w:World}{a:Act}{s s':S}{r:Option Nat}{Q':Exit->Act->World->Prop}
  (h:ar Q T F G w a s) (hs:jm Q cf ops s=some s') (hK: ∀a' w',fQ Q T F G w s s' a' w'->Q' .normal a' w'):wpAnyIn (wd r) 0 Q .any ops.toArray Q' ops.toArray.size (Array.replicate ops.toArray.size false) a {w with drawn:=w.drawn+1}:=by
 unfold jm at hs;split at hs
 next m t d hl=>
  split at hs
  next hc=>
   obtain⟨hT,vG,Cl⟩:=hc;split at hs
   ·rename_i s1 l hd;split at hs
    ·rename_i y9;simp at hs;subst hs;obtain⟨_,om,uq,z7⟩:=kK ops 0 m t d hl;rw[Nat.sub_zero] at uq;simp only[oc,zad] at hT;obtain⟨⟨c1,c2⟩,c3⟩:=hT;have zero: ∀i:Nat,0+i=i:=za4;obtain⟨St,g1,g2,g3,g4⟩:=fc ops _ _ _ hd;have tx:Text Q cf ops (masks ops []) St m:=⟨λi o ho=>by have:=ca ops 0 c1 i o ho;rwa [zero] at this,λi j x y iA hx hy=>by have:=cv ops 0 c2 i j x y iA hx hy;rwa [zero,zero] at this,g3,λi j x y iA hx hy dK hb=> .inr (by obtain⟨q,hq⟩:=iY l 0 True y9 i j _ _ iA (g4 i x hx) (g4 j y hy);rw[zero,zero] at hq;exact mh (g3 i x hx) (g3 j y hy) dK hb hq)⟩
     have yO: ∀i o,ops[i]?=some o->Nat.testBit ((masks ops []).getD i 0) m=true->yn ops m λx=>Nat.testBit ((masks ops []).getD i 0) x=true:=by
      intro i o ho hb x p hx hp hk;have h1:=ca ops 0 c3 i o ho;rw[zero] at h1;simp only[uA,hb,Bool.not_true,zcb] at h1;have h2:=ca ops 0 h1 x p hp;rw[zero] at h2;simp only[zbm,za7] at h2;rcases h2 with(h2 |h2)|h2
      ·omega
      ·omega
      exact h2
     have gq:(λj=>(Array.replicate ops.length false).getD j false=true)=λ_=>False:=by funext j;simp only[zak,zb9];split<;>simp
     have Cp: ∀j,(Array.replicate ops.length false).getD j false=true->False:=λj hj=>by have:=congrFun gq j;simp only[eq_iff_iff,iff_false] at this;exact this hj
     have Ci:ar Q T F G {w with drawn:=w.drawn+1} a s:=h.drawn _ (zbJ _);have:=xJ (T:=T) (r:=r) tx hZ uq z7 vG (by rw[g1];exact Cl) yO (F0:=F) (G0:=G) (w0:={w with drawn:=w.drawn+1}) (s0:=s) (Q':=Q')
      (λa' w' hp=>hK a' w' (by obtain⟨F',G',k1,k2⟩:=hp;rw[g2] at k1 k2;exact⟨F',G',k1,⟨k2.gG,k2.lD,k2.jr,k2.keep,k2.size,k2.os,k2.tape,k2.output⟩⟩))
      ops.length (Array.replicate ops.length false) a {w with drawn:=w.drawn+1} s F G (by simp) (by
       rw[Array.toList_replicate,List.count_replicate];simp) (by
       rw[gq];intro i o _ hf;exact hf.elim) Ci (Ext.refl _ _ _)
      (.inl ⟨by rw[gq];exact⟨by rw[g1],λi o t _ hf=>hf.elim,λt _=>by rw[g1],⟨0,by omega,by rw[g1],λi o _ _=>by simp⟩⟩,λhm=>(Cp _ hm).elim⟩)
     simpa using this
    cases hs
   cases hs
  cases hs
 cases hs
theorem rL{Q:Program}{T:Tg}{cf:CF}(hZ:gl Q T.w0 cf)(hm:Q.follows .mixedOrders=true){ops:List Oper}{F:Nat->Prop}{G:Nat->Value}{w:World}{a:Act}{s s':S}{r:Option Nat}{id:Nat}{Q':Exit->Act->World->Prop}
  (h:ar Q T F G w a s) (hs:dz Q cf ops s=some s') (hK: ∀a' w',fQ Q T F G w s s' a' w'->Q' .normal a' w'):(Code.region id ops.toArray true).wpIn (wd r) 0 Q Q' a w:=by
 refine wpIn_region_any hm ?_;unfold dz at hs;split at hs
 ·split at hs
  ·exact qj hZ h hs hK
  have:=kI (r:=r) (Q':=Q') hZ h hs hK;have e:(aZ ops).toArray.size=ops.toArray.size:=by simp[aZ]
  rw[e] at this;exact qg _ _ _ _ this
 exact kI hZ h hs hK
end Pi
