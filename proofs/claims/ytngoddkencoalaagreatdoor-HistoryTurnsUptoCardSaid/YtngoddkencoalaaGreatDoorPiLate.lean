/- The text PiLate. -/
import Derived.Test.YtngoddkencoalaaGreatDoorPiKOk4
namespace Pi
open Go
theorem vC{a:Act}{dst:Option Nat}{v:Value}{t:Nat}(h:dst≠some t):(a.put dst v).tmps.getD t undef=a.tmps.getD t undef:=by
 cases dst with
 |none=>rfl
 |some d=>have hd:d≠t:=λe=>h (by rw[e]);simp only[Act.put,zaI];rw[za5 hd]
theorem qez{a:Act}{t:Nat}{v:Value}(h:t<a.tmps.size):(a.put (some t) v).tmps.getD t undef=v:=by simp[Act.put,Array.getD,h]
theorem SQ{a:Act}{t:Nat}{v:Value}(h:a.tmps.getD t undef=v):a.put (some t) v=a:=by simp only[Act.put];congr 1;refine zc4 λi=> ?_;simp only[zaI] at h;grind
theorem qal{F:Fence}{n:Nat}{Q:Program}{o:Oper}{a:Act}{w:World}{K:Act->World->Prop}{Q':Exit->Act->World->Prop}{t:Nat}(dQ:o.dst≠some t)
  (h:o.wpIn F n Q a w (λa' w'=>a'.tmps.getD t undef=a.tmps.getD t undef->K a' w') Q'):o.wpIn F n Q a w K Q':=by
 refine⟨h.1,?_⟩;have hh:=h.2;generalize (o.semAt F.round a.eval).run Q w=r at*
 cases r with
 |ok x w'=>
  cases x<;>simp only[Oper.uponIn] at hh⊢ <;>
   first
    |exact hh (vC dQ)
    |exact⟨hh.1,CallsIn.mono hh.2 (λe w'' he=>by cases e<;>first |exact he (vC dQ)|exact he)⟩
    |exact⟨hh.1,RowsIn.mono hh.2 (λ_ _ he=>he (vC dQ))⟩
    |grind [vC]
 |halt x w'=>cases x<;>simp only[Oper.uponIn] at hh⊢ <;>exact hh
section
variable{Q:Program}{T:Tg}{F:Nat->Prop}{G:Nat->Value}{w:World}{a:Act}{s:S}
theorem aG.mat(h:aG Q T F G w a s){n v:Nat}{o:Obj}{s':S}(hs:s.new n o=some (s',v)){g1:Value}{b:Nat}{cs:Array Value}{t:TypeId}(hb: ∀b',bF g1 o=some b'->b'=b)(hc:w.heap[b]?=some (.cells cs t))(hF: ¬F b)(hO: ¬Own G s.rg b)
  (ho:pG Q F w (Pi.oe G n g1) (ins n ⟨v,none,o⟩ s.rg) n o):
  aG Q T F (Pi.oe G n g1) w a s'/\(∀b',Own (Pi.oe G n g1) s'.rg b'->Own G s.rg b'\/b'=b)/\Names G (Pi.oe G n g1) s.rg s'.rg/\lk s'.rg n=some ⟨v,none,o⟩:=by
 obtain⟨rfl,yP⟩:=S.lE hs;have gl:rS G s.rg n ⟨v,none,o⟩ g1:=λe he=> .inl (yP e he);have hn:=gN gl;have pS: ∀m e,lk (ins n (⟨v,none,o⟩:En) s.rg) m=some e->(m=n/\e=⟨v,none,o⟩)\/(n≠m/\lk s.rg m=some e):=λm e he=>by grind [bC,b8]
 have ga: ∀b',Own (Pi.oe G n g1) (ins n (⟨v,none,o⟩:En) s.rg) b'->Own G s.rg b'\/b'=b:=by
  rintro b' ⟨m,e,he,dm⟩;rcases pS m e he with⟨rfl,rfl⟩| ⟨hm,he⟩
  ·rw[a7] at dm;grind
  rw[eZ _ (zbI hm)] at dm;exact .inl ⟨m,e,he,dm⟩
 refine⟨⟨⟨h.sg.1,λd hd=> ?_⟩,h.size,λt p hp=>(h.tm t p hp).mono (λ_ h=>h) (λ_ _=>rfl) hn,?_,?_,?_,h.jE,?_,h.z,h.dr,h.sz⟩,ga,hn,bC _ _ _⟩
 ·obtain⟨D,h1,h0,h2,h3,h4⟩:=h.sg.2 d hd;grind
 ·intro m e he;rcases pS m e he with⟨rfl,rfl⟩| ⟨hm,he⟩
  ·exact ho
  exact(h.rg m e he).mono (λ_ h=>h) (λ_ _=>rfl) hn (eZ _ (zbI hm)) (λ_ _=>rfl)
 ·intro m1 m2 e e' b' he cS j7 cu;rcases pS m1 e he with⟨rfl,rfl⟩| ⟨Kb,FQ⟩<;>rcases pS m2 e' cS with⟨rfl,rfl⟩| ⟨D4,Ye⟩
  ·rfl
  ·rw[a7] at j7;rw[eZ _ (zbI D4)] at cu;rw[hb b' j7] at cu;exact absurd ⟨m2,e',Ye,cu⟩ hO
  ·rw[a7] at cu;rw[eZ _ (zbI Kb)] at j7;rw[hb b' cu] at j7;exact absurd ⟨m1,e,FQ,j7⟩ hO
  rw[eZ _ (zbI Kb)] at j7;rw[eZ _ (zbI D4)] at cu;exact h.own _ _ _ _ b' FQ Ye j7 cu
 ·intro m e b' he dm BB;rcases pS m e he with⟨rfl,rfl⟩| ⟨hm,he⟩
  ·rw[a7] at dm;rw[hb b' dm] at BB;exact hF BB
  rw[eZ _ (zbI hm)] at dm;exact h.nf m e b' he dm BB
 intro m e i he hi hl;rcases pS m e he with⟨rfl,rfl⟩| ⟨hm,he⟩
 ·cases hi
 rw[eZ _ (zbI hm)];exact h.tag m e i he hi hl
theorem aG.early(h:aG Q T F G w a s){cs:Array Value}{e:TypeId}{d:Nat}{v:Value}(hd:lk s.tm d=none):aG Q T F G (w.alloc (.cells cs e)) (a.put (some d) v) s/\Ext (Own G s.rg) (Own G s.rg) F F w (w.alloc (.cells cs e)):=by
 have hk: ∀b,b<w.heap.size->(w.alloc (.cells cs e)).heap[b]?=w.heap[b]?:=λb hb=>xl w _ b hb;have dN:(w.alloc (.cells cs e)).heap.size=w.heap.size+1:=by simp
 have hx:Ext (Own G s.rg) (Own G s.rg) F F w (w.alloc (.cells cs e)):=⟨λ_ h=>h,λ_ h=> .inl h,λ_=> .inl,λb hb _=>hk b hb,by omega,rfl,rfl,rfl⟩
 refine⟨⟨h.sg.go hx,by simpa [Act.put] using h.size,λt p hp=> ?_,λn e he=>(h.rg n e he).mono (λ_ h=>h) (λb hb=>hk b (h.jE b hb)) (Names.refl _ _) rfl (λb hb=>hk b ((h.rg n e he).lt hb)),h.own,h.nf,λb hb=>by have:=h.jE b hb;omega,h.tag,λb hb=>⟨(h.z b hb).1,(hk b (h.jE b (h.z b hb).1)).trans (h.z b hb).2⟩,h.dr,zaE h.sz hx.size⟩,hx⟩;have dQ:(some d:Option Nat)≠some t:=λe=>by grind
 rw[vC dQ];exact cA.mono (λ_ h=>h) (λb hb=>hk b (h.jE b hb)) (Names.refl _ _) (h.tm t p hp)
theorem O8(s:S)(n:Nat)(p:P):tC s n p none=some (s,p):=by
 cases p with
 |d x=>cases x<;>rfl
 |_=>rfl
theorem wI: ∀(ps:List P) (ts:List (Option TypeId)) (s:S) (n:Nat),ts.any Option.isSome=false->cq s n ps ts=some (s,ps)
 | [],_,_,_,_=>rfl
 |p::ps,ts,s,n,h=>by
  have h1:ts.headD none=none:=by
   cases ts with
   |nil=>rfl
   |cons t r=>simp_all
  have h2:ts.tail.any Option.isSome=false:=by
   cases ts with
   |nil=>rfl
   |cons t r=>grind
  simp only[cq,h1,O8,wI ps ts.tail s (n+1) h2]
end
theorem oN{o:Oper}{t:TypeId}{d:Nat}(h:kF o=some (t,d)):o.op= .alloc t/\o.guard=none/\o.dst=some d:=by grind [kF]
theorem zt{Q:Program}{cf:CF}{ops:List Oper}{s s':S}{o:Oper}{t:TypeId}{d:Nat}(ho:kF o=some (t,d))(Mz:rM Q t=false)(h:br Q cf ops s o=some s'):
  ∃i zv z s3 v,Q.info? t=some i/\i.zero=some zv/\D.vi zv=some z/\s.new (site (some d)) (.box t (P.d z).cells)=some (s3,v)/\s3.put (some d) (.ref (site (some d)) v 0)=some s':=by
 obtain⟨h1,h2,h3⟩:=oN ho;have hg:bj ops o=some none:=by unfold bj;rw[h2]
 unfold br at h;simp only[hg] at h;unfold gk at h;have hc:gC o=none:=by unfold gC;rw[h1]
 have hm:se o=none:=by unfold se;rw[h1]
 have hn:db Q o=none:=by unfold db;rw[h1]
 have hp:pv Q s o none=none:=by unfold pv;rw[h1]
 simp only[hc] at h;unfold exec at h;simp only[hm] at h;unfold jC at h;simp only[hn,hp] at h;unfold ef at h;grind [ez,ou,wI,rM]
theorem O9{Q:Program}{w:World}{a:Act}{o:Oper}{t:TypeId}{d:Nat}(ho:kF o=some (t,d)){i:TypeInfo}{zv:Value}(hi:Q.info? t=some i)(hz:i.zero=some zv):
  (execOp a.eval o).run Q w= .ok (.value (.pointer (some ⟨w.heap.size,0,none⟩))) (w.alloc (.cells zv.cells t)):=by
 obtain⟨h1,_,_⟩:=oN ho;have Cr:(zeroValue t).run Q w= .ok zv w:=by simp[zeroValue,typeInfo,hi,hz]
 simp[execOp,h1,Instr.alloc,Cr,newVar,newRow]
section
variable{Q:Program}{T:Tg}{cf:CF}{ops:List Oper}{M:List Nat}{St:Nat->S}{r:Option Nat}{m:Nat}
def Eff(ops:List Oper)(m:Nat)(L:Nat->Prop):Prop:= ∀x p,x<m->ops[x]?=some p->1<aF p->L x
def Pa(Q:Program)(F:Nat->Prop)(G:Nat->Value)(w0 w:World)(a:Act)(s:S)(t:TypeId)(d:Nat):Prop:=
 ∃b i zv,Q.info? t=some i/\i.zero=some zv/\w.heap[b]?=some (.cells zv.cells t)/\ ¬F b/\ ¬Own G s.rg b/\w0.heap.size<=b/\b<w.heap.size/\a.tmps.getD d undef= .pointer (some ⟨b,0,none⟩)
theorem Pa.go{F F1:Nat->Prop}{G G1:Nat->Value}{w0 w w1:World}{a a1:Act}{s s1:S}{t:TypeId}{d:Nat}(h:Pa Q F G w0 w a s t d)(hx:Ext (Own G s.rg) (Own G1 s1.rg) F F1 w w1)(ha:a1.tmps.getD d undef=a.tmps.getD d undef):Pa Q F1 G1 w0 w1 a1 s1 t d:=by
 obtain⟨b,i,zv,h1,h2,h3,h4,h5,h6,h7,h8⟩:=h;refine⟨b,i,zv,h1,h2,(hx.keep b h7 h5).trans h3,λhf=> ?_,λho=> ?_,h6,zbb h7 hx.size,ha.trans h8⟩
 ·rcases hx.nC b hf with h |h |h
  ·exact h4 h
  ·exact h5 h
  omega
 rcases hx.mc b ho with h |h
 ·exact h5 h
 omega
theorem qeA{F0 F:Nat->Prop}{G0 G:Nat->Value}{w0 w:World}{a:Act}{R0:List (Nat×En)}{s s2:S}{o:Oper}{t:TypeId}{d:Nat}(ho:kF o=some (t,d))(Mz:rM Q t=false)(hs:br Q cf ops s o=some s2)(h:aG Q T F G w a s)
  (hp:Pa Q F G w0 w a s t d) (hx:Ext (Own G0 R0) (Own G s.rg) F0 F w0 w): ∃G2,aG Q T F G2 w a s2/\Ext (Own G0 R0) (Own G2 s2.rg) F0 F w0 w:=by
 obtain⟨b,i,zv,h1,h2,h3,h4,h5,h6,h7,h8⟩:=hp;obtain⟨i',zv',z,s3,v,k1,k2,k3,k4,k5⟩:=zt ho Mz hs;rw[h1] at k1;cases k1;rw[h2] at k2;cases k2;have Jq:aS F w zv z:=aS.vi _ _ k3;obtain⟨c1,c2,c3⟩:=ec Jq;obtain⟨m1,m2,m3,m4⟩:=h.mat k4 (g1:= .pointer (some ⟨b,0,none⟩)) (b:=b) (λb' hb=>by grind [bF,aM]) h3 h4 h5
  ⟨b,zv.cells,a7 _ _ _,h3,by rw[ql,zaa,<-c1];simp,ly Jq,λj p hj=>by
   rw[ql,zaD,zax] at hj;obtain⟨x,hx',rfl⟩:=hj;have hj3:j<zv.cells.size:=by grind
   have hu:zv.cells.toList[j]?=some (zv.cells.getD j undef):=by simp_all
   exact .d (c3 j _ x hu hx')⟩
 obtain⟨p1,p2⟩:=cC m1 k5 (v:= .pointer (some ⟨b,0,none⟩)) (cA.of (.ref (site (some d)) v 0 _ ⟨_,m4,zak _,λ_ _=>⟨b,a7 _ _ _,rfl⟩⟩ rfl));rw[SQ h8] at p1;refine⟨_,p1,?_⟩;rw[p2];exact⟨hx.lx,hx.nC,λb' dm=>by
  rcases m2 b' dm with h |rfl
  ·exact hx.mc b' h
  grind,hx.keep,hx.size,hx.os,hx.tape,hx.output⟩
theorem CN(acc:List Nat): ∀(es:List Edge) (e:Edge),e∈es->Region.binds .any e=true->Nat.testBit (lq acc es) e.on=true
 | [],_,h,_=>by cases h
 |e'::r,e,h,hb=>by
  have lor: ∀a b:Nat,Nat.lor a b=a |||b:=λ_ _=>rfl
  unfold lq;rcases zav.1 h with rfl |h
  ·rw[zap hb];simp
  have ih:=CN acc r e h hb;grind
theorem qam(tx:Text Q cf ops M St m)(jH:dw Q T.w0 cf){om:Oper}{tt:TypeId}{td:Nat}(QP:ops[m]?=some om)(MG:kF om=some (tt,td))(Mz:rM Q tt=false)(h0:lk (St 0).tm td=none)
  (GQ: ∀i o,ops[i]?=some o->Nat.testBit (M.getD i 0) m=true->Eff ops m λx=>Nat.testBit (M.getD i 0) x=true)
  {F0:Nat->Prop} {G0:Nat->Value} {w0:World} {s0:S} {Q':Exit->Act->World->Prop} (hK: ∀a' w',ja Q T F0 G0 w0 s0 (St ops.length) a' w'->Q' .normal a' w'):
  ∀(fuel:Nat) (listed:Array Bool) (a:Act) (w:World) (s:S) (F:Nat->Prop) (G:Nat->Value),
  listed.size=ops.length->fuel+listed.toList.count true=ops.length->He ops (λj=>listed.getD j false=true)->aG Q T F G w a s->Ext (Own G0 s0.rg) (Own G s.rg) F0 F w0 w->
  ((Inv ops St (λj=>listed.getD j false=true) s/\(listed.getD m false=true->Eff ops m (λj=>listed.getD j false=true)))\/
   (listed.getD m false=true/\ ¬Eff ops m (λj=>listed.getD j false=true)/\Inv ops St (λj=>listed.getD j false=true/\j≠m) s/\Pa Q F G w0 w a s tt td))->
  wpAnyIn (wd r) 0 Q .any ops.toArray Q' fuel listed a w:=by
 obtain⟨ho1,ho2,ho3⟩:=oN MG;have Y6:m<ops.length:=(zaf.1 QP).1;have ko: ∀(i:Nat) (o:Oper),ops.toArray[i]?=some o-> ∀e∈o.after,Region.binds .any e=true->e.on<i:=λi o ho e he hb=>tx.back (by simpa using ho) he hb;have fin: ∀(listed:Array Bool) (a:Act) (w:World) (s:S) (F:Nat->Prop) (G:Nat->Value),(∀i,i<ops.length->listed.getD i false=true)->aG Q T F G w a s->Ext (Own G0 s0.rg) (Own G s.rg) F0 F w0 w->
    ((Inv ops St (λj=>listed.getD j false=true) s/\(listed.getD m false=true->Eff ops m (λj=>listed.getD j false=true)))\/(listed.getD m false=true/\ ¬Eff ops m (λj=>listed.getD j false=true)/\Inv ops St (λj=>listed.getD j false=true/\j≠m) s/\Pa Q F G w0 w a s tt td))->Q' .normal a w:=by
  intro listed a w s F G gU h hx hm;rcases hm with⟨hi,_⟩| ⟨_,dQ,_⟩
  · obtain⟨h1,h2,h3⟩:=tx.last hi (λi o ho=>gU i (zaf.1 ho).1);exact hK a w ⟨F,G,h.alike h1 h2 h3,by rw[<-h2];exact hx⟩
  exact absurd (λx p _ hp _=>gU x (zaf.1 hp).1) dQ
 intro fuel
 induction fuel with
 |zero=>
  intro listed a w s F G dN hc hL h hx hm;have gU: ∀i,i<ops.length->listed.getD i false=true:=λi bJ=>by
    have rU:listed.toList.count true=listed.toList.length:=by rw[zcr,dN];omega
    have:=List.count_eq_length.1 rU listed[i] (by simp);simp[dN,bJ,<-this]
  refine⟨?_,fin listed a w s F G gU h hx hm⟩;cases hr:Region.ready .any ops.toArray listed with
  |nil=>rfl
  |cons i r=>
    have hmm:i∈Region.ready .any ops.toArray listed:=by rw[hr];simp
    obtain⟨h0,o,ho,_⟩:=mem_ready.1 hmm;have bJ:i<ops.length:=by have:=(zaz.1 ho).1;simpa using this
    have h1:=gU i bJ;have hl:i<listed.size:=by omega
    simp[hl] at h0 h1;rw[h0] at h1;cases h1
 |succ fuel ih=>
  intro listed a w s F G dN hc hL h hx hm;refine⟨λhr=>fin listed a w s F G (λi bJ=>CH (by simp[dN]) ko hr i (by simpa using bJ)) h hx hm,λi bZ=> ?_⟩;obtain⟨RY,o,ho,Eo⟩:=mem_ready.1 bZ;have ff:ops[i]?=some o:=by simpa using ho
  have bJ:i<ops.length:=(zaf.1 ff).1;have hl:i<listed.size:=by omega
  have bS: ¬listed.getD i false=true:=by simp[hl] at RY⊢;exact RY
  have nG: ∀j,((listed.setIfInBounds i true).getD j false=true)↔(listed.getD j false=true\/j=i):=λj=>by
    by_cases hj:j=i
    ·subst hj;simp[hl]
    rw[getD_set_ne false (λe=>hj e.symm)];simp[hj]
  have Ep:fuel+(listed.setIfInBounds i true).toList.count true=ops.length:=by
    have e:(listed.setIfInBounds i true).toList=listed.toList.set i true:=by simp
    rw[e,List.count_set (by simpa using hl)];have:(listed.toList[i]'(by simpa using hl)==true)=false:=by simp[hl] at bS⊢;exact bS
    simp only[this];simp only[zaK,zbt,zbE,zbr];omega
  have BM:(λj=>(listed.setIfInBounds i true).getD j false=true)=(λj=>listed.getD j false=true\/j=i):=funext λj=>propext (nG j);have MH:He ops (λj=>listed.getD j false=true\/j=i):=by
    intro j x hj pI e he hb;rcases pI with pI |rfl
    ·exact .inl (hL j x hj pI e he hb)
    rw[ff] at hj;cases hj;exact .inl (Eo e he hb)
  have next: ∀(s1:S),br Q cf ops s o=some s1->(∀a1 w1 F1 G1,aG Q T F1 G1 w1 a1 s1->Ext (Own G0 s0.rg) (Own G1 s1.rg) F0 F1 w0 w1->Ext (Own G s.rg) (Own G1 s1.rg) F F1 w w1->(o.dst≠some td->a1.tmps.getD td undef=a.tmps.getD td undef)->wpAnyIn (wd r) 0 Q .any ops.toArray Q' fuel (listed.setIfInBounds i true) a1 w1)->
     wpOpIn (wd r) 0 Q ops.toArray Q' i (wpAnyIn (wd r) 0 Q .any ops.toArray Q' fuel (listed.setIfInBounds i true)) a w:=by
    intro s1 rV nk;unfold wpOpIn;rw[ho];simp only[];by_cases hd:o.dst=some td
    ·have jv:=kZ jH h rV (r:=r) (K:=wpAnyIn (wd r) 0 Q .any ops.toArray Q' fuel (listed.setIfInBounds i true)) (Q':=Q') (λa' w' ⟨F',G',g1,g2⟩=>nk a' w' F' G' g1 (hx.trans g2) g2 λdQ=>absurd hd dQ);split
     next hw=>rw[zap hw] at jv;exact jv
     rename_i hw;rw[zan hw] at jv;exact⟨λ_ _=>trivial,jv⟩
    have jv:=kZ jH h rV (r:=r) (K:=λa' w'=>a'.tmps.getD td undef=a.tmps.getD td undef->wpAnyIn (wd r) 0 Q .any ops.toArray Q' fuel (listed.setIfInBounds i true) a' w') (Q':=Q') (λa' w' ⟨F',G',g1,g2⟩ hk=>nk a' w' F' G' g1 (hx.trans g2) g2 λ_=>hk);split
    next hw=>rw[zap hw] at jv;exact qal hd jv
    rename_i hw;rw[zan hw] at jv;exact⟨λ_ _=>trivial,jv (vC hd)⟩
  rcases hm with⟨hi,Yg⟩| ⟨hLm,dQ,hi,hpe⟩
  · by_cases SR:i=m/\ ¬Eff ops m (λj=>listed.getD j false=true)
    ·
     obtain⟨rfl,dQ⟩:=SR;rw[QP] at ff;cases ff;obtain⟨ii,zv,z,s3,v,k1,k2,_⟩:=zt MG Mz (tx.run i om QP);have hs0:lk s.tm td=none:=by rw[hi.tm2 td (λj y hj pI hd=>tx.inj hj QP (λe=>bS (e▸pI)) hd ho3)];exact h0
     have cb:=O9 (a:=a) (w:=w) MG k1 k2;obtain⟨e1,e2⟩:=h.early (cs:=zv.cells) (e:=tt) (v:= .pointer (some ⟨w.heap.size,0,none⟩)) hs0;unfold wpOpIn;rw[ho];simp only[];rw[zap (by simp[Region.wanted,ho2])];refine tO (λc hc=>by rw[ho1] at hc;cases hc) ?_;rw[cb,Oper.uponIn_value,ho3];refine ih _ _ _ s F G (by simp[dN]) Ep (by rw[BM];exact MH) e1 (hx.trans e2) (.inr ⟨(nG i).2 (.inr rfl),λhE=>dQ λx p hxm hp hk=>((nG x).1 (hE x p hxm hp hk)).resolve_right (by omega),?_,?_⟩)
     ·have e:(λj=>(listed.setIfInBounds i true).getD j false=true/\j≠i)=λj=>listed.getD j false=true:=funext λj=>propext ⟨λhh=>((nG j).1 hh.1).resolve_right hh.2,λhh=>⟨(nG j).2 (.inl hh),λe=>bS (e▸hh)⟩⟩;rw[e];exact hi
     have htd:td<a.tmps.size:=by
      obtain⟨R',q',qan⟩:=tx.step QP;rw[ho3] at qan;have hn1:td<(St i).n:=by
       simp only[S.put] at qan;split at qan
       next hb=>simp[Nat.blt] at hb;omega
       cases qan
      have X8:=(tx.inv i (by omega)).1;have hn3:=hi.n;have:=h.size;omega
     exact⟨w.heap.size,ii,zv,k1,k2,heap_alloc_new w _,λhf=>by have:=h.jE _ hf;omega,λhO=>by obtain⟨n,e,he,hb⟩:=hO;have:=(h.rg n e he).lt hb;omega,hx.size,by simp,qez htd⟩
    have D4:i=m-> ∀x p,x<m->ops[x]?=some p->1<aF p->listed.getD x false=true:=λe x p h1 h2 h3=>zaN λhc=>SR ⟨e,λhE=>hc (hE x p h1 h2 h3)⟩;obtain⟨s1,rV,QN⟩:=tx.go hL hi ff bS Eo Yg D4;refine next s1 rV λa1 w1 F1 G1 g1 g2 _ _=>ih _ _ _ s1 F1 G1 (by simp[dN]) Ep (by rw[BM];exact MH) g1 g2 (.inl ⟨by rw[BM];exact QN,λhmm x p h1 h2 h3=>(nG x).2 ?_⟩);rcases(nG m).1 hmm with hmm |e
    ·exact .inl (Yg hmm x p h1 h2 h3)
    exact .inl (D4 e.symm x p h1 h2 h3)
  have dt:i≠m:=λe=>bS (e▸hLm);have Hm: ∀(j:Nat) (x:Oper),ops[j]?=some x->(∀e∈x.after,Region.binds .any e=true->listed.getD e.on false=true)-> ∀e∈x.after,Region.binds .any e=true->e.on≠m:=by
   intro j x hj Hf e he hb hem;have qeu:Nat.testBit (M.getD j 0) m=true:=by rw[tx.mask hj];have:=CN M x.after.toList e (by simpa using he) hb;rwa [hem] at this
   exact dQ λy p h1 h2 h3=>tx.sub hL j x hj Hf y (GQ j x hj qeu y p h1 h2 h3)
  have hL2:He ops (λj=>listed.getD j false=true/\j≠m):=λj x hj pI e he hb=>⟨hL j x hj pI.1 e he hb,Hm j x hj (hL j x hj pI.1) e he hb⟩
  obtain⟨s1,rV,QN⟩:=tx.go hL2 hi ff (λhh=>bS hh.1) (λe he hb=>⟨Eo e he hb,Hm i o ff Eo e he hb⟩) (λhh=>absurd rfl hh.2) (λe=>absurd e dt);have qkY:o.dst≠some td:=λhd=>tx.inj ff QP dt hd ho3;have qih:(λj=>(listed.getD j false=true/\j≠m)\/j=i)=λj=>(listed.setIfInBounds i true).getD j false=true/\j≠m:=funext λj=>propext ⟨λhh=>hh.elim (λhh=>⟨(nG j).2 (.inl hh.1),hh.2⟩) (λe=>⟨(nG j).2 (.inr e),by rw[e];exact dt⟩),λhh=>((nG j).1 hh.1).elim (λh1=> .inl ⟨h1,hh.2⟩) .inr⟩;refine next s1 rV λa1 w1 F1 G1 g1 g2 g3 g4=> ?_;have xU:=hpe.go g3 (g4 qkY);rw[qih] at QN;have qeB:(listed.setIfInBounds i true).getD m false=true:=(nG m).2 (.inl hLm);by_cases hE:Eff ops m (λj=>(listed.setIfInBounds i true).getD j false=true)
  ·have qii:He ops (λj=>(listed.setIfInBounds i true).getD j false=true):=by rw[BM];exact MH
   have qkZ:He ops (λj=>(listed.setIfInBounds i true).getD j false=true/\j≠m):=by
    rw[<-qih];intro j x hj pI e he hb;rcases pI with pI |rfl
    ·exact .inl (hL2 j x hj pI e he hb)
    rw[ff] at hj;cases hj;exact .inl ⟨Eo e he hb,Hm _ _ ff Eo e he hb⟩
   obtain⟨s2,hs2,Yh⟩:=tx.go qkZ QN QP (λhh=>hh.2 rfl) (λe he hb=>⟨qii m om QP qeB e he hb,λe'=>by have:=tx.back QP he hb;omega⟩) (λhh=>absurd rfl hh.2) (λ_ x p h1 h2 h3=>⟨hE x p h1 h2 h3,by omega⟩);obtain⟨G2,q1,q2⟩:=qeA MG Mz hs2 g1 xU g2;refine ih _ _ _ s2 F1 G2 (by simp[dN]) Ep qii q1 q2 (.inl ⟨?_,λ_=>hE⟩);have e:(λj=>((listed.setIfInBounds i true).getD j false=true/\j≠m)\/j=m)=λj=>(listed.setIfInBounds i true).getD j false=true:=funext λj=>propext ⟨λhh=>hh.elim (·.1) (λe=>e▸qeB),λhh=>(Classical.em (j=m)).elim .inr λhn=> .inl ⟨hh,hn⟩⟩;rw[<-e];exact Yh
  exact ih _ _ _ s1 F1 G1 (by simp[dN]) Ep (by rw[BM];exact MH) g1 g2 (.inr ⟨qeB,hE,QN,xU⟩)
end
theorem wJ{ops:List Oper}{M:List Nat}: ∀(l:List Oper) (j m:Nat) (t:TypeId) (d:Nat),vo ops M j l=some (m,t,d)->j<=m/\ ∃o,l[m-j]?=some o/\kF o=some (t,d)
 | [],_,_,_,_,h=>by cases h
 |o::r,j,m,t,d,h=>by
  unfold vo at h;have more:vo ops M (j+1) r=some (m,t,d)->j<=m/\ ∃p,(o::r)[m-j]?=some p/\kF p=some (t,d):=λh=>by obtain⟨h1,p,h2,h3⟩:=wJ r (j+1) m t d h;exact⟨by omega,p,by rw[show m-j=(m-(j+1))+1 by omega,zcf];exact h2,h3⟩
  split at h
  next t' d' ha=>
   split at h
   ·exact more h
   cases h;exact⟨zak _,o,by simp,ha⟩
  exact more h
theorem Hn{Q:Program}{T:Tg}{cf:CF}(jH:dw Q T.w0 cf){ops:List Oper}{F:Nat->Prop}{G:Nat->Value}{w:World}{a:Act}{s s':S}{r:Option Nat}{Q':Exit->Act->World->Prop}
  (h:aG Q T F G w a s) (hs:tG Q cf ops s=some s') (hK: ∀a' w',ja Q T F G w s s' a' w'->Q' .normal a' w'):wpAnyIn (wd r) 0 Q .any ops.toArray Q' ops.toArray.size (Array.replicate ops.toArray.size false) a {w with drawn:=w.drawn+1}:=by
 unfold tG at hs;split at hs
 next m t d hl=>
  split at hs
  next hc=>
   obtain⟨my,Mz,htd⟩:=hc;split at hs
   ·rename_i s1 l hd;split at hs
    ·rename_i qey;simp at hs;subst hs;obtain⟨_,om,QP,MG⟩:=wJ ops 0 m t d hl;rw[Nat.sub_zero] at QP;simp only[DK,zab] at my;obtain⟨⟨c1,c2⟩,c3⟩:=my;have zero: ∀i:Nat,0+i=i:=zaF;obtain⟨St,g1,g2,g3,g4⟩:=mX ops _ _ _ hd;have tx:Text Q cf ops (masks ops []) St m:=⟨λi o ho=>by have:=fB ops 0 c1 i o ho;rwa [zero] at this,λi j x y pH hx hy=>by have:=gn ops 0 c2 i j x y pH hx hy;rwa [zero,zero] at this,g3,λi j x y pH hx hy ju hb=> .inr (by obtain⟨q,hq⟩:=sx l 0 True qey i j _ _ pH (g4 i x hx) (g4 j y hy);rw[zero,zero] at hq;exact zm (g3 i x hx) (g3 j y hy) ju hb hq)⟩
     have GQ: ∀i o,ops[i]?=some o->Nat.testBit ((masks ops []).getD i 0) m=true->Eff ops m λx=>Nat.testBit ((masks ops []).getD i 0) x=true:=by
      intro i o ho hb x p hx hp hk;have h1:=fB ops 0 c3 i o ho;rw[zero] at h1;simp only[Rw,hb,zdr,zbu] at h1;have h2:=fB ops 0 h1 x p hp;rw[zero] at h2;simp only[zbh,zcc] at h2;rcases h2 with(h2 |h2)|h2
      ·omega
      ·omega
      exact h2
     have gg:(λj=>(Array.replicate ops.length false).getD j false=true)=λ_=>False:=by funext j;simp only[zaI,zdp];split<;>simp
     have qk0: ∀j,(Array.replicate ops.length false).getD j false=true->False:=λj hj=>by have:=congrFun gg j;simp only[eq_iff_iff,iff_false] at this;exact this hj
     have hsr:aG Q T F G {w with drawn:=w.drawn+1} a s:=h.drawn _ (zdm _);have:=qam (T:=T) (r:=r) tx jH QP MG Mz (by rw[g1];exact htd) GQ (F0:=F) (G0:=G) (w0:={w with drawn:=w.drawn+1}) (s0:=s) (Q':=Q')
      (λa' w' hp=>hK a' w' (by obtain⟨F',G',k1,k2⟩:=hp;rw[g2] at k1 k2;exact⟨F',G',k1,⟨k2.lx,k2.nC,k2.mc,k2.keep,k2.size,k2.os,k2.tape,k2.output⟩⟩))
      ops.length (Array.replicate ops.length false) a {w with drawn:=w.drawn+1} s F G (by simp) (by
       rw[Array.toList_replicate,List.count_replicate];simp) (by
       rw[gg];intro i o _ hf;exact hf.elim) hsr (Ext.refl _ _ _)
      (.inl ⟨by rw[gg];exact⟨by rw[g1],λi o t _ hf=>hf.elim,λt _=>by rw[g1],⟨0,by omega,by rw[g1],λi o _ _=>by simp⟩⟩,λhm=>(qk0 _ hm).elim⟩)
     simpa using this
    cases hs
   cases hs
  cases hs
 cases hs
theorem Kz{Q:Program}{T:Tg}{cf:CF}(jH:dw Q T.w0 cf)(hm:Q.follows .mixedOrders=true){ops:List Oper}{F:Nat->Prop}{G:Nat->Value}{w:World}{a:Act}{s s':S}{r:Option Nat}{id:Nat}{Q':Exit->Act->World->Prop}
  (h:aG Q T F G w a s) (hs:js Q cf ops s=some s') (hK: ∀a' w',ja Q T F G w s s' a' w'->Q' .normal a' w'):(Code.region id ops.toArray true).wpIn (wd r) 0 Q Q' a w:=by
 refine wpIn_region_any hm ?_;unfold js at hs;split at hs
 ·split at hs
  ·exact Hn jH h hs hK
  have:=wH (r:=r) (Q':=Q') jH h hs hK;have e:(cX ops).toArray.size=ops.toArray.size:=by simp[cX]
  rw[e] at this;exact Hk _ _ _ _ this
 exact wH jH h hs hK
end Pi
