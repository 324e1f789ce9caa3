/- The text PiRen. -/
import Derived.Test.YtfelfooeclnbiaaPiExec
namespace Pi
open Go
theorem fG(ρ:Nat->Nat->Option (Nat×Nat)): ∀(ps:List P) (i:Nat),(iL ρ ps)[i]?=(ps[i]?).map (n6 ρ)
 | [],i=>by simp[iL]
 |p::ps,i=>by cases i with |zero=>simp[iL]|succ i=>simp[iL,fG ρ ps i]
theorem fH(ρ:Nat->Nat->Option (Nat×Nat)): ∀(ps:List P),(iL ρ ps).length=ps.length
 | []=>rfl
 |p::ps=>by simp[iL,fH ρ ps]
def qG(G G':Nat->Value)(R R':List (Nat×En))(ρ:Nat->Nat->Option (Nat×Nat)):Prop:=
 ∀n v n' v',ρ n v=some (n',v')-> ∃e',lk R' n'=some e'/\v'<=e'.ay/\(v'=e'.ay->e'.obj.live=true->(∃e,lk R n=some e/\e.ay=v/\e.obj.live=true)/\G' n'=G n)
theorem bW.link{G G':Nat->Value}{R R':List (Nat×En)}{ρ:Nat->Nat->Option (Nat×Nat)}(hl:qG G G' R R' ρ){n v n' v':Nat}(hρ:ρ n v=some (n',v')){C:Value->Prop}(h:bW R n v (C (G n))):bW R' n' v' (C (G' n')):=by obtain⟨e',bb,hv,hc⟩:=hl n v n' v' hρ;refine⟨e',bb,hv,λh1 h2=> ?_⟩;obtain⟨⟨e,he,bP,wC⟩,hG⟩:=hc h1 h2;rw[hG];exact h.at he bP wC
theorem ju{F:Nat->Prop}{w:World}{G G':Nat->Value}{R R':List (Nat×En)}{ρ:Nat->Nat->Option (Nat×Nat)}(hl:qG G G' R R' ρ){v:Value}{p:P}(h:ao F w G R v p):ao F w G' R' v (n6 ρ p):=by
 induction h with
 |d h=>exact .d h
 |agg vs ps hlen cW _ ih=>refine .agg vs (iL ρ ps) (by rw[fH];exact hlen) cW (λi v c hv hc=> ?_);rw[fG] at hc;simp only[zak] at hc;obtain⟨q,hq,rfl⟩:=hc;exact ih i v q hv hq
 |dW vs ps hlen _ ih=>refine .dW vs (iL ρ ps) (by rw[fH];exact hlen) (λi v c hv hc=> ?_);rw[fG] at hc;simp only[zak] at hc;obtain⟨q,hq,rfl⟩:=hc;exact ih i v q hv hq
 |fn f vs ps hlen _ ih=>refine .fn f vs (iL ρ ps) (by rw[fH];exact hlen) (λi v c hv hc=> ?_);rw[fG] at hc;simp only[zak] at hc;obtain⟨q,hq,rfl⟩:=hc;exact ih i v q hv hq
 |ref n ay off v h h1=>
  simp only[n6];split
  next n' v' hρ=>exact .ref n' v' off v (bW.link (C:=λg=> ∃b,g= .pointer (some ⟨b,0,none⟩)/\v= .pointer (some ⟨b,off,none⟩)) hl hρ h) h1
  exact .bad _
 |bG n ay i k off v h1 h=>
  simp only[n6];split
  next n' v' hρ=>exact .bG n' v' i k off v h1 (bW.link (C:=λg=> ∃b N cap,g= .slice (some ⟨b,0,none⟩) N cap/\v= .pointer (some ⟨b,i*k+off,none⟩)) hl hρ h)
  exact .bad _
 |cl x off b o hb aP f hw hr=>exact .cl x off b o hb aP f hw hr
 |sl n ay len v h1 h=>
  simp only[n6];split
  next n' v' hρ=>exact .sl n' v' len v h1 (bW.link (C:=λg=> ∃a N cap,g= .slice a N cap/\v= .slice a len cap/\len<=N) hl hρ h)
  exact .bad _
 |eZ n ay k off len v h1 h=>
  simp only[n6];split
  next n' v' hρ=>exact .eZ n' v' k off len v h1 (bW.link (C:=λg=> ∃a N cap,g= .slice a N cap/\off+len<=N/\ ∃a' dS,v= .slice a' len dS/\len<=dS/\(len=0\/ ∃b,a=some ⟨b,0,none⟩/\a'=some ⟨b,off*k,none⟩)) hl hρ h)
  exact .bad _
 |mp n ay v h1 h=>
  simp only[n6];split
  next n' v' hρ=>exact .mp n' v' v h1 (bW.link (C:=λg=>v=g) hl hρ h)
  exact .bad _
 |bad v=>exact .bad v
theorem qH(ρ:Nat->Nat->Option (Nat×Nat)): ∀(es:List (D×P)) (i:Nat),(nF ρ es)[i]?=(es[i]?).map λx=>(x.1,n6 ρ x.2)
 | [],i=>by simp[nF]
 | (k,p)::es,i=>by cases i with |zero=>simp[nF]|succ i=>simp[nF,qH ρ es i]
theorem qI(ρ:Nat->Nat->Option (Nat×Nat)): ∀(es:List (D×P)),(nF ρ es).length=es.length
 | []=>rfl
 | (k,p)::es=>by simp[nF,qI ρ es]
theorem oB(ρ:Nat->Nat->Option (Nat×Nat)): ∀(es:List (D×P)),(nF ρ es).map (·.1)=es.map (·.1)
 | []=>rfl
 | (k,p)::es=>by simp[nF,oB ρ es]
theorem fb(ρ:Nat->Nat->Option (Nat×Nat))(o:Obj):(cF ρ o).live=o.live:=by cases o<;>rfl
theorem hY(ρ:Nat->Nat->Option (Nat×Nat))(g:Value)(o:Obj):aH g (cF ρ o)=aH g o:=by cases o<;>rfl
theorem mD{Q:Program}{F:Nat->Prop}{w:World}{G G':Nat->Value}{R R':List (Nat×En)}{ρ:Nat->Nat->Option (Nat×Nat)}(hl:qG G G' R R' ρ){n n':Nat}(hG:G' n'=G n){o:Obj}(h:gY Q F w G R n o):gY Q F w G' R' n' (cF ρ o):=by
 cases o with
 |gone=>trivial
 |box T ps=>obtain⟨b,cs,hg,hh,h1,h2,h3⟩:=h;refine⟨b,cs,hG.trans hg,hh,by rw[fH];exact h1,h2,λi p hp=> ?_⟩;rw[fG] at hp;simp only[zak] at hp;obtain⟨q,hq,rfl⟩:=hp;exact ju hl (h3 i q hq)
 |arr ty fz es=>
  rcases h with⟨hg,he⟩| ⟨b,cap,cs,k,hg,hh,h1,h2,h3,h4,h5,h6,h7⟩
  ·exact .inl ⟨hG.trans hg,he⟩
  exact .inr ⟨b,cap,cs,k,hG.trans hg,hh,h1,h2,h3,h4,h5,h6,h7⟩
 |map kt get c fz=>obtain⟨b,es,clock,hg,hh,h1,h2⟩:=h;exact⟨b,es,clock,hG.trans hg,hh,h1,h2⟩
 |iX=>trivial
 |eb kt get c p kd=>obtain⟨b,es,clock,hg,hh,h1,i,e,h2,h3,h4⟩:=h;exact⟨b,es,clock,hG.trans hg,hh,h1,i,e,h2,ju hl h3,h4⟩
 |a7 kt ks=>obtain⟨b,es,clock,hg,hh,h1,h2,h3,h4⟩:=h;refine⟨b,es,clock,hG.trans hg,hh,by rw[qI];exact h1,λi p e hp he=> ?_,by rw[oB];exact h3,h4⟩;rw[qH] at hp;simp only[zak] at hp;obtain⟨q,hq,rfl⟩:=hp;obtain⟨a,b,c⟩:=h2 i q e hq he;exact⟨a,b,ju hl c⟩
 |iter kt vt left cur=>obtain⟨b,mo,since,seen,last,hg,hh,h1⟩:=h;exact⟨b,mo,since,seen,last,hG.trans hg,hh,h1⟩
theorem ey: ∀(l:List Nat) (n:Nat),dR n l=true↔n∈l
 | [],n=>by simp[dR]
 |m::r,n=>by simp[dR,ey r n]
theorem cU: ∀(l:List Nat),du l=true->l.Nodup
 | [],_=>List.nodup_nil
 |n::r,h=>by simp only[du,zac,zaV] at h;refine zbn.2 ⟨λhm=> ?_,cU r h.2⟩;rw[(ey r n).2 hm] at h;cases h.1
theorem cQ: ∀(l:List Nat) (n i0 i:Nat),posOf l n i0=some i->i0<=i/\l[i-i0]?=some n
 | [],n,i0,i,h=>by simp[posOf] at h
 |m::r,n,i0,i,h=>by
  simp only[posOf] at h;split at h
  next hm=>
   have hm:m=n:=by simpa using hm
   simp at h;subst h;subst hm;simp
  obtain⟨h1,h2⟩:=cQ r n (i0+1) i h;refine⟨by omega,?_⟩;have e:i-i0=(i-(i0+1))+1:=by omega
  rw[e];simpa using h2
theorem jv: ∀(l:List Nat) (n i0:Nat),posOf l n i0=none->n∉l
 | [],n,i0,_=>by simp
 |m::r,n,i0,h=>by
  simp only[posOf] at h;split at h
  ·cases h
  rename_i hm;have hm: ¬m=n:=by simpa using hm
  have:=jv r n (i0+1) h;simp only[zav,zbP];exact⟨λe=>hm e.symm,this⟩
theorem cu{l:List Nat}(rH:l.Nodup){i n:Nat}(h:l[i]?=some n):posOf l n 0=some i:=by
 cases hp:posOf l n 0 with
 |none=>exact absurd (zaq h) (jv l n 0 hp)
 |some j=>
  obtain⟨_,hj⟩:=cQ l n 0 j hp;simp at hj;have h1:=(zaa.1 h).1;have h2:=(zaa.1 hj).1;have e1:=(zaa.1 h).2;have e2:=(zaa.1 hj).2;have Gh:=zbg.1 rH;rcases Nat.lt_trichotomy i j with bA |heq |Ga
  ·exact absurd (e1.trans e2.symm) (Gh i j h1 h2 bA)
  ·rw[heq]
  exact absurd (e2.trans e1.symm) (Gh j i h2 h1 Ga)
theorem xa(R:List (Nat×En))(ρ:Nat->Nat->Option (Nat×Nat))(tagged:Bool): ∀(ns:List Nat) (i0:Nat) (R':List (Nat×En)),sub R ρ tagged i0 ns=some R'->
  ∀j e',lk R' j=some e'-> ∃n e,i0<=j/\ns[j-i0]?=some n/\lk R n=some e/\e.obj.live=true/\e'=⟨0,if tagged then some j else e.tag,cF ρ e.obj⟩
 | [],i0,R',h,j,e',hj=>by simp[sub] at h;subst h;simp[lk] at hj
 |n::ns,i0,R',h,j,e',hj=>by
  simp only[sub] at h;split at h
  next e he=>
   split at h
   ·cases h
   ·rename_i r hr EO;simp at h;subst h;simp only[lk] at hj;split at hj
    ·rename_i je;have je:i0=j:=by simpa using je
     subst je;simp at hj;subst hj;refine⟨n,e,zaf _,by simp,he,?_,rfl⟩;cases ho:e.obj<;>simp[Obj.live];exact EO ho
    obtain⟨n',e1,h1,h2,h3,h4,h5⟩:=xa R ρ tagged ns (i0+1) r hr j e' hj;refine⟨n',e1,by omega,?_,h3,h4,h5⟩;have e2:j-i0=(j-(i0+1))+1:=by omega
    rw[e2];simpa using h2
   cases h
  cases h
theorem l0(R:List (Nat×En))(ρ:Nat->Nat->Option (Nat×Nat))(tagged:Bool): ∀(ns:List Nat) (i0:Nat) (R':List (Nat×En)),sub R ρ tagged i0 ns=some R'->
  ∀i n,ns[i]?=some n-> ∃e,lk R n=some e/\e.obj.live=true/\lk R' (i0+i)=some ⟨0,if tagged then some (i0+i) else e.tag,cF ρ e.obj⟩
 | [],i0,R',h,i,n,hi=>by simp at hi
 |m::ns,i0,R',h,i,n,hi=>by
  simp only[sub] at h;split at h
  next e he=>
   split at h
   ·cases h
   ·rename_i r hr EO;simp at h;subst h;cases i with
    |zero=>simp at hi;subst hi;refine⟨e,he,?_,by simp[lk]⟩;cases ho:e.obj<;>simp[Obj.live];exact EO ho
    |succ i=>
     obtain⟨e1,h1,h2,h3⟩:=l0 R ρ tagged ns (i0+1) r hr i n (by simpa using hi);refine⟨e1,h1,h2,?_⟩;have e2:i0+1+i=i0+(i+1):=by omega
     rw[e2] at h3;have cc:Nat.beq i0 (i0+(i+1))=false:=by
      cases hb:Nat.beq i0 (i0+(i+1)) with
      |false=>rfl
      |true=>have:=zab hb;omega
     simp only[lk,cc];exact h3
   cases h
  cases h
def dO(Q:Program)(T:Tg)(F:Nat->Prop)(G:Nat->Value)(w:World)(R:List (Nat×En)):Prop:=ar Q T F G w ⟨#[],[]⟩ ⟨0,[],R⟩
section
variable{Q:Program}{T:Tg}{F:Nat->Prop}{G:Nat->Value}{w:World}{a:Act}{s:S}
theorem ar.heap(h:ar Q T F G w a s):dO Q T F G w s.rg:=
 ⟨.nil,za0 _,λt p hp=>by simp[lk] at hp,h.rg,h.own,h.iO,h.gK,h.tag,h.z,h.dr,h.sz⟩
theorem dO.state{R:List (Nat×En)}(h:dO Q T F G w R){a:Act}{s:S}(hR:s.rg=R)(hn:dI T F G R w a.defers)(hs:s.n<=a.tmps.size)(ht: ∀t p,lk s.tm t=some p->bx F w G s.rg a.tmps (a.tmps.getD t undef) p):ar Q T F G w a s:=by subst hR;exact⟨hn,hs,ht,h.rg,h.own,h.iO,h.gK,h.tag,h.z,h.dr,h.sz⟩
theorem dO.sub{R R':List (Nat×En)}(h:dO Q T F G w R){ns:List Nat}{tagged:Bool}(hs:sub R (toPos R ns) tagged 0 ns=some R')(rH:du ns=true):
  dO Q (if tagged then⟨λi=>G (ns.getD i 0),T.w0,0,false⟩ else T) F (λi=>G (ns.getD i 0)) w R'/\qG G (λi=>G (ns.getD i 0)) R R' (toPos R ns)/\
  (∀b,Own (λi=>G (ns.getD i 0)) R' b-> ∃n e,n∈ns/\lk R n=some e/\aH (G n) e.obj=some b):=by
 have za:=cU ns rH;have oC:qG G (λi=>G (ns.getD i 0)) R R' (toPos R ns):=by
  intro n v n' v' hρ;unfold toPos at hρ;split at hρ
  next i e hp he=>
   split at hρ
   ·rename_i hv;simp at hρ;obtain⟨rfl,rfl⟩:=hρ;obtain⟨_,hi⟩:=cQ ns n 0 i hp;simp at hi;obtain⟨e1,h1,h2,h3⟩:=l0 R _ tagged ns 0 R' hs i n hi;rw[zbk] at h3;refine⟨_,h3,zaf _,λ_ _=>⟨⟨e1,h1,?_,h2⟩,?_⟩⟩
    ·rw[he] at h1;cases h1;simpa using hv
    simp[zah,hi]
   cases hρ
  cases hρ
 have vM: ∀j e',lk R' j=some e'-> ∃n e,ns[j]?=some n/\lk R n=some e/\e.obj.live=true/\e'=⟨0,if tagged then some j else e.tag,cF (toPos R ns) e.obj⟩/\G (ns.getD j 0)=G n:=λj e' hj=>by obtain⟨n,e,_,h2,h3,h4,h5⟩:=xa R _ tagged ns 0 R' hs j e' hj;simp at h2;exact⟨n,e,h2,h3,h4,h5,by simp[zah,h2]⟩
 refine⟨⟨.nil,za0 _,λt p hp=>by simp[lk] at hp,?_,?_,?_,h.gK,?_,?_,?_,?_⟩,oC,?_⟩
 ·intro j e' hj;obtain⟨n,e,_,h3,_,rfl,hG⟩:=vM j e' hj;exact mD oC hG (h.rg n e h3)
 ·intro j1 j2 e1 e2 b h1 h2 k7 js;obtain⟨n1,f1,g1,g2,_,rfl,DH⟩:=vM j1 e1 h1;obtain⟨n2,f2,k1,k2,_,rfl,CA⟩:=vM j2 e2 h2;simp only[hY] at k7 js;rw[DH] at k7;rw[CA] at js;have:=h.own n1 n2 f1 f2 b g2 k2 k7 js;subst this;have p1:=cu za g1;have p2:=cu za k1;rw[p1] at p2;exact zbb p2
 ·intro j e' b hj hb nN;obtain⟨n,e,_,h3,_,rfl,hG⟩:=vM j e' hj;simp only[hY] at hb;rw[hG] at hb;exact h.iO n e b h3 hb nN
 ·intro j e' i hj hi hl;obtain⟨n,e,_,h3,h4,rfl,hG⟩:=vM j e' hj;cases tagged with
  |true=>simp at hi;subst hi;rfl
  |false=>simp only[zaz,zbe] at hi⊢;rw[hG];exact h.tag n e i h3 hi h4
 ·cases tagged<;>exact h.z
 ·cases tagged<;>exact h.dr
 ·cases tagged with
  |true=>exact za0 _
  |false=>exact h.sz
 rintro b ⟨j,e',hj,hb⟩;obtain⟨n,e,h2,h3,_,rfl,hG⟩:=vM j e' hj;simp only[hY] at hb;rw[hG] at hb;exact⟨n,e,zaq h2,h3,hb⟩
theorem mE(ρ:Nat->Nat->Option (Nat×Nat))(keep:List Nat): ∀(m:List (Nat×P)) (t:Nat) (p:P),lk (kU ρ keep m) t=some p-> ∃q,lk m t=some q/\p=n6 ρ q
 | [],t,p,h=>by simp[kU,lk] at h
 | (t',q)::r,t,p,h=>by
  simp only[kU] at h;split at h
  next hm=>
   simp only[lk] at h⊢;split at h
   next ht=>simp at h;exact⟨q,by simp[ht],h.symm⟩
   rename_i ht;obtain⟨q',h1,h2⟩:=mE ρ keep r t p h;exact⟨q',by simpa [ht] using h1,h2⟩
  rename_i hm;obtain⟨q',h1,h2⟩:=mE ρ keep r t p h;have jX:dR t keep=true:=by
   clear h1 h2
   induction r with
   |nil=>simp[kU,lk] at h
   |cons x r ih=>
    obtain⟨t2,q2⟩:=x;simp only[kU] at h;split at h
    ·rename_i uE;simp only[lk] at h;split at h
     ·rename_i ow;have:t2=t:=by simpa using ow
      rwa [<-this]
     exact ih h
    exact ih h
  have cc: ¬t'=t:=λe=>hm (by rw[e];exact jX);exact⟨q',by simp[lk,cc,h1],h2⟩
theorem bx.n6{F:Nat->Prop}{w:World}{G G':Nat->Value}{R R':List (Nat×En)}{ρ:Nat->Nat->Option (Nat×Nat)}(hl:qG G G' R R' ρ){tmps:Array Value}{v:Value}{p:P}(h:bx F w G R tmps v p):bx F w G' R' tmps v (n6 ρ p):=by
 cases p with
 |when t b q=>exact h
 |_=>exact bx.of (ju hl h)
theorem xb(h:ar Q T F G w a s){keep:List Nat}{s':S}(hs:canon keep s=some s'): ∃G',ar Q T F G' w a s'/\Ext (Own G s.rg) (Own G' s'.rg) F F w w:=by
 unfold canon at hs;simp only at hs;split at hs
 next rH=>
  split at hs
  next R hR=>
   simp at hs;subst hs;obtain⟨h1,h2,h3⟩:=h.heap.sub hR rH;have DI: ∀b,Own (λi=>G ((reach s.rg 1000 (yB keep s.tm) []).getD i 0)) R b->Own G s.rg b:=λb hb=>let ⟨n,e,_,he,hb⟩:=h3 b hb;⟨n,e,he,hb⟩;refine⟨_,h1.state rfl ⟨h.r4.1,λd hd=>let ⟨D,d1,d0,d2,d3,d4⟩:=h.r4.2 d hd;⟨D,d1,d0,d2,d3,λho=>d4 (DI D ho)⟩⟩ h.size (λt p hp=> ?_),⟨λ_ h=>h,λ_ h=> .inl h,λb hb=> ?_,λ_ _ _=>rfl,zaf _,rfl,rfl,rfl⟩⟩
   ·obtain⟨q,hq,rfl⟩:=mE _ keep s.tm t p hp;exact(h.tm t q hq).n6 h2
   obtain⟨n,e,_,he,hb⟩:=h3 b hb;exact .inl ⟨n,e,he,hb⟩
  cases hs
 cases hs
end
end Pi
