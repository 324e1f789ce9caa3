/- The text PiRen. -/
import Derived.Test.YtfelfooeclnbiaaPiExec
namespace Pi
open Go
theorem fp(ρ:Nat->Nat->Option (Nat×Nat)): ∀(ps:List P) (i:Nat),(ic ρ ps)[i]?=(ps[i]?).map (np ρ)
 | [],i=>by simp[ic]
 |p::ps,i=>by cases i with |zero=>simp[ic]|succ i=>simp[ic,fp ρ ps i]
theorem fq(ρ:Nat->Nat->Option (Nat×Nat)): ∀(ps:List P),(ic ρ ps).length=ps.length
 | []=>rfl
 |p::ps=>by simp[ic,fq ρ ps]
def pQ(G G':Nat->Value)(R R':List (Nat×En))(ρ:Nat->Nat->Option (Nat×Nat)):Prop:=
 ∀n v n' v',ρ n v=some (n',v')-> ∃e',lk R' n'=some e'/\v'<=e'.aw/\(v'=e'.aw->e'.obj.live=true->(∃e,lk R n=some e/\e.aw=v/\e.obj.live=true)/\G' n'=G n)
theorem bL.link{G G':Nat->Value}{R R':List (Nat×En)}{ρ:Nat->Nat->Option (Nat×Nat)}(hl:pQ G G' R R' ρ){n v n' v':Nat}(hρ:ρ n v=some (n',v')){C:Value->Prop}(h:bL R n v (C (G n))):bL R' n' v' (C (G' n')):=by obtain⟨e',aW,hv,hc⟩:=hl n v n' v' hρ;refine⟨e',aW,hv,λh1 h2=> ?_⟩;obtain⟨⟨e,he,bE,uW⟩,hG⟩:=hc h1 h2;rw[hG];exact h.at he bE uW
theorem iT{F:Nat->Prop}{w:World}{G G':Nat->Value}{R R':List (Nat×En)}{ρ:Nat->Nat->Option (Nat×Nat)}(hl:pQ G G' R R' ρ){v:Value}{p:P}(h:ao F w G R v p):ao F w G' R' v (np ρ p):=by
 induction h with
 |d h=>exact .d h
 |agg vs ps hlen cK _ ih=>refine .agg vs (ic ρ ps) (by rw[fq];exact hlen) cK (λi v c hv hc=> ?_);rw[fp] at hc;simp only[zaj] at hc;obtain⟨q,hq,rfl⟩:=hc;exact ih i v q hv hq
 |dR vs ps hlen _ ih=>refine .dR vs (ic ρ ps) (by rw[fq];exact hlen) (λi v c hv hc=> ?_);rw[fp] at hc;simp only[zaj] at hc;obtain⟨q,hq,rfl⟩:=hc;exact ih i v q hv hq
 |fn f vs ps hlen _ ih=>refine .fn f vs (ic ρ ps) (by rw[fq];exact hlen) (λi v c hv hc=> ?_);rw[fp] at hc;simp only[zaj] at hc;obtain⟨q,hq,rfl⟩:=hc;exact ih i v q hv hq
 |ref n aw off v h h1=>
  simp only[np];split
  next n' v' hρ=>exact .ref n' v' off v (bL.link (C:=λg=> ∃b,g= .pointer (some ⟨b,0,none⟩)/\v= .pointer (some ⟨b,off,none⟩)) hl hρ h) h1
  exact .bad _
 |bs n aw i k off v h1 h=>
  simp only[np];split
  next n' v' hρ=>exact .bs n' v' i k off v h1 (bL.link (C:=λg=> ∃b N cap,g= .slice (some ⟨b,0,none⟩) N cap/\v= .pointer (some ⟨b,i*k+off,none⟩)) hl hρ h)
  exact .bad _
 |bT x off b o hb aO f hw hr=>exact .bT x off b o hb aO f hw hr
 |sl n aw len v h1 h=>
  simp only[np];split
  next n' v' hρ=>exact .sl n' v' len v h1 (bL.link (C:=λg=> ∃a N cap,g= .slice a N cap/\v= .slice a len cap/\len<=N) hl hρ h)
  exact .bad _
 |eL n aw k off len v h1 h=>
  simp only[np];split
  next n' v' hρ=>exact .eL n' v' k off len v h1 (bL.link (C:=λg=> ∃a N cap,g= .slice a N cap/\off+len<=N/\ ∃a' cX,v= .slice a' len cX/\len<=cX/\(len=0\/ ∃b,a=some ⟨b,0,none⟩/\a'=some ⟨b,off*k,none⟩)) hl hρ h)
  exact .bad _
 |mp n aw v h1 h=>
  simp only[np];split
  next n' v' hρ=>exact .mp n' v' v h1 (bL.link (C:=λg=>v=g) hl hρ h)
  exact .bad _
 |bad v=>exact .bad v
theorem pR(ρ:Nat->Nat->Option (Nat×Nat)): ∀(es:List (D×P)) (i:Nat),(mM ρ es)[i]?=(es[i]?).map λx=>(x.1,np ρ x.2)
 | [],i=>by simp[mM]
 | (k,p)::es,i=>by cases i with |zero=>simp[mM]|succ i=>simp[mM,pR ρ es i]
theorem pS(ρ:Nat->Nat->Option (Nat×Nat)): ∀(es:List (D×P)),(mM ρ es).length=es.length
 | []=>rfl
 | (k,p)::es=>by simp[mM,pS ρ es]
theorem nH(ρ:Nat->Nat->Option (Nat×Nat)): ∀(es:List (D×P)),(mM ρ es).map (·.1)=es.map (·.1)
 | []=>rfl
 | (k,p)::es=>by simp[mM,nH ρ es]
theorem eQ(ρ:Nat->Nat->Option (Nat×Nat))(o:Obj):(cq ρ o).live=o.live:=by cases o<;>rfl
theorem gO(ρ:Nat->Nat->Option (Nat×Nat))(g:Value)(o:Obj):aD g (cq ρ o)=aD g o:=by cases o<;>rfl
theorem lV{Q:Program}{F:Nat->Prop}{w:World}{G G':Nat->Value}{R R':List (Nat×En)}{ρ:Nat->Nat->Option (Nat×Nat)}(hl:pQ G G' R R' ρ){n n':Nat}(hG:G' n'=G n){o:Obj}(h:gi Q F w G R n o):gi Q F w G' R' n' (cq ρ o):=by
 cases o with
 |gone=>trivial
 |box T ps=>obtain⟨b,cs,hg,hh,h1,h2,h3⟩:=h;refine⟨b,cs,hG.trans hg,hh,by rw[fq];exact h1,h2,λi p hp=> ?_⟩;rw[fp] at hp;simp only[zaj] at hp;obtain⟨q,hq,rfl⟩:=hp;exact iT hl (h3 i q hq)
 |arr ty fz es=>
  rcases h with⟨hg,he⟩| ⟨b,cap,cs,k,hg,hh,h1,h2,h3,h4,h5,h6,h7⟩
  ·exact .inl ⟨hG.trans hg,he⟩
  exact .inr ⟨b,cap,cs,k,hG.trans hg,hh,h1,h2,h3,h4,h5,h6,h7⟩
 |map kt get c fz=>obtain⟨b,es,clock,hg,hh,h1,h2⟩:=h;exact⟨b,es,clock,hG.trans hg,hh,h1,h2⟩
 |iq=>trivial
 |dS kt get c p kd=>obtain⟨b,es,clock,hg,hh,h1,i,e,h2,h3,h4⟩:=h;exact⟨b,es,clock,hG.trans hg,hh,h1,i,e,h2,iT hl h3,h4⟩
 |cb kt ks=>obtain⟨b,es,clock,hg,hh,h1,h2,h3,h4⟩:=h;refine⟨b,es,clock,hG.trans hg,hh,by rw[pS];exact h1,λi p e hp he=> ?_,by rw[nH];exact h3,h4⟩;rw[pR] at hp;simp only[zaj] at hp;obtain⟨q,hq,rfl⟩:=hp;obtain⟨a,b,c⟩:=h2 i q e hq he;exact⟨a,b,iT hl c⟩
 |iter kt vt left cur=>obtain⟨b,mo,since,seen,last,hg,hh,h1⟩:=h;exact⟨b,mo,since,seen,last,hG.trans hg,hh,h1⟩
theorem dZ: ∀(l:List Nat) (n:Nat),dJ n l=true↔n∈l
 | [],n=>by simp[dJ]
 |m::r,n=>by simp[dJ,dZ r n]
theorem cI: ∀(l:List Nat),df l=true->l.Nodup
 | [],_=>List.nodup_nil
 |n::r,h=>by simp only[df,zad,zaX] at h;refine zbe.2 ⟨λhm=> ?_,cI r h.2⟩;rw[(dZ r n).2 hm] at h;cases h.1
theorem cE: ∀(l:List Nat) (n i0 i:Nat),posOf l n i0=some i->i0<=i/\l[i-i0]?=some n
 | [],n,i0,i,h=>by simp[posOf] at h
 |m::r,n,i0,i,h=>by
  simp only[posOf] at h;split at h
  next hm=>
   have hm:m=n:=by simpa using hm
   simp at h;subst h;subst hm;simp
  obtain⟨h1,h2⟩:=cE r n (i0+1) i h;refine⟨by omega,?_⟩;have e:i-i0=(i-(i0+1))+1:=by omega
  rw[e];simpa using h2
theorem iU: ∀(l:List Nat) (n i0:Nat),posOf l n i0=none->n∉l
 | [],n,i0,_=>by simp
 |m::r,n,i0,h=>by
  simp only[posOf] at h;split at h
  ·cases h
  rename_i hm;have hm: ¬m=n:=by simpa using hm
  have:=iU r n (i0+1) h;simp only[zaz,zbG];exact⟨λe=>hm e.symm,this⟩
theorem b7{l:List Nat}(qH:l.Nodup){i n:Nat}(h:l[i]?=some n):posOf l n 0=some i:=by
 cases hp:posOf l n 0 with
 |none=>exact absurd (zao h) (iU l n 0 hp)
 |some j=>
  obtain⟨_,hj⟩:=cE l n 0 j hp;simp at hj;have h1:=(zaa.1 h).1;have h2:=(zaa.1 hj).1;have e1:=(zaa.1 h).2;have e2:=(zaa.1 hj).2;have C3:=za8.1 qH;rcases Nat.lt_trichotomy i j with bm |heq |CW
  ·exact absurd (e1.trans e2.symm) (C3 i j h1 h2 bm)
  ·rw[heq]
  exact absurd (e2.trans e1.symm) (C3 j i h2 h1 CW)
theorem vI(R:List (Nat×En))(ρ:Nat->Nat->Option (Nat×Nat))(tagged:Bool): ∀(ns:List Nat) (i0:Nat) (R':List (Nat×En)),sub R ρ tagged i0 ns=some R'->
  ∀j e',lk R' j=some e'-> ∃n e,i0<=j/\ns[j-i0]?=some n/\lk R n=some e/\e.obj.live=true/\e'=⟨0,if tagged then some j else e.tag,cq ρ e.obj⟩
 | [],i0,R',h,j,e',hj=>by simp[sub] at h;subst h;simp[lk] at hj
 |n::ns,i0,R',h,j,e',hj=>by
  simp only[sub] at h;split at h
  next e he=>
   split at h
   ·cases h
   ·rename_i r hr B9;simp at h;subst h;simp only[lk] at hj;split at hj
    ·rename_i iA;have iA:i0=j:=by simpa using iA
     subst iA;simp at hj;subst hj;refine⟨n,e,zag _,by simp,he,?_,rfl⟩;cases ho:e.obj<;>simp[Obj.live];exact B9 ho
    obtain⟨n',e1,h1,h2,h3,h4,h5⟩:=vI R ρ tagged ns (i0+1) r hr j e' hj;refine⟨n',e1,by omega,?_,h3,h4,h5⟩;have e2:j-i0=(j-(i0+1))+1:=by omega
    rw[e2];simpa using h2
   cases h
  cases h
theorem lr(R:List (Nat×En))(ρ:Nat->Nat->Option (Nat×Nat))(tagged:Bool): ∀(ns:List Nat) (i0:Nat) (R':List (Nat×En)),sub R ρ tagged i0 ns=some R'->
  ∀i n,ns[i]?=some n-> ∃e,lk R n=some e/\e.obj.live=true/\lk R' (i0+i)=some ⟨0,if tagged then some (i0+i) else e.tag,cq ρ e.obj⟩
 | [],i0,R',h,i,n,hi=>by simp at hi
 |m::ns,i0,R',h,i,n,hi=>by
  simp only[sub] at h;split at h
  next e he=>
   split at h
   ·cases h
   ·rename_i r hr B9;simp at h;subst h;cases i with
    |zero=>simp at hi;subst hi;refine⟨e,he,?_,by simp[lk]⟩;cases ho:e.obj<;>simp[Obj.live];exact B9 ho
    |succ i=>
     obtain⟨e1,h1,h2,h3⟩:=lr R ρ tagged ns (i0+1) r hr i n (by simpa using hi);refine⟨e1,h1,h2,?_⟩;have e2:i0+1+i=i0+(i+1):=by omega
     rw[e2] at h3;have bz:Nat.beq i0 (i0+(i+1))=false:=by
      cases hb:Nat.beq i0 (i0+(i+1)) with
      |false=>rfl
      |true=>have:=zac hb;omega
     simp only[lk,bz];exact h3
   cases h
  cases h
def cZ(Q:Program)(T:Tg)(F:Nat->Prop)(G:Nat->Value)(w:World)(R:List (Nat×En)):Prop:=ar Q T F G w ⟨#[],[]⟩ ⟨0,[],R⟩
section
variable{Q:Program}{T:Tg}{F:Nat->Prop}{G:Nat->Value}{w:World}{a:Act}{s:S}
theorem ar.heap(h:ar Q T F G w a s):cZ Q T F G w s.rg:=
 ⟨.nil,zaF _,λt p hp=>by simp[lk] at hp,h.rg,h.own,h.hS,h.fL,h.tag,h.z,h.dr,h.sz⟩
theorem cZ.state{R:List (Nat×En)}(h:cZ Q T F G w R){a:Act}{s:S}(hR:s.rg=R)(hn:dA T F G R w a.defers)(hs:s.n<=a.tmps.size)(ht: ∀t p,lk s.tm t=some p->bj F w G s.rg a.tmps (a.tmps.getD t undef) p):ar Q T F G w a s:=by subst hR;exact⟨hn,hs,ht,h.rg,h.own,h.hS,h.fL,h.tag,h.z,h.dr,h.sz⟩
theorem cZ.sub{R R':List (Nat×En)}(h:cZ Q T F G w R){ns:List Nat}{tagged:Bool}(hs:sub R (toPos R ns) tagged 0 ns=some R')(qH:df ns=true):
  cZ Q (if tagged then⟨λi=>G (ns.getD i 0),T.w0,0,false⟩ else T) F (λi=>G (ns.getD i 0)) w R'/\pQ G (λi=>G (ns.getD i 0)) R R' (toPos R ns)/\
  (∀b,Own (λi=>G (ns.getD i 0)) R' b-> ∃n e,n∈ns/\lk R n=some e/\aD (G n) e.obj=some b):=by
 have xt:=cI ns qH;have nI:pQ G (λi=>G (ns.getD i 0)) R R' (toPos R ns):=by
  intro n v n' v' hρ;unfold toPos at hρ;split at hρ
  next i e hp he=>
   split at hρ
   ·rename_i hv;simp at hρ;obtain⟨rfl,rfl⟩:=hρ;obtain⟨_,hi⟩:=cE ns n 0 i hp;simp at hi;obtain⟨e1,h1,h2,h3⟩:=lr R _ tagged ns 0 R' hs i n hi;rw[za4] at h3;refine⟨_,h3,zag _,λ_ _=>⟨⟨e1,h1,?_,h2⟩,?_⟩⟩
    ·rw[he] at h1;cases h1;simpa using hv
    simp[zah,hi]
   cases hρ
  cases hρ
 have uo: ∀j e',lk R' j=some e'-> ∃n e,ns[j]?=some n/\lk R n=some e/\e.obj.live=true/\e'=⟨0,if tagged then some j else e.tag,cq (toPos R ns) e.obj⟩/\G (ns.getD j 0)=G n:=λj e' hj=>by obtain⟨n,e,_,h2,h3,h4,h5⟩:=vI R _ tagged ns 0 R' hs j e' hj;simp at h2;exact⟨n,e,h2,h3,h4,h5,by simp[zah,h2]⟩
 refine⟨⟨.nil,zaF _,λt p hp=>by simp[lk] at hp,?_,?_,?_,h.fL,?_,?_,?_,?_⟩,nI,?_⟩
 ·intro j e' hj;obtain⟨n,e,_,h3,_,rfl,hG⟩:=uo j e' hj;exact lV nI hG (h.rg n e h3)
 ·intro j1 j2 e1 e2 b h1 h2 ko iS;obtain⟨n1,f1,g1,g2,_,rfl,Bq⟩:=uo j1 e1 h1;obtain⟨n2,f2,k1,k2,_,rfl,Ay⟩:=uo j2 e2 h2;simp only[gO] at ko iS;rw[Bq] at ko;rw[Ay] at iS;have:=h.own n1 n2 f1 f2 b g2 k2 ko iS;subst this;have p1:=b7 xt g1;have p2:=b7 xt k1;rw[p1] at p2;exact zbc p2
 ·intro j e' b hj hb mT;obtain⟨n,e,_,h3,_,rfl,hG⟩:=uo j e' hj;simp only[gO] at hb;rw[hG] at hb;exact h.hS n e b h3 hb mT
 ·intro j e' i hj hi hl;obtain⟨n,e,_,h3,h4,rfl,hG⟩:=uo j e' hj;cases tagged with
  |true=>simp at hi;subst hi;rfl
  |false=>simp only[zaw,za6] at hi⊢;rw[hG];exact h.tag n e i h3 hi h4
 ·cases tagged<;>exact h.z
 ·cases tagged<;>exact h.dr
 ·cases tagged with
  |true=>exact zaF _
  |false=>exact h.sz
 rintro b ⟨j,e',hj,hb⟩;obtain⟨n,e,h2,h3,_,rfl,hG⟩:=uo j e' hj;simp only[gO] at hb;rw[hG] at hb;exact⟨n,e,zao h2,h3,hb⟩
theorem lW(ρ:Nat->Nat->Option (Nat×Nat))(keep:List Nat): ∀(m:List (Nat×P)) (t:Nat) (p:P),lk (kg ρ keep m) t=some p-> ∃q,lk m t=some q/\p=np ρ q
 | [],t,p,h=>by simp[kg,lk] at h
 | (t',q)::r,t,p,h=>by
  simp only[kg] at h;split at h
  next hm=>
   simp only[lk] at h⊢;split at h
   next ht=>simp at h;exact⟨q,by simp[ht],h.symm⟩
   rename_i ht;obtain⟨q',h1,h2⟩:=lW ρ keep r t p h;exact⟨q',by simpa [ht] using h1,h2⟩
  rename_i hm;obtain⟨q',h1,h2⟩:=lW ρ keep r t p h;have jv:dJ t keep=true:=by
   clear h1 h2
   induction r with
   |nil=>simp[kg,lk] at h
   |cons x r ih=>
    obtain⟨t2,q2⟩:=x;simp only[kg] at h;split at h
    ·rename_i ta;simp only[lk] at h;split at h
     ·rename_i nE;have:t2=t:=by simpa using nE
      rwa [<-this]
     exact ih h
    exact ih h
  have bz: ¬t'=t:=λe=>hm (by rw[e];exact jv);exact⟨q',by simp[lk,bz,h1],h2⟩
theorem bj.np{F:Nat->Prop}{w:World}{G G':Nat->Value}{R R':List (Nat×En)}{ρ:Nat->Nat->Option (Nat×Nat)}(hl:pQ G G' R R' ρ){tmps:Array Value}{v:Value}{p:P}(h:bj F w G R tmps v p):bj F w G' R' tmps v (np ρ p):=by
 cases p with
 |when t b q=>exact h
 |_=>exact bj.of (iT hl h)
theorem vJ(h:ar Q T F G w a s){keep:List Nat}{s':S}(hs:canon keep s=some s'): ∃G',ar Q T F G' w a s'/\Ext (Own G s.rg) (Own G' s'.rg) F F w w:=by
 unfold canon at hs;simp only at hs;split at hs
 next qH=>
  split at hs
  next R hR=>
   simp at hs;subst hs;obtain⟨h1,h2,h3⟩:=h.heap.sub hR qH;have Bs: ∀b,Own (λi=>G ((reach s.rg 1000 (wU keep s.tm) []).getD i 0)) R b->Own G s.rg b:=λb hb=>let ⟨n,e,_,he,hb⟩:=h3 b hb;⟨n,e,he,hb⟩;refine⟨_,h1.state rfl ⟨h.qX.1,λd hd=>let ⟨D,d1,d0,d2,d3,d4⟩:=h.qX.2 d hd;⟨D,d1,d0,d2,d3,λho=>d4 (Bs D ho)⟩⟩ h.size (λt p hp=> ?_),⟨λ_ h=>h,λ_ h=> .inl h,λb hb=> ?_,λ_ _ _=>rfl,zag _,rfl,rfl,rfl⟩⟩
   ·obtain⟨q,hq,rfl⟩:=lW _ keep s.tm t p hp;exact(h.tm t q hq).np h2
   obtain⟨n,e,_,he,hb⟩:=h3 b hb;exact .inl ⟨n,e,he,hb⟩
  cases hs
 cases hs
end
end Pi
