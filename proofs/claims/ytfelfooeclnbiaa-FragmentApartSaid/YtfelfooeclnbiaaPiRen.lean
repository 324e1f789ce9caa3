/- The text PiRen. -/
import Derived.Test.YtfelfooeclnbiaaPiExec
namespace Pi
open Go
theorem fI(ρ:Nat->Nat->Option (Nat×Nat)): ∀(ps:List P) (i:Nat),(iW ρ ps)[i]?=(ps[i]?).map (od ρ)
 | [],i=>by simp[iW]
 |p::ps,i=>by cases i with |zero=>simp[iW]|succ i=>simp[iW,fI ρ ps i]
theorem fJ(ρ:Nat->Nat->Option (Nat×Nat)): ∀(ps:List P),(iW ρ ps).length=ps.length
 | []=>rfl
 |p::ps=>by simp[iW,fJ ρ ps]
def qW(G G':Nat->Value)(R R':List (Nat×En))(ρ:Nat->Nat->Option (Nat×Nat)):Prop:=
 ∀n v n' v',ρ n v=some (n',v')-> ∃e',lk R' n'=some e'/\v'<=e'.aw/\(v'=e'.aw->e'.obj.live=true->(∃e,lk R n=some e/\e.aw=v/\e.obj.live=true)/\G' n'=G n)
theorem bT.link{G G':Nat->Value}{R R':List (Nat×En)}{ρ:Nat->Nat->Option (Nat×Nat)}(hl:qW G G' R R' ρ){n v n' v':Nat}(hρ:ρ n v=some (n',v')){C:Value->Prop}(h:bT R n v (C (G n))):bT R' n' v' (C (G' n')):=by obtain⟨e',a7,hv,hc⟩:=hl n v n' v' hρ;refine⟨e',a7,hv,λh1 h2=> ?_⟩;obtain⟨⟨e,he,bM,wE⟩,hG⟩:=hc h1 h2;rw[hG];exact h.at he bM wE
theorem jE{F:Nat->Prop}{w:World}{G G':Nat->Value}{R R':List (Nat×En)}{ρ:Nat->Nat->Option (Nat×Nat)}(hl:qW G G' R R' ρ){v:Value}{p:P}(h:ak F w G R v p):ak F w G' R' v (od ρ p):=by
 induction h with
 |d h=>exact .d h
 |agg vs ps hlen cS _ ih=>refine .agg vs (iW ρ ps) (by rw[fJ];exact hlen) cS (λi v c hv hc=> ?_);rw[fI] at hc;simp only[zaj] at hc;obtain⟨q,hq,rfl⟩:=hc;exact ih i v q hv hq
 |dX vs ps hlen _ ih=>refine .dX vs (iW ρ ps) (by rw[fJ];exact hlen) (λi v c hv hc=> ?_);rw[fI] at hc;simp only[zaj] at hc;obtain⟨q,hq,rfl⟩:=hc;exact ih i v q hv hq
 |fn f vs ps hlen _ ih=>refine .fn f vs (iW ρ ps) (by rw[fJ];exact hlen) (λi v c hv hc=> ?_);rw[fI] at hc;simp only[zaj] at hc;obtain⟨q,hq,rfl⟩:=hc;exact ih i v q hv hq
 |ref n aw off v h h1=>
  simp only[od];split
  next n' v' hρ=>exact .ref n' v' off v (bT.link (C:=λg=> ∃b,g= .pointer (some ⟨b,0,none⟩)/\v= .pointer (some ⟨b,off,none⟩)) hl hρ h) h1
  exact .bad _
 |bE n aw i k off v h1 h=>
  simp only[od];split
  next n' v' hρ=>exact .bE n' v' i k off v h1 (bT.link (C:=λg=> ∃b N cap,g= .slice (some ⟨b,0,none⟩) N cap/\v= .pointer (some ⟨b,i*k+off,none⟩)) hl hρ h)
  exact .bad _
 |cd x off b o hb aQ f hw hr=>exact .cd x off b o hb aQ f hw hr
 |sl n aw len v h1 h=>
  simp only[od];split
  next n' v' hρ=>exact .sl n' v' len v h1 (bT.link (C:=λg=> ∃a N cap,g= .slice a N cap/\v= .slice a len cap/\len<=N) hl hρ h)
  exact .bad _
 |e9 n aw k off len v h1 h=>
  simp only[od];split
  next n' v' hρ=>exact .e9 n' v' k off len v h1 (bT.link (C:=λg=> ∃a N cap,g= .slice a N cap/\off+len<=N/\ ∃a' dR,v= .slice a' len dR/\len<=dR/\(len=0\/ ∃b,a=some ⟨b,0,none⟩/\a'=some ⟨b,off*k,none⟩)) hl hρ h)
  exact .bad _
 |mp n aw v h1 h=>
  simp only[od];split
  next n' v' hρ=>exact .mp n' v' v h1 (bT.link (C:=λg=>v=g) hl hρ h)
  exact .bad _
 |bad v=>exact .bad v
theorem qX(ρ:Nat->Nat->Option (Nat×Nat)): ∀(es:List (D×P)) (i:Nat),(nM ρ es)[i]?=(es[i]?).map λx=>(x.1,od ρ x.2)
 | [],i=>by simp[nM]
 | (k,p)::es,i=>by cases i with |zero=>simp[nM]|succ i=>simp[nM,qX ρ es i]
theorem qY(ρ:Nat->Nat->Option (Nat×Nat)): ∀(es:List (D×P)),(nM ρ es).length=es.length
 | []=>rfl
 | (k,p)::es=>by simp[nM,qY ρ es]
theorem oF(ρ:Nat->Nat->Option (Nat×Nat)): ∀(es:List (D×P)),(nM ρ es).map (·.1)=es.map (·.1)
 | []=>rfl
 | (k,p)::es=>by simp[nM,oF ρ es]
theorem ff(ρ:Nat->Nat->Option (Nat×Nat))(o:Obj):(cB ρ o).live=o.live:=by cases o<;>rfl
theorem il(ρ:Nat->Nat->Option (Nat×Nat))(g:Value)(o:Obj):aG g (cB ρ o)=aG g o:=by cases o<;>rfl
theorem mM{Q:Program}{F:Nat->Prop}{w:World}{G G':Nat->Value}{R R':List (Nat×En)}{ρ:Nat->Nat->Option (Nat×Nat)}(hl:qW G G' R R' ρ){n n':Nat}(hG:G' n'=G n){o:Obj}(h:hZ Q F w G R n o):hZ Q F w G' R' n' (cB ρ o):=by
 cases o with
 |gone=>trivial
 |box T ps=>obtain⟨b,cs,hg,hh,h1,h2,h3⟩:=h;refine⟨b,cs,hG.trans hg,hh,by rw[fJ];exact h1,h2,λi p hp=> ?_⟩;rw[fI] at hp;simp only[zaj] at hp;obtain⟨q,hq,rfl⟩:=hp;exact jE hl (h3 i q hq)
 |arr ty fz es=>
  rcases h with⟨hg,he⟩| ⟨b,cap,cs,k,hg,hh,h1,h2,h3,h4,h5,h6,h7⟩
  ·exact .inl ⟨hG.trans hg,he⟩
  exact .inr ⟨b,cap,cs,k,hG.trans hg,hh,h1,h2,h3,h4,h5,h6,h7⟩
 |map kt get c fz=>obtain⟨b,es,clock,hg,hh,h1,h2⟩:=h;exact⟨b,es,clock,hG.trans hg,hh,h1,h2⟩
 |jh=>trivial
 |ei kt get c p kd=>obtain⟨b,es,clock,hg,hh,h1,i,e,h2,h3,h4⟩:=h;exact⟨b,es,clock,hG.trans hg,hh,h1,i,e,h2,jE hl h3,h4⟩
 |aN kt ks=>obtain⟨b,es,clock,hg,hh,h1,h2,h3,h4⟩:=h;refine⟨b,es,clock,hG.trans hg,hh,by rw[qY];exact h1,λi p e hp he=> ?_,by rw[oF];exact h3,h4⟩;rw[qX] at hp;simp only[zaj] at hp;obtain⟨q,hq,rfl⟩:=hp;obtain⟨a,b,c⟩:=h2 i q e hq he;exact⟨a,b,jE hl c⟩
 |iter kt vt left cur=>obtain⟨b,mo,since,seen,last,hg,hh,h1⟩:=h;exact⟨b,mo,since,seen,last,hG.trans hg,hh,h1⟩
theorem eB: ∀(l:List Nat) (n:Nat),dQ n l=true↔n∈l
 | [],n=>by simp[dQ]
 |m::r,n=>by simp[dQ,eB r n]
theorem cQ: ∀(l:List Nat),dp l=true->l.Nodup
 | [],_=>List.nodup_nil
 |n::r,h=>by simp only[dp,zac,zaW] at h;refine zbf.2 ⟨λhm=> ?_,cQ r h.2⟩;rw[(eB r n).2 hm] at h;cases h.1
theorem cM: ∀(l:List Nat) (n i0 i:Nat),posOf l n i0=some i->i0<=i/\l[i-i0]?=some n
 | [],n,i0,i,h=>by simp[posOf] at h
 |m::r,n,i0,i,h=>by
  simp only[posOf] at h;split at h
  next hm=>
   have hm:m=n:=by simpa using hm
   simp at h;subst h;subst hm;simp
  obtain⟨h1,h2⟩:=cM r n (i0+1) i h;refine⟨by omega,?_⟩;have e:i-i0=(i-(i0+1))+1:=by omega
  rw[e];simpa using h2
theorem jF: ∀(l:List Nat) (n i0:Nat),posOf l n i0=none->n∉l
 | [],n,i0,_=>by simp
 |m::r,n,i0,h=>by
  simp only[posOf] at h;split at h
  ·cases h
  rename_i hm;have hm: ¬m=n:=by simpa using hm
  have:=jF r n (i0+1) h;simp only[zaw,zbF];exact⟨λe=>hm e.symm,this⟩
theorem cq{l:List Nat}(rW:l.Nodup){i n:Nat}(h:l[i]?=some n):posOf l n 0=some i:=by
 cases hp:posOf l n 0 with
 |none=>exact absurd (zan h) (jF l n 0 hp)
 |some j=>
  obtain⟨_,hj⟩:=cM l n 0 j hp;simp at hj;have h1:=(zaa.1 h).1;have h2:=(zaa.1 hj).1;have e1:=(zaa.1 h).2;have e2:=(zaa.1 hj).2;have GS:=za9.1 rW;rcases Nat.lt_trichotomy i j with bu |heq |GL
  ·exact absurd (e1.trans e2.symm) (GS i j h1 h2 bu)
  ·rw[heq]
  exact absurd (e2.trans e1.symm) (GS j i h2 h1 GL)
theorem xa(R:List (Nat×En))(ρ:Nat->Nat->Option (Nat×Nat))(tagged:Bool): ∀(ns:List Nat) (i0:Nat) (R':List (Nat×En)),sub R ρ tagged i0 ns=some R'->
  ∀j e',lk R' j=some e'-> ∃n e,i0<=j/\ns[j-i0]?=some n/\lk R n=some e/\e.obj.live=true/\e'=⟨0,if tagged then some j else e.tag,cB ρ e.obj⟩
 | [],i0,R',h,j,e',hj=>by simp[sub] at h;subst h;simp[lk] at hj
 |n::ns,i0,R',h,j,e',hj=>by
  simp only[sub] at h;split at h
  next e he=>
   split at h
   ·cases h
   ·rename_i r hr Fv;simp at h;subst h;simp only[lk] at hj;split at hj
    ·rename_i jo;have jo:i0=j:=by simpa using jo
     subst jo;simp at hj;subst hj;refine⟨n,e,zaf _,by simp,he,?_,rfl⟩;cases ho:e.obj<;>simp[Obj.live];exact Fv ho
    obtain⟨n',e1,h1,h2,h3,h4,h5⟩:=xa R ρ tagged ns (i0+1) r hr j e' hj;refine⟨n',e1,by omega,?_,h3,h4,h5⟩;have e2:j-i0=(j-(i0+1))+1:=by omega
    rw[e2];simpa using h2
   cases h
  cases h
theorem l8(R:List (Nat×En))(ρ:Nat->Nat->Option (Nat×Nat))(tagged:Bool): ∀(ns:List Nat) (i0:Nat) (R':List (Nat×En)),sub R ρ tagged i0 ns=some R'->
  ∀i n,ns[i]?=some n-> ∃e,lk R n=some e/\e.obj.live=true/\lk R' (i0+i)=some ⟨0,if tagged then some (i0+i) else e.tag,cB ρ e.obj⟩
 | [],i0,R',h,i,n,hi=>by simp at hi
 |m::ns,i0,R',h,i,n,hi=>by
  simp only[sub] at h;split at h
  next e he=>
   split at h
   ·cases h
   ·rename_i r hr Fv;simp at h;subst h;cases i with
    |zero=>simp at hi;subst hi;refine⟨e,he,?_,by simp[lk]⟩;cases ho:e.obj<;>simp[Obj.live];exact Fv ho
    |succ i=>
     obtain⟨e1,h1,h2,h3⟩:=l8 R ρ tagged ns (i0+1) r hr i n (by simpa using hi);refine⟨e1,h1,h2,?_⟩;have e2:i0+1+i=i0+(i+1):=by omega
     rw[e2] at h3;have bY:Nat.beq i0 (i0+(i+1))=false:=by
      cases hb:Nat.beq i0 (i0+(i+1)) with
      |false=>rfl
      |true=>have:=zab hb;omega
     simp only[lk,bY];exact h3
   cases h
  cases h
def dK(Q:Program)(T:Tg)(F:Nat->Prop)(G:Nat->Value)(w:World)(R:List (Nat×En)):Prop:=aq Q T F G w ⟨#[],[]⟩ ⟨0,[],R⟩
section
variable{Q:Program}{T:Tg}{F:Nat->Prop}{G:Nat->Value}{w:World}{a:Act}{s:S}
theorem aq.heap(h:aq Q T F G w a s):dK Q T F G w s.rg:=
 ⟨.nil,zaR _,λt p hp=>by simp[lk] at hp,h.rg,h.own,h.iY,h.gQ,h.tag,h.z,h.dr,h.sz⟩
theorem dK.state{R:List (Nat×En)}(h:dK Q T F G w R){a:Act}{s:S}(hR:s.rg=R)(hn:dF T F G R w a.defers)(hs:s.n<=a.tmps.size)(ht: ∀t p,lk s.tm t=some p->bt F w G s.rg a.tmps (a.tmps.getD t undef) p):aq Q T F G w a s:=by subst hR;exact⟨hn,hs,ht,h.rg,h.own,h.iY,h.gQ,h.tag,h.z,h.dr,h.sz⟩
theorem dK.sub{R R':List (Nat×En)}(h:dK Q T F G w R){ns:List Nat}{tagged:Bool}(hs:sub R (toPos R ns) tagged 0 ns=some R')(rW:dp ns=true):
  dK Q (if tagged then⟨λi=>G (ns.getD i 0),T.w0,0,false⟩ else T) F (λi=>G (ns.getD i 0)) w R'/\qW G (λi=>G (ns.getD i 0)) R R' (toPos R ns)/\
  (∀b,Own (λi=>G (ns.getD i 0)) R' b-> ∃n e,n∈ns/\lk R n=some e/\aG (G n) e.obj=some b):=by
 have zj:=cQ ns rW;have oG:qW G (λi=>G (ns.getD i 0)) R R' (toPos R ns):=by
  intro n v n' v' hρ;unfold toPos at hρ;split at hρ
  next i e hp he=>
   split at hρ
   ·rename_i hv;simp at hρ;obtain⟨rfl,rfl⟩:=hρ;obtain⟨_,hi⟩:=cM ns n 0 i hp;simp at hi;obtain⟨e1,h1,h2,h3⟩:=l8 R _ tagged ns 0 R' hs i n hi;rw[zbc] at h3;refine⟨_,h3,zaf _,λ_ _=>⟨⟨e1,h1,?_,h2⟩,?_⟩⟩
    ·rw[he] at h1;cases h1;simpa using hv
    simp[zai,hi]
   cases hρ
  cases hρ
 have vK: ∀j e',lk R' j=some e'-> ∃n e,ns[j]?=some n/\lk R n=some e/\e.obj.live=true/\e'=⟨0,if tagged then some j else e.tag,cB (toPos R ns) e.obj⟩/\G (ns.getD j 0)=G n:=λj e' hj=>by obtain⟨n,e,_,h2,h3,h4,h5⟩:=xa R _ tagged ns 0 R' hs j e' hj;simp at h2;exact⟨n,e,h2,h3,h4,h5,by simp[zai,h2]⟩
 refine⟨⟨.nil,zaR _,λt p hp=>by simp[lk] at hp,?_,?_,?_,h.gQ,?_,?_,?_,?_⟩,oG,?_⟩
 ·intro j e' hj;obtain⟨n,e,_,h3,_,rfl,hG⟩:=vK j e' hj;exact mM oG hG (h.rg n e h3)
 ·intro j1 j2 e1 e2 b h1 h2 lh ja;obtain⟨n1,f1,g1,g2,_,rfl,Ek⟩:=vK j1 e1 h1;obtain⟨n2,f2,k1,k2,_,rfl,C4⟩:=vK j2 e2 h2;simp only[il] at lh ja;rw[Ek] at lh;rw[C4] at ja;have:=h.own n1 n2 f1 f2 b g2 k2 lh ja;subst this;have p1:=cq zj g1;have p2:=cq zj k1;rw[p1] at p2;exact za2 p2
 ·intro j e' b hj hb nU;obtain⟨n,e,_,h3,_,rfl,hG⟩:=vK j e' hj;simp only[il] at hb;rw[hG] at hb;exact h.iY n e b h3 hb nU
 ·intro j e' i hj hi hl;obtain⟨n,e,_,h3,h4,rfl,hG⟩:=vK j e' hj;cases tagged with
  |true=>simp at hi;subst hi;rfl
  |false=>simp only[zaz,za6] at hi⊢;rw[hG];exact h.tag n e i h3 hi h4
 ·cases tagged<;>exact h.z
 ·cases tagged<;>exact h.dr
 ·cases tagged with
  |true=>exact zaR _
  |false=>exact h.sz
 rintro b ⟨j,e',hj,hb⟩;obtain⟨n,e,h2,h3,_,rfl,hG⟩:=vK j e' hj;simp only[il] at hb;rw[hG] at hb;exact⟨n,e,zan h2,h3,hb⟩
theorem mN(ρ:Nat->Nat->Option (Nat×Nat))(keep:List Nat): ∀(m:List (Nat×P)) (t:Nat) (p:P),lk (k7 ρ keep m) t=some p-> ∃q,lk m t=some q/\p=od ρ q
 | [],t,p,h=>by simp[k7,lk] at h
 | (t',q)::r,t,p,h=>by
  simp only[k7] at h;split at h
  next hm=>
   simp only[lk] at h⊢;split at h
   next ht=>simp at h;exact⟨q,by simp[ht],h.symm⟩
   rename_i ht;obtain⟨q',h1,h2⟩:=mN ρ keep r t p h;exact⟨q',by simpa [ht] using h1,h2⟩
  rename_i hm;obtain⟨q',h1,h2⟩:=mN ρ keep r t p h;have kg:dQ t keep=true:=by
   clear h1 h2
   induction r with
   |nil=>simp[k7,lk] at h
   |cons x r ih=>
    obtain⟨t2,q2⟩:=x;simp only[k7] at h;split at h
    ·rename_i uG;simp only[lk] at h;split at h
     ·rename_i oC;have:t2=t:=by simpa using oC
      rwa [<-this]
     exact ih h
    exact ih h
  have bY: ¬t'=t:=λe=>hm (by rw[e];exact kg);exact⟨q',by simp[lk,bY,h1],h2⟩
theorem bt.od{F:Nat->Prop}{w:World}{G G':Nat->Value}{R R':List (Nat×En)}{ρ:Nat->Nat->Option (Nat×Nat)}(hl:qW G G' R R' ρ){tmps:Array Value}{v:Value}{p:P}(h:bt F w G R tmps v p):bt F w G' R' tmps v (od ρ p):=by
 cases p with
 |when t b q=>exact h
 |_=>exact bt.of (jE hl h)
theorem xb(h:aq Q T F G w a s){keep:List Nat}{s':S}(hs:canon keep s=some s'): ∃G',aq Q T F G' w a s'/\Ext (Own G s.rg) (Own G' s'.rg) F F w w:=by
 unfold canon at hs;simp only at hs;split at hs
 next rW=>
  split at hs
  next R hR=>
   simp at hs;subst hs;obtain⟨h1,h2,h3⟩:=h.heap.sub hR rW;have El: ∀b,Own (λi=>G ((reach s.rg 1000 (yI keep s.tm) []).getD i 0)) R b->Own G s.rg b:=λb hb=>let ⟨n,e,_,he,hb⟩:=h3 b hb;⟨n,e,he,hb⟩;refine⟨_,h1.state rfl ⟨h.si.1,λd hd=>let ⟨D,d1,d0,d2,d3,d4⟩:=h.si.2 d hd;⟨D,d1,d0,d2,d3,λho=>d4 (El D ho)⟩⟩ h.size (λt p hp=> ?_),⟨λ_ h=>h,λ_ h=> .inl h,λb hb=> ?_,λ_ _ _=>rfl,zaf _,rfl,rfl,rfl⟩⟩
   ·obtain⟨q,hq,rfl⟩:=mN _ keep s.tm t p hp;exact(h.tm t q hq).od h2
   obtain⟨n,e,_,he,hb⟩:=h3 b hb;exact .inl ⟨n,e,he,hb⟩
  cases hs
 cases hs
end
end Pi
