/- The text PiRen. -/
import Derived.Test.YtfelfooeclnbiaaGreatDoorPiExec
namespace Pi
open Go
theorem jj(ρ:Nat->Nat->Option (Nat×Nat)): ∀(ps:List P) (i:Nat),(mr ρ ps)[i]?=(ps[i]?).map (Ar ρ)
 | [],i=>by simp[mr]
 |p::ps,i=>by cases i with |zero=>simp[mr]|succ i=>simp[mr,jj ρ ps i]
theorem jk(ρ:Nat->Nat->Option (Nat×Nat)): ∀(ps:List P),(mr ρ ps).length=ps.length
 | []=>rfl
 |p::ps=>by simp[mr,jk ρ ps]
def EJ(G G':Nat->Value)(R R':List (Nat×En))(ρ:Nat->Nat->Option (Nat×Nat)):Prop:=
 ∀n v n' v',ρ n v=some (n',v')-> ∃e',lk R' n'=some e'/\v'<=e'.aR/\(v'=e'.aR->e'.obj.live=true->(∃e,lk R n=some e/\e.aR=v/\e.obj.live=true)/\G' n'=G n)
theorem dY.link{G G':Nat->Value}{R R':List (Nat×En)}{ρ:Nat->Nat->Option (Nat×Nat)}(hl:EJ G G' R R' ρ){n v n' v':Nat}(hρ:ρ n v=some (n',v')){C:Value->Prop}(h:dY R n v (C (G n))):dY R' n' v' (C (G' n')):=by obtain⟨e',cx,hv,hc⟩:=hl n v n' v' hρ;refine⟨e',cx,hv,λh1 h2=> ?_⟩;obtain⟨⟨e,he,dw,AA⟩,hG⟩:=hc h1 h2;rw[hG];exact h.at he dw AA
theorem nD{F:Nat->Prop}{w:World}{G G':Nat->Value}{R R':List (Nat×En)}{ρ:Nat->Nat->Option (Nat×Nat)}(hl:EJ G G' R R' ρ){v:Value}{p:P}(h:aF F w G R v p):aF F w G' R' v (Ar ρ p):=by
 induction h with
 |d h=>exact .d h
 |agg vs ps hlen gb _ ih=>refine .agg vs (mr ρ ps) (by rw[jk];exact hlen) gb (λi v c hv hc=> ?_);rw[jj] at hc;simp only[zav] at hc;obtain⟨q,hq,rfl⟩:=hc;exact ih i v q hv hq
 |bI vs ps hlen _ ih=>refine .bI vs (mr ρ ps) (by rw[jk];exact hlen) (λi v c hv hc=> ?_);rw[jj] at hc;simp only[zav] at hc;obtain⟨q,hq,rfl⟩:=hc;exact ih i v q hv hq
 |fn f vs ps hlen _ ih=>refine .fn f vs (mr ρ ps) (by rw[jk];exact hlen) (λi v c hv hc=> ?_);rw[jj] at hc;simp only[zav] at hc;obtain⟨q,hq,rfl⟩:=hc;exact ih i v q hv hq
 |ref n aR off v h h1=>
  simp only[Ar];split
  next n' v' hρ=>exact .ref n' v' off v (dY.link (C:=λg=> ∃b,g= .pointer (some ⟨b,0,none⟩)/\v= .pointer (some ⟨b,off,none⟩)) hl hρ h) h1
  exact .bad _
 |dj n aR i k off v h1 h=>
  simp only[Ar];split
  next n' v' hρ=>exact .dj n' v' i k off v h1 (dY.link (C:=λg=> ∃b N cap,g= .slice (some ⟨b,0,none⟩) N cap/\v= .pointer (some ⟨b,i*k+off,none⟩)) hl hρ h)
  exact .bad _
 |eX x off b o hb bU f hw hr=>exact .eX x off b o hb bU f hw hr
 |sl n aR len v h1 h=>
  simp only[Ar];split
  next n' v' hρ=>exact .sl n' v' len v h1 (dY.link (C:=λg=> ∃a N cap,g= .slice a N cap/\v= .slice a len cap/\len<=N) hl hρ h)
  exact .bad _
 |lu n aR k off len v h1 h=>
  simp only[Ar];split
  next n' v' hρ=>exact .lu n' v' k off len v h1 (dY.link (C:=λg=> ∃a N cap,g= .slice a N cap/\off+len<=N/\ ∃a' ig,v= .slice a' len ig/\len<=ig/\(len=0\/ ∃b,a=some ⟨b,0,none⟩/\a'=some ⟨b,off*k,none⟩)) hl hρ h)
  exact .bad _
 |mp n aR v h1 h=>
  simp only[Ar];split
  next n' v' hρ=>exact .mp n' v' v h1 (dY.link (C:=λg=>v=g) hl hρ h)
  exact .bad _
 |bad v=>exact .bad v
theorem lI(ρ:Nat->Nat->Option (Nat×Nat))(o:Obj):(fT ρ o).live=o.live:=by cases o<;>rfl
theorem py(ρ:Nat->Nat->Option (Nat×Nat))(g:Value)(o:Obj):bm g (fT ρ o)=bm g o:=by cases o<;>rfl
theorem xv{Q:Program}{F:Nat->Prop}{w:World}{G G':Nat->Value}{R R':List (Nat×En)}{ρ:Nat->Nat->Option (Nat×Nat)}(hl:EJ G G' R R' ρ){n n':Nat}(hG:G' n'=G n){o:Obj}(h:oJ Q F w G R n o):oJ Q F w G' R' n' (fT ρ o):=by
 cases o with
 |gone=>trivial
 |box T ps=>obtain⟨b,cs,hg,hh,h1,h2,h3⟩:=h;refine⟨b,cs,hG.trans hg,hh,by rw[jk];exact h1,h2,λi p hp=> ?_⟩;rw[jj] at hp;simp only[zav] at hp;obtain⟨q,hq,rfl⟩:=hp;exact nD hl (h3 i q hq)
 |arr ty fz es=>
  rcases h with⟨hg,he⟩| ⟨b,cap,cs,k,hg,hh,h1,h2,h3,h4,h5,h6,h7⟩
  ·exact .inl ⟨hG.trans hg,he⟩
  exact .inr ⟨b,cap,cs,k,hG.trans hg,hh,h1,h2,h3,h4,h5,h6,h7⟩
 |map kt get c fz=>obtain⟨b,es,clock,hg,hh,h1,h2⟩:=h;exact⟨b,es,clock,hG.trans hg,hh,h1,h2⟩
 |je=>trivial
 |jV kt get c p kd=>obtain⟨b,es,clock,hg,hh,h1,i,e,h2,h3,h4⟩:=h;exact⟨b,es,clock,hG.trans hg,hh,h1,i,e,h2,nD hl h3,h4⟩
 |iter kt vt left cur=>obtain⟨b,mo,since,seen,last,hg,hh,h1⟩:=h;exact⟨b,mo,since,seen,last,hG.trans hg,hh,h1⟩
theorem kr: ∀(l:List Nat) (n:Nat),jE n l=true↔n∈l
 | [],n=>by simp[jE]
 |m::r,n=>by simp[jE,kr r n]
theorem dq: ∀(l:List Nat),dJ l=true->l.Nodup
 | [],_=>List.nodup_nil
 |n::r,h=>by simp only[dJ,zad,zbA] at h;refine za8.2 ⟨λhm=> ?_,dq r h.2⟩;rw[(kr r n).2 hm] at h;cases h.1
theorem gA: ∀(l:List Nat) (n i0 i:Nat),posOf l n i0=some i->i0<=i/\l[i-i0]?=some n
 | [],n,i0,i,h=>by simp[posOf] at h
 |m::r,n,i0,i,h=>by
  simp only[posOf] at h;split at h
  next hm=>
   have hm:m=n:=by simpa using hm
   simp at h;subst h;subst hm;simp
  obtain⟨h1,h2⟩:=gA r n (i0+1) i h;refine⟨by omega,?_⟩;have e:i-i0=(i-(i0+1))+1:=by omega
  rw[e];simpa using h2
theorem rj: ∀(l:List Nat) (n i0:Nat),posOf l n i0=none->n∉l
 | [],n,i0,_=>by simp
 |m::r,n,i0,h=>by
  simp only[posOf] at h;split at h
  ·cases h
  rename_i hm;have hm: ¬m=n:=by simpa using hm
  have:=rj r n (i0+1) h;simp only[zas,zcF];exact⟨λe=>hm e.symm,this⟩
theorem fh{l:List Nat}(ov:l.Nodup){i n:Nat}(h:l[i]?=some n):posOf l n 0=some i:=by
 cases hp:posOf l n 0 with
 |none=>exact absurd (zaz h) (rj l n 0 hp)
 |some j=>
  obtain⟨_,hj⟩:=gA l n 0 j hp;simp at hj;have h1:=(zae.1 h).1;have h2:=(zae.1 hj).1;have e1:=(zae.1 h).2;have e2:=(zae.1 hj).2;have hpw:=zba.1 ov;rcases Nat.lt_trichotomy i j with bz |heq |hgt
  ·exact absurd (e1.trans e2.symm) (hpw i j h1 h2 bz)
  ·rw[heq]
  exact absurd (e2.trans e1.symm) (hpw j i h2 h1 hgt)
theorem Ie(R:List (Nat×En))(ρ:Nat->Nat->Option (Nat×Nat))(tagged:Bool): ∀(ns:List Nat) (i0:Nat) (R':List (Nat×En)),sub R ρ tagged i0 ns=some R'->
  ∀j e',lk R' j=some e'-> ∃n e,i0<=j/\ns[j-i0]?=some n/\lk R n=some e/\e.obj.live=true/\e'=⟨0,if tagged then some j else e.tag,fT ρ e.obj⟩
 | [],i0,R',h,j,e',hj=>by simp[sub] at h;subst h;simp[lk] at hj
 |n::ns,i0,R',h,j,e',hj=>by
  simp only[sub] at h;split at h
  next e he=>
   split at h
   ·cases h
   ·rename_i r hr hng;simp at h;subst h;simp only[lk] at hj;split at hj
    ·rename_i sF;have sF:i0=j:=by simpa using sF
     subst sF;simp at hj;subst hj;refine⟨n,e,zai _,by simp,he,?_,rfl⟩;cases ho:e.obj<;>simp[Obj.live];exact hng ho
    obtain⟨n',e1,h1,h2,h3,h4,h5⟩:=Ie R ρ tagged ns (i0+1) r hr j e' hj;refine⟨n',e1,by omega,?_,h3,h4,h5⟩;have e2:j-i0=(j-(i0+1))+1:=by omega
    rw[e2];simpa using h2
   cases h
  cases h
theorem wG(R:List (Nat×En))(ρ:Nat->Nat->Option (Nat×Nat))(tagged:Bool): ∀(ns:List Nat) (i0:Nat) (R':List (Nat×En)),sub R ρ tagged i0 ns=some R'->
  ∀i n,ns[i]?=some n-> ∃e,lk R n=some e/\e.obj.live=true/\lk R' (i0+i)=some ⟨0,if tagged then some (i0+i) else e.tag,fT ρ e.obj⟩
 | [],i0,R',h,i,n,hi=>by simp at hi
 |m::ns,i0,R',h,i,n,hi=>by
  simp only[sub] at h;split at h
  next e he=>
   split at h
   ·cases h
   ·rename_i r hr hng;simp at h;subst h;cases i with
    |zero=>simp at hi;subst hi;refine⟨e,he,?_,by simp[lk]⟩;cases ho:e.obj<;>simp[Obj.live];exact hng ho
    |succ i=>
     obtain⟨e1,h1,h2,h3⟩:=wG R ρ tagged ns (i0+1) r hr i n (by simpa using hi);refine⟨e1,h1,h2,?_⟩;have e2:i0+1+i=i0+(i+1):=by omega
     rw[e2] at h3;have cU:Nat.beq i0 (i0+(i+1))=false:=by
      cases hb:Nat.beq i0 (i0+(i+1)) with
      |false=>rfl
      |true=>have:=zah hb;omega
     simp only[lk,cU];exact h3
   cases h
  cases h
def eZ(Q:Program)(T:Tg)(F:Nat->Prop)(G:Nat->Value)(w:World)(R:List (Nat×En)):Prop:=aB Q T F G w ⟨#[],[]⟩ ⟨0,[],R⟩
section
variable{Q:Program}{T:Tg}{F:Nat->Prop}{G:Nat->Value}{w:World}{a:Act}{s:S}
theorem aB.heap(h:aB Q T F G w a s):eZ Q T F G w s.rg:=
 ⟨.nil,za7 _,λt p hp=>by simp[lk] at hp,h.rg,h.own,h.mg,h.ja,h.tag,h.z,h.dr,h.sz⟩
theorem eZ.state{R:List (Nat×En)}(h:eZ Q T F G w R){a:Act}{s:S}(hR:s.rg=R)(hn:iZ T F G R w a.defers)(hs:s.n<=a.tmps.size)(ht: ∀t p,lk s.tm t=some p->cy F w G s.rg a.tmps (a.tmps.getD t undef) p):aB Q T F G w a s:=by subst hR;exact⟨hn,hs,ht,h.rg,h.own,h.mg,h.ja,h.tag,h.z,h.dr,h.sz⟩
theorem eZ.sub{R R':List (Nat×En)}(h:eZ Q T F G w R){ns:List Nat}{tagged:Bool}(hs:sub R (toPos R ns) tagged 0 ns=some R')(ov:dJ ns=true):
  eZ Q (if tagged then⟨λi=>G (ns.getD i 0),T.w0,0,false⟩ else T) F (λi=>G (ns.getD i 0)) w R'/\EJ G (λi=>G (ns.getD i 0)) R R' (toPos R ns)/\
  (∀b,Own (λi=>G (ns.getD i 0)) R' b-> ∃n e,n∈ns/\lk R n=some e/\bm (G n) e.obj=some b):=by
 have Wk:=dq ns ov;have AT:EJ G (λi=>G (ns.getD i 0)) R R' (toPos R ns):=by
  intro n v n' v' hρ;unfold toPos at hρ;split at hρ
  next i e hp he=>
   split at hρ
   ·rename_i hv;simp at hρ;obtain⟨rfl,rfl⟩:=hρ;obtain⟨_,hi⟩:=gA ns n 0 i hp;simp at hi;obtain⟨e1,h1,h2,h3⟩:=wG R _ tagged ns 0 R' hs i n hi;rw[zaI] at h3;refine⟨_,h3,zai _,λ_ _=>⟨⟨e1,h1,?_,h2⟩,?_⟩⟩
    ·rw[he] at h1;cases h1;simpa using hv
    simp[zab,hi]
   cases hρ
  cases hρ
 have Oh: ∀j e',lk R' j=some e'-> ∃n e,ns[j]?=some n/\lk R n=some e/\e.obj.live=true/\e'=⟨0,if tagged then some j else e.tag,fT (toPos R ns) e.obj⟩/\G (ns.getD j 0)=G n:=λj e' hj=>by obtain⟨n,e,_,h2,h3,h4,h5⟩:=Ie R _ tagged ns 0 R' hs j e' hj;simp at h2;exact⟨n,e,h2,h3,h4,h5,by simp[zab,h2]⟩
 refine⟨⟨.nil,za7 _,λt p hp=>by simp[lk] at hp,?_,?_,?_,h.ja,?_,?_,?_,?_⟩,AT,?_⟩
 ·intro j e' hj;obtain⟨n,e,_,h3,_,rfl,hG⟩:=Oh j e' hj;exact xv AT hG (h.rg n e h3)
 ·intro j1 j2 e1 e2 b h1 h2 ji dM;obtain⟨n1,f1,g1,g2,_,rfl,hG1⟩:=Oh j1 e1 h1;obtain⟨n2,f2,k1,k2,_,rfl,hG2⟩:=Oh j2 e2 h2;simp only[py] at ji dM;rw[hG1] at ji;rw[hG2] at dM;have:=h.own n1 n2 f1 f2 b g2 k2 ji dM;subst this;have p1:=fh Wk g1;have p2:=fh Wk k1;rw[p1] at p2;exact zb9 p2
 ·intro j e' b hj hb zK;obtain⟨n,e,_,h3,_,rfl,hG⟩:=Oh j e' hj;simp only[py] at hb;rw[hG] at hb;exact h.mg n e b h3 hb zK
 ·intro j e' i hj hi hl;obtain⟨n,e,_,h3,h4,rfl,hG⟩:=Oh j e' hj;cases tagged with
  |true=>simp at hi;subst hi;rfl
  |false=>simp only[zaC,zbq] at hi⊢;rw[hG];exact h.tag n e i h3 hi h4
 ·cases tagged<;>exact h.z
 ·cases tagged<;>exact h.dr
 ·cases tagged with
  |true=>exact za7 _
  |false=>exact h.sz
 rintro b ⟨j,e',hj,hb⟩;obtain⟨n,e,h2,h3,_,rfl,hG⟩:=Oh j e' hj;simp only[py] at hb;rw[hG] at hb;exact⟨n,e,zaz h2,h3,hb⟩
theorem sG(ρ:Nat->Nat->Option (Nat×Nat))(keep:List Nat): ∀(m:List (Nat×P)) (t:Nat) (p:P),lk (qG ρ keep m) t=some p-> ∃q,lk m t=some q/\p=Ar ρ q
 | [],t,p,h=>by simp[qG,lk] at h
 | (t',q)::r,t,p,h=>by
  simp only[qG] at h;split at h
  next hm=>
   simp only[lk] at h⊢;split at h
   next ht=>simp at h;exact⟨q,by simp[ht],h.symm⟩
   rename_i ht;obtain⟨q',h1,h2⟩:=sG ρ keep r t p h;exact⟨q',by simpa [ht] using h1,h2⟩
  rename_i hm;obtain⟨q',h1,h2⟩:=sG ρ keep r t p h;have b9:jE t keep=true:=by
   clear h1 h2
   induction r with
   |nil=>simp[qG,lk] at h
   |cons x r ih=>
    obtain⟨t2,q2⟩:=x;simp only[qG] at h;split at h
    ·rename_i Ch;simp only[lk] at h;split at h
     ·rename_i AO;have:t2=t:=by simpa using AO
      rwa [<-this]
     exact ih h
    exact ih h
  have cU: ¬t'=t:=λe=>hm (by rw[e];exact b9);exact⟨q',by simp[lk,cU,h1],h2⟩
theorem cy.Ar{F:Nat->Prop}{w:World}{G G':Nat->Value}{R R':List (Nat×En)}{ρ:Nat->Nat->Option (Nat×Nat)}(hl:EJ G G' R R' ρ){tmps:Array Value}{v:Value}{p:P}(h:cy F w G R tmps v p):cy F w G' R' tmps v (Ar ρ p):=by
 cases p with
 |when t b q=>exact h
 |_=>exact cy.of (nD hl h)
theorem PO(h:aB Q T F G w a s){keep:List Nat}{s':S}(hs:canon keep s=some s'): ∃G',aB Q T F G' w a s'/\Ext (Own G s.rg) (Own G' s'.rg) F F w w:=by
 unfold canon at hs;simp only at hs;split at hs
 next ov=>
  split at hs
  next R hR=>
   simp at hs;subst hs;obtain⟨h1,h2,h3⟩:=h.heap.sub hR ov;have hx3: ∀b,Own (λi=>G ((reach s.rg 1000 (VX keep s.tm) []).getD i 0)) R b->Own G s.rg b:=λb hb=>let ⟨n,e,_,he,hb⟩:=h3 b hb;⟨n,e,he,hb⟩;refine⟨_,h1.state rfl ⟨h.r0.1,λd hd=>let ⟨D,d1,d0,d2,d3,d4⟩:=h.r0.2 d hd;⟨D,d1,d0,d2,d3,λho=>d4 (hx3 D ho)⟩⟩ h.size (λt p hp=> ?_),⟨λ_ h=>h,λ_ h=> .inl h,λb hb=> ?_,λ_ _ _=>rfl,zai _,rfl,rfl,rfl⟩⟩
   ·obtain⟨q,hq,rfl⟩:=sG _ keep s.tm t p hp;exact(h.tm t q hq).Ar h2
   obtain⟨n,e,_,he,hb⟩:=h3 b hb;exact .inl ⟨n,e,he,hb⟩
  cases hs
 cases hs
end
end Pi
