/- The text PiRen. -/
import Derived.Test.YtdgkdigdflkjhaaGreatDoorPiExec
namespace Pi
open Go
theorem jM ρ: ∀(ps:List P) (i:Nat),(nY ρ ps)[i]?=(ps[i]?).map (Df ρ)
 | [],i=>by simp[nY]
 |p::ps,i=>by cases i with |zero=>simp[nY]|succ i=>simp[nY,jM ρ ps i]
theorem jN ρ: ∀ps,(nY ρ ps).length=ps.length
 | []=>rfl
 |p::ps=>by simp[nY,jN ρ ps]
def Ie(G G':Nat->Value)(R R':List (Nat×En))(ρ:Nat->Nat->Option (Nat×Nat)):=
 ∀n v n' v',ρ n v=some (n',v')-> ∃e',lk R' n'=some e'/\v'<=e'.aV/\(v'=e'.aV->e'.obj.live=true->(∃e,lk R n=some e/\e.aV=v/\e.obj.live=true)/\G' n'=G n)
theorem eL.link{G G' R R' ρ}(hl:Ie G G' R R' ρ){n v n' v'}(hρ:ρ n v=some (n',v')){C:Value->Prop}(h:eL R n v (C (G n))):eL R' n' v' (C (G' n')):=by obtain⟨e',cR,hv,hc⟩:=hl n v n' v' hρ;refine⟨e',cR,hv,λh1 h2=> ?_⟩;obtain⟨⟨e,he,eb,Sw⟩,hG⟩:=hc h1 h2;rw[hG];exact h.at he eb Sw
theorem pb{F w G G' R R'}{ρ}(hl:Ie G G' R R' ρ){v p}(h:aH F w G R v p):aH F w G' R' v (Df ρ p):=by
 induction h with
 |d h=>exact .d h
 |agg vs ps hlen jk _ ih=>refine .agg vs (nY ρ ps) (by rw[jN];exact hlen) jk (λi v c hv hc=> ?_);rw[jM] at hc;simp only[zay] at hc;obtain⟨q,hq,rfl⟩:=hc;exact ih i v q hv hq
 |dz vs ps hlen _ ih=>refine .dz vs (nY ρ ps) (by rw[jN];exact hlen) (λi v c hv hc=> ?_);rw[jM] at hc;simp only[zay] at hc;obtain⟨q,hq,rfl⟩:=hc;exact ih i v q hv hq
 |fn f vs ps hlen _ ih=>refine .fn f vs (nY ρ ps) (by rw[jN];exact hlen) (λi v c hv hc=> ?_);rw[jM] at hc;simp only[zay] at hc;obtain⟨q,hq,rfl⟩:=hc;exact ih i v q hv hq
 |ref n aV off v h h1=>
  simp only[Df];split
  next n' v' hρ=>exact .ref n' v' off v (eL.link (C:=λg=> ∃b,g= .pointer (some ⟨b,0,none⟩)/\v= .pointer (some ⟨b,off,none⟩)) hl hρ h) h1
  exact .bad _
 |dJ n aV i k off v h1 h=>
  simp only[Df];split
  next n' v' hρ=>exact .dJ n' v' i k off v h1 (eL.link (C:=λg=> ∃b N cap,g= .slice (some ⟨b,0,none⟩) N cap/\v= .pointer (some ⟨b,i*k+off,none⟩)) hl hρ h)
  exact .bad _
 |fh x off b o hb cm f hw hr=>exact .fh x off b o hb cm f hw hr
 |sl n aV len v h1 h=>
  simp only[Df];split
  next n' v' hρ=>exact .sl n' v' len v h1 (eL.link (C:=λg=> ∃a N cap,g= .slice a N cap/\v= .slice a len cap/\len<=N) hl hρ h)
  exact .bad _
 |mG n aV k off len v h1 h=>
  simp only[Df];split
  next n' v' hρ=>exact .mG n' v' k off len v h1 (eL.link (C:=λg=> ∃a N cap,g= .slice a N cap/\off+len<=N/\ ∃a' jl,v= .slice a' len jl/\len<=jl/\(len=0\/ ∃b,a=some ⟨b,0,none⟩/\a'=some ⟨b,off*k,none⟩)) hl hρ h)
  exact .bad _
 |mp n aV v h1 h=>
  simp only[Df];split
  next n' v' hρ=>exact .mp n' v' v h1 (eL.link (C:=λg=>v=g) hl hρ h)
  exact .bad _
 |bad v=>exact .bad v
theorem mT ρ o:(gq ρ o).live=o.live:=by cases o<;>rfl
theorem qL ρ g o:bB g (gq ρ o)=bB g o:=by cases o<;>rfl
theorem zU{Q F w G G'}{R R' ρ}(hl:Ie G G' R R' ρ){n n'}(hG:G' n'=G n){o}(h:pZ Q F w G R n o):pZ Q F w G' R' n' (gq ρ o):=by
 cases o with
 |gone=>trivial
 |box T ps=>obtain⟨b,cs,hg,hh,h1,h2,h3⟩:=h;refine⟨b,cs,hG.trans hg,hh,by rw[jN];exact h1,h2,λi p hp=> ?_⟩;rw[jM] at hp;simp only[zay] at hp;obtain⟨q,hq,rfl⟩:=hp;exact pb hl (h3 i q hq)
 |arr ty fz es=>
  rcases h with⟨hg,he⟩| ⟨b,cap,cs,k,hg,hh,h1,h2,h3,h4,h5,h6,h7⟩
  ·exact .inl ⟨hG.trans hg,he⟩
  exact .inr ⟨b,cap,cs,k,hG.trans hg,hh,h1,h2,h3,h4,h5,h6,h7⟩
 |map kt get c fz=>obtain⟨b,es,clock,hg,hh,h1,h2⟩:=h;exact⟨b,es,clock,hG.trans hg,hh,h1,h2⟩
 |eJ=>trivial
 |kM kt get c p kd=>obtain⟨b,es,clock,hg,hh,h1,i,e,h2,h3,h4⟩:=h;exact⟨b,es,clock,hG.trans hg,hh,h1,i,e,h2,pb hl h3,h4⟩
 |iter kt vt left cur=>obtain⟨b,mo,since,seen,last,hg,hh,h1⟩:=h;exact⟨b,mo,since,seen,last,hG.trans hg,hh,h1⟩
theorem lb: ∀l n,iw n l=true↔n∈l
 | [],n=>by simp[iw]
 |m::r,n=>by simp[iw,lb r n]
theorem dO: ∀l,ez l=true->l.Nodup
 | [],_=>List.nodup_nil
 |n::r,h=>by simp only[ez,zac,zbv] at h;refine za9.2 ⟨λhm=> ?_,dO r h.2⟩;rw[(lb r n).2 hm] at h;cases h.1
theorem gY: ∀l n i0 i,posOf l n i0=some i->i0<=i/\l[i-i0]?=some n
 | [],n,i0,i,h=>by simp[posOf] at h
 |m::r,n,i0,i,h=>by
  simp only[posOf] at h;split at h
  next hm=>
   have hm:m=n:=by simpa using hm
   simp at h;subst h;subst hm;simp
  obtain⟨h1,h2⟩:=gY r n (i0+1) i h;refine⟨by omega,?_⟩;have e:i-i0=(i-(i0+1))+1:=by omega
  rw[e];simpa using h2
theorem tc: ∀l n i0,posOf l n i0=none->n∉l
 | [],n,i0,_=>by simp
 |m::r,n,i0,h=>by
  simp only[posOf] at h;split at h
  ·cases h
  rename_i hm;have hm: ¬m=n:=by simpa using hm
  have:=tc r n (i0+1) h;simp only[zat,zcX];exact⟨λe=>hm e.symm,this⟩
theorem fC{l}(oO:l.Nodup){i n}(h:l[i]?=some n):posOf l n 0=some i:=by
 cases hp:posOf l n 0 with
 |none=>exact absurd (zaA h) (tc l n 0 hp)
 |some j=>
  obtain⟨_,hj⟩:=gY l n 0 j hp;simp at hj;have h1:=(zae.1 h).1;have h2:=(zae.1 hj).1;have e1:=(zae.1 h).2;have e2:=(zae.1 hj).2;have hpw:=zbb.1 oO;rcases zdi i j with bK |heq |hgt
  ·exact absurd (e1.trans e2.symm) (hpw i j h1 h2 bK)
  ·rw[heq]
  exact absurd (e2.trans e1.symm) (hpw j i h2 h1 hgt)
theorem LM R ρ tagged: ∀ns i0 R',sub R ρ tagged i0 ns=some R'->
  ∀j e',lk R' j=some e'-> ∃n e,i0<=j/\ns[j-i0]?=some n/\lk R n=some e/\e.obj.live=true/\e'=⟨0,if tagged then some j else e.tag,gq ρ e.obj⟩
 | [],i0,R',h,j,e',hj=>by simp[sub] at h;subst h;simp[lk] at hj
 |n::ns,i0,R',h,j,e',hj=>by
  simp only[sub] at h;split at h
  next e he=>
   split at h
   ·cases h
   ·rename_i r hr hng;simp at h;subst h;simp only[lk] at hj;split at hj
    ·rename_i rY;have rY:i0=j:=by simpa using rY
     subst rY;simp at hj;subst hj;refine⟨n,e,zal _,by simp,he,?_,rfl⟩;cases ho:e.obj<;>simp[Obj.live];exact hng ho
    obtain⟨n',e1,h1,h2,h3,h4,h5⟩:=LM R ρ tagged ns (i0+1) r hr j e' hj;refine⟨n',e1,by omega,?_,h3,h4,h5⟩;have e2:j-i0=(j-(i0+1))+1:=by omega
    rw[e2];simpa using h2
   cases h
  cases h
theorem yH R ρ tagged: ∀ns i0 R',sub R ρ tagged i0 ns=some R'->
  ∀i n,ns[i]?=some n-> ∃e,lk R n=some e/\e.obj.live=true/\lk R' (i0+i)=some ⟨0,if tagged then some (i0+i) else e.tag,gq ρ e.obj⟩
 | [],i0,R',h,i,n,hi=>by simp at hi
 |m::ns,i0,R',h,i,n,hi=>by
  simp only[sub] at h;split at h
  next e he=>
   split at h
   ·cases h
   ·rename_i r hr hng;simp at h;subst h;cases i with
    |zero=>simp at hi;subst hi;refine⟨e,he,?_,by simp[lk]⟩;cases ho:e.obj<;>simp[Obj.live];exact hng ho
    |succ i=>
     obtain⟨e1,h1,h2,h3⟩:=yH R ρ tagged ns (i0+1) r hr i n (by simpa using hi);refine⟨e1,h1,h2,?_⟩;have e2:i0+1+i=i0+(i+1):=by omega
     rw[e2] at h3;have cO:Nat.beq i0 (i0+(i+1))=false:=by
      cases hb:Nat.beq i0 (i0+(i+1)) with
      |false=>rfl
      |true=>have:=zag hb;omega
     simp only[lk,cO];exact h3
   cases h
  cases h
def fX Q T F G w R:=aC Q T F G w ⟨#[],[]⟩ ⟨0,[],R⟩
section
variable{Q:Program}{T:Tg}{F:Nat->Prop}{G:Nat->Value}{w:World}{a:Act}{s:S}
theorem aC.heap(h:aC Q T F G w a s):fX Q T F G w s.rg:=
 ⟨.nil,zbd _,λt p hp=>by simp[lk] at hp,h.rg,h.own,h.nA,h.jE,h.tag,h.z,h.dr,h.sz⟩
theorem fX.state{R}(h:fX Q T F G w R){a s}(hR:s.rg=R)(hn:jD T F G R w a.defers)(hs:s.n<=a.tmps.size)(ht: ∀t p,lk s.tm t=some p->cE F w G s.rg a.tmps (a.tmps.getD t undef) p):aC Q T F G w a s:=by subst hR;exact⟨hn,hs,ht,h.rg,h.own,h.nA,h.jE,h.tag,h.z,h.dr,h.sz⟩
theorem fX.sub{R R'}(h:fX Q T F G w R){ns tagged}(hs:sub R (toPos R ns) tagged 0 ns=some R')(oO:ez ns=true):
  fX Q (if tagged then⟨λi=>G (ns.getD i 0),T.w0,0,false⟩ else T) F (λi=>G (ns.getD i 0)) w R'/\Ie G (λi=>G (ns.getD i 0)) R R' (toPos R ns)/\
  (∀b,Own (λi=>G (ns.getD i 0)) R' b-> ∃n e,n∈ns/\lk R n=some e/\bB (G n) e.obj=some b):=by
 have qas:=dO ns oO;have DA:Ie G (λi=>G (ns.getD i 0)) R R' (toPos R ns):=by
  intro n v n' v' hρ;unfold toPos at hρ;split at hρ
  next i e hp he=>
   split at hρ
   ·rename_i hv;simp at hρ;obtain⟨rfl,rfl⟩:=hρ;obtain⟨_,hi⟩:=gY ns n 0 i hp;simp at hi;obtain⟨e1,h1,h2,h3⟩:=yH R _ tagged ns 0 R' hs i n hi;rw[zaD] at h3;refine⟨_,h3,zal _,λ_ _=>⟨⟨e1,h1,?_,h2⟩,?_⟩⟩
    ·rw[he] at h1;cases h1;simpa using hv
    simp[zab,hi]
   cases hρ
  cases hρ
 have Sx: ∀j e',lk R' j=some e'-> ∃n e,ns[j]?=some n/\lk R n=some e/\e.obj.live=true/\e'=⟨0,if tagged then some j else e.tag,gq (toPos R ns) e.obj⟩/\G (ns.getD j 0)=G n:=λj e' hj=>by obtain⟨n,e,_,h2,h3,h4,h5⟩:=LM R _ tagged ns 0 R' hs j e' hj;simp at h2;exact⟨n,e,h2,h3,h4,h5,by simp[zab,h2]⟩
 refine⟨⟨.nil,zbd _,λt p hp=>by simp[lk] at hp,?_,?_,?_,h.jE,?_,?_,?_,?_⟩,DA,?_⟩
 ·intro j e' hj;obtain⟨n,e,_,h3,_,rfl,hG⟩:=Sx j e' hj;exact zU DA hG (h.rg n e h3)
 ·intro j1 j2 e1 e2 b h1 h2 la cP;obtain⟨n1,f1,g1,g2,_,rfl,hG1⟩:=Sx j1 e1 h1;obtain⟨n2,f2,k1,k2,_,rfl,hG2⟩:=Sx j2 e2 h2;simp only[qL] at la cP;rw[hG1] at la;rw[hG2] at cP;have:=h.own n1 n2 f1 f2 b g2 k2 la cP;subst this;have p1:=fC qas g1;have p2:=fC qas k1;rw[p1] at p2;exact zbQ p2
 ·intro j e' b hj hb Ct;obtain⟨n,e,_,h3,_,rfl,hG⟩:=Sx j e' hj;simp only[qL] at hb;rw[hG] at hb;exact h.nA n e b h3 hb Ct
 ·intro j e' i hj hi hl;obtain⟨n,e,_,h3,h4,rfl,hG⟩:=Sx j e' hj;cases tagged with
  |true=>simp at hi;subst hi;rfl
  |false=>simp only[zaE,zbn] at hi⊢;rw[hG];exact h.tag n e i h3 hi h4
 ·cases tagged<;>exact h.z
 ·cases tagged<;>exact h.dr
 ·cases tagged with
  |true=>exact zbd _
  |false=>exact h.sz
 rintro b ⟨j,e',hj,hb⟩;obtain⟨n,e,h2,h3,_,rfl,hG⟩:=Sx j e' hj;simp only[qL] at hb;rw[hG] at hb;exact⟨n,e,zaA h2,h3,hb⟩
theorem uD ρ keep: ∀m t p,lk (sj ρ keep m) t=some p-> ∃q,lk m t=some q/\p=Df ρ q
 | [],t,p,h=>by simp[sj,lk] at h
 | (t',q)::r,t,p,h=>by
  simp only[sj] at h;split at h
  next hm=>
   simp only[lk] at h⊢;split at h
   next ht=>simp at h;exact⟨q,by simp[ht],h.symm⟩
   rename_i ht;obtain⟨q',h1,h2⟩:=uD ρ keep r t p h;exact⟨q',by simpa [ht] using h1,h2⟩
  rename_i hm;obtain⟨q',h1,h2⟩:=uD ρ keep r t p h;have dB:iw t keep=true:=by
   clear h1 h2
   induction r with
   |nil=>simp[sj,lk] at h
   |cons x r ih=>
    obtain⟨t2,q2⟩:=x;simp only[sj] at h;split at h
    ·rename_i H6;simp only[lk] at h;split at h
     ·rename_i Dx;have:t2=t:=by simpa using Dx
      rwa [<-this]
     exact ih h
    exact ih h
  have cO: ¬t'=t:=λe=>hm (by rw[e];exact dB);exact⟨q',by simp[lk,cO,h1],h2⟩
theorem cE.Df{F w G G' R R'}{ρ}(hl:Ie G G' R R' ρ){tmps v p}(h:cE F w G R tmps v p):cE F w G' R' tmps v (Df ρ p):=by
 cases p with
 |when t b q=>exact h
 |_=>exact cE.of (pb hl h)
theorem Uk(h:aC Q T F G w a s){keep s'}(hs:canon keep s=some s'): ∃G',aC Q T F G' w a s'/\Ext (Own G s.rg) (Own G' s'.rg) F F w w:=by
 unfold canon at hs;simp only at hs;split at hs
 next oO=>
  split at hs
  next R hR=>
   simp at hs;subst hs;obtain⟨h1,h2,h3⟩:=h.heap.sub hR oO;have hx3: ∀b,Own (λi=>G ((reach s.rg 1000 (qac keep s.tm) []).getD i 0)) R b->Own G s.rg b:=λb hb=>let ⟨n,e,_,he,hb⟩:=h3 b hb;⟨n,e,he,hb⟩;refine⟨_,h1.state rfl ⟨h.s7.1,λd hd=>let ⟨D,d1,d0,d2,d3,d4⟩:=h.s7.2 d hd;⟨D,d1,d0,d2,d3,λho=>d4 (hx3 D ho)⟩⟩ h.size (λt p hp=> ?_),⟨λ_ h=>h,λ_ h=> .inl h,λb hb=> ?_,λ_ _ _=>rfl,zal _,rfl,rfl,rfl⟩⟩
   ·obtain⟨q,hq,rfl⟩:=uD _ keep s.tm t p hp;exact(h.tm t q hq).Df h2
   obtain⟨n,e,_,he,hb⟩:=h3 b hb;exact .inl ⟨n,e,he,hb⟩
  cases hs
 cases hs
end
end Pi
