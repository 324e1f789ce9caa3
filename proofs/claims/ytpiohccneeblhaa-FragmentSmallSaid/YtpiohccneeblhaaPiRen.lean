/- The text PiRen. -/
import Derived.Test.YtpiohccneeblhaaPiExec
namespace Pi
open Go
theorem fD(ρ:Nat->Nat->Option (Nat×Nat)): ∀(ps:List P) (i:Nat),(iK ρ ps)[i]?=(ps[i]?).map (nb ρ)
 | [],i=>by simp[iK]
 |p::ps,i=>by cases i with |zero=>simp[iK]|succ i=>simp[iK,fD ρ ps i]
theorem fE(ρ:Nat->Nat->Option (Nat×Nat)): ∀(ps:List P),(iK ρ ps).length=ps.length
 | []=>rfl
 |p::ps=>by simp[iK,fE ρ ps]
def vQ(G G':Nat->Value)(R R':List (Nat×En))(ρ:Nat->Nat->Option (Nat×Nat)):Prop:=
 ∀n v n' v',ρ n v=some (n',v')-> ∃e',lk R' n'=some e'/\v'<=e'.az/\(v'=e'.az->e'.obj.live=true->(∃e,lk R n=some e/\e.az=v/\e.obj.live=true)/\G' n'=G n)
theorem bP.link{G G':Nat->Value}{R R':List (Nat×En)}{ρ:Nat->Nat->Option (Nat×Nat)}(hl:vQ G G' R R' ρ){n v n' v':Nat}(hρ:ρ n v=some (n',v')){C:Value->Prop}(h:bP R n v (C (G n))):bP R' n' v' (C (G' n')):=by obtain⟨e',bb,hv,hc⟩:=hl n v n' v' hρ;refine⟨e',bb,hv,λh1 h2=> ?_⟩;obtain⟨⟨e,he,bN,Cb⟩,hG⟩:=hc h1 h2;rw[hG];exact h.at he bN Cb
theorem gS{F:Nat->Prop}{w:World}{G G':Nat->Value}{R R':List (Nat×En)}{ρ:Nat->Nat->Option (Nat×Nat)}(hl:vQ G G' R R' ρ){v:Value}{p:P}(h:ao F w G R v p):ao F w G' R' v (nb ρ p):=by
 induction h with
 |d h=>exact .d h
 |agg vs ps hlen fc _ ih=>refine .agg vs (iK ρ ps) (by rw[fE];exact hlen) fc (λi v c hv hc=> ?_);rw[fD] at hc;simp only[zaj] at hc;obtain⟨q,hq,rfl⟩:=hc;exact ih i v q hv hq
 |fL vs ps hlen _ ih=>refine .fL vs (iK ρ ps) (by rw[fE];exact hlen) (λi v c hv hc=> ?_);rw[fD] at hc;simp only[zaj] at hc;obtain⟨q,hq,rfl⟩:=hc;exact ih i v q hv hq
 |fn f vs ps hlen _ ih=>refine .fn f vs (iK ρ ps) (by rw[fE];exact hlen) (λi v c hv hc=> ?_);rw[fD] at hc;simp only[zaj] at hc;obtain⟨q,hq,rfl⟩:=hc;exact ih i v q hv hq
 |ref n az off v h h1=>
  simp only[nb];split
  next n' v' hρ=>exact .ref n' v' off v (bP.link (C:=λg=> ∃b,g= .pointer (some ⟨b,0,none⟩)/\v= .pointer (some ⟨b,off,none⟩)) hl hρ h) h1
  exact .bad _
 |bR n az i k off v h1 h=>
  simp only[nb];split
  next n' v' hρ=>exact .bR n' v' i k off v h1 (bP.link (C:=λg=> ∃b N cap,g= .slice (some ⟨b,0,none⟩) N cap/\v= .pointer (some ⟨b,i*k+off,none⟩)) hl hρ h)
  exact .bad _
 |dg x off b o hb aW f hw hr=>exact .dg x off b o hb aW f hw hr
 |sl n az len v h1 h=>
  simp only[nb];split
  next n' v' hρ=>exact .sl n' v' len v h1 (bP.link (C:=λg=> ∃a N cap,g= .slice a N cap/\v= .slice a len cap/\len<=N) hl hρ h)
  exact .bad _
 |hZ n az k off len v h1 h=>
  simp only[nb];split
  next n' v' hρ=>exact .hZ n' v' k off len v h1 (bP.link (C:=λg=> ∃a N cap,g= .slice a N cap/\off+len<=N/\ ∃a' dV,v= .slice a' len dV/\len<=dV/\(len=0\/ ∃b,a=some ⟨b,0,none⟩/\a'=some ⟨b,off*k,none⟩)) hl hρ h)
  exact .bad _
 |mp n az v h1 h=>
  simp only[nb];split
  next n' v' hρ=>exact .mp n' v' v h1 (bP.link (C:=λg=>v=g) hl hρ h)
  exact .bad _
 |hd n az v h1 h=>
  simp only[nb];split
  next n' v' hρ=>exact .hd n' v' v h1 (bP.link (C:=λg=> ∃b l,g= .tuple ⟨v::l⟩/\v= .pointer (some ⟨b,0,none⟩)) hl hρ h)
  exact .bad _
 |rf n az len v h1 h=>
  simp only[nb];split
  next n' v' hρ=>exact .rf n' v' len v h1 (bP.link (C:=λg=> ∃a N cap l,g= .tuple ⟨.slice a N cap::l⟩/\v= .slice a len cap/\len<=N) hl hρ h)
  exact .bad _
 |bad v=>exact .bad v
 |raw v=>exact .raw v
theorem vR(ρ:Nat->Nat->Option (Nat×Nat)): ∀(es:List (D×P)) (i:Nat),(oG ρ es)[i]?=(es[i]?).map λx=>(x.1,nb ρ x.2)
 | [],i=>by simp[oG]
 | (k,p)::es,i=>by cases i with |zero=>simp[oG]|succ i=>simp[oG,vR ρ es i]
theorem pZ(ρ:Nat->Nat->Option (Nat×Nat)): ∀(es:List (D×P)),(oG ρ es).length=es.length
 | []=>rfl
 | (k,p)::es=>by simp[oG,pZ ρ es]
theorem sv(ρ:Nat->Nat->Option (Nat×Nat)): ∀(es:List (D×P)),(oG ρ es).map (·.1)=es.map (·.1)
 | []=>rfl
 | (k,p)::es=>by simp[oG,sv ρ es]
theorem vS(ρ:Nat->Nat->Option (Nat×Nat))(k:D): ∀ks:List (D×P),eG k (oG ρ ks)=(eG k ks).map (nb ρ)
 | []=>rfl
 | (j,p)::r=>by have ih:=vS ρ k r;simp only[oG,eG,ih];cases D.cP j k<;>rfl
theorem fF(ρ:Nat->Nat->Option (Nat×Nat))(o:Obj):(dI ρ o).live=o.live:=by cases o<;>rfl
theorem kF(ρ:Nat->Nat->Option (Nat×Nat))(g:Value)(o:Obj):ay g (dI ρ o)=ay g o:=by cases o<;>rfl
theorem p7{Q:Program}{F:Nat->Prop}{w:World}{G G':Nat->Value}{R R':List (Nat×En)}{ρ:Nat->Nat->Option (Nat×Nat)}(hl:vQ G G' R R' ρ){n n':Nat}(hG:G' n'=G n){o:Obj}(h:eO Q F w G R n o):eO Q F w G' R' n' (dI ρ o):=by
 cases o with
 |gone=>trivial
 |bC ty es hd=>
  rcases h with⟨hg,he,hn⟩| ⟨b,cap,cs,k,hg,hh,h1,h2,h3,h4,h5,h6,h7⟩
  ·subst hn;exact .inl ⟨hG.trans hg,he,rfl⟩
  cases hd with
  |none=>exact .inr ⟨b,cap,cs,k,hG.trans hg,hh,h1,h2,h3,h4,h5,h6,λ_ _ _ h=>by cases h⟩
  |some y=>
   obtain⟨i0,j0,p0⟩:=y;refine .inr ⟨b,cap,cs,k,hG.trans hg,hh,h1,h2,h3,h4,h5,λi x hx=> ?_,λi j p hp=> ?_⟩
   ·obtain⟨a1,a2,a3⟩:=h6 i x hx;exact⟨a1,a2,λj c hc ca=>a3 j c hc λp e=>by cases e;exact ca _ rfl⟩
   cases hp;obtain⟨a1,a2,a3,a4⟩:=h7 _ _ _ rfl;exact⟨a1,a2,a3,gS hl a4⟩
 |deep x p=>obtain⟨v,bs,h1,h2⟩:=h;exact⟨v,bs,hG.trans h1,h2⟩
 |box T ps=>obtain⟨b,cs,hg,hh,h1,h2,h3⟩:=h;refine⟨b,cs,hG.trans hg,hh,by rw[fE];exact h1,h2,λi p hp=> ?_⟩;rw[fD] at hp;simp only[zaj] at hp;obtain⟨q,hq,rfl⟩:=hp;exact gS hl (h3 i q hq)
 |arr ty fz es=>
  rcases h with⟨hg,he⟩| ⟨b,cap,cs,k,hg,hh,h1,h2,h3,h4,h5,h6,h7⟩
  ·exact .inl ⟨hG.trans hg,he⟩
  exact .inr ⟨b,cap,cs,k,hG.trans hg,hh,h1,h2,h3,h4,h5,h6,h7⟩
 |map kt get c fz=>obtain⟨b,es,clock,hg,hh,h1,h2⟩:=h;exact⟨b,es,clock,hG.trans hg,hh,h1,h2⟩
 |fy=>trivial
 |fZ kt get c p kd=>obtain⟨b,es,clock,hg,hh,h1,i,e,h2,h3,h4⟩:=h;exact⟨b,es,clock,hG.trans hg,hh,h1,i,e,h2,gS hl h3,h4⟩
 |bS kt vals c hand=>
  obtain⟨b,es,clock,hg,hh,ks,⟨h1,h2,h3,h4⟩,h5,h6⟩:=h;refine⟨b,es,clock,hG.trans hg,hh,oG ρ ks,⟨by rw[pZ];exact h1,λi p e hp he=> ?_,by rw[sv];exact h3,h4⟩,by rw[pZ];exact h5,λk=> ?_⟩
  ·rw[vR] at hp;simp only[zaj] at hp;obtain⟨q,hq,rfl⟩:=hp;obtain⟨a,b,c⟩:=h2 i q e hq he;exact⟨a,b,gS hl c⟩
  rw[vS,h6 k];unfold zT;have hr:((vals k).map P.raw).map (nb ρ)=(vals k).map P.raw:=by cases vals k<;>rfl
  cases hand with
  |none=>exact hr
  |some y=>
   obtain⟨k0,p⟩:=y;simp only[Jw];cases D.cP k0 k with
   |true=>rfl
   |false=>exact hr
 |iter kt vt left cur=>obtain⟨b,mo,since,seen,last,hg,hh,h1⟩:=h;exact⟨b,mo,since,seen,last,hG.trans hg,hh,h1⟩
theorem gn: ∀(l:List Nat) (n:Nat),eV n l=true↔n∈l
 | [],n=>by simp[eV]
 |m::r,n=>by simp[eV,gn r n]
theorem cS: ∀(l:List Nat),cE l=true->l.Nodup
 | [],_=>zcg
 |n::r,h=>by simp only[cE,zad,zbn] at h;refine zax.2 ⟨λhm=> ?_,cS r h.2⟩;rw[(gn r n).2 hm] at h;cases h.1
theorem dY: ∀(l:List Nat) (n i0 i:Nat),posOf l n i0=some i->i0<=i/\l[i-i0]?=some n
 | [],n,i0,i,h=>by simp[posOf] at h
 |m::r,n,i0,i,h=>by
  simp only[posOf] at h;split at h
  next hm=>
   have hm:m=n:=by simpa using hm
   simp at h;subst h;subst hm;simp
  obtain⟨h1,h2⟩:=dY r n (i0+1) i h;refine⟨by omega,?_⟩;have e:i-i0=(i-(i0+1))+1:=by omega
  rw[e];simpa using h2
theorem lT: ∀(l:List Nat) (n i0:Nat),posOf l n i0=none->n∉l
 | [],n,i0,_=>by simp
 |m::r,n,i0,h=>by
  simp only[posOf] at h;split at h
  ·cases h
  rename_i hm;have hm: ¬m=n:=by simpa using hm
  have:=lT r n (i0+1) h;simp only[zan,zb0];exact⟨λe=>hm e.symm,this⟩
theorem dq{l:List Nat}(hY:l.Nodup){i n:Nat}(h:l[i]?=some n):posOf l n 0=some i:=by
 cases hp:posOf l n 0 with
 |none=>exact absurd (zak h) (lT l n 0 hp)
 |some j=>
  obtain⟨_,hj⟩:=dY l n 0 j hp;simp at hj;have h1:=(zaa.1 h).1;have h2:=(zaa.1 hj).1;have e1:=(zaa.1 h).2;have e2:=(zaa.1 hj).2;have Ox:=zbz.1 hY;rcases Nat.lt_trichotomy i j with bj |heq |Mi
  ·exact absurd (e1.trans e2.symm) (Ox i j h1 h2 bj)
  ·rw[heq]
  exact absurd (e2.trans e1.symm) (Ox j i h2 h1 Mi)
theorem x0(R:List (Nat×En))(ρ:Nat->Nat->Option (Nat×Nat))(tagged:Bool): ∀(ns:List Nat) (i0:Nat) (R':List (Nat×En)),sub R ρ tagged i0 ns=some R'->
  ∀j e',lk R' j=some e'-> ∃n e,i0<=j/\ns[j-i0]?=some n/\lk R n=some e/\e.obj.live=true/\e'=⟨0,if tagged then some j else e.tag,dI ρ e.obj⟩
 | [],i0,R',h,j,e',hj=>by simp[sub] at h;subst h;simp[lk] at hj
 |n::ns,i0,R',h,j,e',hj=>by
  simp only[sub] at h;split at h
  next e he=>
   split at h
   ·cases h
   ·rename_i r hr MB;simp at h;subst h;simp only[lk] at hj;split at hj
    ·rename_i ng;have ng:i0=j:=by simpa using ng
     subst ng;simp at hj;subst hj;refine⟨n,e,zae _,by simp,he,?_,rfl⟩;cases ho:e.obj<;>simp[Obj.live];exact MB ho
    obtain⟨n',e1,h1,h2,h3,h4,h5⟩:=x0 R ρ tagged ns (i0+1) r hr j e' hj;refine⟨n',e1,by omega,?_,h3,h4,h5⟩;have e2:j-i0=(j-(i0+1))+1:=by omega
    rw[e2];simpa using h2
   cases h
  cases h
theorem oY(R:List (Nat×En))(ρ:Nat->Nat->Option (Nat×Nat))(tagged:Bool): ∀(ns:List Nat) (i0:Nat) (R':List (Nat×En)),sub R ρ tagged i0 ns=some R'->
  ∀i n,ns[i]?=some n-> ∃e,lk R n=some e/\e.obj.live=true/\lk R' (i0+i)=some ⟨0,if tagged then some (i0+i) else e.tag,dI ρ e.obj⟩
 | [],i0,R',h,i,n,hi=>by simp at hi
 |m::ns,i0,R',h,i,n,hi=>by
  simp only[sub] at h;split at h
  next e he=>
   split at h
   ·cases h
   ·rename_i r hr MB;simp at h;subst h;cases i with
    |zero=>simp at hi;subst hi;refine⟨e,he,?_,by simp[lk]⟩;cases ho:e.obj<;>simp[Obj.live];exact MB ho
    |succ i=>
     obtain⟨e1,h1,h2,h3⟩:=oY R ρ tagged ns (i0+1) r hr i n (by simpa using hi);refine⟨e1,h1,h2,?_⟩;have e2:i0+1+i=i0+(i+1):=by omega
     rw[e2] at h3;have ca:Nat.beq i0 (i0+(i+1))=false:=by
      cases hb:Nat.beq i0 (i0+(i+1)) with
      |false=>rfl
      |true=>have:=zab hb;omega
     simp only[lk,ca];exact h3
   cases h
  cases h
def aL(Q:Program)(T:Tg)(F:Nat->Prop)(G:Nat->Value)(w:World)(R:List (Nat×En)):Prop:=aq Q T F G w ⟨#[],[]⟩ ⟨0,[],R⟩
section
variable{Q:Program}{T:Tg}{F:Nat->Prop}{G:Nat->Value}{w:World}{a:Act}{s:S}
theorem aq.heap(h:aq Q T F G w a s):aL Q T F G w s.rg:=
 ⟨.nil,za2 _,λt p hp=>by simp[lk] at hp,h.rg,h.own,h.gG,h.fw,h.tag,h.z,h.dr,h.sz⟩
theorem aL.state{R:List (Nat×En)}(h:aL Q T F G w R){a:Act}{s:S}(hR:s.rg=R)(hn:dP T F G R w a.defers)(hs:s.n<=a.tmps.size)(ht: ∀t p,lk s.tm t=some p->bt F w G s.rg a.tmps (a.tmps.getD t undef) p):aq Q T F G w a s:=by subst hR;exact⟨hn,hs,ht,h.rg,h.own,h.gG,h.fw,h.tag,h.z,h.dr,h.sz⟩
theorem aL.sub{R R':List (Nat×En)}(h:aL Q T F G w R){ns:List Nat}{tagged:Bool}(hs:sub R (toPos R ns) tagged 0 ns=some R')(hY:cE ns=true):
  aL Q (if tagged then⟨λi=>G (ns.getD i 0),T.w0,0,false⟩ else T) F (λi=>G (ns.getD i 0)) w R'/\vQ G (λi=>G (ns.getD i 0)) R R' (toPos R ns)/\
  (∀b,Own (λi=>G (ns.getD i 0)) R' b-> ∃n e,n∈ns/\lk R n=some e/\ay (G n) e.obj b):=by
 have E1:=cS ns hY;have sw:vQ G (λi=>G (ns.getD i 0)) R R' (toPos R ns):=by
  intro n v n' v' hρ;unfold toPos at hρ;split at hρ
  next i e hp he=>
   split at hρ
   ·rename_i hv;simp at hρ;obtain⟨rfl,rfl⟩:=hρ;obtain⟨_,hi⟩:=dY ns n 0 i hp;simp at hi;obtain⟨e1,h1,h2,h3⟩:=oY R _ tagged ns 0 R' hs i n hi;rw[zbK] at h3;refine⟨_,h3,zae _,λ_ _=>⟨⟨e1,h1,?_,h2⟩,?_⟩⟩
    ·rw[he] at h1;cases h1;simpa using hv
    simp[zaq,hi]
   cases hρ
  cases hρ
 have Bv: ∀j e',lk R' j=some e'-> ∃n e,ns[j]?=some n/\lk R n=some e/\e.obj.live=true/\e'=⟨0,if tagged then some j else e.tag,dI (toPos R ns) e.obj⟩/\G (ns.getD j 0)=G n:=λj e' hj=>by obtain⟨n,e,_,h2,h3,h4,h5⟩:=x0 R _ tagged ns 0 R' hs j e' hj;simp at h2;exact⟨n,e,h2,h3,h4,h5,by simp[zaq,h2]⟩
 refine⟨⟨.nil,za2 _,λt p hp=>by simp[lk] at hp,?_,?_,?_,h.fw,?_,?_,?_,?_⟩,sw,?_⟩
 ·intro j e' hj;obtain⟨n,e,_,h3,_,rfl,hG⟩:=Bv j e' hj;exact p7 sw hG (h.rg n e h3)
 ·intro j1 j2 e1 e2 b h1 h2 nf jT;obtain⟨n1,f1,g1,g2,_,rfl,Ls⟩:=Bv j1 e1 h1;obtain⟨n2,f2,k1,k2,_,rfl,Py⟩:=Bv j2 e2 h2;simp only[kF] at nf jT;rw[Ls] at nf;rw[Py] at jT;have:=h.own n1 n2 f1 f2 b g2 k2 nf jT;subst this;have p1:=dq E1 g1;have p2:=dq E1 k1;rw[p1] at p2;exact zal p2
 ·intro j e' b hj hb rA;obtain⟨n,e,_,h3,_,rfl,hG⟩:=Bv j e' hj;simp only[kF] at hb;rw[hG] at hb;exact h.gG n e b h3 hb rA
 ·intro j e' i hj hi hl;obtain⟨n,e,_,h3,h4,rfl,hG⟩:=Bv j e' hj;cases tagged with
  |true=>simp at hi;subst hi;exact .inl rfl
  |false=>simp only[zar,za3] at hi⊢;rw[hG];exact h.tag n e i h3 hi h4
 ·cases tagged<;>exact h.z
 ·cases tagged<;>exact h.dr
 ·cases tagged with
  |true=>exact za2 _
  |false=>exact h.sz
 rintro b ⟨j,e',hj,hb⟩;obtain⟨n,e,h2,h3,_,rfl,hG⟩:=Bv j e' hj;simp only[kF] at hb;rw[hG] at hb;exact⟨n,e,zak h2,h3,hb⟩
theorem mI(ρ:Nat->Nat->Option (Nat×Nat))(keep:List Nat): ∀(m:List (Nat×P)) (t:Nat) (p:P),lk (lA ρ keep m) t=some p-> ∃q,lk m t=some q/\p=nb ρ q
 | [],t,p,h=>by simp[lA,lk] at h
 | (t',q)::r,t,p,h=>by
  simp only[lA] at h;split at h
  next hm=>
   simp only[lk] at h⊢;split at h
   next ht=>simp at h;exact⟨q,by simp[ht],h.symm⟩
   rename_i ht;obtain⟨q',h1,h2⟩:=mI ρ keep r t p h;exact⟨q',by simpa [ht] using h1,h2⟩
  rename_i hm;obtain⟨q',h1,h2⟩:=mI ρ keep r t p h;have eD:eV t keep=true:=by
   clear h1 h2
   induction r with
   |nil=>simp[lA,lk] at h
   |cons x r ih=>
    obtain⟨t2,q2⟩:=x;simp only[lA] at h;split at h
    ·rename_i Ai;simp only[lk] at h;split at h
     ·rename_i sm;have:t2=t:=by simpa using sm
      rwa [<-this]
     exact ih h
    exact ih h
  have ca: ¬t'=t:=λe=>hm (by rw[e];exact eD);exact⟨q',by simp[lk,ca,h1],h2⟩
theorem bt.nb{F:Nat->Prop}{w:World}{G G':Nat->Value}{R R':List (Nat×En)}{ρ:Nat->Nat->Option (Nat×Nat)}(hl:vQ G G' R R' ρ){tmps:Array Value}{v:Value}{p:P}(h:bt F w G R tmps v p):bt F w G' R' tmps v (nb ρ p):=by
 cases p with
 |when t b q=>exact h
 |_=>exact bt.of (gS hl h)
theorem CL(h:aq Q T F G w a s){keep:List Nat}{s':S}(hs:canon keep s=some s'): ∃G',aq Q T F G' w a s'/\Ext (Own G s.rg) (Own G' s'.rg) F F w w:=by
 unfold canon at hs;simp only at hs;split at hs
 next hY=>
  split at hs
  next R hR=>
   simp at hs;subst hs;obtain⟨h1,h2,h3⟩:=h.heap.sub hR hY;have zk: ∀b,Own (λi=>G ((reach s.rg 1000 (EA keep s.tm) []).getD i 0)) R b->Own G s.rg b:=λb hb=>let ⟨n,e,_,he,hb⟩:=h3 b hb;⟨n,e,he,hb⟩;refine⟨_,h1.state rfl ⟨h.mf.1,λd hd=>let ⟨D,d1,d0,d2,d3,d4⟩:=h.mf.2 d hd;⟨D,d1,d0,d2,d3,λho=>d4 (zk D ho)⟩⟩ h.size (λt p hp=> ?_),⟨λ_ h=>h,λ_ h=> .inl h,λb hb=> ?_,λ_ _ _=>rfl,zae _,rfl,rfl,rfl⟩⟩
   ·obtain⟨q,hq,rfl⟩:=mI _ keep s.tm t p hp;exact(h.tm t q hq).nb h2
   obtain⟨n,e,_,he,hb⟩:=h3 b hb;exact .inl ⟨n,e,he,hb⟩
  cases hs
 cases hs
end
end Pi
