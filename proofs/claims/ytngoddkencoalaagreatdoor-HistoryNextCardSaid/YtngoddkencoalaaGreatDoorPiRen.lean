/- The text PiRen. -/
import Derived.Test.YtngoddkencoalaaGreatDoorPiExec
namespace Pi
open Go
theorem jn (ρ:Nat->Nat->Option (Nat×Nat)): ∀(ps:List P) (i:Nat),(mz ρ ps)[i]?=(ps[i]?).map (Av ρ)
 | [],i=>by simp[mz]
 |p::ps,i=>by cases i with |zero=>simp[mz]|succ i=>simp[mz,jn ρ ps i]
theorem jo (ρ:Nat->Nat->Option (Nat×Nat)): ∀(ps:List P),(mz ρ ps).length=ps.length
 | []=>rfl
 |p::ps=>by simp[mz,jo ρ ps]
def EK (G G':Nat->Value) (R R':List (Nat×En)) (ρ:Nat->Nat->Option (Nat×Nat)):Prop:=
 ∀n v n' v',ρ n v=some (n',v')-> ∃e',lk R' n'=some e'/\v'<=e'.aX/\(v'=e'.aX->e'.obj.live=true->(∃e,lk R n=some e/\e.aX=v/\e.obj.live=true)/\G' n'=G n)
theorem ez.link {G G':Nat->Value} {R R':List (Nat×En)} {ρ:Nat->Nat->Option (Nat×Nat)} (hl:EK G G' R R' ρ) {n v n' v':Nat} (hρ:ρ n v=some (n',v')) {C:Value->Prop} (h:ez R n v (C (G n))):ez R' n' v' (C (G' n')):=by
 obtain⟨e',cI,hv,hc⟩:=hl n v n' v' hρ
 refine⟨e',cI,hv,fun h1 h2=> ?_⟩
 obtain⟨⟨e,he,dP,N5⟩,hG⟩:=hc h1 h2
 rw[hG]
 exact h.at he dP N5
theorem nB {F:Nat->Prop} {w:World} {G G':Nat->Value} {R R':List (Nat×En)} {ρ:Nat->Nat->Option (Nat×Nat)} (hl:EK G G' R R' ρ) {v:Value} {p:P} (h:aF F w G R v p):aF F w G' R' v (Av ρ p):=by
 induction h with
 |d h=>exact .d h
 |agg vs ps hlen ij _ ih=>
  refine .agg vs (mz ρ ps) (by rw[jo];exact hlen) ij (fun i v c hv hc=> ?_)
  rw[jn] at hc
  simp only[zaw] at hc
  obtain⟨q,hq,rfl⟩:=hc
  exact ih i v q hv hq
 |cV vs ps hlen _ ih=>
  refine .cV vs (mz ρ ps) (by rw[jo];exact hlen) (fun i v c hv hc=> ?_)
  rw[jn] at hc
  simp only[zaw] at hc
  obtain⟨q,hq,rfl⟩:=hc
  exact ih i v q hv hq
 |fn f vs ps hlen _ ih=>
  refine .fn f vs (mz ρ ps) (by rw[jo];exact hlen) (fun i v c hv hc=> ?_)
  rw[jn] at hc
  simp only[zaw] at hc
  obtain⟨q,hq,rfl⟩:=hc
  exact ih i v q hv hq
 |ref n aX off v h h1=>
  simp only[Av]
  split
  ·rename_i n' v' hρ
   exact .ref n' v' off v (ez.link (C:=fun g=> ∃b,g= .pointer (some ⟨b,0,none⟩)/\v= .pointer (some ⟨b,off,none⟩)) hl hρ h) h1
  ·exact .bad _
 |dx n aX i k off v h1 h=>
  simp only[Av]
  split
  ·rename_i n' v' hρ
   exact .dx n' v' i k off v h1 (ez.link (C:=fun g=> ∃b N cap,g= .slice (some ⟨b,0,none⟩) N cap/\v= .pointer (some ⟨b,i*k+off,none⟩)) hl hρ h)
  ·exact .bad _
 |eZ x off b o hb ca f hw hr=>exact .eZ x off b o hb ca f hw hr
 |sl n aX len v h1 h=>
  simp only[Av]
  split
  ·rename_i n' v' hρ
   exact .sl n' v' len v h1 (ez.link (C:=fun g=> ∃a N cap,g= .slice a N cap/\v= .slice a len cap/\len<=N) hl hρ h)
  ·exact .bad _
 |lC n aX k off len v h1 h=>
  simp only[Av]
  split
  ·rename_i n' v' hρ
   exact .lC n' v' k off len v h1 (ez.link (C:=fun g=> ∃a N cap,g= .slice a N cap/\off+len<=N/\ ∃a' iJ,v= .slice a' len iJ/\len<=iJ/\(len=0\/ ∃b,a=some ⟨b,0,none⟩/\a'=some ⟨b,off*k,none⟩)) hl hρ h)
  ·exact .bad _
 |mp n aX v h1 h=>
  simp only[Av]
  split
  ·rename_i n' v' hρ
   exact .mp n' v' v h1 (ez.link (C:=fun g=>v=g) hl hρ h)
  ·exact .bad _
 |bad v=>exact .bad v
theorem lQ (ρ:Nat->Nat->Option (Nat×Nat)) (o:Obj):(fS ρ o).live=o.live:=by cases o<;>rfl
theorem pj (ρ:Nat->Nat->Option (Nat×Nat)) (g:Value) (o:Obj):bF g (fS ρ o)=bF g o:=by cases o<;>rfl
theorem xl {Q:Program} {F:Nat->Prop} {w:World} {G G':Nat->Value} {R R':List (Nat×En)} {ρ:Nat->Nat->Option (Nat×Nat)} (hl:EK G G' R R' ρ) {n n':Nat} (hG:G' n'=G n) {o:Obj} (h:ot Q F w G R n o):ot Q F w G' R' n' (fS ρ o):=by
 cases o with
 |gone=>trivial
 |box T ps=>
  obtain⟨b,cs,hg,hh,h1,h2,h3⟩:=h
  refine⟨b,cs,hG.trans hg,hh,by rw[jo];exact h1,h2,fun i p hp=> ?_⟩
  rw[jn] at hp
  simp only[zaw] at hp
  obtain⟨q,hq,rfl⟩:=hp
  exact nB hl (h3 i q hq)
 |arr ty fz es=>
  rcases h with⟨hg,he⟩| ⟨b,cap,cs,k,hg,hh,h1,h2,h3,h4,h5,h6,h7⟩
  ·exact .inl ⟨hG.trans hg,he⟩
  ·exact .inr ⟨b,cap,cs,k,hG.trans hg,hh,h1,h2,h3,h4,h5,h6,h7⟩
 |map kt get c fz=>
  obtain⟨b,es,clock,hg,hh,h1,h2⟩:=h
  exact⟨b,es,clock,hG.trans hg,hh,h1,h2⟩
 |ew=>trivial
 |jZ kt get c p kd=>
  obtain⟨b,es,clock,hg,hh,h1,i,e,h2,h3,h4⟩:=h
  exact⟨b,es,clock,hG.trans hg,hh,h1,i,e,h2,nB hl h3,h4⟩
 |iter kt vt left cur=>
  obtain⟨b,mo,since,seen,last,hg,hh,h1⟩:=h
  exact⟨b,mo,since,seen,last,hG.trans hg,hh,h1⟩
theorem kx: ∀(l:List Nat) (n:Nat),gR n l=true↔n∈l
 | [],n=>by simp[gR]
 |m::r,n=>by simp[gR,kx r n]
theorem dD: ∀(l:List Nat),dU l=true->l.Nodup
 | [],_=>List.nodup_nil
 |n::r,h=>by
  simp only[dU,zab,zbs] at h
  refine za7.2 ⟨fun hm=> ?_,dD r h.2⟩
  rw[(kx r n).2 hm] at h
  cases h.1
theorem gy: ∀(l:List Nat) (n i0 i:Nat),posOf l n i0=some i->i0<=i/\l[i-i0]?=some n
 | [],n,i0,i,h=>by simp[posOf] at h
 |m::r,n,i0,i,h=>by
  simp only[posOf] at h
  split at h
  ·rename_i hm
   have hm:m=n:=by simpa using hm
   simp at h
   subst h
   subst hm
   simp
  ·obtain⟨h1,h2⟩:=gy r n (i0+1) i h
   refine⟨by omega,?_⟩
   have e:i-i0=(i-(i0+1))+1:=by omega
   rw[e]
   simpa using h2
theorem ri: ∀(l:List Nat) (n i0:Nat),posOf l n i0=none->n∉l
 | [],n,i0,_=>by simp
 |m::r,n,i0,h=>by
  simp only[posOf] at h
  split at h
  ·cases h
  ·rename_i hm
   have hm: ¬m=n:=by simpa using hm
   have:=ri r n (i0+1) h
   simp only[zav,zcI]
   exact⟨fun e=>hm e.symm,this⟩
theorem fh {l:List Nat} (ky:l.Nodup) {i n:Nat} (h:l[i]?=some n):posOf l n 0=some i:=by
 cases hp:posOf l n 0 with
 |none=>exact absurd (zaC h) (ri l n 0 hp)
 |some j=>
  obtain⟨_,hj⟩:=gy l n 0 j hp
  simp at hj
  have h1:=(zad.1 h).1
  have h2:=(zad.1 hj).1
  have e1:=(zad.1 h).2
  have e2:=(zad.1 hj).2
  have hpw:=zbi.1 ky
  rcases Nat.lt_trichotomy i j with bG |heq |hgt
  ·exact absurd (e1.trans e2.symm) (hpw i j h1 h2 bG)
  ·rw[heq]
  ·exact absurd (e2.trans e1.symm) (hpw j i h2 h1 hgt)
theorem HV (R:List (Nat×En)) (ρ:Nat->Nat->Option (Nat×Nat)) (tagged:Bool): ∀(ns:List Nat) (i0:Nat) (R':List (Nat×En)),sub R ρ tagged i0 ns=some R'->
  ∀j e',lk R' j=some e'-> ∃n e,i0<=j/\ns[j-i0]?=some n/\lk R n=some e/\e.obj.live=true/\e'=⟨0,if tagged then some j else e.tag,fS ρ e.obj⟩
 | [],i0,R',h,j,e',hj=>by simp[sub] at h;subst h;simp[lk] at hj
 |n::ns,i0,R',h,j,e',hj=>by
  simp only[sub] at h
  split at h
  ·rename_i e he
   split at h
   ·cases h
   ·rename_i r hr hng
    simp at h
    subst h
    simp only[lk] at hj
    split at hj
    ·rename_i qq
     have qq:i0=j:=by simpa using qq
     subst qq
     simp at hj
     subst hj
     refine⟨n,e,zaj _,by simp,he,?_,rfl⟩
     cases ho:e.obj<;>simp[Obj.live]
     exact hng ho
    ·obtain⟨n',e1,h1,h2,h3,h4,h5⟩:=HV R ρ tagged ns (i0+1) r hr j e' hj
     refine⟨n',e1,by omega,?_,h3,h4,h5⟩
     have e2:j-i0=(j-(i0+1))+1:=by omega
     rw[e2]
     simpa using h2
   ·cases h
  ·cases h
theorem wh (R:List (Nat×En)) (ρ:Nat->Nat->Option (Nat×Nat)) (tagged:Bool): ∀(ns:List Nat) (i0:Nat) (R':List (Nat×En)),sub R ρ tagged i0 ns=some R'->
  ∀i n,ns[i]?=some n-> ∃e,lk R n=some e/\e.obj.live=true/\lk R' (i0+i)=some ⟨0,if tagged then some (i0+i) else e.tag,fS ρ e.obj⟩
 | [],i0,R',h,i,n,hi=>by simp at hi
 |m::ns,i0,R',h,i,n,hi=>by
  simp only[sub] at h
  split at h
  ·rename_i e he
   split at h
   ·cases h
   ·rename_i r hr hng
    simp at h
    subst h
    cases i with
    |zero=>
     simp at hi
     subst hi
     refine⟨e,he,?_,by simp[lk]⟩
     cases ho:e.obj<;>simp[Obj.live]
     exact hng ho
    |succ i=>
     obtain⟨e1,h1,h2,h3⟩:=wh R ρ tagged ns (i0+1) r hr i n (by simpa using hi)
     refine⟨e1,h1,h2,?_⟩
     have e2:i0+1+i=i0+(i+1):=by omega
     rw[e2] at h3
     have dG:Nat.beq i0 (i0+(i+1))=false:=by
      cases hb:Nat.beq i0 (i0+(i+1)) with
      |false=>rfl
      |true=>have:=zaf hb;omega
     simp only[lk,dG]
     exact h3
   ·cases h
  ·cases h
def fG (Q:Program) (T:Tg) (F:Nat->Prop) (G:Nat->Value) (w:World) (R:List (Nat×En)):Prop:=aC Q T F G w ⟨#[],[]⟩ ⟨0,[],R⟩
section
variable {Q:Program} {T:Tg} {F:Nat->Prop} {G:Nat->Value} {w:World} {a:Act} {s:S}
theorem aC.heap (h:aC Q T F G w a s):fG Q T F G w s.rg:=
 ⟨.nil,za5 _,fun t p hp=>by simp[lk] at hp,h.rg,h.own,h.mq,h.jm,h.tag,h.z,h.dr,h.sz⟩
theorem fG.state {R:List (Nat×En)} (h:fG Q T F G w R) {a:Act} {s:S} (hR:s.rg=R) (hn:je T F G R w a.defers) (hs:s.n<=a.tmps.size) (ht: ∀t p,lk s.tm t=some p->ct F w G s.rg a.tmps (a.tmps.getD t undef) p):aC Q T F G w a s:=by
 subst hR
 exact⟨hn,hs,ht,h.rg,h.own,h.mq,h.jm,h.tag,h.z,h.dr,h.sz⟩
theorem fG.sub {R R':List (Nat×En)} (h:fG Q T F G w R) {ns:List Nat} {tagged:Bool} (hs:sub R (toPos R ns) tagged 0 ns=some R') (ky:dU ns=true):
  fG Q (if tagged then⟨fun i=>G (ns.getD i 0),T.w0,0,false⟩ else T) F (fun i=>G (ns.getD i 0)) w R'/\EK G (fun i=>G (ns.getD i 0)) R R' (toPos R ns)/\
  (∀b,Own (fun i=>G (ns.getD i 0)) R' b-> ∃n e,n∈ns/\lk R n=some e/\bF (G n) e.obj=some b):=by
 have PB:=dD ns ky
 have AP:EK G (fun i=>G (ns.getD i 0)) R R' (toPos R ns):=by
  intro n v n' v' hρ
  unfold toPos at hρ
  split at hρ
  ·rename_i i e hp he
   split at hρ
   ·rename_i hv
    simp at hρ
    obtain⟨rfl,rfl⟩:=hρ
    obtain⟨_,hi⟩:=gy ns n 0 i hp
    simp at hi
    obtain⟨e1,h1,h2,h3⟩:=wh R _ tagged ns 0 R' hs i n hi
    rw[zaF] at h3
    refine⟨_,h3,zaj _,fun _ _=>⟨⟨e1,h1,?_,h2⟩,?_⟩⟩
    ·rw[he] at h1;cases h1;simpa using hv
    ·simp[zac,hi]
   ·cases hρ
  ·cases hρ
 have N7: ∀j e',lk R' j=some e'-> ∃n e,ns[j]?=some n/\lk R n=some e/\e.obj.live=true/\e'=⟨0,if tagged then some j else e.tag,fS (toPos R ns) e.obj⟩/\G (ns.getD j 0)=G n:=fun j e' hj=>by
  obtain⟨n,e,_,h2,h3,h4,h5⟩:=HV R _ tagged ns 0 R' hs j e' hj
  simp at h2
  exact⟨n,e,h2,h3,h4,h5,by simp[zac,h2]⟩
 refine⟨⟨.nil,za5 _,fun t p hp=>by simp[lk] at hp,?_,?_,?_,h.jm,?_,?_,?_,?_⟩,AP,?_⟩
 ·intro j e' hj
  obtain⟨n,e,_,h3,_,rfl,hG⟩:=N7 j e' hj
  exact xl AP hG (h.rg n e h3)
 ·intro j1 j2 e1 e2 b h1 h2 jJ cm
  obtain⟨n1,f1,g1,g2,_,rfl,hG1⟩:=N7 j1 e1 h1
  obtain⟨n2,f2,k1,k2,_,rfl,hG2⟩:=N7 j2 e2 h2
  simp only[pj] at jJ cm
  rw[hG1] at jJ
  rw[hG2] at cm
  have:=h.own n1 n2 f1 f2 b g2 k2 jJ cm
  subst this
  have p1:=fh PB g1
  have p2:=fh PB k1
  rw[p1] at p2
  exact zb1 p2
 ·intro j e' b hj hb zI
  obtain⟨n,e,_,h3,_,rfl,hG⟩:=N7 j e' hj
  simp only[pj] at hb
  rw[hG] at hb
  exact h.mq n e b h3 hb zI
 ·intro j e' i hj hi hl
  obtain⟨n,e,_,h3,h4,rfl,hG⟩:=N7 j e' hj
  cases tagged with
  |true=>simp at hi;subst hi;rfl
  |false=>
   simp only[zaz,zbd] at hi⊢
   rw[hG]
   exact h.tag n e i h3 hi h4
 ·cases tagged<;>exact h.z
 ·cases tagged<;>exact h.dr
 ·cases tagged with
  |true=>exact za5 _
  |false=>exact h.sz
 ·rintro b ⟨j,e',hj,hb⟩
  obtain⟨n,e,h2,h3,_,rfl,hG⟩:=N7 j e' hj
  simp only[pj] at hb
  rw[hG] at hb
  exact⟨n,e,zaC h2,h3,hb⟩
theorem sx (ρ:Nat->Nat->Option (Nat×Nat)) (keep:List Nat): ∀(m:List (Nat×P)) (t:Nat) (p:P),lk (qI ρ keep m) t=some p-> ∃q,lk m t=some q/\p=Av ρ q
 | [],t,p,h=>by simp[qI,lk] at h
 | (t',q)::r,t,p,h=>by
  simp only[qI] at h
  split at h
  ·rename_i hm
   simp only[lk] at h⊢
   split at h
   ·rename_i ht
    simp at h
    exact⟨q,by simp[ht],h.symm⟩
   ·rename_i ht
    obtain⟨q',h1,h2⟩:=sx ρ keep r t p h
    exact⟨q',by simpa [ht] using h1,h2⟩
  ·rename_i hm
   obtain⟨q',h1,h2⟩:=sx ρ keep r t p h
   have fT:gR t keep=true:=by
    clear h1 h2
    induction r with
    |nil=>simp[qI,lk] at h
    |cons x r ih=>
     obtain⟨t2,q2⟩:=x
     simp only[qI] at h
     split at h
     ·rename_i EC
      simp only[lk] at h
      split at h
      ·rename_i zK
       have:t2=t:=by simpa using zK
       rwa [<-this]
      ·exact ih h
     ·exact ih h
   have dG: ¬t'=t:=fun e=>hm (by rw[e];exact fT)
   exact⟨q',by simp[lk,dG,h1],h2⟩
theorem ct.Av {F:Nat->Prop} {w:World} {G G':Nat->Value} {R R':List (Nat×En)} {ρ:Nat->Nat->Option (Nat×Nat)} (hl:EK G G' R R' ρ) {tmps:Array Value} {v:Value} {p:P} (h:ct F w G R tmps v p):ct F w G' R' tmps v (Av ρ p):=by
 cases p with
 |when t b q=>exact h
 |_=>exact ct.of (nB hl h)
theorem PC (h:aC Q T F G w a s) {keep:List Nat} {s':S} (hs:canon keep s=some s'): ∃G',aC Q T F G' w a s'/\Ext (Own G s.rg) (Own G' s'.rg) F F w w:=by
 unfold canon at hs
 simp only at hs
 split at hs
 ·rename_i ky
  split at hs
  ·rename_i R hR
   simp at hs
   subst hs
   obtain⟨h1,h2,h3⟩:=h.heap.sub hR ky
   have hx3: ∀b,Own (fun i=>G ((reach s.rg 1000 (VH keep s.tm) []).getD i 0)) R b->Own G s.rg b:=fun b hb=>let ⟨n,e,_,he,hb⟩:=h3 b hb;⟨n,e,he,hb⟩
   refine⟨_,h1.state rfl ⟨h.rf.1,fun d hd=>let ⟨D,d1,d0,d2,d3,d4⟩:=h.rf.2 d hd;⟨D,d1,d0,d2,d3,fun ho=>d4 (hx3 D ho)⟩⟩ h.size (fun t p hp=> ?_),⟨fun _ h=>h,fun _ h=> .inl h,fun b hb=> ?_,fun _ _ _=>rfl,zaj _,rfl,rfl,rfl⟩⟩
   ·obtain⟨q,hq,rfl⟩:=sx _ keep s.tm t p hp
    exact(h.tm t q hq).Av h2
   ·obtain⟨n,e,_,he,hb⟩:=h3 b hb
    exact .inl ⟨n,e,he,hb⟩
  ·cases hs
 ·cases hs
end
end Pi
