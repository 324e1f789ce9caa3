/- The text PiRen. -/
import Derived.Test.YtngoddkencoalaaGreatDoorPiExec
namespace Pi
open Go
theorem iT (ρ:Nat->Nat->Option (Nat×Nat)): ∀(ps:List P) (i:Nat),(lO ρ ps)[i]?=(ps[i]?).map (zw ρ)
 | [],i=>by simp[lO]
 |p::ps,i=>by cases i with |zero=>simp[lO]|succ i=>simp[lO,iT ρ ps i]
theorem iU (ρ:Nat->Nat->Option (Nat×Nat)): ∀(ps:List P),(lO ρ ps).length=ps.length
 | []=>rfl
 |p::ps=>by simp[lO,iU ρ ps]
def DH (G G':Nat->Value) (R R':List (Nat×En)) (ρ:Nat->Nat->Option (Nat×Nat)):Prop:=
 ∀n v n' v',ρ n v=some (n',v')-> ∃e',lk R' n'=some e'/\v'<=e'.aU/\(v'=e'.aU->e'.obj.live=true->(∃e,lk R n=some e/\e.aU=v/\e.obj.live=true)/\G' n'=G n)
theorem dZ.link {G G':Nat->Value} {R R':List (Nat×En)} {ρ:Nat->Nat->Option (Nat×Nat)} (hl:DH G G' R R' ρ) {n v n' v':Nat} (hρ:ρ n v=some (n',v')) {C:Value->Prop} (h:dZ R n v (C (G n))):dZ R' n' v' (C (G' n')):=by
 obtain⟨e',cF,hv,hc⟩:=hl n v n' v' hρ
 refine⟨e',cF,hv,fun h1 h2=> ?_⟩
 obtain⟨⟨e,he,dI,S7⟩,hG⟩:=hc h1 h2
 rw[hG]
 exact h.at he dI S7
theorem mP {F:Nat->Prop} {w:World} {G G':Nat->Value} {R R':List (Nat×En)} {ρ:Nat->Nat->Option (Nat×Nat)} (hl:DH G G' R R' ρ) {v:Value} {p:P} (h:aD F w G R v p):aD F w G' R' v (zw ρ p):=by
 induction h with
 |d h=>exact .d h
 |agg vs ps hlen gm _ ih=>
  refine .agg vs (lO ρ ps) (by rw[iU];exact hlen) gm (fun i v c hv hc=> ?_)
  rw[iT] at hc
  simp only[Option.map_eq_some_iff] at hc
  obtain⟨q,hq,rfl⟩:=hc
  exact ih i v q hv hq
 |da vs ps hlen _ ih=>
  refine .da vs (lO ρ ps) (by rw[iU];exact hlen) (fun i v c hv hc=> ?_)
  rw[iT] at hc
  simp only[Option.map_eq_some_iff] at hc
  obtain⟨q,hq,rfl⟩:=hc
  exact ih i v q hv hq
 |fn f vs ps hlen _ ih=>
  refine .fn f vs (lO ρ ps) (by rw[iU];exact hlen) (fun i v c hv hc=> ?_)
  rw[iT] at hc
  simp only[Option.map_eq_some_iff] at hc
  obtain⟨q,hq,rfl⟩:=hc
  exact ih i v q hv hq
 |ref n aU off v h h1=>
  simp only[zw]
  split
  ·rename_i n' v' hρ
   exact .ref n' v' off v (dZ.link (C:=fun g=> ∃b,g= .pointer (some ⟨b,0,none⟩)/\v= .pointer (some ⟨b,off,none⟩)) hl hρ h) h1
  ·exact .bad _
 |dn n aU i k off v h1 h=>
  simp only[zw]
  split
  ·rename_i n' v' hρ
   exact .dn n' v' i k off v h1 (dZ.link (C:=fun g=> ∃b N cap,g= .slice (some ⟨b,0,none⟩) N cap/\v= .pointer (some ⟨b,i*k+off,none⟩)) hl hρ h)
  ·exact .bad _
 |eS x off b o hb bY f hw hr=>exact .eS x off b o hb bY f hw hr
 |sl n aU len v h1 h=>
  simp only[zw]
  split
  ·rename_i n' v' hρ
   exact .sl n' v' len v h1 (dZ.link (C:=fun g=> ∃a N cap,g= .slice a N cap/\v= .slice a len cap/\len<=N) hl hρ h)
  ·exact .bad _
 |kT n aU k off len v h1 h=>
  simp only[zw]
  split
  ·rename_i n' v' hρ
   exact .kT n' v' k off len v h1 (dZ.link (C:=fun g=> ∃a N cap,g= .slice a N cap/\off+len<=N/\ ∃a' im,v= .slice a' len im/\len<=im/\(len=0\/ ∃b,a=some ⟨b,0,none⟩/\a'=some ⟨b,off*k,none⟩)) hl hρ h)
  ·exact .bad _
 |mp n aU v h1 h=>
  simp only[zw]
  split
  ·rename_i n' v' hρ
   exact .mp n' v' v h1 (dZ.link (C:=fun g=>v=g) hl hρ h)
  ·exact .bad _
 |bad v=>exact .bad v
theorem k8 (ρ:Nat->Nat->Option (Nat×Nat)) (o:Obj):(fC ρ o).live=o.live:=by cases o<;>rfl
theorem oG (ρ:Nat->Nat->Option (Nat×Nat)) (g:Value) (o:Obj):bu g (fC ρ o)=bu g o:=by cases o<;>rfl
theorem wB {Q:Program} {F:Nat->Prop} {w:World} {G G':Nat->Value} {R R':List (Nat×En)} {ρ:Nat->Nat->Option (Nat×Nat)} (hl:DH G G' R R' ρ) {n n':Nat} (hG:G' n'=G n) {o:Obj} (h:nR Q F w G R n o):nR Q F w G' R' n' (fC ρ o):=by
 cases o with
 |gone=>trivial
 |box T ps=>
  obtain⟨b,cs,hg,hh,h1,h2,h3⟩:=h
  refine⟨b,cs,hG.trans hg,hh,by rw[iU];exact h1,h2,fun i p hp=> ?_⟩
  rw[iT] at hp
  simp only[Option.map_eq_some_iff] at hp
  obtain⟨q,hq,rfl⟩:=hp
  exact mP hl (h3 i q hq)
 |arr ty fz es=>
  rcases h with⟨hg,he⟩| ⟨b,cap,cs,k,hg,hh,h1,h2,h3,h4,h5,h6,h7⟩
  ·exact .inl ⟨hG.trans hg,he⟩
  ·exact .inr ⟨b,cap,cs,k,hG.trans hg,hh,h1,h2,h3,h4,h5,h6,h7⟩
 |map kt get c fz=>
  obtain⟨b,es,clock,hg,hh,h1,h2⟩:=h
  exact⟨b,es,clock,hG.trans hg,hh,h1,h2⟩
 |dX=>trivial
 |jA kt get c p kd=>
  obtain⟨b,es,clock,hg,hh,h1,i,e,h2,h3,h4⟩:=h
  exact⟨b,es,clock,hG.trans hg,hh,h1,i,e,h2,mP hl h3,h4⟩
 |iter kt vt left cur=>
  obtain⟨b,mo,since,seen,last,hg,hh,h1⟩:=h
  exact⟨b,mo,since,seen,last,hG.trans hg,hh,h1⟩
theorem jM: ∀(l:List Nat) (n:Nat),gw n l=true↔n∈l
 | [],n=>by simp[gw]
 |m::r,n=>by simp[gw,jM r n]
theorem dw: ∀(l:List Nat),dN l=true->l.Nodup
 | [],_=>List.nodup_nil
 |n::r,h=>by
  simp only[dN,Bool.and_eq_true,Bool.not_eq_true'] at h
  refine List.nodup_cons.2 ⟨fun hm=> ?_,dw r h.2⟩
  rw[(jM r n).2 hm] at h
  cases h.1
theorem fZ: ∀(l:List Nat) (n i0 i:Nat),posOf l n i0=some i->i0<=i/\l[i-i0]?=some n
 | [],n,i0,i,h=>by simp[posOf] at h
 |m::r,n,i0,i,h=>by
  simp only[posOf] at h
  split at h
  ·rename_i hm
   have hm:m=n:=by simpa using hm
   simp at h
   subst h
   subst hm
   simp
  ·obtain⟨h1,h2⟩:=fZ r n (i0+1) i h
   refine⟨by omega,?_⟩
   have e:i-i0=(i-(i0+1))+1:=by omega
   rw[e]
   simpa using h2
theorem qY: ∀(l:List Nat) (n i0:Nat),posOf l n i0=none->n∉l
 | [],n,i0,_=>by simp
 |m::r,n,i0,h=>by
  simp only[posOf] at h
  split at h
  ·cases h
  ·rename_i hm
   have hm: ¬m=n:=by simpa using hm
   have:=qY r n (i0+1) h
   simp only[List.mem_cons,not_or]
   exact⟨fun e=>hm e.symm,this⟩
theorem fa {l:List Nat} (lx:l.Nodup) {i n:Nat} (h:l[i]?=some n):posOf l n 0=some i:=by
 cases hp:posOf l n 0 with
 |none=>exact absurd (List.mem_of_getElem? h) (qY l n 0 hp)
 |some j=>
  obtain⟨_,hj⟩:=fZ l n 0 j hp
  simp at hj
  have h1:=(List.getElem?_eq_some_iff.1 h).1
  have h2:=(List.getElem?_eq_some_iff.1 hj).1
  have e1:=(List.getElem?_eq_some_iff.1 h).2
  have e2:=(List.getElem?_eq_some_iff.1 hj).2
  have hpw:=List.pairwise_iff_getElem.1 lx
  rcases Nat.lt_trichotomy i j with bk |heq |hgt
  ·exact absurd (e1.trans e2.symm) (hpw i j h1 h2 bk)
  ·rw[heq]
  ·exact absurd (e2.trans e1.symm) (hpw j i h2 h1 hgt)
theorem Gq (R:List (Nat×En)) (ρ:Nat->Nat->Option (Nat×Nat)) (tagged:Bool): ∀(ns:List Nat) (i0:Nat) (R':List (Nat×En)),sub R ρ tagged i0 ns=some R'->
  ∀j e',lk R' j=some e'-> ∃n e,i0<=j/\ns[j-i0]?=some n/\lk R n=some e/\e.obj.live=true/\e'=⟨0,if tagged then some j else e.tag,fC ρ e.obj⟩
 | [],i0,R',h,j,e',hj=>by simp[sub] at h;subst h;simp[lk] at hj
 |n::ns,i0,R',h,j,e',hj=>by
  simp only[sub] at h
  split at h
  ·rename_i e he
   split at h
   ·cases h
   ·rename_i r hr hng
    simp at h
    subst h
    simp only[lk] at hj
    split at hj
    ·rename_i gn
     have gn:i0=j:=by simpa using gn
     subst gn
     simp at hj
     subst hj
     refine⟨n,e,Nat.le_refl _,by simp,he,?_,rfl⟩
     cases ho:e.obj<;>simp[Obj.live]
     exact hng ho
    ·obtain⟨n',e1,h1,h2,h3,h4,h5⟩:=Gq R ρ tagged ns (i0+1) r hr j e' hj
     refine⟨n',e1,by omega,?_,h3,h4,h5⟩
     have e2:j-i0=(j-(i0+1))+1:=by omega
     rw[e2]
     simpa using h2
   ·cases h
  ·cases h
theorem vp (R:List (Nat×En)) (ρ:Nat->Nat->Option (Nat×Nat)) (tagged:Bool): ∀(ns:List Nat) (i0:Nat) (R':List (Nat×En)),sub R ρ tagged i0 ns=some R'->
  ∀i n,ns[i]?=some n-> ∃e,lk R n=some e/\e.obj.live=true/\lk R' (i0+i)=some ⟨0,if tagged then some (i0+i) else e.tag,fC ρ e.obj⟩
 | [],i0,R',h,i,n,hi=>by simp at hi
 |m::ns,i0,R',h,i,n,hi=>by
  simp only[sub] at h
  split at h
  ·rename_i e he
   split at h
   ·cases h
   ·rename_i r hr hng
    simp at h
    subst h
    cases i with
    |zero=>
     simp at hi
     subst hi
     refine⟨e,he,?_,by simp[lk]⟩
     cases ho:e.obj<;>simp[Obj.live]
     exact hng ho
    |succ i=>
     obtain⟨e1,h1,h2,h3⟩:=vp R ρ tagged ns (i0+1) r hr i n (by simpa using hi)
     refine⟨e1,h1,h2,?_⟩
     have e2:i0+1+i=i0+(i+1):=by omega
     rw[e2] at h3
     have dz:Nat.beq i0 (i0+(i+1))=false:=by
      cases hb:Nat.beq i0 (i0+(i+1)) with
      |false=>rfl
      |true=>have:=Nat.eq_of_beq_eq_true hb;omega
     simp only[lk,dz]
     exact h3
   ·cases h
  ·cases h
def fo (Q:Program) (T:Tg) (F:Nat->Prop) (G:Nat->Value) (w:World) (R:List (Nat×En)):Prop:=aB Q T F G w ⟨#[],[]⟩ ⟨0,[],R⟩
section
variable {Q:Program} {T:Tg} {F:Nat->Prop} {G:Nat->Value} {w:World} {a:Act} {s:S}
theorem aB.heap (h:aB Q T F G w a s):fo Q T F G w s.rg:=
 ⟨.nil,Nat.zero_le _,fun t p hp=>by simp[lk] at hp,h.rg,h.own,h.lr,h.iR,h.tag,h.z,h.dr,h.sz⟩
theorem fo.state {R:List (Nat×En)} (h:fo Q T F G w R) {a:Act} {s:S} (hR:s.rg=R) (hn:iJ T F G R w a.defers) (hs:s.n<=a.tmps.size) (ht: ∀t p,lk s.tm t=some p->cr F w G s.rg a.tmps (a.tmps.getD t undef) p):aB Q T F G w a s:=by
 subst hR
 exact⟨hn,hs,ht,h.rg,h.own,h.lr,h.iR,h.tag,h.z,h.dr,h.sz⟩
theorem fo.sub {R R':List (Nat×En)} (h:fo Q T F G w R) {ns:List Nat} {tagged:Bool} (hs:sub R (toPos R ns) tagged 0 ns=some R') (lx:dN ns=true):
  fo Q (if tagged then⟨fun i=>G (ns.getD i 0),T.w0,0,false⟩ else T) F (fun i=>G (ns.getD i 0)) w R'/\DH G (fun i=>G (ns.getD i 0)) R R' (toPos R ns)/\
  (∀b,Own (fun i=>G (ns.getD i 0)) R' b-> ∃n e,n∈ns/\lk R n=some e/\bu (G n) e.obj=some b):=by
 have NQ:=dw ns lx
 have zQ:DH G (fun i=>G (ns.getD i 0)) R R' (toPos R ns):=by
  intro n v n' v' hρ
  unfold toPos at hρ
  split at hρ
  ·rename_i i e hp he
   split at hρ
   ·rename_i hv
    simp at hρ
    obtain⟨rfl,rfl⟩:=hρ
    obtain⟨_,hi⟩:=fZ ns n 0 i hp
    simp at hi
    obtain⟨e1,h1,h2,h3⟩:=vp R _ tagged ns 0 R' hs i n hi
    rw[Nat.zero_add] at h3
    refine⟨_,h3,Nat.le_refl _,fun _ _=>⟨⟨e1,h1,?_,h2⟩,?_⟩⟩
    ·rw[he] at h1;cases h1;simpa using hv
    ·simp[List.getD_eq_getElem?_getD,hi]
   ·cases hρ
  ·cases hρ
 have Mq: ∀j e',lk R' j=some e'-> ∃n e,ns[j]?=some n/\lk R n=some e/\e.obj.live=true/\e'=⟨0,if tagged then some j else e.tag,fC (toPos R ns) e.obj⟩/\G (ns.getD j 0)=G n:=fun j e' hj=>by
  obtain⟨n,e,_,h2,h3,h4,h5⟩:=Gq R _ tagged ns 0 R' hs j e' hj
  simp at h2
  exact⟨n,e,h2,h3,h4,h5,by simp[List.getD_eq_getElem?_getD,h2]⟩
 refine⟨⟨.nil,Nat.zero_le _,fun t p hp=>by simp[lk] at hp,?_,?_,?_,h.iR,?_,?_,?_,?_⟩,zQ,?_⟩
 ·intro j e' hj
  obtain⟨n,e,_,h3,_,rfl,hG⟩:=Mq j e' hj
  exact wB zQ hG (h.rg n e h3)
 ·intro j1 j2 e1 e2 b h1 h2 jk cu
  obtain⟨n1,f1,g1,g2,_,rfl,hG1⟩:=Mq j1 e1 h1
  obtain⟨n2,f2,k1,k2,_,rfl,hG2⟩:=Mq j2 e2 h2
  simp only[oG] at jk cu
  rw[hG1] at jk
  rw[hG2] at cu
  have:=h.own n1 n2 f1 f2 b g2 k2 jk cu
  subst this
  have p1:=fa NQ g1
  have p2:=fa NQ k1
  rw[p1] at p2
  exact Option.some.inj p2
 ·intro j e' b hj hb yM
  obtain⟨n,e,_,h3,_,rfl,hG⟩:=Mq j e' hj
  simp only[oG] at hb
  rw[hG] at hb
  exact h.lr n e b h3 hb yM
 ·intro j e' i hj hi hl
  obtain⟨n,e,_,h3,h4,rfl,hG⟩:=Mq j e' hj
  cases tagged with
  |true=>simp at hi;subst hi;rfl
  |false=>
   simp only[Bool.false_eq_true,if_false] at hi⊢
   rw[hG]
   exact h.tag n e i h3 hi h4
 ·cases tagged<;>exact h.z
 ·cases tagged<;>exact h.dr
 ·cases tagged with
  |true=>exact Nat.zero_le _
  |false=>exact h.sz
 ·rintro b ⟨j,e',hj,hb⟩
  obtain⟨n,e,h2,h3,_,rfl,hG⟩:=Mq j e' hj
  simp only[oG] at hb
  rw[hG] at hb
  exact⟨n,e,List.mem_of_getElem? h2,h3,hb⟩
theorem r8 (ρ:Nat->Nat->Option (Nat×Nat)) (keep:List Nat): ∀(m:List (Nat×P)) (t:Nat) (p:P),lk (qk ρ keep m) t=some p-> ∃q,lk m t=some q/\p=zw ρ q
 | [],t,p,h=>by simp[qk,lk] at h
 | (t',q)::r,t,p,h=>by
  simp only[qk] at h
  split at h
  ·rename_i hm
   simp only[lk] at h⊢
   split at h
   ·rename_i ht
    simp at h
    exact⟨q,by simp[ht],h.symm⟩
   ·rename_i ht
    obtain⟨q',h1,h2⟩:=r8 ρ keep r t p h
    exact⟨q',by simpa [ht] using h1,h2⟩
  ·rename_i hm
   obtain⟨q',h1,h2⟩:=r8 ρ keep r t p h
   have iS:gw t keep=true:=by
    clear h1 h2
    induction r with
    |nil=>simp[qk,lk] at h
    |cons x r ih=>
     obtain⟨t2,q2⟩:=x
     simp only[qk] at h
     split at h
     ·rename_i Kf
      simp only[lk] at h
      split at h
      ·rename_i yr
       have:t2=t:=by simpa using yr
       rwa [<-this]
      ·exact ih h
     ·exact ih h
   have dz: ¬t'=t:=fun e=>hm (by rw[e];exact iS)
   exact⟨q',by simp[lk,dz,h1],h2⟩
theorem cr.zw {F:Nat->Prop} {w:World} {G G':Nat->Value} {R R':List (Nat×En)} {ρ:Nat->Nat->Option (Nat×Nat)} (hl:DH G G' R R' ρ) {tmps:Array Value} {v:Value} {p:P} (h:cr F w G R tmps v p):cr F w G' R' tmps v (zw ρ p):=by
 cases p with
 |when t b q=>exact h
 |_=>exact cr.of (mP hl h)
theorem NR (h:aB Q T F G w a s) {keep:List Nat} {s':S} (hs:canon keep s=some s'): ∃G',aB Q T F G' w a s'/\Ext (Own G s.rg) (Own G' s'.rg) F F w w:=by
 unfold canon at hs
 simp only at hs
 split at hs
 ·rename_i lx
  split at hs
  ·rename_i R hR
   simp at hs
   subst hs
   obtain⟨h1,h2,h3⟩:=h.heap.sub hR lx
   have hx3: ∀b,Own (fun i=>G ((reach s.rg 1000 (S2 keep s.tm) []).getD i 0)) R b->Own G s.rg b:=fun b hb=>let ⟨n,e,_,he,hb⟩:=h3 b hb;⟨n,e,he,hb⟩
   refine⟨_,h1.state rfl ⟨h.qV.1,fun d hd=>let ⟨D,d1,d0,d2,d3,d4⟩:=h.qV.2 d hd;⟨D,d1,d0,d2,d3,fun ho=>d4 (hx3 D ho)⟩⟩ h.size (fun t p hp=> ?_),⟨fun _ h=>h,fun _ h=> .inl h,fun b hb=> ?_,fun _ _ _=>rfl,Nat.le_refl _,rfl,rfl,rfl⟩⟩
   ·obtain⟨q,hq,rfl⟩:=r8 _ keep s.tm t p hp
    exact(h.tm t q hq).zw h2
   ·obtain⟨n,e,_,he,hb⟩:=h3 b hb
    exact .inl ⟨n,e,he,hb⟩
  ·cases hs
 ·cases hs
end
end Pi
