/- The text PiKOk4. -/
import Derived.Test.YtngoddkencoalaaGreatDoorPiDrawOk2
namespace Pi
open Go
section
variable {Q:Program} {s:S}
theorem Mq {t:TypeId} {p q:P}:KW (HB Q s t p q) (fun s1=>gw Q s t p q=some s1):=by
 unfold HB
 split
 ·rename_i n v i k' off
  split
  ·exact KW.fail
  ·rename_i k hk
   split
   ·rename_i s1 x hf
    split
    ·rename_i ty es ho
     split
     ·rename_i k2 rY
      split
      ·rename_i hc
       refine KW.bind (p:=fun _=>i<es.length) (KW.jF fun hb=>by grind) fun _ hi=> ?_
       refine KW.bind (ny Q ty _) fun y hy=>KW.ret ?_
       grind [gw,xa]
      ·exact KW.fail
     ·exact KW.fail
    ·exact KW.fail
   ·exact KW.fail
 grind [KW.dN]
theorem Ib {dst:Option Nat} {t t2:TypeId} {p q:P}:KW (B5 Q s dst t t2 p q) (fun s1=>iZ Q s dst t t2 p q=some s1):=by
 unfold B5
 split
 ·exact KW.fail
 ·rename_i e he
  split
  ·rename_i i k hi hk
   split
   ·rename_i ys z hy hz
    split
    ·rename_i hb
     split
     ·rename_i n v len
      split
      ·rename_i en mF
       split
       ·rename_i ty es ho
        split
        ·rename_i hc
         refine KW.bind (p:=fun _=>(Nat.ble len es.length&&aN (len+ys.length) i.bytes)=true) (KW.jF fun hb=>hb) fun _ hl=> ?_
         grind [KW.dN,aN,iZ]
        ·exact KW.fail
       ·exact KW.fail
      ·exact KW.fail
     ·refine KW.bind (p:=fun _=>aN ys.length i.bytes=true) (KW.jF fun hb=>hb) fun _ hl=> ?_
      grind [KW.dN,iZ,KW.fail]
     ·exact KW.fail
    ·exact KW.fail
   ·exact KW.fail
  ·exact KW.fail
theorem PW {dst:Option Nat} {t:TypeId} {p q:P}:KW (OV Q s dst t p q) (fun s1=>sc Q s dst t p q=some s1):=by
 unfold OV
 split
 ·rename_i e k1 l k2 c h1
  split
  ·rename_i i k z h2 h3 h4
   split
   ·rename_i hz
    refine KW.bind (p:=fun _=>decide (0<=l/\l<=c/\c<=9223372036854775807/\(i.bytes:Int)*c<=281474976710656)=true) (KW.jF fun hb=>hb) fun _ hb=> ?_
    split
    ·simp_all [KW.dN,sc]
    ·exact KW.fail
   ·exact KW.fail
  ·exact KW.fail
 ·exact KW.fail
theorem Mr {dst:Option Nat} {t:TypeId} {p:P}:KW (HE Q s dst t p) (fun s1=>nr Q s dst t p=some s1):=by
 unfold HE
 split
 ·rename_i e n v k off len h1
  split
  ·rename_i k2 z ty es h2 h3 h4
   split
   ·rename_i hc
    refine KW.bind (p:=fun _=>off+len<=es.length) (KW.jF fun hb=>by grind) fun _ hb=>KW.dN fun s1 h=> ?_
    simp_all [nr,zaR]
   ·exact KW.fail
  ·exact KW.fail
 ·exact KW.fail
theorem PY {dst:Option Nat} {t t2:TypeId} {p q:P}:KW (OW Q s dst t t2 p q) (fun s1=>sd Q s dst t t2 p q=some s1):=by
 unfold OW
 split
 ·rename_i e n v len h1
  split
  ·rename_i k h2
   split
   ·rename_i ys ty es h3 h4
    split
    ·rename_i ht
     refine KW.bind (p:=fun _=>decide (len<=es.length/\ys.length<=len)=true) (KW.jF fun hb=>hb) fun _ hb=>KW.dN fun s2 hs=> ?_
     simp_all [sd]
    ·exact KW.fail
   ·exact KW.fail
  ·exact KW.fail
 ·exact KW.fail
theorem A0: ∀(ys:List D),gT ys=true->jE ys=some (bytesOf ys)
 | [],_=>rfl
 |x::r,h=>by
  unfold gT at h
  split at h
  ·grind
  ·rename_i n r' heq
   obtain⟨rfl,rfl⟩:=heq
   simp only[jE,A0 _ h]
   rfl
  ·cases h
theorem Ms {o:Oper} {g:Option (Nat×Bool)}:KW (HF Q s o g) (fun s1=>jk Q s o g=some s1):=by
 unfold HF
 split
 ·simp[KW.dN]
 ·rename_i UZ
  split
  ·rename_i he
   have hex:pv Q s o g=none-> ∀s1,ef Q s o g=some s1->jk Q s o g=some s1:=fun hp s1 h=>by
    grind [jk]
   unfold qeW at he
   unfold efK
   split
   ·grind [pv,KW.bind,Mq,KW.dN,ef]
   ·rename_i t1 t2 x ho
    split
    ·rename_i e h1 h2
     split
     ·rename_i ys hu hs
      split
      ·rename_i EG
       have hp:pv Q s o g=none:=by
        have:(s.eg g x).cy=none:=by
         cases hx:s.eg g x with
         |sl n v len=>rfl
         |lC n v k off len=>rfl
         |d y=>rw[hx] at EG;cases y<;>first |rfl | (simp[P.isRow] at EG)
         |_=>rw[hx] at EG;simp[P.isRow] at EG
        grind [pv]
       refine KW.bind (p:=fun _=>gT ys=true) (KW.jF fun hb=>hb) fun _ hb=>KW.dN fun s2 h3=>hex hp _ ?_
       grind [ef,A0]
      ·exact KW.fail
     ·exact KW.fail
    grind
   ·rename_i c ho
    split
    ·rename_i hc
     have hp:pv Q s o g=none:=by grind [pv]
     split
     ·rename_i x y t t2 h1 h2
      refine Ib.mono fun s1 h=>hex hp _ ?_
      unfold ef
      simp only[ho,hc,h1,h2]
      exact h
     ·exact KW.fail
    ·rename_i hc
     have hp:pv Q s o g=none:=by unfold pv;simp only[ho,hc]
     split
     ·rename_i x y t t2 h1 h2
      refine PY.mono fun s1 h=>hex hp _ ?_
      unfold ef
      simp only[ho,hc,h1,h2]
      exact h
     ·exact KW.fail
    ·rename_i hc
     have hp:pv Q s o g=none:=by unfold pv;simp only[ho,hc]
     split
     ·rename_i x t h1 h2
      refine Mr.mono fun s1 h=>hex hp _ ?_
      unfold ef
      simp only[ho,hc,h1,h2]
      exact h
     ·exact KW.fail
    grind
   ·rename_i t x y ho
    have hp:pv Q s o g=none:=by unfold pv;rw[ho]
    refine PW.mono fun s1 h=>hex hp _ ?_
    grind [ef]
   grind [pv,KW.dN]
  grind [KW.bind,qbw,KW.dN,jk]
theorem PZ {o:Oper} {g:Option (Nat×Bool)}:KW (OX Q s o g) (fun s1=>exec Q s o g=some s1):=by
 unfold OX
 cases hm:rb o with
 |some r=>
  grind [KW.dN,exec]
 |none=>
  refine Ms.mono fun s1 h=> ?_
  grind [exec]
end
def Ev (p:Nat->Nat->Prop):Prop:= ∃N,∀a b,N<=a->N<=b->p a b
theorem Ev.const {p:Prop} (h:p):Ev fun _ _=>p:=⟨0,fun _ _ _ _=>h⟩
theorem Ev.mono {p q:Nat->Nat->Prop} (h:Ev p) (Pd: ∀a b,p a b->q a b):Ev q:=by
 obtain⟨N,h⟩:=h
 exact⟨N,fun a b ha hb=>Pd a b (h a b ha hb)⟩
theorem Ev.and {p q:Nat->Nat->Prop} (h:Ev p) (k:Ev q):Ev fun a b=>p a b/\q a b:=by
 obtain⟨N,h⟩:=h
 obtain⟨M,k⟩:=k
 exact⟨max N M,fun a b ha hb=>⟨h a b (by omega) (by omega),k a b (by omega) (by omega)⟩⟩
theorem Ev.P0 {p q r:Nat->Nat->Prop} (h:Ev p) (k:Ev q) (Pd: ∀a b,p a b->q a b->r a b):Ev r:=(h.and k).mono fun a b x=>Pd a b x.1 x.2
theorem Ev.some {p:Nat->Nat->Prop} (h:Ev p): ∃a b,p a b:=by
 obtain⟨N,h⟩:=h
 exact⟨N,N,h N N (zaj _) (zaj _)⟩
def zT (kf:KF) (cf:Nat->Nat->CF):Prop:= ∀f ps R,KW (kf f ps R) (fun x=>Ev fun a b=>cf a b f ps R=some x)
section
variable {Q:Program} {kf:KF} {cf:Nat->Nat->CF} (hJ:zT kf cf)
include hJ
theorem P9 {s:S} {dst:Option Nat} {f:P} {args:List P}:KW (qJ Q kf s dst f args) (fun s1=>Ev fun a b=>l8 Q (cf a b) s dst f args=some s1):=by
 unfold qJ
 split
 ·rename_i ku cG
  split
  ·exact KW.fail
  ·rename_i s1 ps hf
   simp only[]
   split
   ·rename_i hn
    split
    ·exact KW.fail
    ·rename_i R0 hR0
     refine KW.bind (hJ _ _ _) fun x hx=> ?_
     split
     ·rename_i hm
      split
      ·exact KW.fail
      ·rename_i R2 h2
       split
       ·exact KW.fail
       ·rename_i R3 h3
        refine KW.dN fun s2 h=>hx.mono fun a b hx=> ?_
        grind [l8]
     ·exact KW.fail
   ·exact KW.fail
 ·exact KW.fail
theorem CJ {s:S} {o:Oper} {g:Option (Nat×Bool)}:KW (OY Q kf s o g) (fun s1=>Ev fun a b=>fY Q (cf a b) s o g=some s1):=by
 unfold OY
 split
 ·grind [P9,fY]
 ·rename_i hc
  exact PZ.mono fun s1 h=>Ev.const h |>.mono fun a b h=>by grind [fY]
omit hJ in
theorem xJ (t:Nat) (v:P): ∀(m:List (Nat×P)),lk m t=some v->rep t v m=m
 | [],h=>rfl
 | (k,u)::r,h=>by
  simp only[lk] at h
  simp only[rep]
  split
  ·rename_i hk;rw[zao hk] at h;simp only[zal] at h;rw[h]
  ·rename_i hk;rw[zam hk] at h;rw[xJ t v r h]
omit hJ in
def jN (kn:List (Nat×Bool)) (s:S):Prop:= ∀t r,lk kn t=some r->lk s.tm t=some (.d (.bool r))
omit hJ in
theorem tQ (d:Nat): ∀(kn:List (Nat×Bool)) (t:Nat) (r:Bool),lk (kn.filter fun x=> !Nat.beq x.1 d) t=some r->t≠d/\lk kn t=some r
 | [],t,r,h=>by simp[lk] at h
 | (k,u)::l,t,r,h=>by
  simp only[List.filter_cons] at h
  split at h
  ·rename_i hk
   simp only[lk] at h⊢
   split
   ·rename_i ht
    rw[zao ht] at h
    have e:=zaf ht
    subst e
    refine⟨fun e=> ?_,h⟩
    subst e
    simp at hk
   ·rename_i ht
    rw[zam ht] at h
    exact tQ d l t r h
  ·rename_i hk
   obtain⟨h1,h2⟩:=tQ d l t r h
   refine⟨h1,?_⟩
   simp only[lk]
   have hk:Nat.beq k d=true:=by simpa using hk
   have e:=zaf hk
   subst e
   have:Nat.beq k t=false:=by
    cases hb:Nat.beq k t with
    |false=>rfl
    |true=>exact absurd (zaf hb).symm h1
   rw[this]
   exact h2
omit hJ in
theorem jN.step {cf:CF} {ops:List Oper} {kn:List (Nat×Bool)} {s s1:S} {o:Oper} (h:jN kn s) (hs:bu Q cf ops s o=some s1):jN (B6 o.dst kn) s1:=by
 obtain⟨c,h2,_⟩:=rl (Q:=Q) (cf:=cf) (ops:=ops) (s:=s) (s2:=s) (o:=o) (fun _ _=>rfl) rfl rfl
 rw[hs] at h2
 cases c with
 |none=>cases h2
 |some x=>
  obtain⟨_,_,_,g4⟩:=gZ (h2.symm:(⟨s.n,s.tm,x.1⟩:S).put o.dst x.2=some s1)
  intro t r ht
  have key:o.dst≠some t/\lk kn t=some r:=by
   unfold B6 at ht
   split at ht
   ·rename_i hd;rw[hd];exact⟨by simp,ht⟩
   ·rename_i d hd
    obtain⟨k1,k2⟩:=tQ _ _ _ _ ht
    rw[hd]
    exact⟨fun e=>k1 (by simpa using e.symm),k2⟩
  have hv:=h t r key.2
  rw[g4 t key.1]
  exact hv
omit hJ in
theorem CK {ops:List Oper} {o:Oper} (s:S):KW (OZ ops o s) (fun s1=>s=s1):=by
 unfold OZ
 split
 ·split
  ·rename_i d hd
   split
   ·rename_i k z hz
    intro post hp
    have:=hp z rfl
    rw[xJ d _ _ hz] at this
    exact⟨s,rfl,this⟩
   ·exact KW.ret rfl
  ·exact KW.ret rfl
 ·exact KW.ret rfl
theorem sH {ops:List Oper} {kn:List (Nat×Bool)} {s:S} {o:Oper} (dO:jN kn s):KW (Az Q kf ops kn s o) (fun x=>(Ev fun a b=>bu Q (cf a b) ops s o=some x.1)/\jN x.2 x.1):=by
 have go: ∀{kn:List (Nat×Bool)},jN kn s-> ∀s1,(Ev fun a b=>bu Q (cf a b) ops s o=some s1)->((Ev fun a b=>bu Q (cf a b) ops s o=some s1)/\jN (B6 o.dst kn) s1):=fun dO s1 h=>⟨h,by obtain⟨a,b,h⟩:=h.some;exact dO.step h⟩
 unfold Az
 split
 ·exact KW.fail
 ·rename_i hg
  exact KW.bind (CJ hJ) fun s1 h=>KW.bind (CK s1) fun s2 h2=>by
   grind [KW.ret,bu]
 ·rename_i t want hg
  split
  ·rename_i r hr
   have hb:=dO t r hr
   split
   ·rename_i hw
    exact KW.bind (CJ hJ) fun s1 h=>KW.bind (CK s1) fun s2 h2=>by
     grind [KW.ret,bu]
   ·rename_i hw
    exact KW.bind (KW.dN (p:=fun s1=>s.put o.dst .skip=some s1) fun a h=>h) fun s1 h=>KW.ret (go dO s1 ⟨0,fun a b _ _=>by grind [bu]⟩)
  ·split
   ·rename_i b hb
    refine KW.bind (KW.dec (p:=fun r=>b=r) rfl) fun r hr=> ?_
    subst hr
    have e:(⟨s.n,rep t (.d (.bool b)) s.tm,s.rg⟩:S)=s:=by rw[xJ t _ _ hb]
    rw[e]
    have qhN:jN ((t,b)::kn) s:=by
     intro t' r' h'
     simp only[lk] at h'
     split at h'
     ·simp_all
     ·exact dO t' r' h'
    split
    ·rename_i hw
     exact KW.bind (CJ hJ) fun s1 h=>KW.bind (CK s1) fun s2 h2=>by
      grind [KW.ret,bu]
    ·rename_i hw
     exact KW.bind (KW.dN (p:=fun s1=>s.put o.dst .skip=some s1) fun a h=>h) fun s1 h=>KW.ret (go qhN s1 ⟨0,fun a b _ _=>by grind [bu]⟩)
   ·rename_i t' b' q hb
    exact KW.bind (KW.dN (p:=fun s1=>s.put o.dst .skip=some s1) fun a h=>h) fun s1 h=>KW.ret (go dO s1 ⟨0,fun a b _ _=>by grind [bu]⟩)
   ·exact KW.fail
omit hJ in
theorem jN.nil (s:S):jN [] s:=fun t r h=>by simp[lk] at h
theorem nE {ops:List Oper}: ∀(l:List Oper) (kn:List (Nat×Bool)) (s:S),jN kn s->KW (lN Q kf ops l kn s) (fun s1=>Ev fun a b=>dv Q (cf a b) ops l s=some s1)
 | [],_,s,_=>KW.ret (Ev.const rfl)
 |o::r,kn,s,dO=>by
  unfold lN
  refine KW.bind (sH hJ dO) fun x hx=> ?_
  rw[S.force_eq]
  refine(nE r x.2 x.1 hx.2).mono fun s2 h2=>hx.1.P0 h2 fun a b hx h2=> ?_
  grind [dv]
theorem ru {ops:List Oper}: ∀(l:List Oper) (kn:List (Nat×Bool)) (s:S),jN kn s->KW (nu Q kf ops l kn s) (fun x=>Ev fun a b=>o6 Q (cf a b) ops l s=some x)
 | [],_,s,_=>KW.ret (Ev.const rfl)
 |o::r,kn,s,dO=>by
  unfold nu
  refine KW.bind (sH hJ dO) fun x hx=> ?_
  rw[S.force_eq]
  refine KW.bind (ru r x.2 x.1 hx.2) fun y hy=>KW.ret (hx.1.P0 hy fun a b hx hy=> ?_)
  grind [o6]
theorem xK {ops:List Oper} {s:S} (hc:dh ops=1):KW (fun post=>K.bind (nu Q kf ops ops [] s) (fun x=>fun post=>o5 0 (masks ops []) x.2 (post x.1)) post) (fun s1=>Ev fun a b=>jl Q (cf a b) ops s=some s1):=by
 refine KW.bind (ru hJ ops [] _ (jN.nil _)) fun x hx post hp=>⟨x.1,hx.mono fun a b hx=> ?_,xG _ _ _ hp⟩
 have h:o5 0 (masks ops []) x.2 True:=pA _ _ _ _ (fun _=>trivial) hp
 grind [jl]
theorem xM {ops:List Oper} {s:S} (hc:dh ops=2):KW (lN Q kf ops ops [] s) (fun s1=>Ev fun a b=>jl Q (cf a b) ops s=some s1):=
 (nE hJ ops [] _ (jN.nil _)).mono fun s1 h=>h.mono fun a b h=>by
  grind [jl]
theorem xN {ops:List Oper} {cls:Nat} (Cr:kL ops=cls) {s:S}:KW (Ek Q kf ops cls s) (fun s1=>Ev fun a b=>jd Q (cf a b) ops s=some s1):=by
 have plain: ∀k,kL ops=k->1<=k->k<=3->dh ops=k:=by
  grind [kL]
 have marked: ∀k,k<=1->kL ops=k+4->dh ops=0/\dh (cR ops)=k+1:=by
  grind [kL,dh]
 subst Cr
 unfold Ek
 split
 ·exact KW.fail
 ·grind [xK,jd]
 ·rename_i hc
  have h1:=marked 0 (by omega) hc
  grind [xK,jd]
 ·grind [xM,jd]
 ·rename_i hc
  have h1:=marked 1 (by omega) hc
  grind [xM,jd]
 ·rename_i hc
  have late:dh ops=0/\dh (cR ops)=0/\ ∀m t d,B0 ops=some (m,t,d)->B1 ops m=true:=by
   grind [kL,dh,cR]
  split
  ·rename_i m t d hl
   split
   ·rename_i Kj htm
    refine KW.bind (ru hJ ops [] _ (jN.nil _)) fun x hx post hp=>⟨x.1,hx.mono fun a b hx=> ?_,xG _ _ _ hp⟩
    have h:o5 m (masks ops []) x.2 True:=pA _ _ _ _ (fun _=>trivial) hp
    unfold jd
    simp only[late.1,late.2.1]
    unfold sf
    simp only[hl,hx]
    rw[zao ⟨late.2.2 m t d hl,Kj,htm⟩,zao h]
   ·exact KW.fail
  ·exact KW.fail
 ·exact KW.fail
def dQ (body:Nat->Nat->S->Option (PX×S)) (keep:Option (List Nat×List Nat)) (s0:S) (x:PX×S):Prop:=
 ∃N,∀a b k,N<=a->N<=b->N<=k-> ∀s,cr keep s=some s0->iy (body a b) keep k s=some x
def CL (body:S->Option (PX×S)) (keep:Option (List Nat×List Nat)) (s:S) (x:PX×S):Prop:=
 match x.1 with
 | .normal=> ∃s1,body s=some (.normal,s1)/\cr keep s1=some x.2
 |e=> ∃s1,body s=some (e,s1)/\dA keep s1=some x.2
omit hJ in
theorem Mt {mB:S->K (PX×S)} {body:Nat->Nat->S->Option (PX×S)} {s:S} (hb:KW (mB s) (fun x=>Ev fun a b=>body a b s=some x)) {keep:Option (List Nat×List Nat)}:KW (wU mB keep s) (fun x=>Ev fun a b=>CL (body a b) keep s x):=by
 unfold wU
 refine KW.bind hb fun x hx=> ?_
 obtain⟨e,s1⟩:=x
 cases e with
 |normal=>exact KW.bind (KW.dN fun a h=>h) fun s2 h2=>KW.ret (hx.mono fun a b hx=>⟨s1,hx,h2⟩)
 |exit id=>exact KW.bind (KW.dN fun a h=>h) fun s2 h2=>KW.ret (hx.mono fun a b hx=>⟨s1,hx,h2⟩)
 |ret=>exact KW.bind (KW.dN fun a h=>h) fun s2 h2=>KW.ret (hx.mono fun a b hx=>⟨s1,hx,h2⟩)
omit hJ in
theorem dQ.out {body:Nat->Nat->S->Option (PX×S)} {keep:Option (List Nat×List Nat)} {s0:S} {x:PX×S} (hr:Ev fun a b=>CL (body a b) keep s0 x) (he:x.1≠ .normal):dQ body keep s0 x:=by
 obtain⟨N,hr⟩:=hr
 refine⟨N+1,fun a b k ha hb hk s hs=> ?_⟩
 obtain⟨e,s2⟩:=x
 have h:=hr a b (by omega) (by omega)
 obtain⟨k,rfl⟩: ∃k',k=k'+1:=⟨k-1,by omega⟩
 cases e with
 |normal=>exact absurd rfl he
 |exit id=>obtain⟨s1,h1,h2⟩:=h;simp only[] at h1 h2;simp only[iy,hs,h1,h2]
 |ret=>obtain⟨s1,h1,h2⟩:=h;simp only[] at h1 h2;simp only[iy,hs,h1,h2]
omit hJ in
theorem dQ.on {body:Nat->Nat->S->Option (PX×S)} {keep:Option (List Nat×List Nat)} {s0 s2:S} {x:PX×S} (hr:Ev fun a b=>CL (body a b) keep s0 (.normal,s2)) (h2:dQ body keep s2 x):dQ body keep s0 x:=by
 obtain⟨N,hr⟩:=hr
 obtain⟨M,h2⟩:=h2
 refine⟨max N M+1,fun a b k ha hb hk s hs=> ?_⟩
 obtain⟨s1,h1,h3⟩:=hr a b (by omega) (by omega)
 obtain⟨k,rfl⟩: ∃k',k=k'+1:=⟨k-1,by omega⟩
 simp only[] at h1 h3
 simp only[iy,hs,h1]
 exact h2 a b k (by omega) (by omega) (by omega) s1 h3
omit hJ in
theorem dQ.ev {body:Nat->Nat->S->Option (PX×S)} {keep:Option (List Nat×List Nat)} {s s0:S} {x:PX×S} (hs:cr keep s=some s0) (h:dQ body keep s0 x):Ev fun a b=>iy (body a b) keep a s=some x:=by
 obtain⟨N,h⟩:=h
 exact⟨N,fun a b ha hb=>h a b a ha hb ha s hs⟩
omit hJ in
theorem A1 {mB:S->K (PX×S)} {body:Nat->Nat->S->Option (PX×S)} (hb: ∀s,KW (mB s) (fun x=>Ev fun a b=>body a b s=some x)) {keep:Option (List Nat×List Nat)}: ∀(k:Nat) (s:S),KW (B7 mB keep k s) (fun x=> ∃s0,cr keep s=some s0/\dQ body keep s0 x)
 |0,s=>KW.fail
 |k+1,s=>by
  unfold B7
  refine KW.bind (KW.dN fun a h=>h) fun s0 h0=>KW.bind (hb s0) fun x hx=> ?_
  obtain⟨e,s1⟩:=x
  cases e with
  |normal=>exact(A1 hb k s1).mono fun y ⟨s2,g1,g2⟩=>⟨s0,h0,dQ.on (hx.mono fun a b hx=>⟨s1,hx,g1⟩) g2⟩
  |exit id=>exact KW.bind (KW.dN fun a h=>h) fun s2 h2=>KW.ret ⟨s0,h0,dQ.out (hx.mono fun a b hx=>⟨s1,hx,h2⟩) (by simp)⟩
  |ret=>exact KW.bind (KW.dN fun a h=>h) fun s2 h2=>KW.ret ⟨s0,h0,dQ.out (hx.mono fun a b hx=>⟨s1,hx,h2⟩) (by simp)⟩
def aR:Code->List Code
 | .seq a b=>aR a++aR b
 | .cond _ a b=>aR a++aR b
 | .block _ c | .scope c=>aR c
 | .loop c=>c::aR c
 |_=>[]
variable {kp:Nat->Option (List Nat×List Nat)} {hk:List (Nat×(S->K (PX×S)))} {dc:Nat->Nat} {lf:Nat}
def Ic (Q:Program) (cf:Nat->Nat->CF) (kp:Nat->Option (List Nat×List Nat)) (c:Code) (h:S->K (PX×S)):Prop:=
 ∀s,KW (h s) (fun x=>Ev fun a b=>iy (bz Q (cf a b) kp a c) (kp (Code.rX c)) a s=some x)
theorem fH: ∀(c:Code),b8 dc c=true->(∀d∈aR c,∀h,lk hk (Code.rX d)=some h->Ic Q cf kp d h)-> ∀(s:S),KW (fe Q kf kp hk dc lf c s) (fun x=>Ev fun a b=>bz Q (cf a b) kp a c s=some x)
 | .skip,_,_,s=>KW.ret (Ev.const rfl)
 | .label _,_,_,s=>KW.ret (Ev.const rfl)
 | .region id ops draw,hl,_,s=>by
  unfold fe
  refine KW.bind (p:=fun s1=>Ev fun a b=>(if draw then jd Q (cf a b) ops.toList s else dv Q (cf a b) ops.toList ops.toList s)=some s1) ?_ fun s1 h1=>KW.ret (h1.mono fun a b h1=> ?_)
  ·grind [xN,Nat.eq_of_beq_eq_true,b8,nE,jN.nil]
  ·simp only[bz,h1]
 | .seq x y,hl,hh,s=>by
  unfold fe
  refine KW.bind (fH x (zab _ _▸hl:_/\_).1 (fun d hd=>hh d (by simp[aR,hd])) s) fun z hz=> ?_
  obtain⟨e,s1⟩:=z
  cases e with
  |normal=>exact(fH y (zab _ _▸hl:_/\_).2 (fun d hd=>hh d (by simp[aR,hd])) s1).mono fun u hu=>hz.P0 hu fun a b hz hu=>by grind [bz]
  |exit id=>exact KW.ret (hz.mono fun a b hz=>by simp only[bz,hz])
  |ret=>exact KW.ret (hz.mono fun a b hz=>by simp only[bz,hz])
 | .cond c x y,hl,hh,s=>by
  unfold fe
  split
  ·rename_i b hb
   refine KW.bind (KW.dec (p:=fun r=>b=r) rfl) fun r hr=> ?_
   subst hr
   cases b with
   |true=>exact(fH x (zab _ _▸hl:_/\_).1 (fun d hd=>hh d (by simp[aR,hd])) s).mono fun z hz=>hz.mono fun a b hz=>by grind [bz]
   |false=>exact(fH y (zab _ _▸hl:_/\_).2 (fun d hd=>hh d (by simp[aR,hd])) s).mono fun z hz=>hz.mono fun a b hz=>by grind [bz]
  ·exact KW.fail
 | .block id c,hl,hh,s=>by
  unfold fe
  refine KW.bind (fH c hl (fun d hd=>hh d (by simpa [aR] using hd)) s) fun x hx=> ?_
  obtain⟨e,s1⟩:=x
  cases e with
  |normal=>exact KW.ret (hx.mono fun a b hx=>by simp only[bz,hx])
  |exit o7=>
   simp only[]
   split
   ·rename_i h;exact KW.ret (hx.mono fun a b hx=>by grind [bz])
   grind [KW.ret,bz]
  |ret=>grind [KW.ret,bz]
 | .loop c,hl,hh,s=>by
  unfold fe
  split
  ·rename_i h Wi
   exact(hh c (by simp[aR]) h Wi s).mono fun x hx=>hx.mono fun a b hx=>by grind [bz]
  ·exact(A1 (body:=fun a b=>bz Q (cf a b) kp a c) (fun s=>fH c hl (fun d hd=>hh d (by simp[aR,hd])) s) lf s).mono fun x ⟨s0,g1,g2⟩=>(g2.ev g1).mono fun a b hx=>by grind [bz]
 | .scope c,hl,hh,s=>by
  unfold fe
  exact(fH c hl (fun d hd=>hh d (by simpa [aR] using hd)) s).mono fun x hx=>hx.mono fun a b hx=>by grind [bz]
 | .exit id,_,_,s=>KW.ret (Ev.const rfl)
 | .ret,_,_,s=>KW.ret (Ev.const rfl)
 | .rangeFunc _ _ _ _,_,_,s=>KW.fail
 | .goto _,_,_,s=>KW.fail
 | .refuse _,_,_,s=>KW.fail
end
section
variable {Q:Program} {kp:pZ} {dc:FuncId->Nat->Nat} {lf:Nat}
theorem E4 {kf:KF} {hk:List (Nat×(S->K (PX×S)))} (Mu: ∀f fn c,Q.funcs[f]?=some fn->fn.body=some c->b8 (dc f) c=true) (hJ:zT kf (fc Q kp)) (f:FuncId)
  (hh: ∀fn c,Q.funcs[f]?=some fn->fn.body=some c-> ∀d∈aR c,∀h,lk hk (Code.rX d)=some h->Ic Q (fc Q kp) (kp f) d h)
  (ps:List P) (R:List (Nat×En)):KW (mB Q kf kp hk dc lf f ps R) (fun x=>Ev fun a b=>fc Q kp a b f ps R=some x):=by
 unfold mB
 split
 ·exact KW.fail
 ·rename_i fn fX
  split
  ·exact KW.fail
  rename_i VK
  split
  ·exact KW.fail
  ·rename_i c hc
   split
   ·exact KW.fail
   ·rename_i jr
    refine KW.bind (fH hJ c (Mu f fn c fX hc) (hh fn c fX hc) _) fun x hx=> ?_
    split
    ·exact KW.fail
    ·rename_i dG
     split
     ·rename_i qs hq
      unfold B8
      refine KW.dN fun y hy=> ?_
      obtain⟨N,hx⟩:=hx
      refine⟨N+1,fun a b ha hb=> ?_⟩
      obtain⟨b,rfl⟩: ∃b',b=b'+1:=⟨b-1,by omega⟩
      grind [fc]
     ·exact KW.fail
def Kp (Q:Program) (kp:pZ) (H:List (FuncId×bq)):Prop:=
 ∀f h,lk H f=some h-> ∀ps R,KW (h ps R) (fun x=>Ev fun a b=>fc Q kp a b f ps R=some x)
theorem Kp.nil:Kp Q kp []:=fun f h hh=>by simp[lk] at hh
theorem wm {H:List (FuncId×bq)} (Mu: ∀f fn c,Q.funcs[f]?=some fn->fn.body=some c->b8 (dc f) c=true) (hH:Kp Q kp H): ∀(k:Nat),zT (runK Q kp dc H lf k) (fc Q kp)
 |0=>fun f ps R=>by
  unfold runK
  split
  ·rename_i h hh;exact hH f h hh ps R
  ·exact KW.fail
 |k+1=>fun f ps R=>by
  unfold runK
  split
  ·rename_i h hh;exact hH f h hh ps R
  ·exact E4 Mu (wm Mu hH k) f (fun fn c _ _ d _ h hh=>by simp[lk] at hh) ps R
theorem A2: ∀(l:List Func) (i0:Nat),nv dc i0 l=true-> ∀i fn c,l[i]?=some fn->fn.body=some c->b8 (dc (i0+i)) c=true
 | [],_,_,i,fn,c,h,_=>by simp at h
 |f::r,i0,h,i,fn,c,hf,hc=>by
  simp only[nv,zab] at h
  cases i with
  |zero=>
   grind
  |succ i=>
   have:=A2 r (i0+1) h.2 i fn c (by grind) hc
   rwa [show i0+1+i=i0+(i+1) by omega] at this
theorem kA (h:nv dc 0 Q.funcs.toList=true) (f:FuncId) (fn:Func) (c:Code) (hf:Q.funcs[f]?=some fn) (hc:fn.body=some c):b8 (dc f) c=true:=by
 have:=A2 Q.funcs.toList 0 h f fn c (by grind) hc
 rwa [zaF] at this
def js (id:Nat):List Code->Option Code
 | []=>none
 |c::r=>if Nat.beq (Code.rX c) id then some c else js id r
def bx (Q:Program) (f:FuncId) (id:Nat):Code:=
 match Q.funcs[f]? with
 |some fn=>(match fn.body with |some c=>(js id (aR c)).getD .skip |none=> .skip)
 |none=> .skip
def uniq (Q:Program) (f:FuncId):Bool:=
 match Q.funcs[f]? with
 |some fn=>(match fn.body with |some c=>dU ((aR c).map Code.rX)|none=>true)
 |none=>true
theorem jt {d:Code}: ∀(l:List Code),(l.map Code.rX).Nodup->d∈l->js (Code.rX d) l=some d
 | [],_,h=>by simp at h
 |c::r,hn,h=>by
  simp only[zbl,za7] at hn
  simp only[js]
  rcases zav.1 h with rfl |h
  ·simp
  ·split
   ·grind [Nat.eq_of_beq_eq_true]
   ·exact jt r hn.2 h
theorem cW: ∀(b:Code) {c d:Code},c∈aR b->d∈aR c->d∈aR b
 | .seq x y,c,d,hc,hd=>by
  simp only[aR,zaG] at hc⊢
  exact hc.imp (cW x · hd) (cW y · hd)
 | .cond _ x y,c,d,hc,hd=>by
  simp only[aR,zaG] at hc⊢
  exact hc.imp (cW x · hd) (cW y · hd)
 | .block _ x,c,d,hc,hd=>cW x (by grind [aR]) hd
 | .scope x,c,d,hc,hd=>cW x (by grind [aR]) hd
 | .loop x,c,d,hc,hd=>by
  simp only[aR,zav] at hc⊢
  rcases hc with rfl |hc
  ·grind
  ·exact .inr (cW x hc hd)
 | .skip,c,d,hc,_ | .label _,c,d,hc,_ | .region ..,c,d,hc,_ | .exit _,c,d,hc,_ | .ret,c,d,hc,_ | .rangeFunc ..,c,d,hc,_ | .goto _,c,d,hc,_ | .refuse _,c,d,hc,_=>by simp[aR] at hc
theorem sI {id:Nat} {c:Code}: ∀(l:List Code),js id l=some c->c∈l
 | [],h=>by simp[js] at h
 |d::r,h=>by
  simp only[js] at h
  split at h
  ·grind
  ·exact zaH _ (sI r h)
theorem tR {f:FuncId} {id:Nat} {d:Code} (hu:uniq Q f=true) (hd:d∈aR (bx Q f id)):bx Q f (Code.rX d)=d:=by
 unfold bx at hd⊢
 unfold uniq at hu
 split at hd
 ·rename_i fn fX
  rw[fX] at hu
  split at hd
  ·rename_i c hc
   simp only[hc] at hu⊢
   cases hf:js id (aR c) with
   |none=>rw[hf] at hd;simp[aR] at hd
   |some e=>
    rw[hf] at hd
    have:=cW c (sI _ hf) hd
    rw[jt _ (dD _ hu) this,zca]
  ·simp[aR] at hd
 ·simp[aR] at hd
def Oa (Q:Program) (kp:pZ) (f:FuncId) (h:bq):Prop:= ∀ps R,KW (h ps R) (fun x=>Ev fun a b=>fc Q kp a b f ps R=some x)
theorem Kp.cons {H:List (FuncId×bq)} {f:FuncId} {h:bq} (hf:Oa Q kp f h) (hH:Kp Q kp H):Kp Q kp ((f,h)::H):=by
 intro f' h' hh ps R
 simp only[lk] at hh
 split at hh
 ·rename_i he
  have he:=zaf he
  subst he
  simp only[zal] at hh
  subst hh
  exact hf ps R
 ·exact hH f' h' hh ps R
theorem Oa.sJ {f:FuncId} {fn:Func} {h:bq} (fX:Q.funcs[f]?=some fn) (hx:gR f kp.xs=true) (hb: ∀ps R post,h ps R post-> ∃x,kp.X f ps R=some x/\post x):Oa Q kp f h:=by
 intro ps R post hp
 obtain⟨x,h1,h2⟩:=hb ps R post hp
 refine⟨x,⟨1,fun a b _ hb=> ?_⟩,h2⟩
 obtain⟨b,rfl⟩: ∃b',b=b'+1:=⟨b-1,by omega⟩
 grind [fc]
theorem Oa.mk {H:List (FuncId×bq)} {f:FuncId} {h:bq} {hk:List (Nat×(S->K (PX×S)))} {k:Nat} (Mu:nv dc 0 Q.funcs.toList=true) (hH:Kp Q kp H) (hu:uniq Q f=true)
  (hl: ∀id g,lk hk id=some g-> ∀s,KW (g s) (fun x=>Ev fun a b=>iy (bz Q (fc Q kp a b) (kp f) a (bx Q f id)) (kp f id) a s=some x))
  (hb: ∀ps R post,h ps R post->mB Q (runK Q kp dc H lf k) kp hk dc lf f ps R post):Oa Q kp f h:=by
 intro ps R post hp
 refine E4 (kA Mu) (wm (kA Mu) hH k) f (fun fn c fX hc d hd g hg s=> ?_) ps R post (hb ps R post hp)
 have e:bx Q f (Code.rX d)=d:=by
  grind [uniq,bx,jt,dD]
 have:=hl _ g hg s
 rwa [e] at this
def roundPost (n:Nat) (I:Nat->S->Prop) (O:PX×S->Prop) (x:PX×S):Prop:=match x.1 with | .normal=> ∃m,m<n/\I m x.2 |_=>O x
theorem Wj {H:List (FuncId×bq)} {c:Code} {hk:List (Nat×(S->K (PX×S)))} {kp1:Nat->Option (List Nat×List Nat)} {dc1:Nat->Nat} {k:Nat} {keep:Option (List Nat×List Nat)} (Mu:nv dc 0 Q.funcs.toList=true) (hH:Kp Q kp H) (hc:b8 dc1 c=true)
  (hl: ∀d∈aR c,∀h,lk hk (Code.rX d)=some h->Ic Q (fc Q kp) kp1 d h)
  {I:Nat->S->Prop} {O:PX×S->Prop}
  (hr: ∀n s,I n s->wU (fe Q (runK Q kp dc H lf k) kp1 hk dc1 lf c) keep s (roundPost n I O)):
  ∀n s,I n s-> ∃x,O x/\dQ (fun a b=>bz Q (fc Q kp a b) kp1 a c) keep s x:=by
 intro n
 induction n using Nat.strongRecOn with
 |_ n ih=>
  intro s hs
  obtain⟨x,h1,h2⟩:=Mt (body:=fun a b=>bz Q (fc Q kp a b) kp1 a c) (fH (wm (kA Mu) hH k) c hc hl s) _ (hr n s hs)
  obtain⟨e,s2⟩:=x
  cases e with
  |normal=>
   obtain⟨m,hm,hi⟩:=h2
   grind [dQ.on]
  |exit id=>exact⟨_,h2,dQ.out h1 (by simp)⟩
  |ret=>exact⟨_,h2,dQ.out h1 (by simp)⟩
end
end Pi
