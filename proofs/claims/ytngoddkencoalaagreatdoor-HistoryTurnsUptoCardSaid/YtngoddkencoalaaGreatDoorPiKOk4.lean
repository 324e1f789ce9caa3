/- The text PiKOk4. -/
import Derived.Test.YtngoddkencoalaaGreatDoorPiDrawOk2
namespace Pi
open Go
section
variable{Q:Program}{s:S}
theorem O3{t:TypeId}{p q:P}:KW (J0 Q s t p q) (λs1=>gB Q s t p q=some s1):=by
 unfold J0;split
 next n v i k' off=>
  split
  ·exact KW.fail
  rename_i k hk;split
  next s1 x hf=>
   split
   ·rename_i ty es ho;split
    ·rename_i k2 qY;split
     next hc=>refine KW.bind (p:=λ_=>i<es.length) (KW.jY λhb=>by grind) λ_ hi=> ?_;refine KW.bind (oG Q ty _) λy hy=>KW.ret ?_;grind [gB,yM]
     exact KW.fail
    exact KW.fail
   exact KW.fail
  exact KW.fail
 grind [KW.dR]
theorem Kx{dst:Option Nat}{t t2:TypeId}{p q:P}:KW (DO Q s dst t t2 p q) (λs1=>jn Q s dst t t2 p q=some s1):=by
 unfold DO;split
 ·exact KW.fail
 rename_i e he;split
 next i k hi hk=>
  split
  next ys z hy hz=>
   split
   ·rename_i hb;split
    ·rename_i n v len;split
     ·rename_i en nE;split
      ·rename_i ty es ho;split
       next hc=>refine KW.bind (p:=λ_=>(Nat.ble len es.length&&aI (len+ys.length) i.bytes)=true) (KW.jY λhb=>hb) λ_ hl=> ?_;grind [KW.dR,aI,jn]
       exact KW.fail
      exact KW.fail
     exact KW.fail
    ·refine KW.bind (p:=λ_=>aI ys.length i.bytes=true) (KW.jY λhb=>hb) λ_ hl=> ?_;grind [KW.dR,jn,KW.fail]
    exact KW.fail
   exact KW.fail
  exact KW.fail
 exact KW.fail
theorem SL{dst:Option Nat}{t:TypeId}{p q:P}:KW (RH Q s dst t p q) (λs1=>tD Q s dst t p q=some s1):=by
 unfold RH;split
 next e k1 l k2 c h1=>
  split
  next i k z h2 h3 h4=>
   split
   ·rename_i hz;refine KW.bind (p:=λ_=>decide (0<=l/\l<=c/\c<=9223372036854775807/\(i.bytes:Int)*c<=281474976710656)=true) (KW.jY λhb=>hb) λ_ hb=> ?_;split
    ·simp_all [KW.dR,tD]
    exact KW.fail
   exact KW.fail
  exact KW.fail
 exact KW.fail
theorem O4{dst:Option Nat}{t:TypeId}{p:P}:KW (J1 Q s dst t p) (λs1=>oz Q s dst t p=some s1):=by
 unfold J1;split
 next e n v k off len h1=>
  split
  next k2 z ty es h2 h3 h4=>
   split
   next hc=>refine KW.bind (p:=λ_=>off+len<=es.length) (KW.jY λhb=>by grind) λ_ hb=>KW.dR λs1 h=> ?_;simp_all [oz,zaY]
   exact KW.fail
  exact KW.fail
 exact KW.fail
theorem SM{dst:Option Nat}{t t2:TypeId}{p q:P}:KW (RI Q s dst t t2 p q) (λs1=>tE Q s dst t t2 p q=some s1):=by
 unfold RI;split
 next e n v len h1=>
  split
  next k h2=>
   split
   ·rename_i ys ty es h3 h4;split
    next ht=>refine KW.bind (p:=λ_=>decide (len<=es.length/\ys.length<=len)=true) (KW.jY λhb=>hb) λ_ hb=>KW.dR λs2 hs=> ?_;simp_all [tE]
    exact KW.fail
   exact KW.fail
  exact KW.fail
 exact KW.fail
theorem CK: ∀(ys:List D),hJ ys=true->jX ys=some (bytesOf ys)
 | [],_=>rfl
 |x::r,h=>by
  unfold hJ at h;split at h
  ·grind
  next n r' heq=>obtain⟨rfl,rfl⟩:=heq;simp only[jX,CK _ h];rfl
  cases h
theorem O5{o:Oper}{g:Option (Nat×Bool)}:KW (J2 Q s o g) (λs1=>jC Q s o g=some s1):=by
 unfold J2;split
 ·simp[KW.dR]
 rename_i Yb;split
 next he=>
  have hex:pv Q s o g=none-> ∀s1,ef Q s o g=some s1->jC Q s o g=some s1:=λhp s1 h=>by grind [jC]
  unfold qh3 at he;unfold efK;split
  ·grind [pv,KW.bind,O3,KW.dR,ef]
  next t1 t2 x ho=>
   split
   ·rename_i e h1 h2;split
    ·rename_i ys hu hs;split
     ·rename_i GP;have hp:pv Q s o g=none:=by
       have:(s.eg g x).cF=none:=by
        cases hx:s.eg g x with
        |sl n v len=>rfl
        |mb n v k off len=>rfl
        |d y=>rw[hx] at GP;cases y<;>first |rfl | (simp[P.isRow] at GP)
        |_=>rw[hx] at GP;simp[P.isRow] at GP
       grind [pv]
      refine KW.bind (p:=λ_=>hJ ys=true) (KW.jY λhb=>hb) λ_ hb=>KW.dR λs2 h3=>hex hp _ ?_;grind [ef,CK]
     exact KW.fail
    exact KW.fail
   grind
  next c ho=>
   split
   ·rename_i hc;have hp:pv Q s o g=none:=by grind [pv]
    split
    next x y t t2 h1 h2=>refine Kx.mono λs1 h=>hex hp _ ?_;unfold ef;simp only[ho,hc,h1,h2];exact h
    exact KW.fail
   ·rename_i hc;have hp:pv Q s o g=none:=by unfold pv;simp only[ho,hc]
    split
    next x y t t2 h1 h2=>refine SM.mono λs1 h=>hex hp _ ?_;unfold ef;simp only[ho,hc,h1,h2];exact h
    exact KW.fail
   ·rename_i hc;have hp:pv Q s o g=none:=by unfold pv;simp only[ho,hc]
    split
    next x t h1 h2=>refine O4.mono λs1 h=>hex hp _ ?_;unfold ef;simp only[ho,hc,h1,h2];exact h
    exact KW.fail
   grind
  next t x y ho=>
   have hp:pv Q s o g=none:=by unfold pv;rw[ho]
   refine SL.mono λs1 h=>hex hp _ ?_;grind [ef]
  grind [pv,KW.dR]
 grind [KW.bind,qei,KW.dR,jC]
theorem SN{o:Oper}{g:Option (Nat×Bool)}:KW (RJ Q s o g) (λs1=>exec Q s o g=some s1):=by
 unfold RJ;cases hm:se o with
 |some r=>grind [KW.dR,exec]
 |none=>refine O5.mono λs1 h=> ?_;grind [exec]
end
def Ev(p:Nat->Nat->Prop):Prop:= ∃N,∀a b,N<=a->N<=b->p a b
theorem Ev.const{p:Prop}(h:p):Ev λ_ _=>p:=⟨0,λ_ _ _ _=>h⟩
theorem Ev.mono{p q:Nat->Nat->Prop}(h:Ev p)(R4: ∀a b,p a b->q a b):Ev q:=by obtain⟨N,h⟩:=h;exact⟨N,λa b ha hb=>R4 a b (h a b ha hb)⟩
theorem Ev.and{p q:Nat->Nat->Prop}(h:Ev p)(k:Ev q):Ev λa b=>p a b/\q a b:=by obtain⟨N,h⟩:=h;obtain⟨M,k⟩:=k;exact⟨max N M,λa b ha hb=>⟨h a b (by omega) (by omega),k a b (by omega) (by omega)⟩⟩
theorem Ev.SO{p q r:Nat->Nat->Prop}(h:Ev p)(k:Ev q)(R4: ∀a b,p a b->q a b->r a b):Ev r:=(h.and k).mono λa b x=>R4 a b x.1 x.2
theorem Ev.some{p:Nat->Nat->Prop}(h:Ev p): ∃a b,p a b:=by obtain⟨N,h⟩:=h;exact⟨N,N,h N N (zak _) (zak _)⟩
def BN(kf:KF)(cf:Nat->Nat->CF):Prop:= ∀f ps R,KW (kf f ps R) (λx=>Ev λa b=>cf a b f ps R=some x)
section
variable{Q:Program}{kf:KF}{cf:Nat->Nat->CF}(ic:BN kf cf)
include ic
theorem SP{s:S}{dst:Option Nat}{f:P}{args:List P}:KW (rO Q kf s dst f args) (λs1=>Ev λa b=>mS Q (cf a b) s dst f args=some s1):=by
 unfold rO;split
 next kW cQ=>
  split
  ·exact KW.fail
  rename_i s1 ps hf;simp only[];split
  next hn=>
   split
   ·exact KW.fail
   rename_i R0 hR0;refine KW.bind (ic _ _ _) λx hx=> ?_;split
   ·rename_i hm;split
    ·exact KW.fail
    rename_i R2 h2;split
    ·exact KW.fail
    rename_i R3 h3;refine KW.dR λs2 h=>hx.mono λa b hx=> ?_;grind [mS]
   exact KW.fail
  exact KW.fail
 exact KW.fail
theorem Es{s:S}{o:Oper}{g:Option (Nat×Bool)}:KW (RL Q kf s o g) (λs1=>Ev λa b=>gk Q (cf a b) s o g=some s1):=by
 unfold RL;split
 ·grind [SP,gk]
 rename_i hc;exact SN.mono λs1 h=>Ev.const h |>.mono λa b h=>by grind [gk]
omit ic in
theorem zo(t:Nat)(v:P): ∀(m:List (Nat×P)),lk m t=some v->rep t v m=m
 | [],h=>rfl
 | (k,u)::r,h=>by
  simp only[lk] at h;simp only[rep];split
  next hk=>rw[zap hk] at h;simp only[zam] at h;rw[h]
  rename_i hk;rw[zan hk] at h;rw[zo t v r h]
omit ic in
def kc(kn:List (Nat×Bool))(s:S):Prop:= ∀t r,lk kn t=some r->lk s.tm t=some (.d (.bool r))
omit ic in
theorem vA(d:Nat): ∀(kn:List (Nat×Bool)) (t:Nat) (r:Bool),lk (kn.filter λx=> !Nat.beq x.1 d) t=some r->t≠d/\lk kn t=some r
 | [],t,r,h=>by simp[lk] at h
 | (k,u)::l,t,r,h=>by
  simp only[List.filter_cons] at h;split at h
  next hk=>
   simp only[lk] at h⊢;split
   next ht=>rw[zap ht] at h;have e:=zag ht;subst e;refine⟨λe=> ?_,h⟩;subst e;simp at hk
   rename_i ht;rw[zan ht] at h;exact vA d l t r h
  rename_i hk;obtain⟨h1,h2⟩:=vA d l t r h;refine⟨h1,?_⟩;simp only[lk];have hk:Nat.beq k d=true:=by simpa using hk
  have e:=zag hk;subst e;have:Nat.beq k t=false:=by
   cases hb:Nat.beq k t with
   |false=>rfl
   |true=>exact absurd (zag hb).symm h1
  rw[this];exact h2
omit ic in
theorem kc.step{cf:CF}{ops:List Oper}{kn:List (Nat×Bool)}{s s1:S}{o:Oper}(h:kc kn s)(hs:br Q cf ops s o=some s1):kc (DP o.dst kn) s1:=by
 obtain⟨c,h2,_⟩:=sv (Q:=Q) (cf:=cf) (ops:=ops) (s:=s) (s2:=s) (o:=o) (λ_ _=>rfl) rfl rfl;rw[hs] at h2;cases c with
 |none=>cases h2
 |some x=>
  obtain⟨_,_,_,g4⟩:=ib (h2.symm:(⟨s.n,s.tm,x.1⟩:S).put o.dst x.2=some s1);intro t r ht;have key:o.dst≠some t/\lk kn t=some r:=by
   unfold DP at ht;split at ht
   next hd=>rw[hd];exact⟨by simp,ht⟩
   rename_i d hd;obtain⟨k1,k2⟩:=vA _ _ _ _ ht;rw[hd];exact⟨λe=>k1 (by simpa using e.symm),k2⟩
  have hv:=h t r key.2;rw[g4 t key.1];exact hv
omit ic in
theorem Et{ops:List Oper}{o:Oper}(s:S):KW (RM ops o s) (λs1=>s=s1):=by
 unfold RM;split
 ·split
  next d hd=>
   split
   next k z hz=>intro ae hp;have:=hp z rfl;rw[zo d _ _ hz] at this;exact⟨s,rfl,this⟩
   exact KW.ret rfl
  exact KW.ret rfl
 exact KW.ret rfl
theorem tV{ops:List Oper}{kn:List (Nat×Bool)}{s:S}{o:Oper}(du:kc kn s):KW (Ck Q kf ops kn s o) (λx=>(Ev λa b=>br Q (cf a b) ops s o=some x.1)/\kc x.2 x.1):=by
 have go: ∀{kn:List (Nat×Bool)},kc kn s-> ∀s1,(Ev λa b=>br Q (cf a b) ops s o=some s1)->((Ev λa b=>br Q (cf a b) ops s o=some s1)/\kc (DP o.dst kn) s1):=λdu s1 h=>⟨h,by obtain⟨a,b,h⟩:=h.some;exact du.step h⟩
 unfold Ck;split
 ·exact KW.fail
 next hg=>exact KW.bind (Es ic) λs1 h=>KW.bind (Et s1) λs2 h2=>by grind [KW.ret,br]
 rename_i t want hg;split
 next r hr=>
  have hb:=du t r hr;split
  next hw=>exact KW.bind (Es ic) λs1 h=>KW.bind (Et s1) λs2 h2=>by grind [KW.ret,br]
  rename_i hw;exact KW.bind (KW.dR (p:=λs1=>s.put o.dst .skip=some s1) λa h=>h) λs1 h=>KW.ret (go du s1 ⟨0,λa b _ _=>by grind [br]⟩)
 split
 next b hb=>
  refine KW.bind (KW.dec (p:=λr=>b=r) rfl) λr hr=> ?_;subst hr;have e:(⟨s.n,rep t (.d (.bool b)) s.tm,s.rg⟩:S)=s:=by rw[zo t _ _ hb]
  rw[e];have qkX:kc ((t,b)::kn) s:=by
   intro t' r' h';simp only[lk] at h';split at h'
   ·simp_all
   exact du t' r' h'
  split
  next hw=>exact KW.bind (Es ic) λs1 h=>KW.bind (Et s1) λs2 h2=>by grind [KW.ret,br]
  rename_i hw;exact KW.bind (KW.dR (p:=λs1=>s.put o.dst .skip=some s1) λa h=>h) λs1 h=>KW.ret (go qkX s1 ⟨0,λa b _ _=>by grind [br]⟩)
 next t' b' q hb=>exact KW.bind (KW.dR (p:=λs1=>s.put o.dst .skip=some s1) λa h=>h) λs1 h=>KW.ret (go du s1 ⟨0,λa b _ _=>by grind [br]⟩)
 exact KW.fail
omit ic in
theorem kc.nil(s:S):kc [] s:=λt r h=>by simp[lk] at h
theorem oM{ops:List Oper}: ∀(l:List Oper) (kn:List (Nat×Bool)) (s:S),kc kn s->KW (mv Q kf ops l kn s) (λs1=>Ev λa b=>dz Q (cf a b) ops l s=some s1)
 | [],_,s,_=>KW.ret (Ev.const rfl)
 |o::r,kn,s,du=>by unfold mv;refine KW.bind (tV ic du) λx hx=> ?_;rw[S.force_eq];refine(oM r x.2 x.1 hx.2).mono λs2 h2=>hx.1.SO h2 λa b hx h2=> ?_;grind [dz]
theorem sC{ops:List Oper}: ∀(l:List Oper) (kn:List (Nat×Bool)) (s:S),kc kn s->KW (oB Q kf ops l kn s) (λx=>Ev λa b=>qh Q (cf a b) ops l s=some x)
 | [],_,s,_=>KW.ret (Ev.const rfl)
 |o::r,kn,s,du=>by unfold oB;refine KW.bind (tV ic du) λx hx=> ?_;rw[S.force_eq];refine KW.bind (sC r x.2 x.1 hx.2) λy hy=>KW.ret (hx.1.SO hy λa b hx hy=> ?_);grind [qh]
theorem zp{ops:List Oper}{s:S}(hc:dp ops=1):KW (λae=>K.bind (oB Q kf ops ops [] s) (λx=>λae=>qg 0 (masks ops []) x.2 (ae x.1)) ae) (λs1=>Ev λa b=>jD Q (cf a b) ops s=some s1):=by
 refine KW.bind (sC ic ops [] _ (kc.nil _)) λx hx ae hp=>⟨x.1,hx.mono λa b hx=> ?_,zl _ _ _ hp⟩
 have h:qg 0 (masks ops []) x.2 True:=qA _ _ _ _ (λ_=>trivial) hp;grind [jD]
theorem zq{ops:List Oper}{s:S}(hc:dp ops=2):KW (mv Q kf ops ops [] s) (λs1=>Ev λa b=>jD Q (cf a b) ops s=some s1):=
 (oM ic ops [] _ (kc.nil _)).mono λs1 h=>h.mono λa b h=>by grind [jD]
theorem zr{ops:List Oper}{cls:Nat}(Ea:lu ops=cls){s:S}:KW (Gv Q kf ops cls s) (λs1=>Ev λa b=>js Q (cf a b) ops s=some s1):=by
 have plain: ∀k,lu ops=k->1<=k->k<=3->dp ops=k:=by grind [lu]
 have marked: ∀k,k<=1->lu ops=k+4->dp ops=0/\dp (cX ops)=k+1:=by grind [lu,dp]
 subst Ea;unfold Gv;split
 ·exact KW.fail
 ·grind [zp,js]
 next hc=>have h1:=marked 0 (by omega) hc;grind [zp,js]
 ·grind [zq,js]
 next hc=>have h1:=marked 1 (by omega) hc;grind [zq,js]
 next hc=>
  have late:dp ops=0/\dp (cX ops)=0/\ ∀m t d,DJ ops=some (m,t,d)->DK ops m=true:=by grind [lu,dp,cX]
  split
  next m t d hl=>
   split
   ·rename_i Mz htm;refine KW.bind (sC ic ops [] _ (kc.nil _)) λx hx ae hp=>⟨x.1,hx.mono λa b hx=> ?_,zl _ _ _ hp⟩
    have h:qg m (masks ops []) x.2 True:=qA _ _ _ _ (λ_=>trivial) hp;unfold js;simp only[late.1,late.2.1];unfold tG;simp only[hl,hx];rw[zap ⟨late.2.2 m t d hl,Mz,htm⟩,zap h]
   exact KW.fail
  exact KW.fail
 exact KW.fail
def dU(body:Nat->Nat->S->Option (PX×S))(keep:Option (List Nat×List Nat))(s0:S)(x:PX×S):Prop:=
 ∃N,∀a b k,N<=a->N<=b->N<=k-> ∀s,cz keep s=some s0->iJ (body a b) keep k s=some x
def Eu(body:S->Option (PX×S))(keep:Option (List Nat×List Nat))(s:S)(x:PX×S):Prop:=
 match x.1 with
 | .normal=> ∃s1,body s=some (.normal,s1)/\cz keep s1=some x.2
 |e=> ∃s1,body s=some (e,s1)/\dG keep s1=some x.2
omit ic in
theorem O6{nA:S->K (PX×S)}{body:Nat->Nat->S->Option (PX×S)}{s:S}(hb:KW (nA s) (λx=>Ev λa b=>body a b s=some x)){keep:Option (List Nat×List Nat)}:KW (yz nA keep s) (λx=>Ev λa b=>Eu (body a b) keep s x):=by
 unfold yz;refine KW.bind hb λx hx=> ?_;obtain⟨e,s1⟩:=x;cases e with
 |normal=>exact KW.bind (KW.dR λa h=>h) λs2 h2=>KW.ret (hx.mono λa b hx=>⟨s1,hx,h2⟩)
 |exit id=>exact KW.bind (KW.dR λa h=>h) λs2 h2=>KW.ret (hx.mono λa b hx=>⟨s1,hx,h2⟩)
 |ret=>exact KW.bind (KW.dR λa h=>h) λs2 h2=>KW.ret (hx.mono λa b hx=>⟨s1,hx,h2⟩)
omit ic in
theorem dU.out{body:Nat->Nat->S->Option (PX×S)}{keep:Option (List Nat×List Nat)}{s0:S}{x:PX×S}(hr:Ev λa b=>Eu (body a b) keep s0 x)(he:x.1≠ .normal):dU body keep s0 x:=by
 obtain⟨N,hr⟩:=hr;refine⟨N+1,λa b k ha hb hk s hs=> ?_⟩;obtain⟨e,s2⟩:=x;have h:=hr a b (by omega) (by omega);obtain⟨k,rfl⟩: ∃k',k=k'+1:=⟨k-1,by omega⟩
 cases e with
 |normal=>exact absurd rfl he
 |exit id=>obtain⟨s1,h1,h2⟩:=h;simp only[] at h1 h2;simp only[iJ,hs,h1,h2]
 |ret=>obtain⟨s1,h1,h2⟩:=h;simp only[] at h1 h2;simp only[iJ,hs,h1,h2]
omit ic in
theorem dU.on{body:Nat->Nat->S->Option (PX×S)}{keep:Option (List Nat×List Nat)}{s0 s2:S}{x:PX×S}(hr:Ev λa b=>Eu (body a b) keep s0 (.normal,s2))(h2:dU body keep s2 x):dU body keep s0 x:=by
 obtain⟨N,hr⟩:=hr;obtain⟨M,h2⟩:=h2;refine⟨max N M+1,λa b k ha hb hk s hs=> ?_⟩;obtain⟨s1,h1,h3⟩:=hr a b (by omega) (by omega);obtain⟨k,rfl⟩: ∃k',k=k'+1:=⟨k-1,by omega⟩
 simp only[] at h1 h3;simp only[iJ,hs,h1];exact h2 a b k (by omega) (by omega) (by omega) s1 h3
omit ic in
theorem dU.ev{body:Nat->Nat->S->Option (PX×S)}{keep:Option (List Nat×List Nat)}{s s0:S}{x:PX×S}(hs:cz keep s=some s0)(h:dU body keep s0 x):Ev λa b=>iJ (body a b) keep a s=some x:=by obtain⟨N,h⟩:=h;exact⟨N,λa b ha hb=>h a b a ha hb ha s hs⟩
omit ic in
theorem CL{nA:S->K (PX×S)}{body:Nat->Nat->S->Option (PX×S)}(hb: ∀s,KW (nA s) (λx=>Ev λa b=>body a b s=some x)){keep:Option (List Nat×List Nat)}: ∀(k:Nat) (s:S),KW (DQ nA keep k s) (λx=> ∃s0,cz keep s=some s0/\dU body keep s0 x)
 |0,s=>KW.fail
 |k+1,s=>by
  unfold DQ;refine KW.bind (KW.dR λa h=>h) λs0 h0=>KW.bind (hb s0) λx hx=> ?_;obtain⟨e,s1⟩:=x;cases e with
  |normal=>exact(CL hb k s1).mono λy ⟨s2,g1,g2⟩=>⟨s0,h0,dU.on (hx.mono λa b hx=>⟨s1,hx,g1⟩) g2⟩
  |exit id=>exact KW.bind (KW.dR λa h=>h) λs2 h2=>KW.ret ⟨s0,h0,dU.out (hx.mono λa b hx=>⟨s1,hx,h2⟩) (by simp)⟩
  |ret=>exact KW.bind (KW.dR λa h=>h) λs2 h2=>KW.ret ⟨s0,h0,dU.out (hx.mono λa b hx=>⟨s1,hx,h2⟩) (by simp)⟩
def aN:Code->List Code
 | .seq a b=>aN a++aN b
 | .cond _ a b=>aN a++aN b
 | .block _ c | .scope c=>aN c
 | .loop c=>c::aN c
 |_=>[]
variable{kp:Nat->Option (List Nat×List Nat)}{hk:List (Nat×(S->K (PX×S)))}{dc:Nat->Nat}{lf:Nat}
def Ky(Q:Program)(cf:Nat->Nat->CF)(kp:Nat->Option (List Nat×List Nat))(c:Code)(h:S->K (PX×S)):Prop:=
 ∀s,KW (h s) (λx=>Ev λa b=>iJ (bQ Q (cf a b) kp a c) (kp (Code.s9 c)) a s=some x)
theorem fN: ∀(c:Code),cc dc c=true->(∀d∈aN c,∀h,lk hk (Code.s9 d)=some h->Ky Q cf kp d h)-> ∀(s:S),KW (fq Q kf kp hk dc lf c s) (λx=>Ev λa b=>bQ Q (cf a b) kp a c s=some x)
 | .skip,_,_,s=>KW.ret (Ev.const rfl)
 | .label _,_,_,s=>KW.ret (Ev.const rfl)
 | .region id ops draw,hl,_,s=>by
  unfold fq;refine KW.bind (p:=λs1=>Ev λa b=>(if draw then js Q (cf a b) ops.toList s else dz Q (cf a b) ops.toList ops.toList s)=some s1) ?_ λs1 h1=>KW.ret (h1.mono λa b h1=> ?_)
  ·grind [zr,Nat.eq_of_beq_eq_true,cc,oM,kc.nil]
  simp only[bQ,h1]
 | .seq x y,hl,hh,s=>by
  unfold fq;refine KW.bind (fN x (zab _ _▸hl:_/\_).1 (λd hd=>hh d (by simp[aN,hd])) s) λz hz=> ?_;obtain⟨e,s1⟩:=z;cases e with
  |normal=>exact(fN y (zab _ _▸hl:_/\_).2 (λd hd=>hh d (by simp[aN,hd])) s1).mono λu hu=>hz.SO hu λa b hz hu=>by grind [bQ]
  |exit id=>exact KW.ret (hz.mono λa b hz=>by simp only[bQ,hz])
  |ret=>exact KW.ret (hz.mono λa b hz=>by simp only[bQ,hz])
 | .cond c x y,hl,hh,s=>by
  unfold fq;split
  next b hb=>
   refine KW.bind (KW.dec (p:=λr=>b=r) rfl) λr hr=> ?_;subst hr;cases b with
   |true=>exact(fN x (zab _ _▸hl:_/\_).1 (λd hd=>hh d (by simp[aN,hd])) s).mono λz hz=>hz.mono λa b hz=>by grind [bQ]
   |false=>exact(fN y (zab _ _▸hl:_/\_).2 (λd hd=>hh d (by simp[aN,hd])) s).mono λz hz=>hz.mono λa b hz=>by grind [bQ]
  exact KW.fail
 | .block id c,hl,hh,s=>by
  unfold fq;refine KW.bind (fN c hl (λd hd=>hh d (by simpa [aN] using hd)) s) λx hx=> ?_;obtain⟨e,s1⟩:=x;cases e with
  |normal=>exact KW.ret (hx.mono λa b hx=>by simp only[bQ,hx])
  |exit qi=>
   simp only[];split
   next h=>exact KW.ret (hx.mono λa b hx=>by grind [bQ])
   grind [KW.ret,bQ]
  |ret=>grind [KW.ret,bQ]
 | .loop c,hl,hh,s=>by
  unfold fq;split
  next h hh1=>exact(hh c (by simp[aN]) h hh1 s).mono λx hx=>hx.mono λa b hx=>by grind [bQ]
  exact(CL (body:=λa b=>bQ Q (cf a b) kp a c) (λs=>fN c hl (λd hd=>hh d (by simp[aN,hd])) s) lf s).mono λx ⟨s0,g1,g2⟩=>(g2.ev g1).mono λa b hx=>by grind [bQ]
 | .scope c,hl,hh,s=>by unfold fq;exact(fN c hl (λd hd=>hh d (by simpa [aN] using hd)) s).mono λx hx=>hx.mono λa b hx=>by grind [bQ]
 | .exit id,_,_,s=>KW.ret (Ev.const rfl)
 | .ret,_,_,s=>KW.ret (Ev.const rfl)
 | .rangeFunc _ _ _ _,_,_,s=>KW.fail
 | .goto _,_,_,s=>KW.fail
 | .refuse _,_,_,s=>KW.fail
end
section
variable{Q:Program}{kp:qV}{dc:FuncId->Nat->Nat}{lf:Nat}
theorem Hl{kf:KF}{hk:List (Nat×(S->K (PX×S)))}(O7: ∀f fn c,Q.funcs[f]?=some fn->fn.body=some c->cc (dc f) c=true)(ic:BN kf (fJ Q kp))(f:FuncId)
  (hh: ∀fn c,Q.funcs[f]?=some fn->fn.body=some c-> ∀d∈aN c,∀h,lk hk (Code.s9 d)=some h->Ky Q (fJ Q kp) (kp f) d h)
  (ps:List P) (R:List (Nat×En)):KW (nA Q kf kp hk dc lf f ps R) (λx=>Ev λa b=>fJ Q kp a b f ps R=some x):=by
 unfold nA;split
 ·exact KW.fail
 rename_i fn gg;split
 ·exact KW.fail
 rename_i YU;split
 ·exact KW.fail
 rename_i c hc;split
 ·exact KW.fail
 rename_i lG;refine KW.bind (fN ic c (O7 f fn c gg hc) (hh fn c gg hc) _) λx hx=> ?_;split
 ·exact KW.fail
 rename_i dQ;split
 next qs hq=>
  unfold DR;refine KW.dR λy hy=> ?_;obtain⟨N,hx⟩:=hx;refine⟨N+1,λa b ha hb=> ?_⟩;obtain⟨b,rfl⟩: ∃b',b=b'+1:=⟨b-1,by omega⟩
  grind [fJ]
 exact KW.fail
def MF(Q:Program)(kp:qV)(H:List (FuncId×bg)):Prop:=
 ∀f h,lk H f=some h-> ∀ps R,KW (h ps R) (λx=>Ev λa b=>fJ Q kp a b f ps R=some x)
theorem MF.nil:MF Q kp []:=λf h hh=>by simp[lk] at hh
theorem xT{H:List (FuncId×bg)}(O7: ∀f fn c,Q.funcs[f]?=some fn->fn.body=some c->cc (dc f) c=true)(hH:MF Q kp H): ∀(k:Nat),BN (runK Q kp dc H lf k) (fJ Q kp)
 |0=>λf ps R=>by
  unfold runK;split
  next h hh=>exact hH f h hh ps R
  exact KW.fail
 |k+1=>λf ps R=>by
  unfold runK;split
  next h hh=>exact hH f h hh ps R
  exact Hl O7 (xT O7 hH k) f (λfn c _ _ d _ h hh=>by simp[lk] at hh) ps R
theorem CM: ∀(l:List Func) (i0:Nat),oC dc i0 l=true-> ∀i fn c,l[i]?=some fn->fn.body=some c->cc (dc (i0+i)) c=true
 | [],_,_,i,fn,c,h,_=>by simp at h
 |f::r,i0,h,i,fn,c,hf,hc=>by
  simp only[oC,zab] at h;cases i with
  |zero=>grind
  |succ i=>have:=CM r (i0+1) h.2 i fn c (by grind) hc;rwa [show i0+1+i=i0+(i+1) by omega] at this
theorem k7(h:oC dc 0 Q.funcs.toList=true)(f:FuncId)(fn:Func)(c:Code)(hf:Q.funcs[f]?=some fn)(hc:fn.body=some c):cc (dc f) c=true:=by have:=CM Q.funcs.toList 0 h f fn c (by grind) hc;rwa [zaF] at this
def jI(id:Nat):List Code->Option Code
 | []=>none
 |c::r=>if Nat.beq (Code.s9 c) id then some c else jI id r
def bw(Q:Program)(f:FuncId)(id:Nat):Code:=
 match Q.funcs[f]? with
 |some fn=>(match fn.body with |some c=>(jI id (aN c)).getD .skip |none=> .skip)
 |none=> .skip
def uniq(Q:Program)(f:FuncId):Bool:=
 match Q.funcs[f]? with
 |some fn=>(match fn.body with |some c=>dZ ((aN c).map Code.s9)|none=>true)
 |none=>true
theorem jJ{d:Code}: ∀(l:List Code),(l.map Code.s9).Nodup->d∈l->jI (Code.s9 d) l=some d
 | [],_,h=>by simp at h
 |c::r,hn,h=>by
  simp only[zbg,zbd] at hn;simp only[jI];rcases zav.1 h with rfl |h
  ·simp
  split
  ·grind [Nat.eq_of_beq_eq_true]
  exact jJ r hn.2 h
theorem c7: ∀(b:Code) {c d:Code},c∈aN b->d∈aN c->d∈aN b
 | .seq x y,c,d,hc,hd=>by simp only[aN,zay] at hc⊢;exact hc.imp (c7 x · hd) (c7 y · hd)
 | .cond _ x y,c,d,hc,hd=>by simp only[aN,zay] at hc⊢;exact hc.imp (c7 x · hd) (c7 y · hd)
 | .block _ x,c,d,hc,hd=>c7 x (by grind [aN]) hd
 | .scope x,c,d,hc,hd=>c7 x (by grind [aN]) hd
 | .loop x,c,d,hc,hd=>by
  simp only[aN,zav] at hc⊢;rcases hc with rfl |hc
  ·grind
  exact .inr (c7 x hc hd)
 | .skip,c,d,hc,_ | .label _,c,d,hc,_ | .region ..,c,d,hc,_ | .exit _,c,d,hc,_ | .ret,c,d,hc,_ | .rangeFunc ..,c,d,hc,_ | .goto _,c,d,hc,_ | .refuse _,c,d,hc,_=>by simp[aN] at hc
theorem tW{id:Nat}{c:Code}: ∀(l:List Code),jI id l=some c->c∈l
 | [],h=>by simp[jI] at h
 |d::r,h=>by
  simp only[jI] at h;split at h
  ·grind
  exact zaL _ (tW r h)
theorem vB{f:FuncId}{id:Nat}{d:Code}(hu:uniq Q f=true)(hd:d∈aN (bw Q f id)):bw Q f (Code.s9 d)=d:=by
 unfold bw at hd⊢;unfold uniq at hu;split at hd
 next fn gg=>
  rw[gg] at hu;split at hd
  next c hc=>
   simp only[hc] at hu⊢;cases hf:jI id (aN c) with
   |none=>rw[hf] at hd;simp[aN] at hd
   |some e=>rw[hf] at hd;have:=c7 c (tW _ hf) hd;rw[jJ _ (dJ _ hu) this,zb9]
  simp[aN] at hd
 simp[aN] at hd
def QO(Q:Program)(kp:qV)(f:FuncId)(h:bg):Prop:= ∀ps R,KW (h ps R) (λx=>Ev λa b=>fJ Q kp a b f ps R=some x)
theorem MF.cons{H:List (FuncId×bg)}{f:FuncId}{h:bg}(hf:QO Q kp f h)(hH:MF Q kp H):MF Q kp ((f,h)::H):=by
 intro f' h' hh ps R;simp only[lk] at hh;split at hh
 next he=>have he:=zag he;subst he;simp only[zam] at hh;subst hh;exact hf ps R
 exact hH f' h' hh ps R
theorem QO.tX{f:FuncId}{fn:Func}{h:bg}(gg:Q.funcs[f]?=some fn)(hx:gZ f kp.xs=true)(hb: ∀ps R ae,h ps R ae-> ∃x,kp.X f ps R=some x/\ae x):QO Q kp f h:=by
 intro ps R ae hp;obtain⟨x,h1,h2⟩:=hb ps R ae hp;refine⟨x,⟨1,λa b _ hb=> ?_⟩,h2⟩;obtain⟨b,rfl⟩: ∃b',b=b'+1:=⟨b-1,by omega⟩
 grind [fJ]
theorem QO.mk{H:List (FuncId×bg)}{f:FuncId}{h:bg}{hk:List (Nat×(S->K (PX×S)))}{k:Nat}(O7:oC dc 0 Q.funcs.toList=true)(hH:MF Q kp H)(hu:uniq Q f=true)
  (hl: ∀id g,lk hk id=some g-> ∀s,KW (g s) (λx=>Ev λa b=>iJ (bQ Q (fJ Q kp a b) (kp f) a (bw Q f id)) (kp f id) a s=some x))
  (hb: ∀ps R ae,h ps R ae->nA Q (runK Q kp dc H lf k) kp hk dc lf f ps R ae):QO Q kp f h:=by
 intro ps R ae hp;refine Hl (k7 O7) (xT (k7 O7) hH k) f (λfn c gg hc d hd g hg s=> ?_) ps R ae (hb ps R ae hp);have e:bw Q f (Code.s9 d)=d:=by grind [uniq,bw,jJ,dJ]
 have:=hl _ g hg s;rwa [e] at this
def roundPost(n:Nat)(I:Nat->S->Prop)(O:PX×S->Prop)(x:PX×S):Prop:=match x.1 with | .normal=> ∃m,m<n/\I m x.2 |_=>O x
theorem qak{H:List (FuncId×bg)}{c:Code}{hk:List (Nat×(S->K (PX×S)))}{kp1:Nat->Option (List Nat×List Nat)}{dc1:Nat->Nat}{k:Nat}{keep:Option (List Nat×List Nat)}(O7:oC dc 0 Q.funcs.toList=true)(hH:MF Q kp H)(hc:cc dc1 c=true)
  (hl: ∀d∈aN c,∀h,lk hk (Code.s9 d)=some h->Ky Q (fJ Q kp) kp1 d h)
  {I:Nat->S->Prop} {O:PX×S->Prop}
  (hr: ∀n s,I n s->yz (fq Q (runK Q kp dc H lf k) kp1 hk dc1 lf c) keep s (roundPost n I O)):
  ∀n s,I n s-> ∃x,O x/\dU (λa b=>bQ Q (fJ Q kp a b) kp1 a c) keep s x:=by
 intro n
 induction n using Nat.strongRecOn with
 |_ n ih=>
  intro s hs;obtain⟨x,h1,h2⟩:=O6 (body:=λa b=>bQ Q (fJ Q kp a b) kp1 a c) (fN (xT (k7 O7) hH k) c hc hl s) _ (hr n s hs);obtain⟨e,s2⟩:=x;cases e with
  |normal=>obtain⟨m,hm,hi⟩:=h2;grind [dU.on]
  |exit id=>exact⟨_,h2,dU.out h1 (by simp)⟩
  |ret=>exact⟨_,h2,dU.out h1 (by simp)⟩
end
end Pi
