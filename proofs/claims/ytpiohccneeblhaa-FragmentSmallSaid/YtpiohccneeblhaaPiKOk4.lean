/- The text PiKOk4. -/
import Derived.Test.YtpiohccneeblhaaPiDrawOk2
namespace Pi
open Go
section
variable{Q:Program}{s:S}
theorem AN{t:TypeId}{p q:P}:KW (xA Q s t p q) (λs1=>dH Q s t p q=some s1):=by
 unfold xA;split
 next n v i k' off=>
  split
  ·exact KW.fail
  rename_i k hk;split
  next ty es jL ho ds q0 Mg=>
   split
   ·rename_i k2 rn;split
    next hc=>refine KW.bind (p:=λ_=>i<es.length) (KW.cZ λhb=>by grind) λ_ hi=> ?_;refine KW.bind (p:=λ_=>jL=i) (KW.cZ λhb=>by grind) λ_ JD=>KW.ret ?_;simp only[dH,hk,Mg,rn,zac hi];rw[zat (by rw[hc,zbm JD];rfl)]
    exact KW.fail
   exact KW.fail
  rename_i QZ;split
  next s1 x hf=>
   split
   ·rename_i ty es ho;split
    ·rename_i k2 rn;split
     next hc=>refine KW.bind (p:=λ_=>i<es.length) (KW.cZ λhb=>by grind) λ_ hi=> ?_;refine KW.bind (ik Q ty _) λy hy=>KW.ret ?_;grind [dH,iR]
     exact KW.fail
    exact KW.fail
   exact KW.fail
  exact KW.fail
 grind [KW.cg]
theorem yp{dst:Option Nat}{t t2:TypeId}{p q:P}:KW (tB Q s dst t t2 p q) (λs1=>eH Q s dst t t2 p q=some s1):=by
 unfold tB;split
 ·exact KW.fail
 rename_i e he;split
 next i k hi hk=>
  split
  next ys z hy hz=>
   split
   ·rename_i hb;split
    ·rename_i n v len;split
     ·rename_i en eP;split
      ·rename_i ty es ho;split
       next hc=>refine KW.bind (p:=λ_=>(Nat.ble len es.length&&bx (len+ys.length) i.bytes)=true) (KW.cZ λhb=>hb) λ_ hl=> ?_;grind [KW.cg,bx,eH]
       exact KW.fail
      ·rename_i ty es ho;split
       ·rename_i hc;refine KW.bind (p:=λ_=>(Nat.ble len es.length&&bx (len+ys.length) i.bytes)=true) (KW.cZ λhb=>hb) λ_ hl=> ?_;split
        next j hj=>refine KW.cg λa h=> ?_;simp only[eH,he,hi,hk,hy,hz,hb,eP,ho,hj,zaT];rw[zat (by rw[Bool.and_assoc,hc,hl];rfl)];exact h
        exact KW.fail
       exact KW.fail
      exact KW.fail
     exact KW.fail
    ·refine KW.bind (p:=λ_=>bx ys.length i.bytes=true) (KW.cZ λhb=>hb) λ_ hl=> ?_;grind [KW.cg,eH,KW.fail]
    exact KW.fail
   exact KW.fail
  exact KW.fail
 exact KW.fail
theorem C2{dst:Option Nat}{t:TypeId}{p q:P}:KW (B2 Q s dst t p q) (λs1=>mr Q s dst t p q=some s1):=by
 unfold B2;split
 next e k1 l k2 c h1=>
  split
  next i k z h2 h3 h4=>
   split
   ·rename_i hz;refine KW.bind (p:=λ_=>decide (0<=l/\l<=c/\c<=9223372036854775807/\(i.bytes:Int)*c<=281474976710656)=true) (KW.cZ λhb=>hb) λ_ hb=> ?_;split
    ·simp_all [KW.cg,mr]
    exact KW.fail
   exact KW.fail
  exact KW.fail
 exact KW.fail
theorem AO{dst:Option Nat}{t:TypeId}{p:P}:KW (xC Q s dst t p) (λs1=>ji Q s dst t p=some s1):=by
 unfold xC;split
 next e n v k off len h1=>
  split
  next k2 z ty es h2 h3 h4=>
   split
   next hc=>refine KW.bind (p:=λ_=>off+len<=es.length) (KW.cZ λhb=>by grind) λ_ hb=>KW.cg λs1 h=> ?_;simp_all [ji,zbm]
   exact KW.fail
  exact KW.fail
 exact KW.fail
theorem C3{dst:Option Nat}{t t2:TypeId}{p q:P}:KW (B3 Q s dst t t2 p q) (λs1=>mv Q s dst t t2 p q=some s1):=by
 unfold B3;split
 next e n v len h1=>
  split
  next k h2=>
   split
   ·rename_i ys ty es h3 h4;split
    next ht=>refine KW.bind (p:=λ_=>decide (len<=es.length/\ys.length<=len)=true) (KW.cZ λhb=>hb) λ_ hb=>KW.cg λs2 hs=> ?_;simp_all [mv]
    exact KW.fail
   exact KW.fail
  exact KW.fail
 exact KW.fail
theorem sJ: ∀(ys:List D),eN ys=true->fM ys=some (bytesOf ys)
 | [],_=>rfl
 |x::r,h=>by
  unfold eN at h;split at h
  ·grind
  next n r' heq=>obtain⟨rfl,rfl⟩:=heq;simp only[fM,sJ _ h];rfl
  cases h
theorem AP{o:Oper}{g:Option (Nat×Bool)}:KW (xD Q s o g) (λs1=>fA Q s o g=some s1):=by
 unfold xD;split
 ·simp[KW.cg]
 rename_i Ec;split
 next he=>
  have hex:pv Q s o g=none-> ∀s1,ef Q s o g=some s1->fA Q s o g=some s1:=λhp s1 h=>by grind [fA]
  unfold Jz at he;unfold Od;split
  ·grind [pv,KW.bind,AN,KW.cg,ef]
  next t1 t2 x ho=>
   split
   ·rename_i e h1 h2;split
    ·rename_i ys hu hs;split
     ·rename_i oM;have hp:pv Q s o g=none:=by
       have:(s.eg g x).br=none:=by
        cases hx:s.eg g x with
        |sl n v len=>rfl
        |hZ n v k off len=>rfl
        |d y=>rw[hx] at oM;cases y<;>first |rfl | (simp[P.B1] at oM)
        |_=>rw[hx] at oM;simp[P.B1] at oM
       grind [pv]
      refine KW.bind (p:=λ_=>eN ys=true) (KW.cZ λhb=>hb) λ_ hb=>KW.cg λs2 h3=>hex hp _ ?_;grind [ef,sJ]
     exact KW.fail
    exact KW.fail
   grind
  next c ho=>
   split
   ·rename_i hc;have hp:pv Q s o g=none:=by grind [pv]
    split
    next x y t t2 h1 h2=>refine yp.mono λs1 h=>hex hp _ ?_;unfold ef;simp only[ho,hc,h1,h2];exact h
    exact KW.fail
   ·rename_i hc;have hp:pv Q s o g=none:=by unfold pv;simp only[ho,hc]
    split
    next x y t t2 h1 h2=>refine C3.mono λs1 h=>hex hp _ ?_;unfold ef;simp only[ho,hc,h1,h2];exact h
    exact KW.fail
   ·rename_i hc;have hp:pv Q s o g=none:=by unfold pv;simp only[ho,hc]
    split
    next x t h1 h2=>refine AO.mono λs1 h=>hex hp _ ?_;unfold ef;simp only[ho,hc,h1,h2];exact h
    exact KW.fail
   ·rename_i hc;have hp:pv Q s o g=none:=by unfold pv;simp only[ho,hc]
    split
    next x y t ts h1 h2=>refine Co.mono λs1 h=>hex hp _ ?_;unfold ef;simp only[ho,hc,h1,h2];exact h
    exact KW.fail
   grind
  next t x y ho=>
   have hp:pv Q s o g=none:=by unfold pv;rw[ho]
   refine C2.mono λs1 h=>hex hp _ ?_;grind [ef]
  next t m k x ho=>
   have hp:pv Q s o g=none:=by unfold pv;rw[ho]
   split
   next PI=>refine xN.mono λs1 h=>hex hp _ ?_;unfold ef;simp only[ho,PI,zaT];exact h
   exact KW.cg λs1 h=>hex hp _ h
  grind [pv,KW.cg]
 grind [KW.bind,G9,KW.cg,fA]
theorem C4{o:Oper}{g:Option (Nat×Bool)}:KW (B4 Q s o g) (λs1=>exec Q s o g=some s1):=by
 unfold B4;cases hm:lN o with
 |some r=>grind [KW.cg,exec]
 |none=>refine AP.mono λs1 h=> ?_;grind [exec]
end
def Ev(p:Nat->Nat->Prop):Prop:= ∃N,∀a b,N<=a->N<=b->p a b
theorem Ev.const{p:Prop}(h:p):Ev λ_ _=>p:=⟨0,λ_ _ _ _=>h⟩
theorem Ev.mono{p q:Nat->Nat->Prop}(h:Ev p)(EM: ∀a b,p a b->q a b):Ev q:=by obtain⟨N,h⟩:=h;exact⟨N,λa b ha hb=>EM a b (h a b ha hb)⟩
theorem Ev.and{p q:Nat->Nat->Prop}(h:Ev p)(k:Ev q):Ev λa b=>p a b/\q a b:=by obtain⟨N,h⟩:=h;obtain⟨M,k⟩:=k;exact⟨max N M,λa b ha hb=>⟨h a b (by omega) (by omega),k a b (by omega) (by omega)⟩⟩
theorem Ev.C5{p q r:Nat->Nat->Prop}(h:Ev p)(k:Ev q)(EM: ∀a b,p a b->q a b->r a b):Ev r:=(h.and k).mono λa b x=>EM a b x.1 x.2
theorem Ev.some{p:Nat->Nat->Prop}(h:Ev p): ∃a b,p a b:=by obtain⟨N,h⟩:=h;exact⟨N,N,h N N (zae _) (zae _)⟩
def oO(kf:KF)(cf:Nat->Nat->CF):Prop:= ∀f ps R,KW (kf f ps R) (λx=>Ev λa b=>cf a b f ps R=some x)
section
variable{Q:Program}{kf:KF}{cf:Nat->Nat->CF}(eE:oO kf cf)
include eE
theorem C6{s:S}{dst:Option Nat}{f:P}{args:List P}:KW (lC Q kf s dst f args) (λs1=>Ev λa b=>iA Q (cf a b) s dst f args=some s1):=by
 unfold lC;split
 next fN bH=>
  split
  ·exact KW.fail
  rename_i s1 ps hf;simp only[];split
  next hn=>
   split
   ·exact KW.fail
   rename_i R0 MO;refine KW.bind (eE _ _ _) λx hx=> ?_;split
   ·rename_i hm;split
    ·exact KW.fail
    rename_i R2 h2;split
    ·exact KW.fail
    rename_i R3 h3;refine KW.cg λs2 h=>hx.mono λa b hx=> ?_;grind [iA]
   exact KW.fail
  exact KW.fail
 exact KW.fail
theorem uq{s:S}{o:Oper}{g:Option (Nat×Bool)}:KW (B5 Q kf s o g) (λs1=>Ev λa b=>dL Q (cf a b) s o g=some s1):=by
 unfold B5;split
 ·grind [C6,dL]
 rename_i hc;exact C4.mono λs1 h=>Ev.const h |>.mono λa b h=>by grind [dL]
omit eE in
theorem qu(t:Nat)(v:P): ∀(m:List (Nat×P)),lk m t=some v->rep t v m=m
 | [],h=>rfl
 | (k,u)::r,h=>by
  simp only[lk] at h;simp only[rep];split
  next hk=>rw[zat hk] at h;simp only[zaf] at h;rw[h]
  rename_i hk;rw[zaB hk] at h;rw[qu t v r h]
omit eE in
def fT(kn:List (Nat×Bool))(s:S):Prop:= ∀t r,lk kn t=some r->lk s.tm t=some (.d (.bool r))
omit eE in
theorem nA(d:Nat): ∀(kn:List (Nat×Bool)) (t:Nat) (r:Bool),lk (kn.filter λx=> !Nat.beq x.1 d) t=some r->t≠d/\lk kn t=some r
 | [],t,r,h=>by simp[lk] at h
 | (k,u)::l,t,r,h=>by
  simp only[List.filter_cons] at h;split at h
  next hk=>
   simp only[lk] at h⊢;split
   next ht=>rw[zat ht] at h;have e:=zab ht;subst e;refine⟨λe=> ?_,h⟩;subst e;simp at hk
   rename_i ht;rw[zaB ht] at h;exact nA d l t r h
  rename_i hk;obtain⟨h1,h2⟩:=nA d l t r h;refine⟨h1,?_⟩;simp only[lk];have hk:Nat.beq k d=true:=by simpa using hk
  have e:=zab hk;subst e;have:Nat.beq k t=false:=by
   cases hb:Nat.beq k t with
   |false=>rfl
   |true=>exact absurd (zab hb).symm h1
  rw[this];exact h2
omit eE in
theorem fT.step{cf:CF}{ops:List Oper}{kn:List (Nat×Bool)}{s s1:S}{o:Oper}(h:fT kn s)(hs:aM Q cf ops s o=some s1):fT (tC o.dst kn) s1:=by
 obtain⟨c,h2,_⟩:=lV (Q:=Q) (cf:=cf) (ops:=ops) (s:=s) (s2:=s) (o:=o) (λ_ _=>rfl) rfl rfl;rw[hs] at h2;cases c with
 |none=>cases h2
 |some x=>
  obtain⟨_,_,_,g4⟩:=eT (h2.symm:(⟨s.n,s.tm,x.1⟩:S).put o.dst x.2=some s1);intro t r ht;have key:o.dst≠some t/\lk kn t=some r:=by
   unfold tC at ht;split at ht
   next hd=>rw[hd];exact⟨by simp,ht⟩
   rename_i d hd;obtain⟨k1,k2⟩:=nA _ _ _ _ ht;rw[hd];exact⟨λe=>k1 (by simpa using e.symm),k2⟩
  have hv:=h t r key.2;rw[g4 t key.1];exact hv
omit eE in
theorem ur{ops:List Oper}{o:Oper}(s:S):KW (B6 ops o s) (λs1=>s=s1):=by
 unfold B6;split
 ·split
  next d hd=>
   split
   next k z hz=>intro ae hp;have:=hp z rfl;rw[qu d _ _ hz] at this;exact⟨s,rfl,this⟩
   exact KW.ret rfl
  exact KW.ret rfl
 exact KW.ret rfl
theorem mO{ops:List Oper}{kn:List (Nat×Bool)}{s:S}{o:Oper}(o7:fT kn s):KW (r7 Q kf ops kn s o) (λx=>(Ev λa b=>aM Q (cf a b) ops s o=some x.1)/\fT x.2 x.1):=by
 have go: ∀{kn:List (Nat×Bool)},fT kn s-> ∀s1,(Ev λa b=>aM Q (cf a b) ops s o=some s1)->((Ev λa b=>aM Q (cf a b) ops s o=some s1)/\fT (tC o.dst kn) s1):=λo7 s1 h=>⟨h,by obtain⟨a,b,h⟩:=h.some;exact o7.step h⟩
 unfold r7;split
 ·exact KW.fail
 next hg=>exact KW.bind (uq eE) λs1 h=>KW.bind (ur s1) λs2 h2=>by grind [KW.ret,aM]
 rename_i t want hg;split
 next r hr=>
  have hb:=o7 t r hr;split
  next hw=>exact KW.bind (uq eE) λs1 h=>KW.bind (ur s1) λs2 h2=>by grind [KW.ret,aM]
  rename_i hw;exact KW.bind (KW.cg (p:=λs1=>s.put o.dst .skip=some s1) λa h=>h) λs1 h=>KW.ret (go o7 s1 ⟨0,λa b _ _=>by grind [aM]⟩)
 split
 next b hb=>
  refine KW.bind (KW.dec (p:=λr=>b=r) rfl) λr hr=> ?_;subst hr;have e:(⟨s.n,rep t (.d (.bool b)) s.tm,s.rg⟩:S)=s:=by rw[qu t _ _ hb]
  rw[e];have MP:fT ((t,b)::kn) s:=by
   intro t' r' h';simp only[lk] at h';split at h'
   ·simp_all
   exact o7 t' r' h'
  split
  next hw=>exact KW.bind (uq eE) λs1 h=>KW.bind (ur s1) λs2 h2=>by grind [KW.ret,aM]
  rename_i hw;exact KW.bind (KW.cg (p:=λs1=>s.put o.dst .skip=some s1) λa h=>h) λs1 h=>KW.ret (go MP s1 ⟨0,λa b _ _=>by grind [aM]⟩)
 next t' b' q hb=>exact KW.bind (KW.cg (p:=λs1=>s.put o.dst .skip=some s1) λa h=>h) λs1 h=>KW.ret (go o7 s1 ⟨0,λa b _ _=>by grind [aM]⟩)
 exact KW.fail
omit eE in
theorem fT.nil(s:S):fT [] s:=λt r h=>by simp[lk] at h
theorem jv{ops:List Oper}: ∀(l:List Oper) (kn:List (Nat×Bool)) (s:S),fT kn s->KW (ic Q kf ops l kn s) (λs1=>Ev λa b=>cn Q (cf a b) ops l s=some s1)
 | [],_,s,_=>KW.ret (Ev.const rfl)
 |o::r,kn,s,o7=>by unfold ic;refine KW.bind (mO eE o7) λx hx=> ?_;rw[S.force_eq];refine(jv r x.2 x.1 hx.2).mono λs2 h2=>hx.1.C5 h2 λa b hx h2=> ?_;grind [cn]
theorem l0{ops:List Oper}: ∀(l:List Oper) (kn:List (Nat×Bool)) (s:S),fT kn s->KW (jk Q kf ops l kn s) (λx=>Ev λa b=>kj Q (cf a b) ops l s=some x)
 | [],_,s,_=>KW.ret (Ev.const rfl)
 |o::r,kn,s,o7=>by unfold jk;refine KW.bind (mO eE o7) λx hx=> ?_;rw[S.force_eq];refine KW.bind (l0 r x.2 x.1 hx.2) λy hy=>KW.ret (hx.1.C5 hy λa b hx hy=> ?_);grind [kj]
theorem qv{ops:List Oper}{s:S}(hc:b9 ops=1):KW (λae=>K.bind (jk Q kf ops ops [] s) (λx=>λae=>ki 0 (masks ops []) x.2 (ae x.1)) ae) (λs1=>Ev λa b=>fB Q (cf a b) ops s=some s1):=by
 refine KW.bind (l0 eE ops [] _ (fT.nil _)) λx hx ae hp=>⟨x.1,hx.mono λa b hx=> ?_,qp _ _ _ hp⟩
 have h:ki 0 (masks ops []) x.2 True:=kO _ _ _ _ (λ_=>trivial) hp;grind [fB]
theorem qw{ops:List Oper}{s:S}(hc:b9 ops=2):KW (ic Q kf ops ops [] s) (λs1=>Ev λa b=>fB Q (cf a b) ops s=some s1):=
 (jv eE ops [] _ (fT.nil _)).mono λs1 h=>h.mono λa b h=>by grind [fB]
theorem qx{ops:List Oper}{cls:Nat}(tW:gE ops=cls){s:S}:KW (vp Q kf ops cls s) (λs1=>Ev λa b=>fu Q (cf a b) ops s=some s1):=by
 have plain: ∀k,gE ops=k->1<=k->k<=3->b9 ops=k:=by grind [gE]
 have marked: ∀k,k<=1->gE ops=k+4->b9 ops=0/\b9 (bO ops)=k+1:=by grind [gE,b9]
 subst tW;unfold vp;split
 ·exact KW.fail
 ·grind [qv,fu]
 next hc=>have h1:=marked 0 (by omega) hc;grind [qv,fu]
 ·grind [qw,fu]
 next hc=>have h1:=marked 1 (by omega) hc;grind [qw,fu]
 next hc=>
  have late:b9 ops=0/\b9 (bO ops)=0/\ ∀m t d,tn ops=some (m,t,d)->tp ops m=true:=by grind [gE,b9,bO]
  split
  next m t d hl=>
   split
   ·rename_i xe PJ;refine KW.bind (l0 eE ops [] _ (fT.nil _)) λx hx ae hp=>⟨x.1,hx.mono λa b hx=> ?_,qp _ _ _ hp⟩
    have h:ki m (masks ops []) x.2 True:=kO _ _ _ _ (λ_=>trivial) hp;unfold fu;simp only[late.1,late.2.1];unfold mx;simp only[hl,hx];rw[zat ⟨late.2.2 m t d hl,xe,PJ⟩,zat h]
   exact KW.fail
  exact KW.fail
 exact KW.fail
def cC(body:Nat->Nat->S->Option (PX×S))(keep:Option (List Nat×List Nat))(s0:S)(x:PX×S):Prop:=
 ∃N,∀a b k,N<=a->N<=b->N<=k-> ∀s,cx keep s=some s0->eK (body a b) keep k s=some x
def uu(body:S->Option (PX×S))(keep:Option (List Nat×List Nat))(s:S)(x:PX×S):Prop:=
 match x.1 with
 | .normal=> ∃s1,body s=some (.normal,s1)/\cx keep s1=some x.2
 |e=> ∃s1,body s=some (e,s1)/\eI keep s1=some x.2
omit eE in
theorem AQ{iM:S->K (PX×S)}{body:Nat->Nat->S->Option (PX×S)}{s:S}(hb:KW (iM s) (λx=>Ev λa b=>body a b s=some x)){keep:Option (List Nat×List Nat)}:KW (pB iM keep s) (λx=>Ev λa b=>uu (body a b) keep s x):=by
 unfold pB;refine KW.bind hb λx hx=> ?_;obtain⟨e,s1⟩:=x;cases e with
 |normal=>exact KW.bind (KW.cg λa h=>h) λs2 h2=>KW.ret (hx.mono λa b hx=>⟨s1,hx,h2⟩)
 |exit id=>exact KW.bind (KW.cg λa h=>h) λs2 h2=>KW.ret (hx.mono λa b hx=>⟨s1,hx,h2⟩)
 |ret=>exact KW.bind (KW.cg λa h=>h) λs2 h2=>KW.ret (hx.mono λa b hx=>⟨s1,hx,h2⟩)
omit eE in
theorem cC.out{body:Nat->Nat->S->Option (PX×S)}{keep:Option (List Nat×List Nat)}{s0:S}{x:PX×S}(hr:Ev λa b=>uu (body a b) keep s0 x)(he:x.1≠ .normal):cC body keep s0 x:=by
 obtain⟨N,hr⟩:=hr;refine⟨N+1,λa b k ha hb hk s hs=> ?_⟩;obtain⟨e,s2⟩:=x;have h:=hr a b (by omega) (by omega);obtain⟨k,rfl⟩: ∃k',k=k'+1:=⟨k-1,by omega⟩
 cases e with
 |normal=>exact absurd rfl he
 |exit id=>obtain⟨s1,h1,h2⟩:=h;simp only[] at h1 h2;simp only[eK,hs,h1,h2]
 |ret=>obtain⟨s1,h1,h2⟩:=h;simp only[] at h1 h2;simp only[eK,hs,h1,h2]
omit eE in
theorem cC.on{body:Nat->Nat->S->Option (PX×S)}{keep:Option (List Nat×List Nat)}{s0 s2:S}{x:PX×S}(hr:Ev λa b=>uu (body a b) keep s0 (.normal,s2))(h2:cC body keep s2 x):cC body keep s0 x:=by
 obtain⟨N,hr⟩:=hr;obtain⟨M,h2⟩:=h2;refine⟨max N M+1,λa b k ha hb hk s hs=> ?_⟩;obtain⟨s1,h1,h3⟩:=hr a b (by omega) (by omega);obtain⟨k,rfl⟩: ∃k',k=k'+1:=⟨k-1,by omega⟩
 simp only[] at h1 h3;simp only[eK,hs,h1];exact h2 a b k (by omega) (by omega) (by omega) s1 h3
omit eE in
theorem cC.ev{body:Nat->Nat->S->Option (PX×S)}{keep:Option (List Nat×List Nat)}{s s0:S}{x:PX×S}(hs:cx keep s=some s0)(h:cC body keep s0 x):Ev λa b=>eK (body a b) keep a s=some x:=by obtain⟨N,h⟩:=h;exact⟨N,λa b ha hb=>h a b a ha hb ha s hs⟩
omit eE in
theorem sK{iM:S->K (PX×S)}{body:Nat->Nat->S->Option (PX×S)}(hb: ∀s,KW (iM s) (λx=>Ev λa b=>body a b s=some x)){keep:Option (List Nat×List Nat)}: ∀(k:Nat) (s:S),KW (tD iM keep k s) (λx=> ∃s0,cx keep s=some s0/\cC body keep s0 x)
 |0,s=>KW.fail
 |k+1,s=>by
  unfold tD;refine KW.bind (KW.cg λa h=>h) λs0 h0=>KW.bind (hb s0) λx hx=> ?_;obtain⟨e,s1⟩:=x;cases e with
  |normal=>exact(sK hb k s1).mono λy ⟨s2,g1,g2⟩=>⟨s0,h0,cC.on (hx.mono λa b hx=>⟨s1,hx,g1⟩) g2⟩
  |exit id=>exact KW.bind (KW.cg λa h=>h) λs2 h2=>KW.ret ⟨s0,h0,cC.out (hx.mono λa b hx=>⟨s1,hx,h2⟩) (by simp)⟩
  |ret=>exact KW.bind (KW.cg λa h=>h) λs2 h2=>KW.ret ⟨s0,h0,cC.out (hx.mono λa b hx=>⟨s1,hx,h2⟩) (by simp)⟩
def ax:Code->List Code
 | .seq a b=>ax a++ax b
 | .cond _ a b=>ax a++ax b
 | .block _ c | .scope c=>ax c
 | .loop c=>c::ax c
 |_=>[]
variable{kp:Nat->Option (List Nat×List Nat)}{hk:List (Nat×(S->K (PX×S)))}{dc:Nat->Nat}{lf:Nat}
def yq(Q:Program)(cf:Nat->Nat->CF)(kp:Nat->Option (List Nat×List Nat))(c:Code)(h:S->K (PX×S)):Prop:=
 ∀s,KW (h s) (λx=>Ev λa b=>eK (aS Q (cf a b) kp a c) (kp (Code.lB c)) a s=some x)
theorem dC: ∀(c:Code),bE dc c=true->(∀d∈ax c,∀h,lk hk (Code.lB d)=some h->yq Q cf kp d h)-> ∀(s:S),KW (dn Q kf kp hk dc lf c s) (λx=>Ev λa b=>aS Q (cf a b) kp a c s=some x)
 | .skip,_,_,s=>KW.ret (Ev.const rfl)
 | .label _,_,_,s=>KW.ret (Ev.const rfl)
 | .region id ops draw,hl,_,s=>by
  unfold dn;refine KW.bind (p:=λs1=>Ev λa b=>(if draw then fu Q (cf a b) ops.toList s else cn Q (cf a b) ops.toList ops.toList s)=some s1) ?_ λs1 h1=>KW.ret (h1.mono λa b h1=> ?_)
  ·grind [qx,Nat.eq_of_beq_eq_true,bE,jv,fT.nil]
  simp only[aS,h1]
 | .seq x y,hl,hh,s=>by
  unfold dn;refine KW.bind (dC x (zad _ _▸hl:_/\_).1 (λd hd=>hh d (by simp[ax,hd])) s) λz hz=> ?_;obtain⟨e,s1⟩:=z;cases e with
  |normal=>exact(dC y (zad _ _▸hl:_/\_).2 (λd hd=>hh d (by simp[ax,hd])) s1).mono λu hu=>hz.C5 hu λa b hz hu=>by grind [aS]
  |exit id=>exact KW.ret (hz.mono λa b hz=>by simp only[aS,hz])
  |ret=>exact KW.ret (hz.mono λa b hz=>by simp only[aS,hz])
 | .cond c x y,hl,hh,s=>by
  unfold dn;split
  next b hb=>
   refine KW.bind (KW.dec (p:=λr=>b=r) rfl) λr hr=> ?_;subst hr;cases b with
   |true=>exact(dC x (zad _ _▸hl:_/\_).1 (λd hd=>hh d (by simp[ax,hd])) s).mono λz hz=>hz.mono λa b hz=>by grind [aS]
   |false=>exact(dC y (zad _ _▸hl:_/\_).2 (λd hd=>hh d (by simp[ax,hd])) s).mono λz hz=>hz.mono λa b hz=>by grind [aS]
  exact KW.fail
 | .block id c,hl,hh,s=>by
  unfold dn;refine KW.bind (dC c hl (λd hd=>hh d (by simpa [ax] using hd)) s) λx hx=> ?_;obtain⟨e,s1⟩:=x;cases e with
  |normal=>exact KW.ret (hx.mono λa b hx=>by simp only[aS,hx])
  |exit kl=>
   simp only[];split
   next h=>exact KW.ret (hx.mono λa b hx=>by grind [aS])
   grind [KW.ret,aS]
  |ret=>grind [KW.ret,aS]
 | .loop c,hl,hh,s=>by
  unfold dn;split
  next h Ff=>exact(hh c (by simp[ax]) h Ff s).mono λx hx=>hx.mono λa b hx=>by grind [aS]
  exact(sK (body:=λa b=>aS Q (cf a b) kp a c) (λs=>dC c hl (λd hd=>hh d (by simp[ax,hd])) s) lf s).mono λx ⟨s0,g1,g2⟩=>(g2.ev g1).mono λa b hx=>by grind [aS]
 | .scope c,hl,hh,s=>by unfold dn;exact(dC c hl (λd hd=>hh d (by simpa [ax] using hd)) s).mono λx hx=>hx.mono λa b hx=>by grind [aS]
 | .exit id,_,_,s=>KW.ret (Ev.const rfl)
 | .ret,_,_,s=>KW.ret (Ev.const rfl)
 | .rangeFunc _ _ _ _,_,_,s=>KW.fail
 | .goto _,_,_,s=>KW.fail
 | .refuse _,_,_,s=>KW.fail
end
section
variable{Q:Program}{kp:tq}{dc:FuncId->Nat->Nat}{lf:Nat}
theorem wu{kf:KF}{hk:List (Nat×(S->K (PX×S)))}(yr: ∀f fn c,Q.funcs[f]?=some fn->fn.body=some c->bE (dc f) c=true)(eE:oO kf (dh Q kp))(f:FuncId)
  (hh: ∀fn c,Q.funcs[f]?=some fn->fn.body=some c-> ∀d∈ax c,∀h,lk hk (Code.lB d)=some h->yq Q (dh Q kp) (kp f) d h)
  (ps:List P) (R:List (Nat×En)):KW (iM Q kf kp hk dc lf f ps R) (λx=>Ev λa b=>dh Q kp a b f ps R=some x):=by
 unfold iM;split
 ·exact KW.fail
 rename_i fn fg;split
 ·exact KW.fail
 rename_i Le;split
 ·exact KW.fail
 rename_i c hc;split
 ·exact KW.fail
 rename_i iY;refine KW.bind (dC eE c (yr f fn c fg hc) (hh fn c fg hc) _) λx hx=> ?_;split
 ·exact KW.fail
 rename_i ca;split
 next qs hq=>
  unfold tE;refine KW.cg λy hy=> ?_;obtain⟨N,hx⟩:=hx;refine⟨N+1,λa b ha hb=> ?_⟩;obtain⟨b,rfl⟩: ∃b',b=b'+1:=⟨b-1,by omega⟩
  grind [dh]
 exact KW.fail
def zq(Q:Program)(kp:tq)(H:List (FuncId×cR)):Prop:=
 ∀f h,lk H f=some h-> ∀ps R,KW (h ps R) (λx=>Ev λa b=>dh Q kp a b f ps R=some x)
theorem zq.nil:zq Q kp []:=λf h hh=>by simp[lk] at hh
theorem o8{H:List (FuncId×cR)}(yr: ∀f fn c,Q.funcs[f]?=some fn->fn.body=some c->bE (dc f) c=true)(hH:zq Q kp H): ∀(k:Nat),oO (runK Q kp dc H lf k) (dh Q kp)
 |0=>λf ps R=>by
  unfold runK;split
  next h hh=>exact hH f h hh ps R
  exact KW.fail
 |k+1=>λf ps R=>by
  unfold runK;split
  next h hh=>exact hH f h hh ps R
  exact wu yr (o8 yr hH k) f (λfn c _ _ d _ h hh=>by simp[lk] at hh) ps R
theorem sL: ∀(l:List Func) (i0:Nat),iC dc i0 l=true-> ∀i fn c,l[i]?=some fn->fn.body=some c->bE (dc (i0+i)) c=true
 | [],_,_,i,fn,c,h,_=>by simp at h
 |f::r,i0,h,i,fn,c,hf,hc=>by
  simp only[iC,zad] at h;cases i with
  |zero=>grind
  |succ i=>have:=sL r (i0+1) h.2 i fn c (by grind) hc;rwa [show i0+1+i=i0+(i+1) by omega] at this
theorem gu(h:iC dc 0 Q.funcs.toList=true)(f:FuncId)(fn:Func)(c:Code)(hf:Q.funcs[f]?=some fn)(hc:fn.body=some c):bE (dc f) c=true:=by have:=sL Q.funcs.toList 0 h f fn c (by grind) hc;rwa [zbK] at this
def fH(id:Nat):List Code->Option Code
 | []=>none
 |c::r=>if Nat.beq (Code.lB c) id then some c else fH id r
def bA(Q:Program)(f:FuncId)(id:Nat):Code:=
 match Q.funcs[f]? with
 |some fn=>(match fn.body with |some c=>(fH id (ax c)).getD .skip |none=> .skip)
 |none=> .skip
def uniq(Q:Program)(f:FuncId):Bool:=
 match Q.funcs[f]? with
 |some fn=>(match fn.body with |some c=>cE ((ax c).map Code.lB)|none=>true)
 |none=>true
theorem iq{d:Code}: ∀(l:List Code),(l.map Code.lB).Nodup->d∈l->fH (Code.lB d) l=some d
 | [],_,h=>by simp at h
 |c::r,hn,h=>by
  simp only[zaO,zax] at hn;simp only[fH];rcases zan.1 h with rfl |h
  ·simp
  split
  ·grind [Nat.eq_of_beq_eq_true]
  exact iq r hn.2 h
theorem bQ: ∀(b:Code) {c d:Code},c∈ax b->d∈ax c->d∈ax b
 | .seq x y,c,d,hc,hd=>by simp only[ax,zaH] at hc⊢;exact hc.imp (bQ x · hd) (bQ y · hd)
 | .cond _ x y,c,d,hc,hd=>by simp only[ax,zaH] at hc⊢;exact hc.imp (bQ x · hd) (bQ y · hd)
 | .block _ x,c,d,hc,hd=>bQ x (by grind [ax]) hd
 | .scope x,c,d,hc,hd=>bQ x (by grind [ax]) hd
 | .loop x,c,d,hc,hd=>by
  simp only[ax,zan] at hc⊢;rcases hc with rfl |hc
  ·grind
  exact .inr (bQ x hc hd)
 | .skip,c,d,hc,_ | .label _,c,d,hc,_ | .region ..,c,d,hc,_ | .exit _,c,d,hc,_ | .ret,c,d,hc,_ | .rangeFunc ..,c,d,hc,_ | .goto _,c,d,hc,_ | .refuse _,c,d,hc,_=>by simp[ax] at hc
theorem mP{id:Nat}{c:Code}: ∀(l:List Code),fH id l=some c->c∈l
 | [],h=>by simp[fH] at h
 |d::r,h=>by
  simp only[fH] at h;split at h
  ·grind
  exact zaP _ (mP r h)
theorem sM{f:FuncId}{id:Nat}{d:Code}(hu:uniq Q f=true)(hd:d∈ax (bA Q f id)):bA Q f (Code.lB d)=d:=by
 unfold bA at hd⊢;unfold uniq at hu;split at hd
 next fn fg=>
  rw[fg] at hu;split at hd
  next c hc=>
   simp only[hc] at hu⊢;cases hf:fH id (ax c) with
   |none=>rw[hf] at hd;simp[ax] at hd
   |some e=>rw[hf] at hd;have:=bQ c (mP _ hf) hd;rw[iq _ (cS _ hu) this,zbM]
  simp[ax] at hd
 simp[ax] at hd
def C7(Q:Program)(kp:tq)(f:FuncId)(h:cR):Prop:= ∀ps R,KW (h ps R) (λx=>Ev λa b=>dh Q kp a b f ps R=some x)
theorem zq.cons{H:List (FuncId×cR)}{f:FuncId}{h:cR}(hf:C7 Q kp f h)(hH:zq Q kp H):zq Q kp ((f,h)::H):=by
 intro f' h' hh ps R;simp only[lk] at hh;split at hh
 next he=>have he:=zab he;subst he;simp only[zaf] at hh;subst hh;exact hf ps R
 exact hH f' h' hh ps R
theorem C7.Lw{f:FuncId}{fn:Func}{h:cR}(fg:Q.funcs[f]?=some fn)(hx:eV f kp.xs=true)(hb: ∀ps R ae,h ps R ae-> ∃x,kp.X f ps R=some x/\ae x):C7 Q kp f h:=by
 intro ps R ae hp;obtain⟨x,h1,h2⟩:=hb ps R ae hp;refine⟨x,⟨1,λa b _ hb=> ?_⟩,h2⟩;obtain⟨b,rfl⟩: ∃b',b=b'+1:=⟨b-1,by omega⟩
 grind [dh]
theorem C7.mk{H:List (FuncId×cR)}{f:FuncId}{h:cR}{hk:List (Nat×(S->K (PX×S)))}{k:Nat}(yr:iC dc 0 Q.funcs.toList=true)(hH:zq Q kp H)(hu:uniq Q f=true)
  (hl: ∀id g,lk hk id=some g-> ∀s,KW (g s) (λx=>Ev λa b=>eK (aS Q (dh Q kp a b) (kp f) a (bA Q f id)) (kp f id) a s=some x))
  (hb: ∀ps R ae,h ps R ae->iM Q (runK Q kp dc H lf k) kp hk dc lf f ps R ae):C7 Q kp f h:=by
 intro ps R ae hp;refine wu (gu yr) (o8 (gu yr) hH k) f (λfn c fg hc d hd g hg s=> ?_) ps R ae (hb ps R ae hp);have e:bA Q f (Code.lB d)=d:=by grind [uniq,bA,iq,cS]
 have:=hl _ g hg s;rwa [e] at this
def roundPost(n:Nat)(I:Nat->S->Prop)(O:PX×S->Prop)(x:PX×S):Prop:=match x.1 with | .normal=> ∃m,m<n/\I m x.2 |_=>O x
theorem Fg{H:List (FuncId×cR)}{c:Code}{hk:List (Nat×(S->K (PX×S)))}{kp1:Nat->Option (List Nat×List Nat)}{OB:Nat->Nat}{k:Nat}{keep:Option (List Nat×List Nat)}(yr:iC dc 0 Q.funcs.toList=true)(hH:zq Q kp H)(hc:bE OB c=true)
  (hl: ∀d∈ax c,∀h,lk hk (Code.lB d)=some h->yq Q (dh Q kp) kp1 d h)
  {I:Nat->S->Prop} {O:PX×S->Prop}
  (hr: ∀n s,I n s->pB (dn Q (runK Q kp dc H lf k) kp1 hk OB lf c) keep s (roundPost n I O)):
  ∀n s,I n s-> ∃x,O x/\cC (λa b=>aS Q (dh Q kp a b) kp1 a c) keep s x:=by
 intro n
 induction n using Nat.strongRecOn with
 |_ n ih=>
  intro s hs;obtain⟨x,h1,h2⟩:=AQ (body:=λa b=>aS Q (dh Q kp a b) kp1 a c) (dC (o8 (gu yr) hH k) c hc hl s) _ (hr n s hs);obtain⟨e,s2⟩:=x;cases e with
  |normal=>obtain⟨m,hm,hi⟩:=h2;grind [cC.on]
  |exit id=>exact⟨_,h2,cC.out h1 (by simp)⟩
  |ret=>exact⟨_,h2,cC.out h1 (by simp)⟩
end
end Pi
