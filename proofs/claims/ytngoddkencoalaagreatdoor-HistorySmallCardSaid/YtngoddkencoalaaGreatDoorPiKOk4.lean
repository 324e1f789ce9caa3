/- The text PiKOk4. -/
import Derived.Test.YtngoddkencoalaaGreatDoorPiDrawOk2
namespace Pi
open Go
section
variable{Q:Program}{s:S}
theorem Na{t:TypeId}{p q:P}:KW (Ir Q s t p q) (λs1=>gF Q s t p q=some s1):=by
 unfold Ir;split
 next n v i k' off=>
  split
  ·exact KW.fail
  rename_i k hk;split
  next s1 x hf=>
   split
   ·rename_i ty es ho;split
    ·rename_i k2 sW;split
     next hc=>refine KW.bind (p:=λ_=>i<es.length) (KW.jT λhb=>by grind) λ_ hi=> ?_;refine KW.bind (n0 Q ty _) λy hy=>KW.ret ?_;grind [gF,xZ]
     exact KW.fail
    exact KW.fail
   exact KW.fail
  exact KW.fail
 grind [KW.dW]
theorem I6{dst:Option Nat}{t t2:TypeId}{p q:P}:KW (CK Q s dst t t2 p q) (λs1=>jl Q s dst t t2 p q=some s1):=by
 unfold CK;split
 ·exact KW.fail
 rename_i e he;split
 next i k hi hk=>
  split
  next ys z hy hz=>
   split
   ·rename_i hb;split
    ·rename_i n v len;split
     ·rename_i en nq;split
      ·rename_i ty es ho;split
       next hc=>refine KW.bind (p:=λ_=>(Nat.ble len es.length&&aO (len+ys.length) i.bytes)=true) (KW.jT λhb=>hb) λ_ hl=> ?_;grind [KW.dW,aO,jl]
       exact KW.fail
      exact KW.fail
     exact KW.fail
    ·refine KW.bind (p:=λ_=>aO ys.length i.bytes=true) (KW.jT λhb=>hb) λ_ hl=> ?_;grind [KW.dW,jl,KW.fail]
    exact KW.fail
   exact KW.fail
  exact KW.fail
 exact KW.fail
theorem QX{dst:Option Nat}{t:TypeId}{p q:P}:KW (PQ Q s dst t p q) (λs1=>tj Q s dst t p q=some s1):=by
 unfold PQ;split
 next e k1 l k2 c h1=>
  split
  next i k z h2 h3 h4=>
   split
   ·rename_i hz;refine KW.bind (p:=λ_=>decide (0<=l/\l<=c/\c<=9223372036854775807/\(i.bytes:Int)*c<=281474976710656)=true) (KW.jT λhb=>hb) λ_ hb=> ?_;split
    ·simp_all [KW.dW,tj]
    exact KW.fail
   exact KW.fail
  exact KW.fail
 exact KW.fail
theorem Nb{dst:Option Nat}{t:TypeId}{p:P}:KW (Is Q s dst t p) (λs1=>nU Q s dst t p=some s1):=by
 unfold Is;split
 next e n v k off len h1=>
  split
  next k2 z ty es h2 h3 h4=>
   split
   next hc=>refine KW.bind (p:=λ_=>off+len<=es.length) (KW.jT λhb=>by grind) λ_ hb=>KW.dW λs1 h=> ?_;simp_all [nU,zaP]
   exact KW.fail
  exact KW.fail
 exact KW.fail
theorem QY{dst:Option Nat}{t t2:TypeId}{p q:P}:KW (PS Q s dst t t2 p q) (λs1=>tq Q s dst t t2 p q=some s1):=by
 unfold PS;split
 next e n v len h1=>
  split
  next k h2=>
   split
   ·rename_i ys ty es h3 h4;split
    next ht=>refine KW.bind (p:=λ_=>decide (len<=es.length/\ys.length<=len)=true) (KW.jT λhb=>hb) λ_ hb=>KW.dW λs2 hs=> ?_;simp_all [tq]
    exact KW.fail
   exact KW.fail
  exact KW.fail
 exact KW.fail
theorem BM: ∀(ys:List D),hJ ys=true->jS ys=some (bytesOf ys)
 | [],_=>rfl
 |x::r,h=>by
  unfold hJ at h;split at h
  ·grind
  next n r' heq=>obtain⟨rfl,rfl⟩:=heq;simp only[jS,BM _ h];rfl
  cases h
theorem Nc{o:Oper}{g:Option (Nat×Bool)}:KW (Iu Q s o g) (λs1=>jx Q s o g=some s1):=by
 unfold Iu;split
 ·simp[KW.dW]
 rename_i VQ;split
 next he=>
  have hex:pv Q s o g=none-> ∀s1,ef Q s o g=some s1->jx Q s o g=some s1:=λhp s1 h=>by grind [jx]
  unfold qfV at he;unfold efK;split
  ·grind [pv,KW.bind,Na,KW.dW,ef]
  next t1 t2 x ho=>
   split
   ·rename_i e h1 h2;split
    ·rename_i ys hu hs;split
     ·rename_i Fq;have hp:pv Q s o g=none:=by
       have:(s.eg g x).cG=none:=by
        cases hx:s.eg g x with
        |sl n v len=>rfl
        |l0 n v k off len=>rfl
        |d y=>rw[hx] at Fq;cases y<;>first |rfl | (simp[P.isRow] at Fq)
        |_=>rw[hx] at Fq;simp[P.isRow] at Fq
       grind [pv]
      refine KW.bind (p:=λ_=>hJ ys=true) (KW.jT λhb=>hb) λ_ hb=>KW.dW λs2 h3=>hex hp _ ?_;grind [ef,BM]
     exact KW.fail
    exact KW.fail
   grind
  next c ho=>
   split
   ·rename_i hc;have hp:pv Q s o g=none:=by grind [pv]
    split
    next x y t t2 h1 h2=>refine I6.mono λs1 h=>hex hp _ ?_;unfold ef;simp only[ho,hc,h1,h2];exact h
    exact KW.fail
   ·rename_i hc;have hp:pv Q s o g=none:=by unfold pv;simp only[ho,hc]
    split
    next x y t t2 h1 h2=>refine QY.mono λs1 h=>hex hp _ ?_;unfold ef;simp only[ho,hc,h1,h2];exact h
    exact KW.fail
   ·rename_i hc;have hp:pv Q s o g=none:=by unfold pv;simp only[ho,hc]
    split
    next x t h1 h2=>refine Nb.mono λs1 h=>hex hp _ ?_;unfold ef;simp only[ho,hc,h1,h2];exact h
    exact KW.fail
   grind
  next t x y ho=>
   have hp:pv Q s o g=none:=by unfold pv;rw[ho]
   refine QX.mono λs1 h=>hex hp _ ?_;grind [ef]
  grind [pv,KW.dW]
 grind [KW.bind,qcm,KW.dW,jx]
theorem QZ{o:Oper}{g:Option (Nat×Bool)}:KW (PT Q s o g) (λs1=>exec Q s o g=some s1):=by
 unfold PT;cases hm:r7 o with
 |some r=>grind [KW.dW,exec]
 |none=>refine Nc.mono λs1 h=> ?_;grind [exec]
end
def Ev(p:Nat->Nat->Prop):Prop:= ∃N,∀a b,N<=a->N<=b->p a b
theorem Ev.const{p:Prop}(h:p):Ev λ_ _=>p:=⟨0,λ_ _ _ _=>h⟩
theorem Ev.mono{p q:Nat->Nat->Prop}(h:Ev p)(Qj: ∀a b,p a b->q a b):Ev q:=by obtain⟨N,h⟩:=h;exact⟨N,λa b ha hb=>Qj a b (h a b ha hb)⟩
theorem Ev.and{p q:Nat->Nat->Prop}(h:Ev p)(k:Ev q):Ev λa b=>p a b/\q a b:=by obtain⟨N,h⟩:=h;obtain⟨M,k⟩:=k;exact⟨max N M,λa b ha hb=>⟨h a b (by omega) (by omega),k a b (by omega) (by omega)⟩⟩
theorem Ev.Q0{p q r:Nat->Nat->Prop}(h:Ev p)(k:Ev q)(Qj: ∀a b,p a b->q a b->r a b):Ev r:=(h.and k).mono λa b x=>Qj a b x.1 x.2
theorem Ev.some{p:Nat->Nat->Prop}(h:Ev p): ∃a b,p a b:=by obtain⟨N,h⟩:=h;exact⟨N,N,h N N (zak _) (zak _)⟩
def AO(kf:KF)(cf:Nat->Nat->CF):Prop:= ∀f ps R,KW (kf f ps R) (λx=>Ev λa b=>cf a b f ps R=some x)
section
variable{Q:Program}{kf:KF}{cf:Nat->Nat->CF}(ic:AO kf cf)
include ic
theorem Q5{s:S}{dst:Option Nat}{f:P}{args:List P}:KW (rC Q kf s dst f args) (λs1=>Ev λa b=>mG Q (cf a b) s dst f args=some s1):=by
 unfold rC;split
 next kP cP=>
  split
  ·exact KW.fail
  rename_i s1 ps hf;simp only[];split
  next hn=>
   split
   ·exact KW.fail
   rename_i R0 hR0;refine KW.bind (ic _ _ _) λx hx=> ?_;split
   ·rename_i hm;split
    ·exact KW.fail
    rename_i R2 h2;split
    ·exact KW.fail
    rename_i R3 h3;refine KW.dW λs2 h=>hx.mono λa b hx=> ?_;grind [mG]
   exact KW.fail
  exact KW.fail
 exact KW.fail
theorem Dk{s:S}{o:Oper}{g:Option (Nat×Bool)}:KW (PU Q kf s o g) (λs1=>Ev λa b=>gk Q (cf a b) s o g=some s1):=by
 unfold PU;split
 ·grind [Q5,gk]
 rename_i hc;exact QZ.mono λs1 h=>Ev.const h |>.mono λa b h=>by grind [gk]
omit ic in
theorem yE(t:Nat)(v:P): ∀(m:List (Nat×P)),lk m t=some v->rep t v m=m
 | [],h=>rfl
 | (k,u)::r,h=>by
  simp only[lk] at h;simp only[rep];split
  next hk=>rw[zao hk] at h;simp only[zam] at h;rw[h]
  rename_i hk;rw[zal hk] at h;rw[yE t v r h]
omit ic in
def j8(kn:List (Nat×Bool))(s:S):Prop:= ∀t r,lk kn t=some r->lk s.tm t=some (.d (.bool r))
omit ic in
theorem uV(d:Nat): ∀(kn:List (Nat×Bool)) (t:Nat) (r:Bool),lk (kn.filter λx=> !Nat.beq x.1 d) t=some r->t≠d/\lk kn t=some r
 | [],t,r,h=>by simp[lk] at h
 | (k,u)::l,t,r,h=>by
  simp only[List.filter_cons] at h;split at h
  next hk=>
   simp only[lk] at h⊢;split
   next ht=>rw[zao ht] at h;have e:=zaf ht;subst e;refine⟨λe=> ?_,h⟩;subst e;simp at hk
   rename_i ht;rw[zal ht] at h;exact uV d l t r h
  rename_i hk;obtain⟨h1,h2⟩:=uV d l t r h;refine⟨h1,?_⟩;simp only[lk];have hk:Nat.beq k d=true:=by simpa using hk
  have e:=zaf hk;subst e;have:Nat.beq k t=false:=by
   cases hb:Nat.beq k t with
   |false=>rfl
   |true=>exact absurd (zaf hb).symm h1
  rw[this];exact h2
omit ic in
theorem j8.step{cf:CF}{ops:List Oper}{kn:List (Nat×Bool)}{s s1:S}{o:Oper}(h:j8 kn s)(hs:bx Q cf ops s o=some s1):j8 (CL o.dst kn) s1:=by
 obtain⟨c,h2,_⟩:=se (Q:=Q) (cf:=cf) (ops:=ops) (s:=s) (s2:=s) (o:=o) (λ_ _=>rfl) rfl rfl;rw[hs] at h2;cases c with
 |none=>cases h2
 |some x=>
  obtain⟨_,_,_,g4⟩:=ib (h2.symm:(⟨s.n,s.tm,x.1⟩:S).put o.dst x.2=some s1);intro t r ht;have key:o.dst≠some t/\lk kn t=some r:=by
   unfold CL at ht;split at ht
   next hd=>rw[hd];exact⟨by simp,ht⟩
   rename_i d hd;obtain⟨k1,k2⟩:=uV _ _ _ _ ht;rw[hd];exact⟨λe=>k1 (by simpa using e.symm),k2⟩
  have hv:=h t r key.2;rw[g4 t key.1];exact hv
omit ic in
theorem Dl{ops:List Oper}{o:Oper}(s:S):KW (PV ops o s) (λs1=>s=s1):=by
 unfold PV;split
 ·split
  next d hd=>
   split
   next k z hz=>intro ae hp;have:=hp z rfl;rw[yE d _ _ hz] at this;exact⟨s,rfl,this⟩
   exact KW.ret rfl
  exact KW.ret rfl
 exact KW.ret rfl
theorem tP{ops:List Oper}{kn:List (Nat×Bool)}{s:S}{o:Oper}(dO:j8 kn s):KW (Bn Q kf ops kn s o) (λx=>(Ev λa b=>bx Q (cf a b) ops s o=some x.1)/\j8 x.2 x.1):=by
 have go: ∀{kn:List (Nat×Bool)},j8 kn s-> ∀s1,(Ev λa b=>bx Q (cf a b) ops s o=some s1)->((Ev λa b=>bx Q (cf a b) ops s o=some s1)/\j8 (CL o.dst kn) s1):=λdO s1 h=>⟨h,by obtain⟨a,b,h⟩:=h.some;exact dO.step h⟩
 unfold Bn;split
 ·exact KW.fail
 next hg=>exact KW.bind (Dk ic) λs1 h=>KW.bind (Dl s1) λs2 h2=>by grind [KW.ret,bx]
 rename_i t want hg;split
 next r hr=>
  have hb:=dO t r hr;split
  next hw=>exact KW.bind (Dk ic) λs1 h=>KW.bind (Dl s1) λs2 h2=>by grind [KW.ret,bx]
  rename_i hw;exact KW.bind (KW.dW (p:=λs1=>s.put o.dst .skip=some s1) λa h=>h) λs1 h=>KW.ret (go dO s1 ⟨0,λa b _ _=>by grind [bx]⟩)
 split
 next b hb=>
  refine KW.bind (KW.dec (p:=λr=>b=r) rfl) λr hr=> ?_;subst hr;have e:(⟨s.n,rep t (.d (.bool b)) s.tm,s.rg⟩:S)=s:=by rw[yE t _ _ hb]
  rw[e];have qiW:j8 ((t,b)::kn) s:=by
   intro t' r' h';simp only[lk] at h';split at h'
   ·simp_all
   exact dO t' r' h'
  split
  next hw=>exact KW.bind (Dk ic) λs1 h=>KW.bind (Dl s1) λs2 h2=>by grind [KW.ret,bx]
  rename_i hw;exact KW.bind (KW.dW (p:=λs1=>s.put o.dst .skip=some s1) λa h=>h) λs1 h=>KW.ret (go qiW s1 ⟨0,λa b _ _=>by grind [bx]⟩)
 next t' b' q hb=>exact KW.bind (KW.dW (p:=λs1=>s.put o.dst .skip=some s1) λa h=>h) λs1 h=>KW.ret (go dO s1 ⟨0,λa b _ _=>by grind [bx]⟩)
 exact KW.fail
omit ic in
theorem j8.nil(s:S):j8 [] s:=λt r h=>by simp[lk] at h
theorem od{ops:List Oper}: ∀(l:List Oper) (kn:List (Nat×Bool)) (s:S),j8 kn s->KW (me Q kf ops l kn s) (λs1=>Ev λa b=>dE Q (cf a b) ops l s=some s1)
 | [],_,s,_=>KW.ret (Ev.const rfl)
 |o::r,kn,s,dO=>by unfold me;refine KW.bind (tP ic dO) λx hx=> ?_;rw[S.force_eq];refine(od r x.2 x.1 hx.2).mono λs2 h2=>hx.1.Q0 h2 λa b hx h2=> ?_;grind [dE]
theorem sq{ops:List Oper}: ∀(l:List Oper) (kn:List (Nat×Bool)) (s:S),j8 kn s->KW (nW Q kf ops l kn s) (λx=>Ev λa b=>pF Q (cf a b) ops l s=some x)
 | [],_,s,_=>KW.ret (Ev.const rfl)
 |o::r,kn,s,dO=>by unfold nW;refine KW.bind (tP ic dO) λx hx=> ?_;rw[S.force_eq];refine KW.bind (sq r x.2 x.1 hx.2) λy hy=>KW.ret (hx.1.Q0 hy λa b hx hy=> ?_);grind [pF]
theorem yF{ops:List Oper}{s:S}(hc:dt ops=1):KW (λae=>K.bind (nW Q kf ops ops [] s) (λx=>λae=>pD 0 (masks ops []) x.2 (ae x.1)) ae) (λs1=>Ev λa b=>jy Q (cf a b) ops s=some s1):=by
 refine KW.bind (sq ic ops [] _ (j8.nil _)) λx hx ae hp=>⟨x.1,hx.mono λa b hx=> ?_,yB _ _ _ hp⟩
 have h:pD 0 (masks ops []) x.2 True:=pY _ _ _ _ (λ_=>trivial) hp;grind [jy]
theorem yG{ops:List Oper}{s:S}(hc:dt ops=2):KW (me Q kf ops ops [] s) (λs1=>Ev λa b=>jy Q (cf a b) ops s=some s1):=
 (od ic ops [] _ (j8.nil _)).mono λs1 h=>h.mono λa b h=>by grind [jy]
theorem yH{ops:List Oper}{cls:Nat}(C5:lh ops=cls){s:S}:KW (E4 Q kf ops cls s) (λs1=>Ev λa b=>jq Q (cf a b) ops s=some s1):=by
 have plain: ∀k,lh ops=k->1<=k->k<=3->dt ops=k:=by grind [lh]
 have marked: ∀k,k<=1->lh ops=k+4->dt ops=0/\dt (c7 ops)=k+1:=by grind [lh,dt]
 subst C5;unfold E4;split
 ·exact KW.fail
 ·grind [yF,jq]
 next hc=>have h1:=marked 0 (by omega) hc;grind [yF,jq]
 ·grind [yG,jq]
 next hc=>have h1:=marked 1 (by omega) hc;grind [yG,jq]
 next hc=>
  have late:dt ops=0/\dt (c7 ops)=0/\ ∀m t d,CD ops=some (m,t,d)->CG ops m=true:=by grind [lh,dt,c7]
  split
  next m t d hl=>
   split
   ·rename_i KY htm;refine KW.bind (sq ic ops [] _ (j8.nil _)) λx hx ae hp=>⟨x.1,hx.mono λa b hx=> ?_,yB _ _ _ hp⟩
    have h:pD m (masks ops []) x.2 True:=pY _ _ _ _ (λ_=>trivial) hp;unfold jq;simp only[late.1,late.2.1];unfold tv;simp only[hl,hx];rw[zao ⟨late.2.2 m t d hl,KY,htm⟩,zao h]
   exact KW.fail
  exact KW.fail
 exact KW.fail
def dZ(body:Nat->Nat->S->Option (PX×S))(keep:Option (List Nat×List Nat))(s0:S)(x:PX×S):Prop:=
 ∃N,∀a b k,N<=a->N<=b->N<=k-> ∀s,cA keep s=some s0->iM (body a b) keep k s=some x
def Dm(body:S->Option (PX×S))(keep:Option (List Nat×List Nat))(s:S)(x:PX×S):Prop:=
 match x.1 with
 | .normal=> ∃s1,body s=some (.normal,s1)/\cA keep s1=some x.2
 |e=> ∃s1,body s=some (e,s1)/\dJ keep s1=some x.2
omit ic in
theorem Nd{nf:S->K (PX×S)}{body:Nat->Nat->S->Option (PX×S)}{s:S}(hb:KW (nf s) (λx=>Ev λa b=>body a b s=some x)){keep:Option (List Nat×List Nat)}:KW (xO nf keep s) (λx=>Ev λa b=>Dm (body a b) keep s x):=by
 unfold xO;refine KW.bind hb λx hx=> ?_;obtain⟨e,s1⟩:=x;cases e with
 |normal=>exact KW.bind (KW.dW λa h=>h) λs2 h2=>KW.ret (hx.mono λa b hx=>⟨s1,hx,h2⟩)
 |exit id=>exact KW.bind (KW.dW λa h=>h) λs2 h2=>KW.ret (hx.mono λa b hx=>⟨s1,hx,h2⟩)
 |ret=>exact KW.bind (KW.dW λa h=>h) λs2 h2=>KW.ret (hx.mono λa b hx=>⟨s1,hx,h2⟩)
omit ic in
theorem dZ.out{body:Nat->Nat->S->Option (PX×S)}{keep:Option (List Nat×List Nat)}{s0:S}{x:PX×S}(hr:Ev λa b=>Dm (body a b) keep s0 x)(he:x.1≠ .normal):dZ body keep s0 x:=by
 obtain⟨N,hr⟩:=hr;refine⟨N+1,λa b k ha hb hk s hs=> ?_⟩;obtain⟨e,s2⟩:=x;have h:=hr a b (by omega) (by omega);obtain⟨k,rfl⟩: ∃k',k=k'+1:=⟨k-1,by omega⟩
 cases e with
 |normal=>exact absurd rfl he
 |exit id=>obtain⟨s1,h1,h2⟩:=h;simp only[] at h1 h2;simp only[iM,hs,h1,h2]
 |ret=>obtain⟨s1,h1,h2⟩:=h;simp only[] at h1 h2;simp only[iM,hs,h1,h2]
omit ic in
theorem dZ.on{body:Nat->Nat->S->Option (PX×S)}{keep:Option (List Nat×List Nat)}{s0 s2:S}{x:PX×S}(hr:Ev λa b=>Dm (body a b) keep s0 (.normal,s2))(h2:dZ body keep s2 x):dZ body keep s0 x:=by
 obtain⟨N,hr⟩:=hr;obtain⟨M,h2⟩:=h2;refine⟨max N M+1,λa b k ha hb hk s hs=> ?_⟩;obtain⟨s1,h1,h3⟩:=hr a b (by omega) (by omega);obtain⟨k,rfl⟩: ∃k',k=k'+1:=⟨k-1,by omega⟩
 simp only[] at h1 h3;simp only[iM,hs,h1];exact h2 a b k (by omega) (by omega) (by omega) s1 h3
omit ic in
theorem dZ.ev{body:Nat->Nat->S->Option (PX×S)}{keep:Option (List Nat×List Nat)}{s s0:S}{x:PX×S}(hs:cA keep s=some s0)(h:dZ body keep s0 x):Ev λa b=>iM (body a b) keep a s=some x:=by obtain⟨N,h⟩:=h;exact⟨N,λa b ha hb=>h a b a ha hb ha s hs⟩
omit ic in
theorem BN{nf:S->K (PX×S)}{body:Nat->Nat->S->Option (PX×S)}(hb: ∀s,KW (nf s) (λx=>Ev λa b=>body a b s=some x)){keep:Option (List Nat×List Nat)}: ∀(k:Nat) (s:S),KW (CM nf keep k s) (λx=> ∃s0,cA keep s=some s0/\dZ body keep s0 x)
 |0,s=>KW.fail
 |k+1,s=>by
  unfold CM;refine KW.bind (KW.dW λa h=>h) λs0 h0=>KW.bind (hb s0) λx hx=> ?_;obtain⟨e,s1⟩:=x;cases e with
  |normal=>exact(BN hb k s1).mono λy ⟨s2,g1,g2⟩=>⟨s0,h0,dZ.on (hx.mono λa b hx=>⟨s1,hx,g1⟩) g2⟩
  |exit id=>exact KW.bind (KW.dW λa h=>h) λs2 h2=>KW.ret ⟨s0,h0,dZ.out (hx.mono λa b hx=>⟨s1,hx,h2⟩) (by simp)⟩
  |ret=>exact KW.bind (KW.dW λa h=>h) λs2 h2=>KW.ret ⟨s0,h0,dZ.out (hx.mono λa b hx=>⟨s1,hx,h2⟩) (by simp)⟩
def aS:Code->List Code
 | .seq a b=>aS a++aS b
 | .cond _ a b=>aS a++aS b
 | .block _ c | .scope c=>aS c
 | .loop c=>c::aS c
 |_=>[]
variable{kp:Nat->Option (List Nat×List Nat)}{hk:List (Nat×(S->K (PX×S)))}{dc:Nat->Nat}{lf:Nat}
def I7(Q:Program)(cf:Nat->Nat->CF)(kp:Nat->Option (List Nat×List Nat))(c:Code)(h:S->K (PX×S)):Prop:=
 ∀s,KW (h s) (λx=>Ev λa b=>iM (bE Q (cf a b) kp a c) (kp (Code.sV c)) a s=some x)
theorem fO: ∀(c:Code),cd dc c=true->(∀d∈aS c,∀h,lk hk (Code.sV d)=some h->I7 Q cf kp d h)-> ∀(s:S),KW (fp Q kf kp hk dc lf c s) (λx=>Ev λa b=>bE Q (cf a b) kp a c s=some x)
 | .skip,_,_,s=>KW.ret (Ev.const rfl)
 | .label _,_,_,s=>KW.ret (Ev.const rfl)
 | .region id ops draw,hl,_,s=>by
  unfold fp;refine KW.bind (p:=λs1=>Ev λa b=>(if draw then jq Q (cf a b) ops.toList s else dE Q (cf a b) ops.toList ops.toList s)=some s1) ?_ λs1 h1=>KW.ret (h1.mono λa b h1=> ?_)
  ·grind [yH,Nat.eq_of_beq_eq_true,cd,od,j8.nil]
  simp only[bE,h1]
 | .seq x y,hl,hh,s=>by
  unfold fp;refine KW.bind (fO x (zab _ _▸hl:_/\_).1 (λd hd=>hh d (by simp[aS,hd])) s) λz hz=> ?_;obtain⟨e,s1⟩:=z;cases e with
  |normal=>exact(fO y (zab _ _▸hl:_/\_).2 (λd hd=>hh d (by simp[aS,hd])) s1).mono λu hu=>hz.Q0 hu λa b hz hu=>by grind [bE]
  |exit id=>exact KW.ret (hz.mono λa b hz=>by simp only[bE,hz])
  |ret=>exact KW.ret (hz.mono λa b hz=>by simp only[bE,hz])
 | .cond c x y,hl,hh,s=>by
  unfold fp;split
  next b hb=>
   refine KW.bind (KW.dec (p:=λr=>b=r) rfl) λr hr=> ?_;subst hr;cases b with
   |true=>exact(fO x (zab _ _▸hl:_/\_).1 (λd hd=>hh d (by simp[aS,hd])) s).mono λz hz=>hz.mono λa b hz=>by grind [bE]
   |false=>exact(fO y (zab _ _▸hl:_/\_).2 (λd hd=>hh d (by simp[aS,hd])) s).mono λz hz=>hz.mono λa b hz=>by grind [bE]
  exact KW.fail
 | .block id c,hl,hh,s=>by
  unfold fp;refine KW.bind (fO c hl (λd hd=>hh d (by simpa [aS] using hd)) s) λx hx=> ?_;obtain⟨e,s1⟩:=x;cases e with
  |normal=>exact KW.ret (hx.mono λa b hx=>by simp only[bE,hx])
  |exit pG=>
   simp only[];split
   next h=>exact KW.ret (hx.mono λa b hx=>by grind [bE])
   grind [KW.ret,bE]
  |ret=>grind [KW.ret,bE]
 | .loop c,hl,hh,s=>by
  unfold fp;split
  next h Xf=>exact(hh c (by simp[aS]) h Xf s).mono λx hx=>hx.mono λa b hx=>by grind [bE]
  exact(BN (body:=λa b=>bE Q (cf a b) kp a c) (λs=>fO c hl (λd hd=>hh d (by simp[aS,hd])) s) lf s).mono λx ⟨s0,g1,g2⟩=>(g2.ev g1).mono λa b hx=>by grind [bE]
 | .scope c,hl,hh,s=>by unfold fp;exact(fO c hl (λd hd=>hh d (by simpa [aS] using hd)) s).mono λx hx=>hx.mono λa b hx=>by grind [bE]
 | .exit id,_,_,s=>KW.ret (Ev.const rfl)
 | .ret,_,_,s=>KW.ret (Ev.const rfl)
 | .rangeFunc _ _ _ _,_,_,s=>KW.fail
 | .goto _,_,_,s=>KW.fail
 | .refuse _,_,_,s=>KW.fail
end
section
variable{Q:Program}{kp:qD}{dc:FuncId->Nat->Nat}{lf:Nat}
theorem FR{kf:KF}{hk:List (Nat×(S->K (PX×S)))}(Nf: ∀f fn c,Q.funcs[f]?=some fn->fn.body=some c->cd (dc f) c=true)(ic:AO kf (fo Q kp))(f:FuncId)
  (hh: ∀fn c,Q.funcs[f]?=some fn->fn.body=some c-> ∀d∈aS c,∀h,lk hk (Code.sV d)=some h->I7 Q (fo Q kp) (kp f) d h)
  (ps:List P) (R:List (Nat×En)):KW (nf Q kf kp hk dc lf f ps R) (λx=>Ev λa b=>fo Q kp a b f ps R=some x):=by
 unfold nf;split
 ·exact KW.fail
 rename_i fn gj;split
 ·exact KW.fail
 rename_i WH;split
 ·exact KW.fail
 rename_i c hc;split
 ·exact KW.fail
 rename_i jD;refine KW.bind (fO ic c (Nf f fn c gj hc) (hh fn c gj hc) _) λx hx=> ?_;split
 ·exact KW.fail
 rename_i dP;split
 next qs hq=>
  unfold CN;refine KW.dW λy hy=> ?_;obtain⟨N,hx⟩:=hx;refine⟨N+1,λa b ha hb=> ?_⟩;obtain⟨b,rfl⟩: ∃b',b=b'+1:=⟨b-1,by omega⟩
  grind [fo]
 exact KW.fail
def K4(Q:Program)(kp:qD)(H:List (FuncId×bm)):Prop:=
 ∀f h,lk H f=some h-> ∀ps R,KW (h ps R) (λx=>Ev λa b=>fo Q kp a b f ps R=some x)
theorem K4.nil:K4 Q kp []:=λf h hh=>by simp[lk] at hh
theorem xo{H:List (FuncId×bm)}(Nf: ∀f fn c,Q.funcs[f]?=some fn->fn.body=some c->cd (dc f) c=true)(hH:K4 Q kp H): ∀(k:Nat),AO (runK Q kp dc H lf k) (fo Q kp)
 |0=>λf ps R=>by
  unfold runK;split
  next h hh=>exact hH f h hh ps R
  exact KW.fail
 |k+1=>λf ps R=>by
  unfold runK;split
  next h hh=>exact hH f h hh ps R
  exact FR Nf (xo Nf hH k) f (λfn c _ _ d _ h hh=>by simp[lk] at hh) ps R
theorem BO: ∀(l:List Func) (i0:Nat),nX dc i0 l=true-> ∀i fn c,l[i]?=some fn->fn.body=some c->cd (dc (i0+i)) c=true
 | [],_,_,i,fn,c,h,_=>by simp at h
 |f::r,i0,h,i,fn,c,hf,hc=>by
  simp only[nX,zab] at h;cases i with
  |zero=>grind
  |succ i=>have:=BO r (i0+1) h.2 i fn c (by grind) hc;rwa [show i0+1+i=i0+(i+1) by omega] at this
theorem kU(h:nX dc 0 Q.funcs.toList=true)(f:FuncId)(fn:Func)(c:Code)(hf:Q.funcs[f]?=some fn)(hc:fn.body=some c):cd (dc f) c=true:=by have:=BO Q.funcs.toList 0 h f fn c (by grind) hc;rwa [zaF] at this
def jE(id:Nat):List Code->Option Code
 | []=>none
 |c::r=>if Nat.beq (Code.sV c) id then some c else jE id r
def bB(Q:Program)(f:FuncId)(id:Nat):Code:=
 match Q.funcs[f]? with
 |some fn=>(match fn.body with |some c=>(jE id (aS c)).getD .skip |none=> .skip)
 |none=> .skip
def uniq(Q:Program)(f:FuncId):Bool:=
 match Q.funcs[f]? with
 |some fn=>(match fn.body with |some c=>ep ((aS c).map Code.sV)|none=>true)
 |none=>true
theorem jF{d:Code}: ∀(l:List Code),(l.map Code.sV).Nodup->d∈l->jE (Code.sV d) l=some d
 | [],_,h=>by simp at h
 |c::r,hn,h=>by
  simp only[zbm,za7] at hn;simp only[jE];rcases zaw.1 h with rfl |h
  ·simp
  split
  ·grind [Nat.eq_of_beq_eq_true]
  exact jF r hn.2 h
theorem de: ∀(b:Code) {c d:Code},c∈aS b->d∈aS c->d∈aS b
 | .seq x y,c,d,hc,hd=>by simp only[aS,zaI] at hc⊢;exact hc.imp (de x · hd) (de y · hd)
 | .cond _ x y,c,d,hc,hd=>by simp only[aS,zaI] at hc⊢;exact hc.imp (de x · hd) (de y · hd)
 | .block _ x,c,d,hc,hd=>de x (by grind [aS]) hd
 | .scope x,c,d,hc,hd=>de x (by grind [aS]) hd
 | .loop x,c,d,hc,hd=>by
  simp only[aS,zaw] at hc⊢;rcases hc with rfl |hc
  ·grind
  exact .inr (de x hc hd)
 | .skip,c,d,hc,_ | .label _,c,d,hc,_ | .region ..,c,d,hc,_ | .exit _,c,d,hc,_ | .ret,c,d,hc,_ | .rangeFunc ..,c,d,hc,_ | .goto _,c,d,hc,_ | .refuse _,c,d,hc,_=>by simp[aS] at hc
theorem tQ{id:Nat}{c:Code}: ∀(l:List Code),jE id l=some c->c∈l
 | [],h=>by simp[jE] at h
 |d::r,h=>by
  simp only[jE] at h;split at h
  ·grind
  exact zaJ _ (tQ r h)
theorem uW{f:FuncId}{id:Nat}{d:Code}(hu:uniq Q f=true)(hd:d∈aS (bB Q f id)):bB Q f (Code.sV d)=d:=by
 unfold bB at hd⊢;unfold uniq at hu;split at hd
 next fn gj=>
  rw[gj] at hu;split at hd
  next c hc=>
   simp only[hc] at hu⊢;cases hf:jE id (aS c) with
   |none=>rw[hf] at hd;simp[aS] at hd
   |some e=>rw[hf] at hd;have:=de c (tQ _ hf) hd;rw[jF _ (dM _ hu) this,zcf]
  simp[aS] at hd
 simp[aS] at hd
def O4(Q:Program)(kp:qD)(f:FuncId)(h:bm):Prop:= ∀ps R,KW (h ps R) (λx=>Ev λa b=>fo Q kp a b f ps R=some x)
theorem K4.cons{H:List (FuncId×bm)}{f:FuncId}{h:bm}(hf:O4 Q kp f h)(hH:K4 Q kp H):K4 Q kp ((f,h)::H):=by
 intro f' h' hh ps R;simp only[lk] at hh;split at hh
 next he=>have he:=zaf he;subst he;simp only[zam] at hh;subst hh;exact hf ps R
 exact hH f' h' hh ps R
theorem O4.tR{f:FuncId}{fn:Func}{h:bm}(gj:Q.funcs[f]?=some fn)(hx:gY f kp.xs=true)(hb: ∀ps R ae,h ps R ae-> ∃x,kp.X f ps R=some x/\ae x):O4 Q kp f h:=by
 intro ps R ae hp;obtain⟨x,h1,h2⟩:=hb ps R ae hp;refine⟨x,⟨1,λa b _ hb=> ?_⟩,h2⟩;obtain⟨b,rfl⟩: ∃b',b=b'+1:=⟨b-1,by omega⟩
 grind [fo]
theorem O4.mk{H:List (FuncId×bm)}{f:FuncId}{h:bm}{hk:List (Nat×(S->K (PX×S)))}{k:Nat}(Nf:nX dc 0 Q.funcs.toList=true)(hH:K4 Q kp H)(hu:uniq Q f=true)
  (hl: ∀id g,lk hk id=some g-> ∀s,KW (g s) (λx=>Ev λa b=>iM (bE Q (fo Q kp a b) (kp f) a (bB Q f id)) (kp f id) a s=some x))
  (hb: ∀ps R ae,h ps R ae->nf Q (runK Q kp dc H lf k) kp hk dc lf f ps R ae):O4 Q kp f h:=by
 intro ps R ae hp;refine FR (kU Nf) (xo (kU Nf) hH k) f (λfn c gj hc d hd g hg s=> ?_) ps R ae (hb ps R ae hp);have e:bB Q f (Code.sV d)=d:=by grind [uniq,bB,jF,dM]
 have:=hl _ g hg s;rwa [e] at this
def roundPost(n:Nat)(I:Nat->S->Prop)(O:PX×S->Prop)(x:PX×S):Prop:=match x.1 with | .normal=> ∃m,m<n/\I m x.2 |_=>O x
theorem Xg{H:List (FuncId×bm)}{c:Code}{hk:List (Nat×(S->K (PX×S)))}{kp1:Nat->Option (List Nat×List Nat)}{dc1:Nat->Nat}{k:Nat}{keep:Option (List Nat×List Nat)}(Nf:nX dc 0 Q.funcs.toList=true)(hH:K4 Q kp H)(hc:cd dc1 c=true)
  (hl: ∀d∈aS c,∀h,lk hk (Code.sV d)=some h->I7 Q (fo Q kp) kp1 d h)
  {I:Nat->S->Prop} {O:PX×S->Prop}
  (hr: ∀n s,I n s->xO (fp Q (runK Q kp dc H lf k) kp1 hk dc1 lf c) keep s (roundPost n I O)):
  ∀n s,I n s-> ∃x,O x/\dZ (λa b=>bE Q (fo Q kp a b) kp1 a c) keep s x:=by
 intro n
 induction n using Nat.strongRecOn with
 |_ n ih=>
  intro s hs;obtain⟨x,h1,h2⟩:=Nd (body:=λa b=>bE Q (fo Q kp a b) kp1 a c) (fO (xo (kU Nf) hH k) c hc hl s) _ (hr n s hs);obtain⟨e,s2⟩:=x;cases e with
  |normal=>obtain⟨m,hm,hi⟩:=h2;grind [dZ.on]
  |exit id=>exact⟨_,h2,dZ.out h1 (by simp)⟩
  |ret=>exact⟨_,h2,dZ.out h1 (by simp)⟩
end
end Pi
