/- The text PiKOk4. -/
import Derived.Test.YtngoddkencoalaaGreatDoorPiDrawOk2
namespace Pi
open Go
section
variable{Q:Program}{s:S}
theorem MA{t:TypeId}{p q:P}:KW (HO Q s t p q) (λs1=>gx Q s t p q=some s1):=by
 unfold HO;split
 next n v i k' off=>
  split
  ·exact KW.fail
  rename_i k hk;split
  next s1 x hf=>
   split
   ·rename_i ty es ho;split
    ·rename_i k2 r6;split
     next hc=>refine KW.bind (p:=λ_=>i<es.length) (KW.jH λhb=>by grind) λ_ hi=> ?_;refine KW.bind (nC Q ty _) λy hy=>KW.ret ?_;grind [gx,xi]
     exact KW.fail
    exact KW.fail
   exact KW.fail
  exact KW.fail
 grind [KW.dP]
theorem Im{dst:Option Nat}{t t2:TypeId}{p q:P}:KW (B8 Q s dst t t2 p q) (λs1=>iY Q s dst t t2 p q=some s1):=by
 unfold B8;split
 ·exact KW.fail
 rename_i e he;split
 next i k hi hk=>
  split
  next ys z hy hz=>
   split
   ·rename_i hb;split
    ·rename_i n v len;split
     ·rename_i en mJ;split
      ·rename_i ty es ho;split
       next hc=>refine KW.bind (p:=λ_=>(Nat.ble len es.length&&aM (len+ys.length) i.bytes)=true) (KW.jH λhb=>hb) λ_ hl=> ?_;grind [KW.dP,aM,iY]
       exact KW.fail
      exact KW.fail
     exact KW.fail
    ·refine KW.bind (p:=λ_=>aM ys.length i.bytes=true) (KW.jH λhb=>hb) λ_ hl=> ?_;grind [KW.dP,iY,KW.fail]
    exact KW.fail
   exact KW.fail
  exact KW.fail
 exact KW.fail
theorem Qe{dst:Option Nat}{t:TypeId}{p q:P}:KW (O3 Q s dst t p q) (λs1=>sk Q s dst t p q=some s1):=by
 unfold O3;split
 next e k1 l k2 c h1=>
  split
  next i k z h2 h3 h4=>
   split
   ·rename_i hz;refine KW.bind (p:=λ_=>decide (0<=l/\l<=c/\c<=9223372036854775807/\(i.bytes:Int)*c<=281474976710656)=true) (KW.jH λhb=>hb) λ_ hb=> ?_;split
    ·simp_all [KW.dP,sk]
    exact KW.fail
   exact KW.fail
  exact KW.fail
 exact KW.fail
theorem MB{dst:Option Nat}{t:TypeId}{p:P}:KW (HP Q s dst t p) (λs1=>nw Q s dst t p=some s1):=by
 unfold HP;split
 next e n v k off len h1=>
  split
  next k2 z ty es h2 h3 h4=>
   split
   next hc=>refine KW.bind (p:=λ_=>off+len<=es.length) (KW.jH λhb=>by grind) λ_ hb=>KW.dP λs1 h=> ?_;simp_all [nw,zaT]
   exact KW.fail
  exact KW.fail
 exact KW.fail
theorem Qf{dst:Option Nat}{t t2:TypeId}{p q:P}:KW (O4 Q s dst t t2 p q) (λs1=>sq Q s dst t t2 p q=some s1):=by
 unfold O4;split
 next e n v len h1=>
  split
  next k h2=>
   split
   ·rename_i ys ty es h3 h4;split
    next ht=>refine KW.bind (p:=λ_=>decide (len<=es.length/\ys.length<=len)=true) (KW.jH λhb=>hb) λ_ hb=>KW.dP λs2 hs=> ?_;simp_all [sq]
    exact KW.fail
   exact KW.fail
  exact KW.fail
 exact KW.fail
theorem A6: ∀(ys:List D),gU ys=true->jG ys=some (bytesOf ys)
 | [],_=>rfl
 |x::r,h=>by
  unfold gU at h;split at h
  ·grind
  next n r' heq=>obtain⟨rfl,rfl⟩:=heq;simp only[jG,A6 _ h];rfl
  cases h
theorem MC{o:Oper}{g:Option (Nat×Bool)}:KW (HQ Q s o g) (λs1=>jg Q s o g=some s1):=by
 unfold HQ;split
 ·simp[KW.dP]
 rename_i Vd;split
 next he=>
  have hex:pv Q s o g=none-> ∀s1,ef Q s o g=some s1->jg Q s o g=some s1:=λhp s1 h=>by grind [jg]
  unfold qe1 at he;unfold efK;split
  ·grind [pv,KW.bind,MA,KW.dP,ef]
  next t1 t2 x ho=>
   split
   ·rename_i e h1 h2;split
    ·rename_i ys hu hs;split
     ·rename_i EL;have hp:pv Q s o g=none:=by
       have:(s.eg g x).cA=none:=by
        cases hx:s.eg g x with
        |sl n v len=>rfl
        |lG n v k off len=>rfl
        |d y=>rw[hx] at EL;cases y<;>first |rfl | (simp[P.isRow] at EL)
        |_=>rw[hx] at EL;simp[P.isRow] at EL
       grind [pv]
      refine KW.bind (p:=λ_=>gU ys=true) (KW.jH λhb=>hb) λ_ hb=>KW.dP λs2 h3=>hex hp _ ?_;grind [ef,A6]
     exact KW.fail
    exact KW.fail
   grind
  next c ho=>
   split
   ·rename_i hc;have hp:pv Q s o g=none:=by grind [pv]
    split
    next x y t t2 h1 h2=>refine Im.mono λs1 h=>hex hp _ ?_;unfold ef;simp only[ho,hc,h1,h2];exact h
    exact KW.fail
   ·rename_i hc;have hp:pv Q s o g=none:=by unfold pv;simp only[ho,hc]
    split
    next x y t t2 h1 h2=>refine Qf.mono λs1 h=>hex hp _ ?_;unfold ef;simp only[ho,hc,h1,h2];exact h
    exact KW.fail
   ·rename_i hc;have hp:pv Q s o g=none:=by unfold pv;simp only[ho,hc]
    split
    next x t h1 h2=>refine MB.mono λs1 h=>hex hp _ ?_;unfold ef;simp only[ho,hc,h1,h2];exact h
    exact KW.fail
   grind
  next t x y ho=>
   have hp:pv Q s o g=none:=by unfold pv;rw[ho]
   refine Qe.mono λs1 h=>hex hp _ ?_;grind [ef]
  grind [pv,KW.dP]
 grind [KW.bind,qbB,KW.dP,jg]
theorem Qg{o:Oper}{g:Option (Nat×Bool)}:KW (O5 Q s o g) (λs1=>exec Q s o g=some s1):=by
 unfold O5;cases hm:rl o with
 |some r=>grind [KW.dP,exec]
 |none=>refine MC.mono λs1 h=> ?_;grind [exec]
end
def Ev(p:Nat->Nat->Prop):Prop:= ∃N,∀a b,N<=a->N<=b->p a b
theorem Ev.const{p:Prop}(h:p):Ev λ_ _=>p:=⟨0,λ_ _ _ _=>h⟩
theorem Ev.mono{p q:Nat->Nat->Prop}(h:Ev p)(Pn: ∀a b,p a b->q a b):Ev q:=by obtain⟨N,h⟩:=h;exact⟨N,λa b ha hb=>Pn a b (h a b ha hb)⟩
theorem Ev.and{p q:Nat->Nat->Prop}(h:Ev p)(k:Ev q):Ev λa b=>p a b/\q a b:=by obtain⟨N,h⟩:=h;obtain⟨M,k⟩:=k;exact⟨max N M,λa b ha hb=>⟨h a b (by omega) (by omega),k a b (by omega) (by omega)⟩⟩
theorem Ev.Qh{p q r:Nat->Nat->Prop}(h:Ev p)(k:Ev q)(Pn: ∀a b,p a b->q a b->r a b):Ev r:=(h.and k).mono λa b x=>Pn a b x.1 x.2
theorem Ev.some{p:Nat->Nat->Prop}(h:Ev p): ∃a b,p a b:=by obtain⟨N,h⟩:=h;exact⟨N,N,h N N (zaj _) (zaj _)⟩
def z8(kf:KF)(cf:Nat->Nat->CF):Prop:= ∀f ps R,KW (kf f ps R) (λx=>Ev λa b=>cf a b f ps R=some x)
section
variable{Q:Program}{kf:KF}{cf:Nat->Nat->CF}(hQ:z8 kf cf)
include hQ
theorem Qi{s:S}{dst:Option Nat}{f:P}{args:List P}:KW (qP Q kf s dst f args) (λs1=>Ev λa b=>l9 Q (cf a b) s dst f args=some s1):=by
 unfold qP;split
 next ku cI=>
  split
  ·exact KW.fail
  rename_i s1 ps hf;simp only[];split
  next hn=>
   split
   ·exact KW.fail
   rename_i R0 hR0;refine KW.bind (hQ _ _ _) λx hx=> ?_;split
   ·rename_i hm;split
    ·exact KW.fail
    rename_i R2 h2;split
    ·exact KW.fail
    rename_i R3 h3;refine KW.dP λs2 h=>hx.mono λa b hx=> ?_;grind [l9]
   exact KW.fail
  exact KW.fail
 exact KW.fail
theorem CM{s:S}{o:Oper}{g:Option (Nat×Bool)}:KW (O6 Q kf s o g) (λs1=>Ev λa b=>fX Q (cf a b) s o g=some s1):=by
 unfold O6;split
 ·grind [Qi,fX]
 rename_i hc;exact Qg.mono λs1 h=>Ev.const h |>.mono λa b h=>by grind [fX]
omit hQ in
theorem xS(t:Nat)(v:P): ∀(m:List (Nat×P)),lk m t=some v->rep t v m=m
 | [],h=>rfl
 | (k,u)::r,h=>by
  simp only[lk] at h;simp only[rep];split
  next hk=>rw[zao hk] at h;simp only[zal] at h;rw[h]
  rename_i hk;rw[zam hk] at h;rw[xS t v r h]
omit hQ in
def jP(kn:List (Nat×Bool))(s:S):Prop:= ∀t r,lk kn t=some r->lk s.tm t=some (.d (.bool r))
omit hQ in
theorem tX(d:Nat): ∀(kn:List (Nat×Bool)) (t:Nat) (r:Bool),lk (kn.filter λx=> !Nat.beq x.1 d) t=some r->t≠d/\lk kn t=some r
 | [],t,r,h=>by simp[lk] at h
 | (k,u)::l,t,r,h=>by
  simp only[List.filter_cons] at h;split at h
  next hk=>
   simp only[lk] at h⊢;split
   next ht=>rw[zao ht] at h;have e:=zaf ht;subst e;refine⟨λe=> ?_,h⟩;subst e;simp at hk
   rename_i ht;rw[zam ht] at h;exact tX d l t r h
  rename_i hk;obtain⟨h1,h2⟩:=tX d l t r h;refine⟨h1,?_⟩;simp only[lk];have hk:Nat.beq k d=true:=by simpa using hk
  have e:=zaf hk;subst e;have:Nat.beq k t=false:=by
   cases hb:Nat.beq k t with
   |false=>rfl
   |true=>exact absurd (zaf hb).symm h1
  rw[this];exact h2
omit hQ in
theorem jP.step{cf:CF}{ops:List Oper}{kn:List (Nat×Bool)}{s s1:S}{o:Oper}(h:jP kn s)(hs:bu Q cf ops s o=some s1):jP (B9 o.dst kn) s1:=by
 obtain⟨c,h2,_⟩:=rz (Q:=Q) (cf:=cf) (ops:=ops) (s:=s) (s2:=s) (o:=o) (λ_ _=>rfl) rfl rfl;rw[hs] at h2;cases c with
 |none=>cases h2
 |some x=>
  obtain⟨_,_,_,g4⟩:=hJ (h2.symm:(⟨s.n,s.tm,x.1⟩:S).put o.dst x.2=some s1);intro t r ht;have key:o.dst≠some t/\lk kn t=some r:=by
   unfold B9 at ht;split at ht
   next hd=>rw[hd];exact⟨by simp,ht⟩
   rename_i d hd;obtain⟨k1,k2⟩:=tX _ _ _ _ ht;rw[hd];exact⟨λe=>k1 (by simpa using e.symm),k2⟩
  have hv:=h t r key.2;rw[g4 t key.1];exact hv
omit hQ in
theorem CN{ops:List Oper}{o:Oper}(s:S):KW (O7 ops o s) (λs1=>s=s1):=by
 unfold O7;split
 ·split
  next d hd=>
   split
   next k z hz=>intro ae hp;have:=hp z rfl;rw[xS d _ _ hz] at this;exact⟨s,rfl,this⟩
   exact KW.ret rfl
  exact KW.ret rfl
 exact KW.ret rfl
theorem sN{ops:List Oper}{kn:List (Nat×Bool)}{s:S}{o:Oper}(dQ:jP kn s):KW (AH Q kf ops kn s o) (λx=>(Ev λa b=>bu Q (cf a b) ops s o=some x.1)/\jP x.2 x.1):=by
 have go: ∀{kn:List (Nat×Bool)},jP kn s-> ∀s1,(Ev λa b=>bu Q (cf a b) ops s o=some s1)->((Ev λa b=>bu Q (cf a b) ops s o=some s1)/\jP (B9 o.dst kn) s1):=λdQ s1 h=>⟨h,by obtain⟨a,b,h⟩:=h.some;exact dQ.step h⟩
 unfold AH;split
 ·exact KW.fail
 next hg=>exact KW.bind (CM hQ) λs1 h=>KW.bind (CN s1) λs2 h2=>by grind [KW.ret,bu]
 rename_i t want hg;split
 next r hr=>
  have hb:=dQ t r hr;split
  next hw=>exact KW.bind (CM hQ) λs1 h=>KW.bind (CN s1) λs2 h2=>by grind [KW.ret,bu]
  rename_i hw;exact KW.bind (KW.dP (p:=λs1=>s.put o.dst .skip=some s1) λa h=>h) λs1 h=>KW.ret (go dQ s1 ⟨0,λa b _ _=>by grind [bu]⟩)
 split
 next b hb=>
  refine KW.bind (KW.dec (p:=λr=>b=r) rfl) λr hr=> ?_;subst hr;have e:(⟨s.n,rep t (.d (.bool b)) s.tm,s.rg⟩:S)=s:=by rw[xS t _ _ hb]
  rw[e];have qhS:jP ((t,b)::kn) s:=by
   intro t' r' h';simp only[lk] at h';split at h'
   ·simp_all
   exact dQ t' r' h'
  split
  next hw=>exact KW.bind (CM hQ) λs1 h=>KW.bind (CN s1) λs2 h2=>by grind [KW.ret,bu]
  rename_i hw;exact KW.bind (KW.dP (p:=λs1=>s.put o.dst .skip=some s1) λa h=>h) λs1 h=>KW.ret (go qhS s1 ⟨0,λa b _ _=>by grind [bu]⟩)
 next t' b' q hb=>exact KW.bind (KW.dP (p:=λs1=>s.put o.dst .skip=some s1) λa h=>h) λs1 h=>KW.ret (go dQ s1 ⟨0,λa b _ _=>by grind [bu]⟩)
 exact KW.fail
omit hQ in
theorem jP.nil(s:S):jP [] s:=λt r h=>by simp[lk] at h
theorem nI{ops:List Oper}: ∀(l:List Oper) (kn:List (Nat×Bool)) (s:S),jP kn s->KW (lO Q kf ops l kn s) (λs1=>Ev λa b=>dx Q (cf a b) ops l s=some s1)
 | [],_,s,_=>KW.ret (Ev.const rfl)
 |o::r,kn,s,dQ=>by unfold lO;refine KW.bind (sN hQ dQ) λx hx=> ?_;rw[S.force_eq];refine(nI r x.2 x.1 hx.2).mono λs2 h2=>hx.1.Qh h2 λa b hx h2=> ?_;grind [dx]
theorem rE{ops:List Oper}: ∀(l:List Oper) (kn:List (Nat×Bool)) (s:S),jP kn s->KW (ny Q kf ops l kn s) (λx=>Ev λa b=>o5 Q (cf a b) ops l s=some x)
 | [],_,s,_=>KW.ret (Ev.const rfl)
 |o::r,kn,s,dQ=>by unfold ny;refine KW.bind (sN hQ dQ) λx hx=> ?_;rw[S.force_eq];refine KW.bind (rE r x.2 x.1 hx.2) λy hy=>KW.ret (hx.1.Qh hy λa b hx hy=> ?_);grind [o5]
theorem xT{ops:List Oper}{s:S}(hc:dh ops=1):KW (λae=>K.bind (ny Q kf ops ops [] s) (λx=>λae=>o4 0 (masks ops []) x.2 (ae x.1)) ae) (λs1=>Ev λa b=>jh Q (cf a b) ops s=some s1):=by
 refine KW.bind (rE hQ ops [] _ (jP.nil _)) λx hx ae hp=>⟨x.1,hx.mono λa b hx=> ?_,xP _ _ _ hp⟩
 have h:o4 0 (masks ops []) x.2 True:=pz _ _ _ _ (λ_=>trivial) hp;grind [jh]
theorem xU{ops:List Oper}{s:S}(hc:dh ops=2):KW (lO Q kf ops ops [] s) (λs1=>Ev λa b=>jh Q (cf a b) ops s=some s1):=
 (nI hQ ops [] _ (jP.nil _)).mono λs1 h=>h.mono λa b h=>by grind [jh]
theorem xV{ops:List Oper}{cls:Nat}(Cv:kL ops=cls){s:S}:KW (Er Q kf ops cls s) (λs1=>Ev λa b=>jc Q (cf a b) ops s=some s1):=by
 have plain: ∀k,kL ops=k->1<=k->k<=3->dh ops=k:=by grind [kL]
 have marked: ∀k,k<=1->kL ops=k+4->dh ops=0/\dh (cT ops)=k+1:=by grind [kL,dh]
 subst Cv;unfold Er;split
 ·exact KW.fail
 ·grind [xT,jc]
 next hc=>have h1:=marked 0 (by omega) hc;grind [xT,jc]
 ·grind [xU,jc]
 next hc=>have h1:=marked 1 (by omega) hc;grind [xU,jc]
 next hc=>
  have late:dh ops=0/\dh (cT ops)=0/\ ∀m t d,B3 ops=some (m,t,d)->B4 ops m=true:=by grind [kL,dh,cT]
  split
  next m t d hl=>
   split
   ·rename_i Ko htm;refine KW.bind (rE hQ ops [] _ (jP.nil _)) λx hx ae hp=>⟨x.1,hx.mono λa b hx=> ?_,xP _ _ _ hp⟩
    have h:o4 m (masks ops []) x.2 True:=pz _ _ _ _ (λ_=>trivial) hp;unfold jc;simp only[late.1,late.2.1];unfold su;simp only[hl,hx];rw[zao ⟨late.2.2 m t d hl,Ko,htm⟩,zao h]
   exact KW.fail
  exact KW.fail
 exact KW.fail
def dS(body:Nat->Nat->S->Option (PX×S))(keep:Option (List Nat×List Nat))(s0:S)(x:PX×S):Prop:=
 ∃N,∀a b k,N<=a->N<=b->N<=k-> ∀s,cw keep s=some s0->iB (body a b) keep k s=some x
def CO(body:S->Option (PX×S))(keep:Option (List Nat×List Nat))(s:S)(x:PX×S):Prop:=
 match x.1 with
 | .normal=> ∃s1,body s=some (.normal,s1)/\cw keep s1=some x.2
 |e=> ∃s1,body s=some (e,s1)/\dC keep s1=some x.2
omit hQ in
theorem MD{mF:S->K (PX×S)}{body:Nat->Nat->S->Option (PX×S)}{s:S}(hb:KW (mF s) (λx=>Ev λa b=>body a b s=some x)){keep:Option (List Nat×List Nat)}:KW (w7 mF keep s) (λx=>Ev λa b=>CO (body a b) keep s x):=by
 unfold w7;refine KW.bind hb λx hx=> ?_;obtain⟨e,s1⟩:=x;cases e with
 |normal=>exact KW.bind (KW.dP λa h=>h) λs2 h2=>KW.ret (hx.mono λa b hx=>⟨s1,hx,h2⟩)
 |exit id=>exact KW.bind (KW.dP λa h=>h) λs2 h2=>KW.ret (hx.mono λa b hx=>⟨s1,hx,h2⟩)
 |ret=>exact KW.bind (KW.dP λa h=>h) λs2 h2=>KW.ret (hx.mono λa b hx=>⟨s1,hx,h2⟩)
omit hQ in
theorem dS.out{body:Nat->Nat->S->Option (PX×S)}{keep:Option (List Nat×List Nat)}{s0:S}{x:PX×S}(hr:Ev λa b=>CO (body a b) keep s0 x)(he:x.1≠ .normal):dS body keep s0 x:=by
 obtain⟨N,hr⟩:=hr;refine⟨N+1,λa b k ha hb hk s hs=> ?_⟩;obtain⟨e,s2⟩:=x;have h:=hr a b (by omega) (by omega);obtain⟨k,rfl⟩: ∃k',k=k'+1:=⟨k-1,by omega⟩
 cases e with
 |normal=>exact absurd rfl he
 |exit id=>obtain⟨s1,h1,h2⟩:=h;simp only[] at h1 h2;simp only[iB,hs,h1,h2]
 |ret=>obtain⟨s1,h1,h2⟩:=h;simp only[] at h1 h2;simp only[iB,hs,h1,h2]
omit hQ in
theorem dS.on{body:Nat->Nat->S->Option (PX×S)}{keep:Option (List Nat×List Nat)}{s0 s2:S}{x:PX×S}(hr:Ev λa b=>CO (body a b) keep s0 (.normal,s2))(h2:dS body keep s2 x):dS body keep s0 x:=by
 obtain⟨N,hr⟩:=hr;obtain⟨M,h2⟩:=h2;refine⟨max N M+1,λa b k ha hb hk s hs=> ?_⟩;obtain⟨s1,h1,h3⟩:=hr a b (by omega) (by omega);obtain⟨k,rfl⟩: ∃k',k=k'+1:=⟨k-1,by omega⟩
 simp only[] at h1 h3;simp only[iB,hs,h1];exact h2 a b k (by omega) (by omega) (by omega) s1 h3
omit hQ in
theorem dS.ev{body:Nat->Nat->S->Option (PX×S)}{keep:Option (List Nat×List Nat)}{s s0:S}{x:PX×S}(hs:cw keep s=some s0)(h:dS body keep s0 x):Ev λa b=>iB (body a b) keep a s=some x:=by obtain⟨N,h⟩:=h;exact⟨N,λa b ha hb=>h a b a ha hb ha s hs⟩
omit hQ in
theorem A7{mF:S->K (PX×S)}{body:Nat->Nat->S->Option (PX×S)}(hb: ∀s,KW (mF s) (λx=>Ev λa b=>body a b s=some x)){keep:Option (List Nat×List Nat)}: ∀(k:Nat) (s:S),KW (Ca mF keep k s) (λx=> ∃s0,cw keep s=some s0/\dS body keep s0 x)
 |0,s=>KW.fail
 |k+1,s=>by
  unfold Ca;refine KW.bind (KW.dP λa h=>h) λs0 h0=>KW.bind (hb s0) λx hx=> ?_;obtain⟨e,s1⟩:=x;cases e with
  |normal=>exact(A7 hb k s1).mono λy ⟨s2,g1,g2⟩=>⟨s0,h0,dS.on (hx.mono λa b hx=>⟨s1,hx,g1⟩) g2⟩
  |exit id=>exact KW.bind (KW.dP λa h=>h) λs2 h2=>KW.ret ⟨s0,h0,dS.out (hx.mono λa b hx=>⟨s1,hx,h2⟩) (by simp)⟩
  |ret=>exact KW.bind (KW.dP λa h=>h) λs2 h2=>KW.ret ⟨s0,h0,dS.out (hx.mono λa b hx=>⟨s1,hx,h2⟩) (by simp)⟩
def aS:Code->List Code
 | .seq a b=>aS a++aS b
 | .cond _ a b=>aS a++aS b
 | .block _ c | .scope c=>aS c
 | .loop c=>c::aS c
 |_=>[]
variable{kp:Nat->Option (List Nat×List Nat)}{hk:List (Nat×(S->K (PX×S)))}{dc:Nat->Nat}{lf:Nat}
def Io(Q:Program)(cf:Nat->Nat->CF)(kp:Nat->Option (List Nat×List Nat))(c:Code)(h:S->K (PX×S)):Prop:=
 ∀s,KW (h s) (λx=>Ev λa b=>iB (bB Q (cf a b) kp a c) (kp (Code.r5 c)) a s=some x)
theorem fF: ∀(c:Code),b8 dc c=true->(∀d∈aS c,∀h,lk hk (Code.r5 d)=some h->Io Q cf kp d h)-> ∀(s:S),KW (fg Q kf kp hk dc lf c s) (λx=>Ev λa b=>bB Q (cf a b) kp a c s=some x)
 | .skip,_,_,s=>KW.ret (Ev.const rfl)
 | .label _,_,_,s=>KW.ret (Ev.const rfl)
 | .region id ops draw,hl,_,s=>by
  unfold fg;refine KW.bind (p:=λs1=>Ev λa b=>(if draw then jc Q (cf a b) ops.toList s else dx Q (cf a b) ops.toList ops.toList s)=some s1) ?_ λs1 h1=>KW.ret (h1.mono λa b h1=> ?_)
  ·grind [xV,Nat.eq_of_beq_eq_true,b8,nI,jP.nil]
  simp only[bB,h1]
 | .seq x y,hl,hh,s=>by
  unfold fg;refine KW.bind (fF x (zab _ _▸hl:_/\_).1 (λd hd=>hh d (by simp[aS,hd])) s) λz hz=> ?_;obtain⟨e,s1⟩:=z;cases e with
  |normal=>exact(fF y (zab _ _▸hl:_/\_).2 (λd hd=>hh d (by simp[aS,hd])) s1).mono λu hu=>hz.Qh hu λa b hz hu=>by grind [bB]
  |exit id=>exact KW.ret (hz.mono λa b hz=>by simp only[bB,hz])
  |ret=>exact KW.ret (hz.mono λa b hz=>by simp only[bB,hz])
 | .cond c x y,hl,hh,s=>by
  unfold fg;split
  next b hb=>
   refine KW.bind (KW.dec (p:=λr=>b=r) rfl) λr hr=> ?_;subst hr;cases b with
   |true=>exact(fF x (zab _ _▸hl:_/\_).1 (λd hd=>hh d (by simp[aS,hd])) s).mono λz hz=>hz.mono λa b hz=>by grind [bB]
   |false=>exact(fF y (zab _ _▸hl:_/\_).2 (λd hd=>hh d (by simp[aS,hd])) s).mono λz hz=>hz.mono λa b hz=>by grind [bB]
  exact KW.fail
 | .block id c,hl,hh,s=>by
  unfold fg;refine KW.bind (fF c hl (λd hd=>hh d (by simpa [aS] using hd)) s) λx hx=> ?_;obtain⟨e,s1⟩:=x;cases e with
  |normal=>exact KW.ret (hx.mono λa b hx=>by simp only[bB,hx])
  |exit o6=>
   simp only[];split
   next h=>exact KW.ret (hx.mono λa b hx=>by grind [bB])
   grind [KW.ret,bB]
  |ret=>grind [KW.ret,bB]
 | .loop c,hl,hh,s=>by
  unfold fg;split
  next h Wv=>exact(hh c (by simp[aS]) h Wv s).mono λx hx=>hx.mono λa b hx=>by grind [bB]
  exact(A7 (body:=λa b=>bB Q (cf a b) kp a c) (λs=>fF c hl (λd hd=>hh d (by simp[aS,hd])) s) lf s).mono λx ⟨s0,g1,g2⟩=>(g2.ev g1).mono λa b hx=>by grind [bB]
 | .scope c,hl,hh,s=>by unfold fg;exact(fF c hl (λd hd=>hh d (by simpa [aS] using hd)) s).mono λx hx=>hx.mono λa b hx=>by grind [bB]
 | .exit id,_,_,s=>KW.ret (Ev.const rfl)
 | .ret,_,_,s=>KW.ret (Ev.const rfl)
 | .rangeFunc _ _ _ _,_,_,s=>KW.fail
 | .goto _,_,_,s=>KW.fail
 | .refuse _,_,_,s=>KW.fail
end
section
variable{Q:Program}{kp:pZ}{dc:FuncId->Nat->Nat}{lf:Nat}
theorem E9{kf:KF}{hk:List (Nat×(S->K (PX×S)))}(ME: ∀f fn c,Q.funcs[f]?=some fn->fn.body=some c->b8 (dc f) c=true)(hQ:z8 kf (ff Q kp))(f:FuncId)
  (hh: ∀fn c,Q.funcs[f]?=some fn->fn.body=some c-> ∀d∈aS c,∀h,lk hk (Code.r5 d)=some h->Io Q (ff Q kp) (kp f) d h)
  (ps:List P) (R:List (Nat×En)):KW (mF Q kf kp hk dc lf f ps R) (λx=>Ev λa b=>ff Q kp a b f ps R=some x):=by
 unfold mF;split
 ·exact KW.fail
 rename_i fn fW;split
 ·exact KW.fail
 rename_i VY;split
 ·exact KW.fail
 rename_i c hc;split
 ·exact KW.fail
 rename_i jm;refine KW.bind (fF hQ c (ME f fn c fW hc) (hh fn c fW hc) _) λx hx=> ?_;split
 ·exact KW.fail
 rename_i dI;split
 next qs hq=>
  unfold Cb;refine KW.dP λy hy=> ?_;obtain⟨N,hx⟩:=hx;refine⟨N+1,λa b ha hb=> ?_⟩;obtain⟨b,rfl⟩: ∃b',b=b'+1:=⟨b-1,by omega⟩
  grind [ff]
 exact KW.fail
def Ku(Q:Program)(kp:pZ)(H:List (FuncId×br)):Prop:=
 ∀f h,lk H f=some h-> ∀ps R,KW (h ps R) (λx=>Ev λa b=>ff Q kp a b f ps R=some x)
theorem Ku.nil:Ku Q kp []:=λf h hh=>by simp[lk] at hh
theorem wC{H:List (FuncId×br)}(ME: ∀f fn c,Q.funcs[f]?=some fn->fn.body=some c->b8 (dc f) c=true)(hH:Ku Q kp H): ∀(k:Nat),z8 (runK Q kp dc H lf k) (ff Q kp)
 |0=>λf ps R=>by
  unfold runK;split
  next h hh=>exact hH f h hh ps R
  exact KW.fail
 |k+1=>λf ps R=>by
  unfold runK;split
  next h hh=>exact hH f h hh ps R
  exact E9 ME (wC ME hH k) f (λfn c _ _ d _ h hh=>by simp[lk] at hh) ps R
theorem A8: ∀(l:List Func) (i0:Nat),nz dc i0 l=true-> ∀i fn c,l[i]?=some fn->fn.body=some c->b8 (dc (i0+i)) c=true
 | [],_,_,i,fn,c,h,_=>by simp at h
 |f::r,i0,h,i,fn,c,hf,hc=>by
  simp only[nz,zab] at h;cases i with
  |zero=>grind
  |succ i=>have:=A8 r (i0+1) h.2 i fn c (by grind) hc;rwa [show i0+1+i=i0+(i+1) by omega] at this
theorem kA(h:nz dc 0 Q.funcs.toList=true)(f:FuncId)(fn:Func)(c:Code)(hf:Q.funcs[f]?=some fn)(hc:fn.body=some c):b8 (dc f) c=true:=by have:=A8 Q.funcs.toList 0 h f fn c (by grind) hc;rwa [zaG] at this
def jn(id:Nat):List Code->Option Code
 | []=>none
 |c::r=>if Nat.beq (Code.r5 c) id then some c else jn id r
def bA(Q:Program)(f:FuncId)(id:Nat):Code:=
 match Q.funcs[f]? with
 |some fn=>(match fn.body with |some c=>(jn id (aS c)).getD .skip |none=> .skip)
 |none=> .skip
def uniq(Q:Program)(f:FuncId):Bool:=
 match Q.funcs[f]? with
 |some fn=>(match fn.body with |some c=>dW ((aS c).map Code.r5)|none=>true)
 |none=>true
theorem jo{d:Code}: ∀(l:List Code),(l.map Code.r5).Nodup->d∈l->jn (Code.r5 d) l=some d
 | [],_,h=>by simp at h
 |c::r,hn,h=>by
  simp only[zbm,za8] at hn;simp only[jn];rcases zav.1 h with rfl |h
  ·simp
  split
  ·grind [Nat.eq_of_beq_eq_true]
  exact jo r hn.2 h
theorem cY: ∀(b:Code) {c d:Code},c∈aS b->d∈aS c->d∈aS b
 | .seq x y,c,d,hc,hd=>by simp only[aS,zaE] at hc⊢;exact hc.imp (cY x · hd) (cY y · hd)
 | .cond _ x y,c,d,hc,hd=>by simp only[aS,zaE] at hc⊢;exact hc.imp (cY x · hd) (cY y · hd)
 | .block _ x,c,d,hc,hd=>cY x (by grind [aS]) hd
 | .scope x,c,d,hc,hd=>cY x (by grind [aS]) hd
 | .loop x,c,d,hc,hd=>by
  simp only[aS,zav] at hc⊢;rcases hc with rfl |hc
  ·grind
  exact .inr (cY x hc hd)
 | .skip,c,d,hc,_ | .label _,c,d,hc,_ | .region ..,c,d,hc,_ | .exit _,c,d,hc,_ | .ret,c,d,hc,_ | .rangeFunc ..,c,d,hc,_ | .goto _,c,d,hc,_ | .refuse _,c,d,hc,_=>by simp[aS] at hc
theorem sO{id:Nat}{c:Code}: ∀(l:List Code),jn id l=some c->c∈l
 | [],h=>by simp[jn] at h
 |d::r,h=>by
  simp only[jn] at h;split at h
  ·grind
  exact zaH _ (sO r h)
theorem tY{f:FuncId}{id:Nat}{d:Code}(hu:uniq Q f=true)(hd:d∈aS (bA Q f id)):bA Q f (Code.r5 d)=d:=by
 unfold bA at hd⊢;unfold uniq at hu;split at hd
 next fn fW=>
  rw[fW] at hu;split at hd
  next c hc=>
   simp only[hc] at hu⊢;cases hf:jn id (aS c) with
   |none=>rw[hf] at hd;simp[aS] at hd
   |some e=>rw[hf] at hd;have:=cY c (sO _ hf) hd;rw[jo _ (dF _ hu) this,zcb]
  simp[aS] at hd
 simp[aS] at hd
def Om(Q:Program)(kp:pZ)(f:FuncId)(h:br):Prop:= ∀ps R,KW (h ps R) (λx=>Ev λa b=>ff Q kp a b f ps R=some x)
theorem Ku.cons{H:List (FuncId×br)}{f:FuncId}{h:br}(hf:Om Q kp f h)(hH:Ku Q kp H):Ku Q kp ((f,h)::H):=by
 intro f' h' hh ps R;simp only[lk] at hh;split at hh
 next he=>have he:=zaf he;subst he;simp only[zal] at hh;subst hh;exact hf ps R
 exact hH f' h' hh ps R
theorem Om.sP{f:FuncId}{fn:Func}{h:br}(fW:Q.funcs[f]?=some fn)(hx:gS f kp.xs=true)(hb: ∀ps R ae,h ps R ae-> ∃x,kp.X f ps R=some x/\ae x):Om Q kp f h:=by
 intro ps R ae hp;obtain⟨x,h1,h2⟩:=hb ps R ae hp;refine⟨x,⟨1,λa b _ hb=> ?_⟩,h2⟩;obtain⟨b,rfl⟩: ∃b',b=b'+1:=⟨b-1,by omega⟩
 grind [ff]
theorem Om.mk{H:List (FuncId×br)}{f:FuncId}{h:br}{hk:List (Nat×(S->K (PX×S)))}{k:Nat}(ME:nz dc 0 Q.funcs.toList=true)(hH:Ku Q kp H)(hu:uniq Q f=true)
  (hl: ∀id g,lk hk id=some g-> ∀s,KW (g s) (λx=>Ev λa b=>iB (bB Q (ff Q kp a b) (kp f) a (bA Q f id)) (kp f id) a s=some x))
  (hb: ∀ps R ae,h ps R ae->mF Q (runK Q kp dc H lf k) kp hk dc lf f ps R ae):Om Q kp f h:=by
 intro ps R ae hp;refine E9 (kA ME) (wC (kA ME) hH k) f (λfn c fW hc d hd g hg s=> ?_) ps R ae (hb ps R ae hp);have e:bA Q f (Code.r5 d)=d:=by grind [uniq,bA,jo,dF]
 have:=hl _ g hg s;rwa [e] at this
def roundPost(n:Nat)(I:Nat->S->Prop)(O:PX×S->Prop)(x:PX×S):Prop:=match x.1 with | .normal=> ∃m,m<n/\I m x.2 |_=>O x
theorem Ww{H:List (FuncId×br)}{c:Code}{hk:List (Nat×(S->K (PX×S)))}{kp1:Nat->Option (List Nat×List Nat)}{dc1:Nat->Nat}{k:Nat}{keep:Option (List Nat×List Nat)}(ME:nz dc 0 Q.funcs.toList=true)(hH:Ku Q kp H)(hc:b8 dc1 c=true)
  (hl: ∀d∈aS c,∀h,lk hk (Code.r5 d)=some h->Io Q (ff Q kp) kp1 d h)
  {I:Nat->S->Prop} {O:PX×S->Prop}
  (hr: ∀n s,I n s->w7 (fg Q (runK Q kp dc H lf k) kp1 hk dc1 lf c) keep s (roundPost n I O)):
  ∀n s,I n s-> ∃x,O x/\dS (λa b=>bB Q (ff Q kp a b) kp1 a c) keep s x:=by
 intro n
 induction n using Nat.strongRecOn with
 |_ n ih=>
  intro s hs;obtain⟨x,h1,h2⟩:=MD (body:=λa b=>bB Q (ff Q kp a b) kp1 a c) (fF (wC (kA ME) hH k) c hc hl s) _ (hr n s hs);obtain⟨e,s2⟩:=x;cases e with
  |normal=>obtain⟨m,hm,hi⟩:=h2;grind [dS.on]
  |exit id=>exact⟨_,h2,dS.out h1 (by simp)⟩
  |ret=>exact⟨_,h2,dS.out h1 (by simp)⟩
end
end Pi
