/- The text PiKOk4. -/
import Derived.Test.YtdgkdigdflkjhaaGreatDoorPiDrawOk2
namespace Pi
open Go
section
variable{Q:Program}{s:S}
theorem QM{t p q}:KW (Lr Q s t p q) (λs1=>gU Q s t p q=some s1):=by
 unfold Lr;split
 next n v i k' off=>
  split
  ·exact KW.fail
  rename_i k hk;split
  next s1 x hf=>
   split
   ·rename_i ty es ho;split
    ·rename_i k2 qj;split
     next hc=>refine KW.bind (p:=λ_=>i<es.length) (KW.ki λhb=>by grind) λ_ hi=> ?_;refine KW.bind (o7 Q ty _) λy hy=>KW.ret ?_;grind [gU,zJ]
     exact KW.fail
    exact KW.fail
   exact KW.fail
  exact KW.fail
 grind [KW.dU]
theorem L6{dst t t2 p q}:KW (E1 Q s dst t t2 p q) (λs1=>jy Q s dst t t2 p q=some s1):=by
 unfold E1;split
 ·exact KW.fail
 rename_i e he;split
 next i k hi hk=>
  split
  next ys z hy hz=>
   split
   ·rename_i hb;split
    ·rename_i n v len;split
     ·rename_i en lJ;split
      ·rename_i ty es ho;split
       next hc=>refine KW.bind (p:=λ_=>(Nat.ble len es.length&&aG (len+ys.length) i.bytes)=true) (KW.ki λhb=>hb) λ_ hl=> ?_;grind [KW.dU,aG,jy]
       exact KW.fail
      exact KW.fail
     exact KW.fail
    ·refine KW.bind (p:=λ_=>aG ys.length i.bytes=true) (KW.ki λhb=>hb) λ_ hl=> ?_;grind [KW.dU,jy,KW.fail]
    exact KW.fail
   exact KW.fail
  exact KW.fail
 exact KW.fail
theorem UD{dst t p q}:KW (TE Q s dst t p q) (λs1=>uk Q s dst t p q=some s1):=by
 unfold TE;split
 next e k1 l k2 c h1=>
  split
  next i k z h2 h3 h4=>
   split
   ·rename_i hz;refine KW.bind (p:=λ_=>decide (0<=l/\l<=c/\c<=9223372036854775807/\(i.bytes:Int)*c<=281474976710656)=true) (KW.ki λhb=>hb) λ_ hb=> ?_;split
    ·simp_all [KW.dU,uk]
    exact KW.fail
   exact KW.fail
  exact KW.fail
 exact KW.fail
theorem QN{dst t p}:KW (Ls Q s dst t p) (λs1=>oX Q s dst t p=some s1):=by
 unfold Ls;split
 next e n v k off len h1=>
  split
  next k2 z ty es h2 h3 h4=>
   split
   next hc=>refine KW.bind (p:=λ_=>off+len<=es.length) (KW.ki λhb=>by grind) λ_ hb=>KW.dU λs1 h=> ?_;simp_all [oX,za0]
   exact KW.fail
  exact KW.fail
 exact KW.fail
theorem UE{dst t t2 p q}:KW (TG Q s dst t t2 p q) (λs1=>um Q s dst t t2 p q=some s1):=by
 unfold TG;split
 next e n v len h1=>
  split
  next k h2=>
   split
   ·rename_i ys ty es h3 h4;split
    next ht=>refine KW.bind (p:=λ_=>decide (len<=es.length/\ys.length<=len)=true) (KW.ki λhb=>hb) λ_ hb=>KW.dU λs2 hs=> ?_;simp_all [um]
    exact KW.fail
   exact KW.fail
  exact KW.fail
 exact KW.fail
theorem DK: ∀ys,iF ys=true->kh ys=some (bytesOf ys)
 | [],_=>rfl
 |x::r,h=>by
  unfold iF at h;split at h
  ·grind
  next n r' heq=>obtain⟨rfl,rfl⟩:=heq;simp only[kh,DK _ h];rfl
  cases h
theorem QO{o g}:KW (Lt Q s o g) (λs1=>jK Q s o g=some s1):=by
 unfold Lt;split
 ·simp[KW.dU]
 rename_i hna;split
 next he=>
  have hex:pv Q s o g=none-> ∀s1,ef Q s o g=some s1->jK Q s o g=some s1:=λhp s1 h=>by grind [jK]
  unfold qir at he;unfold efK;split
  ·grind [pv,KW.bind,QM,KW.dU,ef]
  next t1 t2 x ho=>
   split
   ·rename_i e h1 h2;split
    ·rename_i ys hu hs;split
     ·rename_i Ia;have hp:pv Q s o g=none:=by
       have:(s.eg g x).cD=none:=by
        cases hx:s.eg g x with
        |sl n v len=>rfl
        |mG n v k off len=>rfl
        |d y=>rw[hx] at Ia;cases y<;>first |rfl | (simp[P.isRow] at Ia)
        |_=>rw[hx] at Ia;simp[P.isRow] at Ia
       grind [pv]
      refine KW.bind (p:=λ_=>iF ys=true) (KW.ki λhb=>hb) λ_ hb=>KW.dU λs2 h3=>hex hp _ ?_;grind [ef,DK]
     exact KW.fail
    exact KW.fail
   grind
  next c ho=>
   split
   ·rename_i hc;have hp:pv Q s o g=none:=by grind [pv]
    split
    next x y t t2 h1 h2=>refine L6.mono λs1 h=>hex hp _ ?_;unfold ef;simp only[ho,hc,h1,h2];exact h
    exact KW.fail
   ·rename_i hc;have hp:pv Q s o g=none:=by unfold pv;simp only[ho,hc]
    split
    next x y t t2 h1 h2=>refine UE.mono λs1 h=>hex hp _ ?_;unfold ef;simp only[ho,hc,h1,h2];exact h
    exact KW.fail
   ·rename_i hc;have hp:pv Q s o g=none:=by unfold pv;simp only[ho,hc]
    split
    next x t h1 h2=>refine QN.mono λs1 h=>hex hp _ ?_;unfold ef;simp only[ho,hc,h1,h2];exact h
    exact KW.fail
   ·rename_i hc;have hp:pv Q s o g=none:=by unfold pv;simp only[ho,hc]
    exact KW.dU λs1 h=>hex hp _ h
   grind
  next t x y ho=>
   have hp:pv Q s o g=none:=by unfold pv;rw[ho]
   refine UD.mono λs1 h=>hex hp _ ?_;grind [ef]
  grind [pv,KW.dU]
 grind [KW.bind,qfs,KW.dU,jK]
theorem UF{o g}:KW (TH Q s o g) (λs1=>exec Q s o g=some s1):=by
 unfold TH;cases hm:sZ o with
 |some r=>grind [KW.dU,exec]
 |none=>refine QO.mono λs1 h=> ?_;grind [exec]
end
def Ev(p:Nat->Nat->Prop):= ∃N,∀a b,N<=a->N<=b->p a b
theorem Ev.const{p:Prop}(h:p):Ev λ_ _=>p:=⟨0,λ_ _ _ _=>h⟩
theorem Ev.mono{p q}(h:Ev p)(TX: ∀a b,p a b->q a b):Ev q:=by obtain⟨N,h⟩:=h;exact⟨N,λa b ha hb=>TX a b (h a b ha hb)⟩
theorem Ev.and{p q}(h:Ev p)(k:Ev q):Ev λa b=>p a b/\q a b:=by obtain⟨N,h⟩:=h;obtain⟨M,k⟩:=k;exact⟨max N M,λa b ha hb=>⟨h a b (by omega) (by omega),k a b (by omega) (by omega)⟩⟩
theorem Ev.UG{p q r}(h:Ev p)(k:Ev q)(TX: ∀a b,p a b->q a b->r a b):Ev r:=(h.and k).mono λa b x=>TX a b x.1 x.2
theorem Ev.some{p}(h:Ev p): ∃a b,p a b:=by obtain⟨N,h⟩:=h;exact⟨N,N,h N N (zal _) (zal _)⟩
def yd(kf:KF)(cf:Nat->Nat->CF):= ∀f ps R,KW (kf f ps R) (λx=>Ev λa b=>cf a b f ps R=some x)
section
variable{Q:Program}{kf:KF}{cf:Nat->Nat->CF}(hJ:yd kf cf)
include hJ
theorem UH{s dst f args}:KW (sk Q kf s dst f args) (λs1=>Ev λa b=>nw Q (cf a b) s dst f args=some s1):=by
 unfold sk;split
 next jZ cW=>
  split
  ·exact KW.fail
  rename_i s1 ps hf;simp only[];split
  next hn=>
   split
   ·exact KW.fail
   rename_i R0 hR0;refine KW.bind (hJ _ _ _) λx hx=> ?_;split
   ·rename_i hm;split
    ·exact KW.fail
    rename_i R2 h2;split
    ·exact KW.fail
    rename_i R3 h3;refine KW.dU λs2 h=>hx.mono λa b hx=> ?_;grind [nw]
   exact KW.fail
  exact KW.fail
 exact KW.fail
theorem FB{s o g}:KW (TI Q kf s o g) (λs1=>Ev λa b=>gI Q (cf a b) s o g=some s1):=by
 unfold TI;split
 ·grind [UH,gI]
 rename_i hc;exact UF.mono λs1 h=>Ev.const h |>.mono λa b h=>by grind [gI]
omit hJ in
theorem Am(t:Nat)(v:P): ∀(m:List (Nat×P)),lk m t=some v->rep t v m=m
 | [],h=>rfl
 | (k,u)::r,h=>by
  simp only[lk] at h;simp only[rep];split
  next hk=>rw[zap hk] at h;simp only[zam] at h;rw[h]
  rename_i hk;rw[zan hk] at h;rw[Am t v r h]
omit hJ in
def kr(kn:List (Nat×Bool))(s:S):Prop:= ∀t r,lk kn t=some r->lk s.tm t=some (.d (.bool r))
omit hJ in
theorem wh(d:Nat): ∀(kn:List (Nat×Bool)) (t:Nat) (r:Bool),lk (kn.filter λx=> !Nat.beq x.1 d) t=some r->t≠d/\lk kn t=some r
 | [],t,r,h=>by simp[lk] at h
 | (k,u)::l,t,r,h=>by
  simp only[List.filter_cons] at h;split at h
  next hk=>
   simp only[lk] at h⊢;split
   next ht=>rw[zap ht] at h;have e:=zag ht;subst e;refine⟨λe=> ?_,h⟩;subst e;simp at hk
   rename_i ht;rw[zan ht] at h;exact wh d l t r h
  rename_i hk;obtain⟨h1,h2⟩:=wh d l t r h;refine⟨h1,?_⟩;simp only[lk];have hk:Nat.beq k d=true:=by simpa using hk
  have e:=zag hk;subst e;have:Nat.beq k t=false:=by
   cases hb:Nat.beq k t with
   |false=>rfl
   |true=>exact absurd (zag hb).symm h1
  rw[this];exact h2
omit hJ in
theorem kr.step{cf:CF}{ops:List Oper}{kn:List (Nat×Bool)}{s s1:S}{o:Oper}(h:kr kn s)(hs:bu Q cf ops s o=some s1):kr (E2 o.dst kn) s1:=by
 obtain⟨c,h2,_⟩:=tj (Q:=Q) (cf:=cf) (ops:=ops) (s:=s) (s2:=s) (o:=o) (λ_ _=>rfl) rfl rfl;rw[hs] at h2;cases c with
 |none=>cases h2
 |some x=>
  obtain⟨_,_,_,g4⟩:=iJ (h2.symm:(⟨s.n,s.tm,x.1⟩:S).put o.dst x.2=some s1);intro t r ht;have key:o.dst≠some t/\lk kn t=some r:=by
   unfold E2 at ht;split at ht
   next hd=>rw[hd];exact⟨by simp,ht⟩
   rename_i d hd;obtain⟨k1,k2⟩:=wh _ _ _ _ ht;rw[hd];exact⟨λe=>k1 (by simpa using e.symm),k2⟩
  have hv:=h t r key.2;rw[g4 t key.1];exact hv
omit hJ in
theorem FE{ops:List Oper}{o:Oper}(s:S):KW (TJ ops o s) (λs1=>s=s1):=by
 unfold TJ;split
 ·split
  next d hd=>
   split
   next k z hz=>intro ae hp;have:=hp z rfl;rw[Am d _ _ hz] at this;exact⟨s,rfl,this⟩
   exact KW.ret rfl
  exact KW.ret rfl
 exact KW.ret rfl
theorem uL{ops kn s o}(eD:kr kn s):KW (Dj Q kf ops kn s o) (λx=>(Ev λa b=>bu Q (cf a b) ops s o=some x.1)/\kr x.2 x.1):=by
 have go: ∀{kn:List (Nat×Bool)},kr kn s-> ∀s1,(Ev λa b=>bu Q (cf a b) ops s o=some s1)->((Ev λa b=>bu Q (cf a b) ops s o=some s1)/\kr (E2 o.dst kn) s1):=λeD s1 h=>⟨h,by obtain⟨a,b,h⟩:=h.some;exact eD.step h⟩
 unfold Dj;split
 ·exact KW.fail
 next hg=>exact KW.bind (FB hJ) λs1 h=>KW.bind (FE s1) λs2 h2=>by grind [KW.ret,bu]
 rename_i t want hg;split
 next r hr=>
  have hb:=eD t r hr;split
  next hw=>exact KW.bind (FB hJ) λs1 h=>KW.bind (FE s1) λs2 h2=>by grind [KW.ret,bu]
  rename_i hw;exact KW.bind (KW.dU (p:=λs1=>s.put o.dst .skip=some s1) λa h=>h) λs1 h=>KW.ret (go eD s1 ⟨0,λa b _ _=>by grind [bu]⟩)
 split
 next b hb=>
  refine KW.bind (KW.dec (p:=λr=>b=r) rfl) λr hr=> ?_;subst hr;have e:(⟨s.n,rep t (.d (.bool b)) s.tm,s.rg⟩:S)=s:=by rw[Am t _ _ hb]
  rw[e];have qnn:kr ((t,b)::kn) s:=by
   intro t' r' h';simp only[lk] at h';split at h'
   ·simp_all
   exact eD t' r' h'
  split
  next hw=>exact KW.bind (FB hJ) λs1 h=>KW.bind (FE s1) λs2 h2=>by grind [KW.ret,bu]
  rename_i hw;exact KW.bind (KW.dU (p:=λs1=>s.put o.dst .skip=some s1) λa h=>h) λs1 h=>KW.ret (go qnn s1 ⟨0,λa b _ _=>by grind [bu]⟩)
 next t' b' q hb=>exact KW.bind (KW.dU (p:=λs1=>s.put o.dst .skip=some s1) λa h=>h) λs1 h=>KW.ret (go eD s1 ⟨0,λa b _ _=>by grind [bu]⟩)
 exact KW.fail
omit hJ in
theorem kr.nil(s:S):kr [] s:=λt r h=>by simp[lk] at h
theorem pe{ops}: ∀l kn s,kr kn s->KW (mQ Q kf ops l kn s) (λs1=>Ev λa b=>dF Q (cf a b) ops l s=some s1)
 | [],_,s,_=>KW.ret (Ev.const rfl)
 |o::r,kn,s,eD=>by unfold mQ;refine KW.bind (uL hJ eD) λx hx=> ?_;rw[S.force_eq];refine(pe r x.2 x.1 hx.2).mono λs2 h2=>hx.1.UG h2 λa b hx h2=> ?_;grind [dF]
theorem tB{ops}: ∀l kn s,kr kn s->KW (oZ Q kf ops l kn s) (λx=>Ev λa b=>qz Q (cf a b) ops l s=some x)
 | [],_,s,_=>KW.ret (Ev.const rfl)
 |o::r,kn,s,eD=>by unfold oZ;refine KW.bind (uL hJ eD) λx hx=> ?_;rw[S.force_eq];refine KW.bind (tB r x.2 x.1 hx.2) λy hy=>KW.ret (hx.1.UG hy λa b hx hy=> ?_);grind [qz]
theorem An{ops s}(hc:dA ops=1):KW (λae=>K.bind (oZ Q kf ops ops [] s) (λx=>λae=>qy 0 (masks ops []) x.2 (ae x.1)) ae) (λs1=>Ev λa b=>jL Q (cf a b) ops s=some s1):=by
 refine KW.bind (tB hJ ops [] _ (kr.nil _)) λx hx ae hp=>⟨x.1,hx.mono λa b hx=> ?_,Aj _ _ _ hp⟩
 have h:qy 0 (masks ops []) x.2 True:=qS _ _ _ _ (λ_=>trivial) hp;grind [jL]
theorem Ao{ops s}(hc:dA ops=2):KW (mQ Q kf ops ops [] s) (λs1=>Ev λa b=>jL Q (cf a b) ops s=some s1):=
 (pe hJ ops [] _ (kr.nil _)).mono λs1 h=>h.mono λa b h=>by grind [jL]
theorem Ap{ops cls}(Fk:lD ops=cls){s}:KW (HT Q kf ops cls s) (λs1=>Ev λa b=>jC Q (cf a b) ops s=some s1):=by
 have plain: ∀k,lD ops=k->1<=k->k<=3->dA ops=k:=by grind [lD]
 have marked: ∀k,k<=1->lD ops=k+4->dA ops=0/\dA (da ops)=k+1:=by grind [lD,dA]
 subst Fk;unfold HT;split
 ·exact KW.fail
 ·grind [An,jC]
 next hc=>have h1:=marked 0 (by omega) hc;grind [An,jC]
 ·grind [Ao,jC]
 next hc=>have h1:=marked 1 (by omega) hc;grind [Ao,jC]
 next hc=>
  have late:dA ops=0/\dA (da ops)=0/\ ∀m t d,EW ops=some (m,t,d)->EX ops m=true:=by grind [lD,dA,da]
  split
  next m t d hl=>
   split
   ·rename_i Dz htm;refine KW.bind (tB hJ ops [] _ (kr.nil _)) λx hx ae hp=>⟨x.1,hx.mono λa b hx=> ?_,Aj _ _ _ hp⟩
    have h:qy m (masks ops []) x.2 True:=qS _ _ _ _ (λ_=>trivial) hp;unfold jC;simp only[late.1,late.2.1];unfold ur;simp only[hl,hx];rw[zap ⟨late.2.2 m t d hl,Dz,htm⟩,zap h]
   exact KW.fail
  exact KW.fail
 exact KW.fail
def ec(body:Nat->Nat->S->Option (PX×S)) keep s0 x:=
 ∃N,∀a b k,N<=a->N<=b->N<=k-> ∀s,cG keep s=some s0->jc (body a b) keep k s=some x
def FF(body:S->Option (PX×S))(keep:Option (List Nat×List Nat))(s:S)(x:PX×S):Prop:=
 match x.1 with
 | .normal=> ∃s1,body s=some (.normal,s1)/\cG keep s1=some x.2
 |e=> ∃s1,body s=some (e,s1)/\dL keep s1=some x.2
omit hJ in
theorem QP{n0:S->K (PX×S)}{body:Nat->Nat->S->Option (PX×S)}{s:S}(hb:KW (n0 s) (λx=>Ev λa b=>body a b s=some x)){keep:Option (List Nat×List Nat)}:KW (zw n0 keep s) (λx=>Ev λa b=>FF (body a b) keep s x):=by
 unfold zw;refine KW.bind hb λx hx=> ?_;obtain⟨e,s1⟩:=x;cases e with
 |normal=>exact KW.bind (KW.dU λa h=>h) λs2 h2=>KW.ret (hx.mono λa b hx=>⟨s1,hx,h2⟩)
 |exit id=>exact KW.bind (KW.dU λa h=>h) λs2 h2=>KW.ret (hx.mono λa b hx=>⟨s1,hx,h2⟩)
 |ret=>exact KW.bind (KW.dU λa h=>h) λs2 h2=>KW.ret (hx.mono λa b hx=>⟨s1,hx,h2⟩)
omit hJ in
theorem ec.out{body:Nat->Nat->S->Option (PX×S)}{keep:Option (List Nat×List Nat)}{s0:S}{x:PX×S}(hr:Ev λa b=>FF (body a b) keep s0 x)(he:x.1≠ .normal):ec body keep s0 x:=by
 obtain⟨N,hr⟩:=hr;refine⟨N+1,λa b k ha hb hk s hs=> ?_⟩;obtain⟨e,s2⟩:=x;have h:=hr a b (by omega) (by omega);obtain⟨k,rfl⟩: ∃k',k=k'+1:=⟨k-1,by omega⟩
 cases e with
 |normal=>exact absurd rfl he
 |exit id=>obtain⟨s1,h1,h2⟩:=h;simp only[] at h1 h2;simp only[jc,hs,h1,h2]
 |ret=>obtain⟨s1,h1,h2⟩:=h;simp only[] at h1 h2;simp only[jc,hs,h1,h2]
omit hJ in
theorem ec.on{body:Nat->Nat->S->Option (PX×S)}{keep:Option (List Nat×List Nat)}{s0 s2:S}{x:PX×S}(hr:Ev λa b=>FF (body a b) keep s0 (.normal,s2))(h2:ec body keep s2 x):ec body keep s0 x:=by
 obtain⟨N,hr⟩:=hr;obtain⟨M,h2⟩:=h2;refine⟨max N M+1,λa b k ha hb hk s hs=> ?_⟩;obtain⟨s1,h1,h3⟩:=hr a b (by omega) (by omega);obtain⟨k,rfl⟩: ∃k',k=k'+1:=⟨k-1,by omega⟩
 simp only[] at h1 h3;simp only[jc,hs,h1];exact h2 a b k (by omega) (by omega) (by omega) s1 h3
omit hJ in
theorem ec.ev{body:Nat->Nat->S->Option (PX×S)}{keep:Option (List Nat×List Nat)}{s s0:S}{x:PX×S}(hs:cG keep s=some s0)(h:ec body keep s0 x):Ev λa b=>jc (body a b) keep a s=some x:=by obtain⟨N,h⟩:=h;exact⟨N,λa b ha hb=>h a b a ha hb ha s hs⟩
omit hJ in
theorem DL{n0:S->K (PX×S)}{body:Nat->Nat->S->Option (PX×S)}(hb: ∀s,KW (n0 s) (λx=>Ev λa b=>body a b s=some x)){keep:Option (List Nat×List Nat)}: ∀(k:Nat) (s:S),KW (E3 n0 keep k s) (λx=> ∃s0,cG keep s=some s0/\ec body keep s0 x)
 |0,s=>KW.fail
 |k+1,s=>by
  unfold E3;refine KW.bind (KW.dU λa h=>h) λs0 h0=>KW.bind (hb s0) λx hx=> ?_;obtain⟨e,s1⟩:=x;cases e with
  |normal=>exact(DL hb k s1).mono λy ⟨s2,g1,g2⟩=>⟨s0,h0,ec.on (hx.mono λa b hx=>⟨s1,hx,g1⟩) g2⟩
  |exit id=>exact KW.bind (KW.dU λa h=>h) λs2 h2=>KW.ret ⟨s0,h0,ec.out (hx.mono λa b hx=>⟨s1,hx,h2⟩) (by simp)⟩
  |ret=>exact KW.bind (KW.dU λa h=>h) λs2 h2=>KW.ret ⟨s0,h0,ec.out (hx.mono λa b hx=>⟨s1,hx,h2⟩) (by simp)⟩
def aN:Code->List Code
 | .seq a b=>aN a++aN b
 | .cond _ a b=>aN a++aN b
 | .block _ c | .scope c=>aN c
 | .loop c=>c::aN c
 |_=>[]
variable{kp:Nat->Option (List Nat×List Nat)}{hk:List (Nat×(S->K (PX×S)))}{dc:Nat->Nat}{lf:Nat}
def L7 Q (cf:Nat->Nat->CF) kp c (h:S->K (PX×S)):=
 ∀s,KW (h s) (λx=>Ev λa b=>jc (bU Q (cf a b) kp a c) (kp (Code.s5 c)) a s=some x)
theorem fY: ∀c,cj dc c=true->(∀d∈aN c,∀h,lk hk (Code.s5 d)=some h->L7 Q cf kp d h)-> ∀s,KW (fw Q kf kp hk dc lf c s) (λx=>Ev λa b=>bU Q (cf a b) kp a c s=some x)
 | .skip,_,_,s=>KW.ret (Ev.const rfl)
 | .label _,_,_,s=>KW.ret (Ev.const rfl)
 | .region id ops draw,hl,_,s=>by
  unfold fw;refine KW.bind (p:=λs1=>Ev λa b=>(if draw then jC Q (cf a b) ops.toList s else dF Q (cf a b) ops.toList ops.toList s)=some s1) ?_ λs1 h1=>KW.ret (h1.mono λa b h1=> ?_)
  ·grind [Ap,Nat.eq_of_beq_eq_true,cj,pe,kr.nil]
  simp only[bU,h1]
 | .seq x y,hl,hh,s=>by
  unfold fw;refine KW.bind (fY x (zac _ _▸hl:_/\_).1 (λd hd=>hh d (by simp[aN,hd])) s) λz hz=> ?_;obtain⟨e,s1⟩:=z;cases e with
  |normal=>exact(fY y (zac _ _▸hl:_/\_).2 (λd hd=>hh d (by simp[aN,hd])) s1).mono λu hu=>hz.UG hu λa b hz hu=>by grind [bU]
  |exit id=>exact KW.ret (hz.mono λa b hz=>by simp only[bU,hz])
  |ret=>exact KW.ret (hz.mono λa b hz=>by simp only[bU,hz])
 | .cond c x y,hl,hh,s=>by
  unfold fw;split
  next b hb=>
   refine KW.bind (KW.dec (p:=λr=>b=r) rfl) λr hr=> ?_;subst hr;cases b with
   |true=>exact(fY x (zac _ _▸hl:_/\_).1 (λd hd=>hh d (by simp[aN,hd])) s).mono λz hz=>hz.mono λa b hz=>by grind [bU]
   |false=>exact(fY y (zac _ _▸hl:_/\_).2 (λd hd=>hh d (by simp[aN,hd])) s).mono λz hz=>hz.mono λa b hz=>by grind [bU]
  exact KW.fail
 | .block id c,hl,hh,s=>by
  unfold fw;refine KW.bind (fY c hl (λd hd=>hh d (by simpa [aN] using hd)) s) λx hx=> ?_;obtain⟨e,s1⟩:=x;cases e with
  |normal=>exact KW.ret (hx.mono λa b hx=>by simp only[bU,hx])
  |exit qA=>
   simp only[];split
   next h=>exact KW.ret (hx.mono λa b hx=>by grind [bU])
   grind [KW.ret,bU]
  |ret=>grind [KW.ret,bU]
 | .loop c,hl,hh,s=>by
  unfold fw;split
  next h hh1=>exact(hh c (by simp[aN]) h hh1 s).mono λx hx=>hx.mono λa b hx=>by grind [bU]
  exact(DL (body:=λa b=>bU Q (cf a b) kp a c) (λs=>fY c hl (λd hd=>hh d (by simp[aN,hd])) s) lf s).mono λx ⟨s0,g1,g2⟩=>(g2.ev g1).mono λa b hx=>by grind [bU]
 | .scope c,hl,hh,s=>by unfold fw;exact(fY c hl (λd hd=>hh d (by simpa [aN] using hd)) s).mono λx hx=>hx.mono λa b hx=>by grind [bU]
 | .exit id,_,_,s=>KW.ret (Ev.const rfl)
 | .ret,_,_,s=>KW.ret (Ev.const rfl)
 | .rangeFunc _ _ _ _,_,_,s=>KW.fail
 | .goto _,_,_,s=>KW.fail
 | .refuse _,_,_,s=>KW.fail
end
section
variable{Q:Program}{kp:rq}{dc:FuncId->Nat->Nat}{lf:Nat}
theorem IB{kf hk}(L8: ∀f fn c,Q.funcs[f]?=some fn->fn.body=some c->cj (dc f) c=true)(hJ:yd kf (fj Q kp)) f
  (hh: ∀fn c,Q.funcs[f]?=some fn->fn.body=some c-> ∀d∈aN c,∀h,lk hk (Code.s5 d)=some h->L7 Q (fj Q kp) (kp f) d h)
  ps R:KW (n0 Q kf kp hk dc lf f ps R) (λx=>Ev λa b=>fj Q kp a b f ps R=some x):=by
 unfold n0;split
 ·exact KW.fail
 rename_i fn gC;split
 ·exact KW.fail
 rename_i hxs;split
 ·exact KW.fail
 rename_i c hc;split
 ·exact KW.fail
 rename_i lT;refine KW.bind (fY hJ c (L8 f fn c gC hc) (hh fn c gC hc) _) λx hx=> ?_;split
 ·exact KW.fail
 rename_i cO;split
 next qs hq=>
  unfold E4;refine KW.dU λy hy=> ?_;obtain⟨N,hx⟩:=hx;refine⟨N+1,λa b ha hb=> ?_⟩;obtain⟨b,rfl⟩: ∃b',b=b'+1:=⟨b-1,by omega⟩
  grind [fj]
 exact KW.fail
def NZ Q kp (H:List (FuncId×a8)):=
 ∀f h,lk H f=some h-> ∀ps R,KW (h ps R) (λx=>Ev λa b=>fj Q kp a b f ps R=some x)
theorem NZ.nil:NZ Q kp []:=λf h hh=>by simp[lk] at hh
theorem yL{H}(L8: ∀f fn c,Q.funcs[f]?=some fn->fn.body=some c->cj (dc f) c=true)(hH:NZ Q kp H): ∀k,yd (runK Q kp dc H lf k) (fj Q kp)
 |0=>λf ps R=>by
  unfold runK;split
  next h hh=>exact hH f h hh ps R
  exact KW.fail
 |k+1=>λf ps R=>by
  unfold runK;split
  next h hh=>exact hH f h hh ps R
  exact IB L8 (yL L8 hH k) f (λfn c _ _ d _ h hh=>by simp[lk] at hh) ps R
theorem DM: ∀l i0,nz dc i0 l=true-> ∀i fn c,l[i]?=some fn->fn.body=some c->cj (dc (i0+i)) c=true
 | [],_,_,i,fn,c,h,_=>by simp at h
 |f::r,i0,h,i,fn,c,hf,hc=>by
  simp only[nz,zac] at h;cases i with
  |zero=>grind
  |succ i=>have:=DM r (i0+1) h.2 i fn c (by grind) hc;rwa [show i0+1+i=i0+(i+1) by omega] at this
theorem lh(h:nz dc 0 Q.funcs.toList=true) f fn c (hf:Q.funcs[f]?=some fn)(hc:fn.body=some c):cj (dc f) c=true:=by have:=DM Q.funcs.toList 0 h f fn c (by grind) hc;rwa [zaD] at this
def jP(id:Nat):List Code->Option Code
 | []=>none
 |c::r=>if Nat.beq (Code.s5 c) id then some c else jP id r
def bA(Q:Program)(f:FuncId)(id:Nat):Code:=
 match Q.funcs[f]? with
 |some fn=>(match fn.body with |some c=>(jP id (aN c)).getD .skip |none=> .skip)
 |none=> .skip
def uniq(Q:Program)(f:FuncId):Bool:=
 match Q.funcs[f]? with
 |some fn=>(match fn.body with |some c=>ez ((aN c).map Code.s5)|none=>true)
 |none=>true
theorem jQ{d}: ∀l,(l.map Code.s5).Nodup->d∈l->jP (Code.s5 d) l=some d
 | [],_,h=>by simp at h
 |c::r,hn,h=>by
  simp only[za4,za9] at hn;simp only[jP];rcases zat.1 h with rfl |h
  ·simp
  split
  ·grind [Nat.eq_of_beq_eq_true]
  exact jQ r hn.2 h
theorem dj: ∀(b:Code) {c d:Code},c∈aN b->d∈aN c->d∈aN b
 | .seq x y,c,d,hc,hd=>by simp only[aN,zaz] at hc⊢;exact hc.imp (dj x · hd) (dj y · hd)
 | .cond _ x y,c,d,hc,hd=>by simp only[aN,zaz] at hc⊢;exact hc.imp (dj x · hd) (dj y · hd)
 | .block _ x,c,d,hc,hd=>dj x (by grind [aN]) hd
 | .scope x,c,d,hc,hd=>dj x (by grind [aN]) hd
 | .loop x,c,d,hc,hd=>by
  simp only[aN,zat] at hc⊢;rcases hc with rfl |hc
  ·grind
  exact .inr (dj x hc hd)
 | .skip,c,d,hc,_ | .label _,c,d,hc,_ | .region ..,c,d,hc,_ | .exit _,c,d,hc,_ | .ret,c,d,hc,_ | .rangeFunc ..,c,d,hc,_ | .goto _,c,d,hc,_ | .refuse _,c,d,hc,_=>by simp[aN] at hc
theorem uM{id c}: ∀l,jP id l=some c->c∈l
 | [],h=>by simp[jP] at h
 |d::r,h=>by
  simp only[jP] at h;split at h
  ·grind
  exact zaI _ (uM r h)
theorem wi{f id d}(hu:uniq Q f=true)(hd:d∈aN (bA Q f id)):bA Q f (Code.s5 d)=d:=by
 unfold bA at hd⊢;unfold uniq at hu;split at hd
 next fn gC=>
  rw[gC] at hu;split at hd
  next c hc=>
   simp only[hc] at hu⊢;cases hf:jP id (aN c) with
   |none=>rw[hf] at hd;simp[aN] at hd
   |some e=>rw[hf] at hd;have:=dj c (uM _ hf) hd;rw[jQ _ (dO _ hu) this,zca]
  simp[aN] at hd
 simp[aN] at hd
def UI Q kp f (h:a8):= ∀ps R,KW (h ps R) (λx=>Ev λa b=>fj Q kp a b f ps R=some x)
theorem NZ.cons{H f h}(hf:UI Q kp f h)(hH:NZ Q kp H):NZ Q kp ((f,h)::H):=by
 intro f' h' hh ps R;simp only[lk] at hh;split at hh
 next he=>have he:=zag he;subst he;simp only[zam] at hh;subst hh;exact hf ps R
 exact hH f' h' hh ps R
theorem UI.rZ{f:FuncId}{fn h}(gC:Q.funcs[f]?=some fn)(hx:iw f kp.xs=true)(hb: ∀ps R ae,h ps R ae-> ∃x,kp.X f ps R=some x/\ae x):UI Q kp f h:=by
 intro ps R ae hp;obtain⟨x,h1,h2⟩:=hb ps R ae hp;refine⟨x,⟨1,λa b _ hb=> ?_⟩,h2⟩;obtain⟨b,rfl⟩: ∃b',b=b'+1:=⟨b-1,by omega⟩
 grind [fj]
theorem UI.mk{H f h hk}{k}(L8:nz dc 0 Q.funcs.toList=true)(hH:NZ Q kp H)(hu:uniq Q f=true)
  (hl: ∀id g,lk hk id=some g-> ∀s,KW (g s) (λx=>Ev λa b=>jc (bU Q (fj Q kp a b) (kp f) a (bA Q f id)) (kp f id) a s=some x))
  (hb: ∀ps R ae,h ps R ae->n0 Q (runK Q kp dc H lf k) kp hk dc lf f ps R ae):UI Q kp f h:=by
 intro ps R ae hp;refine IB (lh L8) (yL (lh L8) hH k) f (λfn c gC hc d hd g hg s=> ?_) ps R ae (hb ps R ae hp);have e:bA Q f (Code.s5 d)=d:=by grind [uniq,bA,jQ,dO]
 have:=hl _ g hg s;rwa [e] at this
def roundPost(n:Nat)(I:Nat->S->Prop)(O:PX×S->Prop)(x:PX×S):Prop:=match x.1 with | .normal=> ∃m,m<n/\I m x.2 |_=>O x
theorem qaC{H c hk kp1}{dc1 k keep}(L8:nz dc 0 Q.funcs.toList=true)(hH:NZ Q kp H)(hc:cj dc1 c=true)
  (hl: ∀d∈aN c,∀h,lk hk (Code.s5 d)=some h->L7 Q (fj Q kp) kp1 d h)
  {I O}
  (hr: ∀n s,I n s->zw (fw Q (runK Q kp dc H lf k) kp1 hk dc1 lf c) keep s (roundPost n I O)):
  ∀n s,I n s-> ∃x,O x/\ec (λa b=>bU Q (fj Q kp a b) kp1 a c) keep s x:=by
 intro n
 induction n using Nat.strongRecOn with
 |_ n ih=>
  intro s hs;obtain⟨x,h1,h2⟩:=QP (body:=λa b=>bU Q (fj Q kp a b) kp1 a c) (fY (yL (lh L8) hH k) c hc hl s) _ (hr n s hs);obtain⟨e,s2⟩:=x;cases e with
  |normal=>obtain⟨m,hm,hi⟩:=h2;grind [ec.on]
  |exit id=>exact⟨_,h2,ec.out h1 (by simp)⟩
  |ret=>exact⟨_,h2,ec.out h1 (by simp)⟩
end
end Pi
