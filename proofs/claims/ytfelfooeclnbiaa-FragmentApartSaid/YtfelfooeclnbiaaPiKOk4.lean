/- The text PiKOk4. -/
import Derived.Test.YtfelfooeclnbiaaPiDrawOk2
namespace Pi
open Go
section
variable{Q:Program}{s:S}
theorem vd{t:TypeId}{p q:P}:KW (sd Q s t p q) (λs1=>cL Q s t p q=some s1):=by
 unfold sd;split
 next n v i k' off=>
  split
  ·exact KW.fail
  rename_i k hk;split
  next s1 x hf=>
   split
   ·rename_i ty es ho;split
    ·rename_i k2 wD;split
     next hc=>refine KW.bind (p:=λ_=>i<es.length) (KW.df λhb=>by grind) λ_ hi=> ?_;refine KW.bind (kh Q ty _) λy hy=>KW.ret ?_;grind [cL,mB]
     exact KW.fail
    exact KW.fail
   exact KW.fail
  exact KW.fail
 grind [KW.cg]
theorem s5{dst:Option Nat}{t t2:TypeId}{p q:P}:KW (pk Q s dst t t2 p q) (λs1=>dy Q s dst t t2 p q=some s1):=by
 unfold pk;split
 ·exact KW.fail
 rename_i e he;split
 next i k hi hk=>
  split
  next ys z hy hz=>
   split
   ·rename_i hb;split
    ·rename_i n v len;split
     ·rename_i en ec;split
      ·rename_i ty es ho;split
       next hc=>refine KW.bind (p:=λ_=>(Nat.ble len es.length&&eD (len+ys.length) i.bytes)=true) (KW.df λhb=>hb) λ_ hl=> ?_;grind [KW.cg,eD,dy]
       exact KW.fail
      exact KW.fail
     exact KW.fail
    ·refine KW.bind (p:=λ_=>eD ys.length i.bytes=true) (KW.df λhb=>hb) λ_ hl=> ?_;grind [KW.cg,dy,KW.fail]
    exact KW.fail
   exact KW.fail
  exact KW.fail
 exact KW.fail
theorem xw{dst:Option Nat}{t:TypeId}{p q:P}:KW (wq Q s dst t p q) (λs1=>jV Q s dst t p q=some s1):=by
 unfold wq;split
 next e k1 l k2 c h1=>
  split
  next i k z h2 h3 h4=>
   split
   ·rename_i hz;refine KW.bind (p:=λ_=>decide (0<=l/\l<=c/\c<=9223372036854775807/\(i.bytes:Int)*c<=281474976710656)=true) (KW.df λhb=>hb) λ_ hb=> ?_;split
    ·simp_all [KW.cg,jV]
    exact KW.fail
   exact KW.fail
  exact KW.fail
 exact KW.fail
theorem ve{dst:Option Nat}{t:TypeId}{p:P}:KW (se Q s dst t p) (λs1=>fX Q s dst t p=some s1):=by
 unfold se;split
 next e n v k off len h1=>
  split
  next k2 z ty es h2 h3 h4=>
   split
   next hc=>refine KW.bind (p:=λ_=>off+len<=es.length) (KW.df λhb=>by grind) λ_ hb=>KW.cg λs1 h=> ?_;simp_all [fX,zbr]
   exact KW.fail
  exact KW.fail
 exact KW.fail
theorem xx{dst:Option Nat}{t t2:TypeId}{p q:P}:KW (wu Q s dst t t2 p q) (λs1=>jW Q s dst t t2 p q=some s1):=by
 unfold wu;split
 next e n v len h1=>
  split
  next k h2=>
   split
   ·rename_i ys ty es h3 h4;split
    next ht=>refine KW.bind (p:=λ_=>decide (len<=es.length/\ys.length<=len)=true) (KW.df λhb=>hb) λ_ hb=>KW.cg λs2 hs=> ?_;simp_all [jW]
    exact KW.fail
   exact KW.fail
  exact KW.fail
 exact KW.fail
theorem oP: ∀(ys:List D),cX ys=true->dP ys=some (bytesOf ys)
 | [],_=>rfl
 |x::r,h=>by
  unfold cX at h;split at h
  ·grind
  next n r' heq=>obtain⟨rfl,rfl⟩:=heq;simp only[dP,oP _ h];rfl
  cases h
theorem vf{o:Oper}{g:Option (Nat×Bool)}:KW (sf Q s o g) (λs1=>dI Q s o g=some s1):=by
 unfold sf;split
 ·simp[KW.cg]
 rename_i yj;split
 next he=>
  have hex:pv Q s o g=none-> ∀s1,ef Q s o g=some s1->dI Q s o g=some s1:=λhp s1 h=>by grind [dI]
  unfold CN at he;unfold Gz;split
  ·grind [pv,KW.bind,vd,KW.cg,ef]
  next t1 t2 x ho=>
   split
   ·rename_i e h1 h2;split
    ·rename_i ys hu hs;split
     ·rename_i fH;have hp:pv Q s o g=none:=by
       have:(s.eg g x).aW=none:=by
        cases hx:s.eg g x with
        |sl n v len=>rfl
        |e9 n v k off len=>rfl
        |d y=>rw[hx] at fH;cases y<;>first |rfl | (simp[P.wo] at fH)
        |_=>rw[hx] at fH;simp[P.wo] at fH
       grind [pv]
      refine KW.bind (p:=λ_=>cX ys=true) (KW.df λhb=>hb) λ_ hb=>KW.cg λs2 h3=>hex hp _ ?_;grind [ef,oP]
     exact KW.fail
    exact KW.fail
   grind
  next c ho=>
   split
   ·rename_i hc;have hp:pv Q s o g=none:=by grind [pv]
    split
    next x y t t2 h1 h2=>refine s5.mono λs1 h=>hex hp _ ?_;unfold ef;simp only[ho,hc,h1,h2];exact h
    exact KW.fail
   ·rename_i hc;have hp:pv Q s o g=none:=by unfold pv;simp only[ho,hc]
    split
    next x y t t2 h1 h2=>refine xx.mono λs1 h=>hex hp _ ?_;unfold ef;simp only[ho,hc,h1,h2];exact h
    exact KW.fail
   ·rename_i hc;have hp:pv Q s o g=none:=by unfold pv;simp only[ho,hc]
    split
    next x t h1 h2=>refine ve.mono λs1 h=>hex hp _ ?_;unfold ef;simp only[ho,hc,h1,h2];exact h
    exact KW.fail
   ·rename_i hc;have hp:pv Q s o g=none:=by unfold pv;simp only[ho,hc]
    split
    next x y t ts h1 h2=>refine wM.mono λs1 h=>hex hp _ ?_;unfold ef;simp only[ho,hc,h1,h2];exact h
    exact KW.fail
   grind
  next t x y ho=>
   have hp:pv Q s o g=none:=by unfold pv;rw[ho]
   refine xw.mono λs1 h=>hex hp _ ?_;grind [ef]
  next t m k x ho=>
   have hp:pv Q s o g=none:=by unfold pv;rw[ho]
   split
   next Ib=>refine sx.mono λs1 h=>hex hp _ ?_;unfold ef;simp only[ho,Ib,zaT];exact h
   exact KW.cg λs1 h=>hex hp _ h
  grind [pv,KW.cg]
 grind [KW.bind,A5,KW.cg,dI]
theorem xy{o:Oper}{g:Option (Nat×Bool)}:KW (wv Q s o g) (λs1=>exec Q s o g=some s1):=by
 unfold wv;cases hm:jy o with
 |some r=>grind [KW.cg,exec]
 |none=>refine vf.mono λs1 h=> ?_;grind [exec]
end
def Ev(p:Nat->Nat->Prop):Prop:= ∃N,∀a b,N<=a->N<=b->p a b
theorem Ev.const{p:Prop}(h:p):Ev λ_ _=>p:=⟨0,λ_ _ _ _=>h⟩
theorem Ev.mono{p q:Nat->Nat->Prop}(h:Ev p)(CS: ∀a b,p a b->q a b):Ev q:=by obtain⟨N,h⟩:=h;exact⟨N,λa b ha hb=>CS a b (h a b ha hb)⟩
theorem Ev.and{p q:Nat->Nat->Prop}(h:Ev p)(k:Ev q):Ev λa b=>p a b/\q a b:=by obtain⟨N,h⟩:=h;obtain⟨M,k⟩:=k;exact⟨max N M,λa b ha hb=>⟨h a b (by omega) (by omega),k a b (by omega) (by omega)⟩⟩
theorem Ev.xA{p q r:Nat->Nat->Prop}(h:Ev p)(k:Ev q)(CS: ∀a b,p a b->q a b->r a b):Ev r:=(h.and k).mono λa b x=>CS a b x.1 x.2
theorem Ev.some{p:Nat->Nat->Prop}(h:Ev p): ∃a b,p a b:=by obtain⟨N,h⟩:=h;exact⟨N,N,h N N (zaf _) (zaf _)⟩
def Bq(kf:KF)(cf:Nat->Nat->CF):Prop:= ∀f ps R,KW (kf f ps R) (λx=>Ev λa b=>cf a b f ps R=some x)
section
variable{Q:Program}{kf:KF}{cf:Nat->Nat->CF}(nk:Bq kf cf)
include nk
theorem xC{s:S}{dst:Option Nat}{f:P}{args:List P}:KW (wx Q kf s dst f args) (λs1=>Ev λa b=>fo Q (cf a b) s dst f args=some s1):=by
 unfold wx;split
 next gZ cl=>
  split
  ·exact KW.fail
  rename_i s1 ps hf;simp only[];split
  next hn=>
   split
   ·exact KW.fail
   rename_i R0 I0;refine KW.bind (nk _ _ _) λx hx=> ?_;split
   ·rename_i hm;split
    ·exact KW.fail
    rename_i R2 h2;split
    ·exact KW.fail
    rename_i R3 h3;refine KW.cg λs2 h=>hx.mono λa b hx=> ?_;grind [fo]
   exact KW.fail
  exact KW.fail
 exact KW.fail
theorem pY{s:S}{o:Oper}{g:Option (Nat×Bool)}:KW (wy Q kf s o g) (λs1=>Ev λa b=>cC Q (cf a b) s o g=some s1):=by
 unfold wy;split
 ·grind [xC,cC]
 rename_i hc;exact xy.mono λs1 h=>Ev.const h |>.mono λa b h=>by grind [cC]
omit nk in
theorem np(t:Nat)(v:P): ∀(m:List (Nat×P)),lk m t=some v->rep t v m=m
 | [],h=>rfl
 | (k,u)::r,h=>by
  simp only[lk] at h;simp only[rep];split
  next hk=>rw[zat hk] at h;simp only[zae] at h;rw[h]
  rename_i hk;rw[zav hk] at h;rw[np t v r h]
omit nk in
def je(kn:List (Nat×Bool))(s:S):Prop:= ∀t r,lk kn t=some r->lk s.tm t=some (.d (.bool r))
omit nk in
theorem kT(d:Nat): ∀(kn:List (Nat×Bool)) (t:Nat) (r:Bool),lk (kn.filter λx=> !Nat.beq x.1 d) t=some r->t≠d/\lk kn t=some r
 | [],t,r,h=>by simp[lk] at h
 | (k,u)::l,t,r,h=>by
  simp only[List.filter_cons] at h;split at h
  next hk=>
   simp only[lk] at h⊢;split
   next ht=>rw[zat ht] at h;have e:=zab ht;subst e;refine⟨λe=> ?_,h⟩;subst e;simp at hk
   rename_i ht;rw[zav ht] at h;exact kT d l t r h
  rename_i hk;obtain⟨h1,h2⟩:=kT d l t r h;refine⟨h1,?_⟩;simp only[lk];have hk:Nat.beq k d=true:=by simpa using hk
  have e:=zab hk;subst e;have:Nat.beq k t=false:=by
   cases hb:Nat.beq k t with
   |false=>rfl
   |true=>exact absurd (zab hb).symm h1
  rw[this];exact h2
omit nk in
theorem je.step{cf:CF}{ops:List Oper}{kn:List (Nat×Bool)}{s s1:S}{o:Oper}(h:je kn s)(hs:aC Q cf ops s o=some s1):je (pn o.dst kn) s1:=by
 obtain⟨c,h2,_⟩:=jH (Q:=Q) (cf:=cf) (ops:=ops) (s:=s) (s2:=s) (o:=o) (λ_ _=>rfl) rfl rfl;rw[hs] at h2;cases c with
 |none=>cases h2
 |some x=>
  obtain⟨_,_,_,g4⟩:=c8 (h2.symm:(⟨s.n,s.tm,x.1⟩:S).put o.dst x.2=some s1);intro t r ht;have key:o.dst≠some t/\lk kn t=some r:=by
   unfold pn at ht;split at ht
   next hd=>rw[hd];exact⟨by simp,ht⟩
   rename_i d hd;obtain⟨k1,k2⟩:=kT _ _ _ _ ht;rw[hd];exact⟨λe=>k1 (by simpa using e.symm),k2⟩
  have hv:=h t r key.2;rw[g4 t key.1];exact hv
omit nk in
theorem pZ{ops:List Oper}{o:Oper}(s:S):KW (wz ops o s) (λs1=>s=s1):=by
 unfold wz;split
 ·split
  next d hd=>
   split
   next k z hz=>intro ae hp;have:=hp z rfl;rw[np d _ _ hz] at this;exact⟨s,rfl,this⟩
   exact KW.ret rfl
  exact KW.ret rfl
 exact KW.ret rfl
theorem ru{ops:List Oper}{kn:List (Nat×Bool)}{s:S}{o:Oper}(yr:je kn s):KW (tB Q kf ops kn s o) (λx=>(Ev λa b=>aC Q (cf a b) ops s o=some x.1)/\je x.2 x.1):=by
 have go: ∀{kn:List (Nat×Bool)},je kn s-> ∀s1,(Ev λa b=>aC Q (cf a b) ops s o=some s1)->((Ev λa b=>aC Q (cf a b) ops s o=some s1)/\je (pn o.dst kn) s1):=λyr s1 h=>⟨h,by obtain⟨a,b,h⟩:=h.some;exact yr.step h⟩
 unfold tB;split
 ·exact KW.fail
 next hg=>exact KW.bind (pY nk) λs1 h=>KW.bind (pZ s1) λs2 h2=>by grind [KW.ret,aC]
 rename_i t want hg;split
 next r hr=>
  have hb:=yr t r hr;split
  next hw=>exact KW.bind (pY nk) λs1 h=>KW.bind (pZ s1) λs2 h2=>by grind [KW.ret,aC]
  rename_i hw;exact KW.bind (KW.cg (p:=λs1=>s.put o.dst .skip=some s1) λa h=>h) λs1 h=>KW.ret (go yr s1 ⟨0,λa b _ _=>by grind [aC]⟩)
 split
 next b hb=>
  refine KW.bind (KW.dec (p:=λr=>b=r) rfl) λr hr=> ?_;subst hr;have e:(⟨s.n,rep t (.d (.bool b)) s.tm,s.rg⟩:S)=s:=by rw[np t _ _ hb]
  rw[e];have FH:je ((t,b)::kn) s:=by
   intro t' r' h';simp only[lk] at h';split at h'
   ·simp_all
   exact yr t' r' h'
  split
  next hw=>exact KW.bind (pY nk) λs1 h=>KW.bind (pZ s1) λs2 h2=>by grind [KW.ret,aC]
  rename_i hw;exact KW.bind (KW.cg (p:=λs1=>s.put o.dst .skip=some s1) λa h=>h) λs1 h=>KW.ret (go FH s1 ⟨0,λa b _ _=>by grind [aC]⟩)
 next t' b' q hb=>exact KW.bind (KW.cg (p:=λs1=>s.put o.dst .skip=some s1) λa h=>h) λs1 h=>KW.ret (go yr s1 ⟨0,λa b _ _=>by grind [aC]⟩)
 exact KW.fail
omit nk in
theorem je.nil(s:S):je [] s:=λt r h=>by simp[lk] at h
theorem jM{ops:List Oper}: ∀(l:List Oper) (kn:List (Nat×Bool)) (s:S),je kn s->KW (ga Q kf ops l kn s) (λs1=>Ev λa b=>bA Q (cf a b) ops l s=some s1)
 | [],_,s,_=>KW.ret (Ev.const rfl)
 |o::r,kn,s,yr=>by unfold ga;refine KW.bind (ru nk yr) λx hx=> ?_;rw[S.force_eq];refine(jM r x.2 x.1 hx.2).mono λs2 h2=>hx.1.xA h2 λa b hx h2=> ?_;grind [bA]
theorem jN{ops:List Oper}: ∀(l:List Oper) (kn:List (Nat×Bool)) (s:S),je kn s->KW (gb Q kf ops l kn s) (λx=>Ev λa b=>hI Q (cf a b) ops l s=some x)
 | [],_,s,_=>KW.ret (Ev.const rfl)
 |o::r,kn,s,yr=>by unfold gb;refine KW.bind (ru nk yr) λx hx=> ?_;rw[S.force_eq];refine KW.bind (jN r x.2 x.1 hx.2) λy hy=>KW.ret (hx.1.xA hy λa b hx hy=> ?_);grind [hI]
theorem nq{ops:List Oper}{s:S}(hc:bs ops=1):KW (λae=>K.bind (gb Q kf ops ops [] s) (λx=>λae=>hD 0 (masks ops []) x.2 (ae x.1)) ae) (λs1=>Ev λa b=>dJ Q (cf a b) ops s=some s1):=by
 refine KW.bind (jN nk ops [] _ (je.nil _)) λx hx ae hp=>⟨x.1,hx.mono λa b hx=> ?_,nh _ _ _ hp⟩
 have h:hD 0 (masks ops []) x.2 True:=iA _ _ _ _ (λ_=>trivial) hp;grind [dJ]
theorem nr{ops:List Oper}{s:S}(hc:bs ops=2):KW (ga Q kf ops ops [] s) (λs1=>Ev λa b=>dJ Q (cf a b) ops s=some s1):=
 (jM nk ops [] _ (je.nil _)).mono λs1 h=>h.mono λa b h=>by grind [dJ]
theorem xD{ops:List Oper}{cls:Nat}(pG:eL ops=cls){s:S}:KW (wA Q kf ops cls s) (λs1=>Ev λa b=>dE Q (cf a b) ops s=some s1):=by
 have plain: ∀k,eL ops=k->1<=k->k<=3->bs ops=k:=by grind [eL]
 have marked: ∀k,k<=1->eL ops=k+4->bs ops=0/\bs (bf ops)=k+1:=by grind [eL,bs]
 subst pG;unfold wA;split
 ·exact KW.fail
 ·grind [nq,dE]
 next hc=>have h1:=marked 0 (by omega) hc;grind [nq,dE]
 ·grind [nr,dE]
 next hc=>have h1:=marked 1 (by omega) hc;grind [nr,dE]
 next hc=>
  have late:bs ops=0/\bs (bf ops)=0/\ ∀m t d,pd ops=some (m,t,d)->pe ops m=true:=by grind [eL,bs,bf]
  split
  next m t d hl=>
   split
   ·rename_i lu Ic;refine KW.bind (jN nk ops [] _ (je.nil _)) λx hx ae hp=>⟨x.1,hx.mono λa b hx=> ?_,nh _ _ _ hp⟩
    have h:hD m (masks ops []) x.2 True:=iA _ _ _ _ (λ_=>trivial) hp;unfold dE;simp only[late.1,late.2.1];unfold jY;simp only[hl,hx];rw[zat ⟨late.2.2 m t d hl,lu,Ic⟩,zat h]
   exact KW.fail
  exact KW.fail
 exact KW.fail
def bb(body:Nat->Nat->S->Option (PX×S))(keep:Option (List Nat×List Nat))(s0:S)(x:PX×S):Prop:=
 ∃N,∀a b k,N<=a->N<=b->N<=k-> ∀s,fq keep s=some s0->dk (body a b) keep k s=some x
def p3(body:S->Option (PX×S))(keep:Option (List Nat×List Nat))(s:S)(x:PX×S):Prop:=
 match x.1 with
 | .normal=> ∃s1,body s=some (.normal,s1)/\fq keep s1=some x.2
 |e=> ∃s1,body s=some (e,s1)/\hJ keep s1=some x.2
omit nk in
theorem oQ{fE:S->K (PX×S)}{body:Nat->Nat->S->Option (PX×S)}{s:S}(hb:KW (fE s) (λx=>Ev λa b=>body a b s=some x)){keep:Option (List Nat×List Nat)}:KW (mq fE keep s) (λx=>Ev λa b=>p3 (body a b) keep s x):=by
 unfold mq;refine KW.bind hb λx hx=> ?_;obtain⟨e,s1⟩:=x;cases e with
 |normal=>exact KW.bind (KW.cg λa h=>h) λs2 h2=>KW.ret (hx.mono λa b hx=>⟨s1,hx,h2⟩)
 |exit id=>exact KW.bind (KW.cg λa h=>h) λs2 h2=>KW.ret (hx.mono λa b hx=>⟨s1,hx,h2⟩)
 |ret=>exact KW.bind (KW.cg λa h=>h) λs2 h2=>KW.ret (hx.mono λa b hx=>⟨s1,hx,h2⟩)
omit nk in
theorem bb.out{body:Nat->Nat->S->Option (PX×S)}{keep:Option (List Nat×List Nat)}{s0:S}{x:PX×S}(hr:Ev λa b=>p3 (body a b) keep s0 x)(he:x.1≠ .normal):bb body keep s0 x:=by
 obtain⟨N,hr⟩:=hr;refine⟨N+1,λa b k ha hb hk s hs=> ?_⟩;obtain⟨e,s2⟩:=x;have h:=hr a b (by omega) (by omega);obtain⟨k,rfl⟩: ∃k',k=k'+1:=⟨k-1,by omega⟩
 cases e with
 |normal=>exact absurd rfl he
 |exit id=>obtain⟨s1,h1,h2⟩:=h;simp only[] at h1 h2;simp only[dk,hs,h1,h2]
 |ret=>obtain⟨s1,h1,h2⟩:=h;simp only[] at h1 h2;simp only[dk,hs,h1,h2]
omit nk in
theorem bb.on{body:Nat->Nat->S->Option (PX×S)}{keep:Option (List Nat×List Nat)}{s0 s2:S}{x:PX×S}(hr:Ev λa b=>p3 (body a b) keep s0 (.normal,s2))(h2:bb body keep s2 x):bb body keep s0 x:=by
 obtain⟨N,hr⟩:=hr;obtain⟨M,h2⟩:=h2;refine⟨max N M+1,λa b k ha hb hk s hs=> ?_⟩;obtain⟨s1,h1,h3⟩:=hr a b (by omega) (by omega);obtain⟨k,rfl⟩: ∃k',k=k'+1:=⟨k-1,by omega⟩
 simp only[] at h1 h3;simp only[dk,hs,h1];exact h2 a b k (by omega) (by omega) (by omega) s1 h3
omit nk in
theorem bb.ev{body:Nat->Nat->S->Option (PX×S)}{keep:Option (List Nat×List Nat)}{s s0:S}{x:PX×S}(hs:fq keep s=some s0)(h:bb body keep s0 x):Ev λa b=>dk (body a b) keep a s=some x:=by obtain⟨N,h⟩:=h;exact⟨N,λa b ha hb=>h a b a ha hb ha s hs⟩
omit nk in
theorem oR{fE:S->K (PX×S)}{body:Nat->Nat->S->Option (PX×S)}(hb: ∀s,KW (fE s) (λx=>Ev λa b=>body a b s=some x)){keep:Option (List Nat×List Nat)}: ∀(k:Nat) (s:S),KW (po fE keep k s) (λx=> ∃s0,fq keep s=some s0/\bb body keep s0 x)
 |0,s=>KW.fail
 |k+1,s=>by
  unfold po;refine KW.bind (KW.cg λa h=>h) λs0 h0=>KW.bind (hb s0) λx hx=> ?_;obtain⟨e,s1⟩:=x;cases e with
  |normal=>exact(oR hb k s1).mono λy ⟨s2,g1,g2⟩=>⟨s0,h0,bb.on (hx.mono λa b hx=>⟨s1,hx,g1⟩) g2⟩
  |exit id=>exact KW.bind (KW.cg λa h=>h) λs2 h2=>KW.ret ⟨s0,h0,bb.out (hx.mono λa b hx=>⟨s1,hx,h2⟩) (by simp)⟩
  |ret=>exact KW.bind (KW.cg λa h=>h) λs2 h2=>KW.ret ⟨s0,h0,bb.out (hx.mono λa b hx=>⟨s1,hx,h2⟩) (by simp)⟩
def aD:Code->List Code
 | .seq a b=>aD a++aD b
 | .cond _ a b=>aD a++aD b
 | .block _ c | .scope c=>aD c
 | .loop c=>c::aD c
 |_=>[]
variable{kp:Nat->Option (List Nat×List Nat)}{hk:List (Nat×(S->K (PX×S)))}{dc:Nat->Nat}{lf:Nat}
def p4(Q:Program)(cf:Nat->Nat->CF)(kp:Nat->Option (List Nat×List Nat))(c:Code)(h:S->K (PX×S)):Prop:=
 ∀s,KW (h s) (λx=>Ev λa b=>dk (aP Q (cf a b) kp a c) (kp (Code.qC c)) a s=some x)
theorem b9: ∀(c:Code),dY dc c=true->(∀d∈aD c,∀h,lk hk (Code.qC d)=some h->p4 Q cf kp d h)-> ∀(s:S),KW (ca Q kf kp hk dc lf c s) (λx=>Ev λa b=>aP Q (cf a b) kp a c s=some x)
 | .skip,_,_,s=>KW.ret (Ev.const rfl)
 | .label _,_,_,s=>KW.ret (Ev.const rfl)
 | .region id ops draw,hl,_,s=>by
  unfold ca;refine KW.bind (p:=λs1=>Ev λa b=>(if draw then dE Q (cf a b) ops.toList s else bA Q (cf a b) ops.toList ops.toList s)=some s1) ?_ λs1 h1=>KW.ret (h1.mono λa b h1=> ?_)
  ·grind [xD,Nat.eq_of_beq_eq_true,dY,jM,je.nil]
  simp only[aP,h1]
 | .seq x y,hl,hh,s=>by
  unfold ca;refine KW.bind (b9 x (zac _ _▸hl:_/\_).1 (λd hd=>hh d (by simp[aD,hd])) s) λz hz=> ?_;obtain⟨e,s1⟩:=z;cases e with
  |normal=>exact(b9 y (zac _ _▸hl:_/\_).2 (λd hd=>hh d (by simp[aD,hd])) s1).mono λu hu=>hz.xA hu λa b hz hu=>by grind [aP]
  |exit id=>exact KW.ret (hz.mono λa b hz=>by simp only[aP,hz])
  |ret=>exact KW.ret (hz.mono λa b hz=>by simp only[aP,hz])
 | .cond c x y,hl,hh,s=>by
  unfold ca;split
  next b hb=>
   refine KW.bind (KW.dec (p:=λr=>b=r) rfl) λr hr=> ?_;subst hr;cases b with
   |true=>exact(b9 x (zac _ _▸hl:_/\_).1 (λd hd=>hh d (by simp[aD,hd])) s).mono λz hz=>hz.mono λa b hz=>by grind [aP]
   |false=>exact(b9 y (zac _ _▸hl:_/\_).2 (λd hd=>hh d (by simp[aD,hd])) s).mono λz hz=>hz.mono λa b hz=>by grind [aP]
  exact KW.fail
 | .block id c,hl,hh,s=>by
  unfold ca;refine KW.bind (b9 c hl (λd hd=>hh d (by simpa [aD] using hd)) s) λx hx=> ?_;obtain⟨e,s1⟩:=x;cases e with
  |normal=>exact KW.ret (hx.mono λa b hx=>by simp only[aP,hx])
  |exit tr=>
   simp only[];split
   next h=>exact KW.ret (hx.mono λa b hx=>by grind [aP])
   grind [KW.ret,aP]
  |ret=>grind [KW.ret,aP]
 | .loop c,hl,hh,s=>by
  unfold ca;split
  next h Ie=>exact(hh c (by simp[aD]) h Ie s).mono λx hx=>hx.mono λa b hx=>by grind [aP]
  exact(oR (body:=λa b=>aP Q (cf a b) kp a c) (λs=>b9 c hl (λd hd=>hh d (by simp[aD,hd])) s) lf s).mono λx ⟨s0,g1,g2⟩=>(g2.ev g1).mono λa b hx=>by grind [aP]
 | .scope c,hl,hh,s=>by unfold ca;exact(b9 c hl (λd hd=>hh d (by simpa [aD] using hd)) s).mono λx hx=>hx.mono λa b hx=>by grind [aP]
 | .exit id,_,_,s=>KW.ret (Ev.const rfl)
 | .ret,_,_,s=>KW.ret (Ev.const rfl)
 | .rangeFunc _ _ _ _,_,_,s=>KW.fail
 | .goto _,_,_,s=>KW.fail
 | .refuse _,_,_,s=>KW.fail
end
section
variable{Q:Program}{kp:rS}{dc:FuncId->Nat->Nat}{lf:Nat}
theorem rv{kf:KF}{hk:List (Nat×(S->K (PX×S)))}(xE: ∀f fn c,Q.funcs[f]?=some fn->fn.body=some c->dY (dc f) c=true)(nk:Bq kf (cW Q kp))(f:FuncId)
  (hh: ∀fn c,Q.funcs[f]?=some fn->fn.body=some c-> ∀d∈aD c,∀h,lk hk (Code.qC d)=some h->p4 Q (cW Q kp) (kp f) d h)
  (ps:List P) (R:List (Nat×En)):KW (fE Q kf kp hk dc lf f ps R) (λx=>Ev λa b=>cW Q kp a b f ps R=some x):=by
 unfold fE;split
 ·exact KW.fail
 rename_i fn jD;split
 ·exact KW.fail
 rename_i Ec;split
 ·exact KW.fail
 rename_i c hc;split
 ·exact KW.fail
 rename_i lE;refine KW.bind (b9 nk c (xE f fn c jD hc) (hh fn c jD hc) _) λx hx=> ?_;split
 ·exact KW.fail
 rename_i bY;split
 next qs hq=>
  unfold tC;refine KW.cg λy hy=> ?_;obtain⟨N,hx⟩:=hx;refine⟨N+1,λa b ha hb=> ?_⟩;obtain⟨b,rfl⟩: ∃b',b=b'+1:=⟨b-1,by omega⟩
  grind [cW]
 exact KW.fail
def s6(Q:Program)(kp:rS)(H:List (FuncId×eY)):Prop:=
 ∀f h,lk H f=some h-> ∀ps R,KW (h ps R) (λx=>Ev λa b=>cW Q kp a b f ps R=some x)
theorem s6.nil:s6 Q kp []:=λf h hh=>by simp[lk] at hh
theorem mc{H:List (FuncId×eY)}(xE: ∀f fn c,Q.funcs[f]?=some fn->fn.body=some c->dY (dc f) c=true)(hH:s6 Q kp H): ∀(k:Nat),Bq (runK Q kp dc H lf k) (cW Q kp)
 |0=>λf ps R=>by
  unfold runK;split
  next h hh=>exact hH f h hh ps R
  exact KW.fail
 |k+1=>λf ps R=>by
  unfold runK;split
  next h hh=>exact hH f h hh ps R
  exact rv xE (mc xE hH k) f (λfn c _ _ d _ h hh=>by simp[lk] at hh) ps R
theorem oS: ∀(l:List Func) (i0:Nat),hY dc i0 l=true-> ∀i fn c,l[i]?=some fn->fn.body=some c->dY (dc (i0+i)) c=true
 | [],_,_,i,fn,c,h,_=>by simp at h
 |f::r,i0,h,i,fn,c,hf,hc=>by
  simp only[hY,zac] at h;cases i with
  |zero=>grind
  |succ i=>have:=oS r (i0+1) h.2 i fn c (by grind) hc;rwa [show i0+1+i=i0+(i+1) by omega] at this
theorem iT(h:hY dc 0 Q.funcs.toList=true)(f:FuncId)(fn:Func)(c:Code)(hf:Q.funcs[f]?=some fn)(hc:fn.body=some c):dY (dc f) c=true:=by have:=oS Q.funcs.toList 0 h f fn c (by grind) hc;rwa [zbc] at this
def dL(id:Nat):List Code->Option Code
 | []=>none
 |c::r=>if Nat.beq (Code.qC c) id then some c else dL id r
def da(Q:Program)(f:FuncId)(id:Nat):Code:=
 match Q.funcs[f]? with
 |some fn=>(match fn.body with |some c=>(dL id (aD c)).getD .skip |none=> .skip)
 |none=> .skip
def uniq(Q:Program)(f:FuncId):Bool:=
 match Q.funcs[f]? with
 |some fn=>(match fn.body with |some c=>dp ((aD c).map Code.qC)|none=>true)
 |none=>true
theorem iB{d:Code}: ∀(l:List Code),(l.map Code.qC).Nodup->d∈l->dL (Code.qC d) l=some d
 | [],_,h=>by simp at h
 |c::r,hn,h=>by
  simp only[zaY,zbf] at hn;simp only[dL];rcases zaw.1 h with rfl |h
  ·simp
  split
  ·grind [Nat.eq_of_beq_eq_true]
  exact iB r hn.2 h
theorem bh: ∀(b:Code) {c d:Code},c∈aD b->d∈aD c->d∈aD b
 | .seq x y,c,d,hc,hd=>by simp only[aD,zaX] at hc⊢;exact hc.imp (bh x · hd) (bh y · hd)
 | .cond _ x y,c,d,hc,hd=>by simp only[aD,zaX] at hc⊢;exact hc.imp (bh x · hd) (bh y · hd)
 | .block _ x,c,d,hc,hd=>bh x (by grind [aD]) hd
 | .scope x,c,d,hc,hd=>bh x (by grind [aD]) hd
 | .loop x,c,d,hc,hd=>by
  simp only[aD,zaw] at hc⊢;rcases hc with rfl |hc
  ·grind
  exact .inr (bh x hc hd)
 | .skip,c,d,hc,_ | .label _,c,d,hc,_ | .region ..,c,d,hc,_ | .exit _,c,d,hc,_ | .ret,c,d,hc,_ | .rangeFunc ..,c,d,hc,_ | .goto _,c,d,hc,_ | .refuse _,c,d,hc,_=>by simp[aD] at hc
theorem kx{id:Nat}{c:Code}: ∀(l:List Code),dL id l=some c->c∈l
 | [],h=>by simp[dL] at h
 |d::r,h=>by
  simp only[dL] at h;split at h
  ·grind
  exact List.mem_cons_of_mem _ (kx r h)
theorem oT{f:FuncId}{id:Nat}{d:Code}(hu:uniq Q f=true)(hd:d∈aD (da Q f id)):da Q f (Code.qC d)=d:=by
 unfold da at hd⊢;unfold uniq at hu;split at hd
 next fn jD=>
  rw[jD] at hu;split at hd
  next c hc=>
   simp only[hc] at hu⊢;cases hf:dL id (aD c) with
   |none=>rw[hf] at hd;simp[aD] at hd
   |some e=>rw[hf] at hd;have:=bh c (kx _ hf) hd;rw[iB _ (cQ _ hu) this,zbS]
  simp[aD] at hd
 simp[aD] at hd
def yu(Q:Program)(kp:rS)(f:FuncId)(h:eY):Prop:= ∀ps R,KW (h ps R) (λx=>Ev λa b=>cW Q kp a b f ps R=some x)
theorem s6.cons{H:List (FuncId×eY)}{f:FuncId}{h:eY}(hf:yu Q kp f h)(hH:s6 Q kp H):s6 Q kp ((f,h)::H):=by
 intro f' h' hh ps R;simp only[lk] at hh;split at hh
 next he=>have he:=zab he;subst he;simp only[zae] at hh;subst hh;exact hf ps R
 exact hH f' h' hh ps R
theorem yu.FI{f:FuncId}{fn:Func}{h:eY}(jD:Q.funcs[f]?=some fn)(hx:dQ f kp.xs=true)(hb: ∀ps R ae,h ps R ae-> ∃x,kp.X f ps R=some x/\ae x):yu Q kp f h:=by
 intro ps R ae hp;obtain⟨x,h1,h2⟩:=hb ps R ae hp;refine⟨x,⟨1,λa b _ hb=> ?_⟩,h2⟩;obtain⟨b,rfl⟩: ∃b',b=b'+1:=⟨b-1,by omega⟩
 grind [cW]
theorem yu.mk{H:List (FuncId×eY)}{f:FuncId}{h:eY}{hk:List (Nat×(S->K (PX×S)))}{k:Nat}(xE:hY dc 0 Q.funcs.toList=true)(hH:s6 Q kp H)(hu:uniq Q f=true)
  (hl: ∀id g,lk hk id=some g-> ∀s,KW (g s) (λx=>Ev λa b=>dk (aP Q (cW Q kp a b) (kp f) a (da Q f id)) (kp f id) a s=some x))
  (hb: ∀ps R ae,h ps R ae->fE Q (runK Q kp dc H lf k) kp hk dc lf f ps R ae):yu Q kp f h:=by
 intro ps R ae hp;refine rv (iT xE) (mc (iT xE) hH k) f (λfn c jD hc d hd g hg s=> ?_) ps R ae (hb ps R ae hp);have e:da Q f (Code.qC d)=d:=by grind [uniq,da,iB,cQ]
 have:=hl _ g hg s;rwa [e] at this
def roundPost(n:Nat)(I:Nat->S->Prop)(O:PX×S->Prop)(x:PX×S):Prop:=match x.1 with | .normal=> ∃m,m<n/\I m x.2 |_=>O x
theorem zu{H:List (FuncId×eY)}{c:Code}{hk:List (Nat×(S->K (PX×S)))}{kp1:Nat->Option (List Nat×List Nat)}{Dg:Nat->Nat}{k:Nat}{keep:Option (List Nat×List Nat)}(xE:hY dc 0 Q.funcs.toList=true)(hH:s6 Q kp H)(hc:dY Dg c=true)
  (hl: ∀d∈aD c,∀h,lk hk (Code.qC d)=some h->p4 Q (cW Q kp) kp1 d h)
  {I:Nat->S->Prop} {O:PX×S->Prop}
  (hr: ∀n s,I n s->mq (ca Q (runK Q kp dc H lf k) kp1 hk Dg lf c) keep s (roundPost n I O)):
  ∀n s,I n s-> ∃x,O x/\bb (λa b=>aP Q (cW Q kp a b) kp1 a c) keep s x:=by
 intro n
 induction n using Nat.strongRecOn with
 |_ n ih=>
  intro s hs;obtain⟨x,h1,h2⟩:=oQ (body:=λa b=>aP Q (cW Q kp a b) kp1 a c) (b9 (mc (iT xE) hH k) c hc hl s) _ (hr n s hs);obtain⟨e,s2⟩:=x;cases e with
  |normal=>obtain⟨m,hm,hi⟩:=h2;grind [bb.on]
  |exit id=>exact⟨_,h2,bb.out h1 (by simp)⟩
  |ret=>exact⟨_,h2,bb.out h1 (by simp)⟩
end
end Pi
