/- The text PiKOk4. -/
import Derived.Test.YtfelfooeclnbiaaPiDrawOk2
namespace Pi
open Go
section
variable{Q:Program}{s:S}
theorem u7{t:TypeId}{p q:P}:KW (rZ Q s t p q) (λs1=>cP Q s t p q=some s1):=by
 unfold rZ;split
 next n v i k' off=>
  split
  ·exact KW.fail
  rename_i k hk;split
  next s1 x hf=>
   split
   ·rename_i ty es ho;split
    ·rename_i k2 rE;split
     next hc=>refine KW.bind (p:=λ_=>i<es.length) (KW.dj λhb=>by grind) λ_ hi=> ?_;refine KW.bind (jY Q ty _) λy hy=>KW.ret ?_;grind [cP,mn]
     exact KW.fail
    exact KW.fail
   exact KW.fail
  exact KW.fail
 grind [KW.cm]
theorem sP{dst:Option Nat}{t t2:TypeId}{p q:P}:KW (o9 Q s dst t t2 p q) (λs1=>dB Q s dst t t2 p q=some s1):=by
 unfold o9;split
 ·exact KW.fail
 rename_i e he;split
 next i k hi hk=>
  split
  next ys z hy hz=>
   split
   ·rename_i hb;split
    ·rename_i n v len;split
     ·rename_i en dZ;split
      ·rename_i ty es ho;split
       next hc=>refine KW.bind (p:=λ_=>(Nat.ble len es.length&&eE (len+ys.length) i.bytes)=true) (KW.dj λhb=>hb) λ_ hl=> ?_;grind [KW.cm,eE,dB]
       exact KW.fail
      exact KW.fail
     exact KW.fail
    ·refine KW.bind (p:=λ_=>eE ys.length i.bytes=true) (KW.dj λhb=>hb) λ_ hl=> ?_;grind [KW.cm,dB,KW.fail]
    exact KW.fail
   exact KW.fail
  exact KW.fail
 exact KW.fail
theorem xw{dst:Option Nat}{t:TypeId}{p q:P}:KW (wo Q s dst t p q) (λs1=>jM Q s dst t p q=some s1):=by
 unfold wo;split
 next e k1 l k2 c h1=>
  split
  next i k z h2 h3 h4=>
   split
   ·rename_i hz;refine KW.bind (p:=λ_=>decide (0<=l/\l<=c/\c<=9223372036854775807/\(i.bytes:Int)*c<=281474976710656)=true) (KW.dj λhb=>hb) λ_ hb=> ?_;split
    ·simp_all [KW.cm,jM]
    exact KW.fail
   exact KW.fail
  exact KW.fail
 exact KW.fail
theorem vb{dst:Option Nat}{t:TypeId}{p:P}:KW (r0 Q s dst t p) (λs1=>fV Q s dst t p=some s1):=by
 unfold r0;split
 next e n v k off len h1=>
  split
  next k2 z ty es h2 h3 h4=>
   split
   next hc=>refine KW.bind (p:=λ_=>off+len<=es.length) (KW.dj λhb=>by grind) λ_ hb=>KW.cm λs1 h=> ?_;simp_all [fV,zaj]
   exact KW.fail
  exact KW.fail
 exact KW.fail
theorem xx{dst:Option Nat}{t t2:TypeId}{p q:P}:KW (wq Q s dst t t2 p q) (λs1=>jN Q s dst t t2 p q=some s1):=by
 unfold wq;split
 next e n v len h1=>
  split
  next k h2=>
   split
   ·rename_i ys ty es h3 h4;split
    next ht=>refine KW.bind (p:=λ_=>decide (len<=es.length/\ys.length<=len)=true) (KW.dj λhb=>hb) λ_ hb=>KW.cm λs2 hs=> ?_;simp_all [jN]
    exact KW.fail
   exact KW.fail
  exact KW.fail
 exact KW.fail
theorem oL: ∀(ys:List D),da ys=true->dQ ys=some (bytesOf ys)
 | [],_=>rfl
 |x::r,h=>by
  unfold da at h;split at h
  ·grind
  next n r' heq=>obtain⟨rfl,rfl⟩:=heq;simp only[dQ,oL _ h];rfl
  cases h
theorem vd{o:Oper}{g:Option (Nat×Bool)}:KW (r1 Q s o g) (λs1=>dL Q s o g=some s1):=by
 unfold r1;split
 ·simp[KW.cm]
 rename_i yj;split
 next he=>
  have hex:pv Q s o g=none-> ∀s1,ef Q s o g=some s1->dL Q s o g=some s1:=λhp s1 h=>by grind [dL]
  unfold Ci at he;unfold FW;split
  ·grind [pv,KW.bind,u7,KW.cm,ef]
  next t1 t2 x ho=>
   split
   ·rename_i e h1 h2;split
    ·rename_i ys hu hs;split
     ·rename_i j8;have hp:pv Q s o g=none:=by
       have:(s.eg g x).aX=none:=by
        cases hx:s.eg g x with
        |sl n v len=>rfl
        |eZ n v k off len=>rfl
        |d y=>rw[hx] at j8;cases y<;>first |rfl | (simp[P.wm] at j8)
        |_=>rw[hx] at j8;simp[P.wm] at j8
       grind [pv]
      refine KW.bind (p:=λ_=>da ys=true) (KW.dj λhb=>hb) λ_ hb=>KW.cm λs2 h3=>hex hp _ ?_;grind [ef,oL]
     exact KW.fail
    exact KW.fail
   grind
  next c ho=>
   split
   ·rename_i hc;have hp:pv Q s o g=none:=by grind [pv]
    split
    next x y t t2 h1 h2=>refine sP.mono λs1 h=>hex hp _ ?_;unfold ef;simp only[ho,hc,h1,h2];exact h
    exact KW.fail
   ·rename_i hc;have hp:pv Q s o g=none:=by unfold pv;simp only[ho,hc]
    split
    next x y t t2 h1 h2=>refine xx.mono λs1 h=>hex hp _ ?_;unfold ef;simp only[ho,hc,h1,h2];exact h
    exact KW.fail
   ·rename_i hc;have hp:pv Q s o g=none:=by unfold pv;simp only[ho,hc]
    split
    next x t h1 h2=>refine vb.mono λs1 h=>hex hp _ ?_;unfold ef;simp only[ho,hc,h1,h2];exact h
    exact KW.fail
   ·rename_i hc;have hp:pv Q s o g=none:=by unfold pv;simp only[ho,hc]
    split
    next x y t ts h1 h2=>refine wL.mono λs1 h=>hex hp _ ?_;unfold ef;simp only[ho,hc,h1,h2];exact h
    exact KW.fail
   grind
  next t x y ho=>
   have hp:pv Q s o g=none:=by unfold pv;rw[ho]
   refine xw.mono λs1 h=>hex hp _ ?_;grind [ef]
  next t m k x ho=>
   have hp:pv Q s o g=none:=by unfold pv;rw[ho]
   split
   next Hw=>refine se.mono λs1 h=>hex hp _ ?_;unfold ef;simp only[ho,Hw,za2];exact h
   exact KW.cm λs1 h=>hex hp _ h
  grind [pv,KW.cm]
 grind [KW.bind,AN,KW.cm,dL]
theorem xy{o:Oper}{g:Option (Nat×Bool)}:KW (wu Q s o g) (λs1=>exec Q s o g=some s1):=by
 unfold wu;cases hm:jl o with
 |some r=>grind [KW.cm,exec]
 |none=>refine vd.mono λs1 h=> ?_;grind [exec]
end
def Ev(p:Nat->Nat->Prop):Prop:= ∃N,∀a b,N<=a->N<=b->p a b
theorem Ev.const{p:Prop}(h:p):Ev λ_ _=>p:=⟨0,λ_ _ _ _=>h⟩
theorem Ev.mono{p q:Nat->Nat->Prop}(h:Ev p)(Cn: ∀a b,p a b->q a b):Ev q:=by obtain⟨N,h⟩:=h;exact⟨N,λa b ha hb=>Cn a b (h a b ha hb)⟩
theorem Ev.and{p q:Nat->Nat->Prop}(h:Ev p)(k:Ev q):Ev λa b=>p a b/\q a b:=by obtain⟨N,h⟩:=h;obtain⟨M,k⟩:=k;exact⟨max N M,λa b ha hb=>⟨h a b (by omega) (by omega),k a b (by omega) (by omega)⟩⟩
theorem Ev.xA{p q r:Nat->Nat->Prop}(h:Ev p)(k:Ev q)(Cn: ∀a b,p a b->q a b->r a b):Ev r:=(h.and k).mono λa b x=>Cn a b x.1 x.2
theorem Ev.some{p:Nat->Nat->Prop}(h:Ev p): ∃a b,p a b:=by obtain⟨N,h⟩:=h;exact⟨N,N,h N N (zaf _) (zaf _)⟩
def A8(kf:KF)(cf:Nat->Nat->CF):Prop:= ∀f ps R,KW (kf f ps R) (λx=>Ev λa b=>cf a b f ps R=some x)
section
variable{Q:Program}{kf:KF}{cf:Nat->Nat->CF}(mZ:A8 kf cf)
include mZ
theorem xC{s:S}{dst:Option Nat}{f:P}{args:List P}:KW (wv Q kf s dst f args) (λs1=>Ev λa b=>fj Q (cf a b) s dst f args=some s1):=by
 unfold wv;split
 next gS cn=>
  split
  ·exact KW.fail
  rename_i s1 ps hf;simp only[];split
  next hn=>
   split
   ·exact KW.fail
   rename_i R0 Ie;refine KW.bind (mZ _ _ _) λx hx=> ?_;split
   ·rename_i hm;split
    ·exact KW.fail
    rename_i R2 h2;split
    ·exact KW.fail
    rename_i R3 h3;refine KW.cm λs2 h=>hx.mono λa b hx=> ?_;grind [fj]
   exact KW.fail
  exact KW.fail
 exact KW.fail
theorem pT{s:S}{o:Oper}{g:Option (Nat×Bool)}:KW (wx Q kf s o g) (λs1=>Ev λa b=>cG Q (cf a b) s o g=some s1):=by
 unfold wx;split
 ·grind [xC,cG]
 rename_i hc;exact xy.mono λs1 h=>Ev.const h |>.mono λa b h=>by grind [cG]
omit mZ in
theorem na(t:Nat)(v:P): ∀(m:List (Nat×P)),lk m t=some v->rep t v m=m
 | [],h=>rfl
 | (k,u)::r,h=>by
  simp only[lk] at h;simp only[rep];split
  next hk=>rw[zau hk] at h;simp only[zae] at h;rw[h]
  rename_i hk;rw[zay hk] at h;rw[na t v r h]
omit mZ in
def iT(kn:List (Nat×Bool))(s:S):Prop:= ∀t r,lk kn t=some r->lk s.tm t=some (.d (.bool r))
omit mZ in
theorem kK(d:Nat): ∀(kn:List (Nat×Bool)) (t:Nat) (r:Bool),lk (kn.filter λx=> !Nat.beq x.1 d) t=some r->t≠d/\lk kn t=some r
 | [],t,r,h=>by simp[lk] at h
 | (k,u)::l,t,r,h=>by
  simp only[List.filter_cons] at h;split at h
  next hk=>
   simp only[lk] at h⊢;split
   next ht=>rw[zau ht] at h;have e:=zab ht;subst e;refine⟨λe=> ?_,h⟩;subst e;simp at hk
   rename_i ht;rw[zay ht] at h;exact kK d l t r h
  rename_i hk;obtain⟨h1,h2⟩:=kK d l t r h;refine⟨h1,?_⟩;simp only[lk];have hk:Nat.beq k d=true:=by simpa using hk
  have e:=zab hk;subst e;have:Nat.beq k t=false:=by
   cases hb:Nat.beq k t with
   |false=>rfl
   |true=>exact absurd (zab hb).symm h1
  rw[this];exact h2
omit mZ in
theorem iT.step{cf:CF}{ops:List Oper}{kn:List (Nat×Bool)}{s s1:S}{o:Oper}(h:iT kn s)(hs:aE Q cf ops s o=some s1):iT (pb o.dst kn) s1:=by
 obtain⟨c,h2,_⟩:=jy (Q:=Q) (cf:=cf) (ops:=ops) (s:=s) (s2:=s) (o:=o) (λ_ _=>rfl) rfl rfl;rw[hs] at h2;cases c with
 |none=>cases h2
 |some x=>
  obtain⟨_,_,_,g4⟩:=dh (h2.symm:(⟨s.n,s.tm,x.1⟩:S).put o.dst x.2=some s1);intro t r ht;have key:o.dst≠some t/\lk kn t=some r:=by
   unfold pb at ht;split at ht
   next hd=>rw[hd];exact⟨by simp,ht⟩
   rename_i d hd;obtain⟨k1,k2⟩:=kK _ _ _ _ ht;rw[hd];exact⟨λe=>k1 (by simpa using e.symm),k2⟩
  have hv:=h t r key.2;rw[g4 t key.1];exact hv
omit mZ in
theorem pU{ops:List Oper}{o:Oper}(s:S):KW (wy ops o s) (λs1=>s=s1):=by
 unfold wy;split
 ·split
  next d hd=>
   split
   next k z hz=>intro ae hp;have:=hp z rfl;rw[na d _ _ hz] at this;exact⟨s,rfl,this⟩
   exact KW.ret rfl
  exact KW.ret rfl
 exact KW.ret rfl
theorem q8{ops:List Oper}{kn:List (Nat×Bool)}{s:S}{o:Oper}(nz:iT kn s):KW (tj Q kf ops kn s o) (λx=>(Ev λa b=>aE Q (cf a b) ops s o=some x.1)/\iT x.2 x.1):=by
 have go: ∀{kn:List (Nat×Bool)},iT kn s-> ∀s1,(Ev λa b=>aE Q (cf a b) ops s o=some s1)->((Ev λa b=>aE Q (cf a b) ops s o=some s1)/\iT (pb o.dst kn) s1):=λnz s1 h=>⟨h,by obtain⟨a,b,h⟩:=h.some;exact nz.step h⟩
 unfold tj;split
 ·exact KW.fail
 next hg=>exact KW.bind (pT mZ) λs1 h=>KW.bind (pU s1) λs2 h2=>by grind [KW.ret,aE]
 rename_i t want hg;split
 next r hr=>
  have hb:=nz t r hr;split
  next hw=>exact KW.bind (pT mZ) λs1 h=>KW.bind (pU s1) λs2 h2=>by grind [KW.ret,aE]
  rename_i hw;exact KW.bind (KW.cm (p:=λs1=>s.put o.dst .skip=some s1) λa h=>h) λs1 h=>KW.ret (go nz s1 ⟨0,λa b _ _=>by grind [aE]⟩)
 split
 next b hb=>
  refine KW.bind (KW.dec (p:=λr=>b=r) rfl) λr hr=> ?_;subst hr;have e:(⟨s.n,rep t (.d (.bool b)) s.tm,s.rg⟩:S)=s:=by rw[na t _ _ hb]
  rw[e];have EY:iT ((t,b)::kn) s:=by
   intro t' r' h';simp only[lk] at h';split at h'
   ·simp_all
   exact nz t' r' h'
  split
  next hw=>exact KW.bind (pT mZ) λs1 h=>KW.bind (pU s1) λs2 h2=>by grind [KW.ret,aE]
  rename_i hw;exact KW.bind (KW.cm (p:=λs1=>s.put o.dst .skip=some s1) λa h=>h) λs1 h=>KW.ret (go EY s1 ⟨0,λa b _ _=>by grind [aE]⟩)
 next t' b' q hb=>exact KW.bind (KW.cm (p:=λs1=>s.put o.dst .skip=some s1) λa h=>h) λs1 h=>KW.ret (go nz s1 ⟨0,λa b _ _=>by grind [aE]⟩)
 exact KW.fail
omit mZ in
theorem iT.nil(s:S):iT [] s:=λt r h=>by simp[lk] at h
theorem jD{ops:List Oper}: ∀(l:List Oper) (kn:List (Nat×Bool)) (s:S),iT kn s->KW (fY Q kf ops l kn s) (λs1=>Ev λa b=>bC Q (cf a b) ops l s=some s1)
 | [],_,s,_=>KW.ret (Ev.const rfl)
 |o::r,kn,s,nz=>by unfold fY;refine KW.bind (q8 mZ nz) λx hx=> ?_;rw[S.force_eq];refine(jD r x.2 x.1 hx.2).mono λs2 h2=>hx.1.xA h2 λa b hx h2=> ?_;grind [bC]
theorem jE{ops:List Oper}: ∀(l:List Oper) (kn:List (Nat×Bool)) (s:S),iT kn s->KW (fZ Q kf ops l kn s) (λx=>Ev λa b=>gV Q (cf a b) ops l s=some x)
 | [],_,s,_=>KW.ret (Ev.const rfl)
 |o::r,kn,s,nz=>by unfold fZ;refine KW.bind (q8 mZ nz) λx hx=> ?_;rw[S.force_eq];refine KW.bind (jE r x.2 x.1 hx.2) λy hy=>KW.ret (hx.1.xA hy λa b hx hy=> ?_);grind [gV]
theorem nb{ops:List Oper}{s:S}(hc:bw ops=1):KW (λae=>K.bind (fZ Q kf ops ops [] s) (λx=>λae=>gU 0 (masks ops []) x.2 (ae x.1)) ae) (λs1=>Ev λa b=>dM Q (cf a b) ops s=some s1):=by
 refine KW.bind (jE mZ ops [] _ (iT.nil _)) λx hx ae hp=>⟨x.1,hx.mono λa b hx=> ?_,mW _ _ _ hp⟩
 have h:gU 0 (masks ops []) x.2 True:=ik _ _ _ _ (λ_=>trivial) hp;grind [dM]
theorem nc{ops:List Oper}{s:S}(hc:bw ops=2):KW (fY Q kf ops ops [] s) (λs1=>Ev λa b=>dM Q (cf a b) ops s=some s1):=
 (jD mZ ops [] _ (iT.nil _)).mono λs1 h=>h.mono λa b h=>by grind [dM]
theorem xD{ops:List Oper}{cls:Nat}(pA:eM ops=cls){s:S}:KW (wz Q kf ops cls s) (λs1=>Ev λa b=>dH Q (cf a b) ops s=some s1):=by
 have plain: ∀k,eM ops=k->1<=k->k<=3->bw ops=k:=by grind [eM]
 have marked: ∀k,k<=1->eM ops=k+4->bw ops=0/\bw (bg ops)=k+1:=by grind [eM,bw]
 subst pA;unfold wz;split
 ·exact KW.fail
 ·grind [nb,dH]
 next hc=>have h1:=marked 0 (by omega) hc;grind [nb,dH]
 ·grind [nc,dH]
 next hc=>have h1:=marked 1 (by omega) hc;grind [nc,dH]
 next hc=>
  have late:bw ops=0/\bw (bg ops)=0/\ ∀m t d,o4 ops=some (m,t,d)->o5 ops m=true:=by grind [eM,bw,bg]
  split
  next m t d hl=>
   split
   ·rename_i qF Hx;refine KW.bind (jE mZ ops [] _ (iT.nil _)) λx hx ae hp=>⟨x.1,hx.mono λa b hx=> ?_,mW _ _ _ hp⟩
    have h:gU m (masks ops []) x.2 True:=ik _ _ _ _ (λ_=>trivial) hp;unfold dH;simp only[late.1,late.2.1];unfold jP;simp only[hl,hx];rw[zau ⟨late.2.2 m t d hl,qF,Hx⟩,zau h]
   exact KW.fail
  exact KW.fail
 exact KW.fail
def bN(body:Nat->Nat->S->Option (PX×S))(keep:Option (List Nat×List Nat))(s0:S)(x:PX×S):Prop:=
 ∃N,∀a b k,N<=a->N<=b->N<=k-> ∀s,fm keep s=some s0->dp (body a b) keep k s=some x
def pV(body:S->Option (PX×S))(keep:Option (List Nat×List Nat))(s:S)(x:PX×S):Prop:=
 match x.1 with
 | .normal=> ∃s1,body s=some (.normal,s1)/\fm keep s1=some x.2
 |e=> ∃s1,body s=some (e,s1)/\gW keep s1=some x.2
omit mZ in
theorem ve{fD:S->K (PX×S)}{body:Nat->Nat->S->Option (PX×S)}{s:S}(hb:KW (fD s) (λx=>Ev λa b=>body a b s=some x)){keep:Option (List Nat×List Nat)}:KW (pe fD keep s) (λx=>Ev λa b=>pV (body a b) keep s x):=by
 unfold pe;refine KW.bind hb λx hx=> ?_;obtain⟨e,s1⟩:=x;cases e with
 |normal=>exact KW.bind (KW.cm λa h=>h) λs2 h2=>KW.ret (hx.mono λa b hx=>⟨s1,hx,h2⟩)
 |exit id=>exact KW.bind (KW.cm λa h=>h) λs2 h2=>KW.ret (hx.mono λa b hx=>⟨s1,hx,h2⟩)
 |ret=>exact KW.bind (KW.cm λa h=>h) λs2 h2=>KW.ret (hx.mono λa b hx=>⟨s1,hx,h2⟩)
omit mZ in
theorem bN.out{body:Nat->Nat->S->Option (PX×S)}{keep:Option (List Nat×List Nat)}{s0:S}{x:PX×S}(hr:Ev λa b=>pV (body a b) keep s0 x)(he:x.1≠ .normal):bN body keep s0 x:=by
 obtain⟨N,hr⟩:=hr;refine⟨N+1,λa b k ha hb hk s hs=> ?_⟩;obtain⟨e,s2⟩:=x;have h:=hr a b (by omega) (by omega);obtain⟨k,rfl⟩: ∃k',k=k'+1:=⟨k-1,by omega⟩
 cases e with
 |normal=>exact absurd rfl he
 |exit id=>obtain⟨s1,h1,h2⟩:=h;simp only[] at h1 h2;simp only[dp,hs,h1,h2]
 |ret=>obtain⟨s1,h1,h2⟩:=h;simp only[] at h1 h2;simp only[dp,hs,h1,h2]
omit mZ in
theorem bN.on{body:Nat->Nat->S->Option (PX×S)}{keep:Option (List Nat×List Nat)}{s0 s2:S}{x:PX×S}(hr:Ev λa b=>pV (body a b) keep s0 (.normal,s2))(h2:bN body keep s2 x):bN body keep s0 x:=by
 obtain⟨N,hr⟩:=hr;obtain⟨M,h2⟩:=h2;refine⟨max N M+1,λa b k ha hb hk s hs=> ?_⟩;obtain⟨s1,h1,h3⟩:=hr a b (by omega) (by omega);obtain⟨k,rfl⟩: ∃k',k=k'+1:=⟨k-1,by omega⟩
 simp only[] at h1 h3;simp only[dp,hs,h1];exact h2 a b k (by omega) (by omega) (by omega) s1 h3
omit mZ in
theorem bN.ev{body:Nat->Nat->S->Option (PX×S)}{keep:Option (List Nat×List Nat)}{s s0:S}{x:PX×S}(hs:fm keep s=some s0)(h:bN body keep s0 x):Ev λa b=>dp (body a b) keep a s=some x:=by obtain⟨N,h⟩:=h;exact⟨N,λa b ha hb=>h a b a ha hb ha s hs⟩
omit mZ in
theorem oM{fD:S->K (PX×S)}{body:Nat->Nat->S->Option (PX×S)}(hb: ∀s,KW (fD s) (λx=>Ev λa b=>body a b s=some x)){keep:Option (List Nat×List Nat)}: ∀(k:Nat) (s:S),KW (pd fD keep k s) (λx=> ∃s0,fm keep s=some s0/\bN body keep s0 x)
 |0,s=>KW.fail
 |k+1,s=>by
  unfold pd;refine KW.bind (KW.cm λa h=>h) λs0 h0=>KW.bind (hb s0) λx hx=> ?_;obtain⟨e,s1⟩:=x;cases e with
  |normal=>exact(oM hb k s1).mono λy ⟨s2,g1,g2⟩=>⟨s0,h0,bN.on (hx.mono λa b hx=>⟨s1,hx,g1⟩) g2⟩
  |exit id=>exact KW.bind (KW.cm λa h=>h) λs2 h2=>KW.ret ⟨s0,h0,bN.out (hx.mono λa b hx=>⟨s1,hx,h2⟩) (by simp)⟩
  |ret=>exact KW.bind (KW.cm λa h=>h) λs2 h2=>KW.ret ⟨s0,h0,bN.out (hx.mono λa b hx=>⟨s1,hx,h2⟩) (by simp)⟩
def aG:Code->List Code
 | .seq a b=>aG a++aG b
 | .cond _ a b=>aG a++aG b
 | .block _ c | .scope c=>aG c
 | .loop c=>c::aG c
 |_=>[]
variable{kp:Nat->Option (List Nat×List Nat)}{hk:List (Nat×(S->K (PX×S)))}{dc:Nat->Nat}{lf:Nat}
def sQ(Q:Program)(cf:Nat->Nat->CF)(kp:Nat->Option (List Nat×List Nat))(c:Code)(h:S->K (PX×S)):Prop:=
 ∀s,KW (h s) (λx=>Ev λa b=>dp (aR Q (cf a b) kp a c) (kp (Code.rD c)) a s=some x)
theorem cB: ∀(c:Code),e8 dc c=true->(∀d∈aG c,∀h,lk hk (Code.rD d)=some h->sQ Q cf kp d h)-> ∀(s:S),KW (cr Q kf kp hk dc lf c s) (λx=>Ev λa b=>aR Q (cf a b) kp a c s=some x)
 | .skip,_,_,s=>KW.ret (Ev.const rfl)
 | .label _,_,_,s=>KW.ret (Ev.const rfl)
 | .region id ops draw,hl,_,s=>by
  unfold cr;refine KW.bind (p:=λs1=>Ev λa b=>(if draw then dH Q (cf a b) ops.toList s else bC Q (cf a b) ops.toList ops.toList s)=some s1) ?_ λs1 h1=>KW.ret (h1.mono λa b h1=> ?_)
  ·grind [xD,Nat.eq_of_beq_eq_true,e8,jD,iT.nil]
  simp only[aR,h1]
 | .seq x y,hl,hh,s=>by
  unfold cr;refine KW.bind (cB x (zac _ _▸hl:_/\_).1 (λd hd=>hh d (by simp[aG,hd])) s) λz hz=> ?_;obtain⟨e,s1⟩:=z;cases e with
  |normal=>exact(cB y (zac _ _▸hl:_/\_).2 (λd hd=>hh d (by simp[aG,hd])) s1).mono λu hu=>hz.xA hu λa b hz hu=>by grind [aR]
  |exit id=>exact KW.ret (hz.mono λa b hz=>by simp only[aR,hz])
  |ret=>exact KW.ret (hz.mono λa b hz=>by simp only[aR,hz])
 | .cond c x y,hl,hh,s=>by
  unfold cr;split
  next b hb=>
   refine KW.bind (KW.dec (p:=λr=>b=r) rfl) λr hr=> ?_;subst hr;cases b with
   |true=>exact(cB x (zac _ _▸hl:_/\_).1 (λd hd=>hh d (by simp[aG,hd])) s).mono λz hz=>hz.mono λa b hz=>by grind [aR]
   |false=>exact(cB y (zac _ _▸hl:_/\_).2 (λd hd=>hh d (by simp[aG,hd])) s).mono λz hz=>hz.mono λa b hz=>by grind [aR]
  exact KW.fail
 | .block id c,hl,hh,s=>by
  unfold cr;refine KW.bind (cB c hl (λd hd=>hh d (by simpa [aG] using hd)) s) λx hx=> ?_;obtain⟨e,s1⟩:=x;cases e with
  |normal=>exact KW.ret (hx.mono λa b hx=>by simp only[aR,hx])
  |exit tc=>
   simp only[];split
   next h=>exact KW.ret (hx.mono λa b hx=>by grind [aR])
   grind [KW.ret,aR]
  |ret=>grind [KW.ret,aR]
 | .loop c,hl,hh,s=>by
  unfold cr;split
  next h Hy=>exact(hh c (by simp[aG]) h Hy s).mono λx hx=>hx.mono λa b hx=>by grind [aR]
  exact(oM (body:=λa b=>aR Q (cf a b) kp a c) (λs=>cB c hl (λd hd=>hh d (by simp[aG,hd])) s) lf s).mono λx ⟨s0,g1,g2⟩=>(g2.ev g1).mono λa b hx=>by grind [aR]
 | .scope c,hl,hh,s=>by unfold cr;exact(cB c hl (λd hd=>hh d (by simpa [aG] using hd)) s).mono λx hx=>hx.mono λa b hx=>by grind [aR]
 | .exit id,_,_,s=>KW.ret (Ev.const rfl)
 | .ret,_,_,s=>KW.ret (Ev.const rfl)
 | .rangeFunc _ _ _ _,_,_,s=>KW.fail
 | .goto _,_,_,s=>KW.fail
 | .refuse _,_,_,s=>KW.fail
end
section
variable{Q:Program}{kp:rT}{dc:FuncId->Nat->Nat}{lf:Nat}
theorem q9{kf:KF}{hk:List (Nat×(S->K (PX×S)))}(zm: ∀f fn c,Q.funcs[f]?=some fn->fn.body=some c->e8 (dc f) c=true)(mZ:A8 kf (dN Q kp))(f:FuncId)
  (hh: ∀fn c,Q.funcs[f]?=some fn->fn.body=some c-> ∀d∈aG c,∀h,lk hk (Code.rD d)=some h->sQ Q (dN Q kp) (kp f) d h)
  (ps:List P) (R:List (Nat×En)):KW (fD Q kf kp hk dc lf f ps R) (λx=>Ev λa b=>dN Q kp a b f ps R=some x):=by
 unfold fD;split
 ·exact KW.fail
 rename_i fn jt;split
 ·exact KW.fail
 rename_i Dy;split
 ·exact KW.fail
 rename_i c hc;split
 ·exact KW.fail
 rename_i lx;refine KW.bind (cB mZ c (zm f fn c jt hc) (hh fn c jt hc) _) λx hx=> ?_;split
 ·exact KW.fail
 rename_i cc;split
 next qs hq=>
  unfold tk;refine KW.cm λy hy=> ?_;obtain⟨N,hx⟩:=hx;refine⟨N+1,λa b ha hb=> ?_⟩;obtain⟨b,rfl⟩: ∃b',b=b'+1:=⟨b-1,by omega⟩
  grind [dN]
 exact KW.fail
def tP(Q:Program)(kp:rT)(H:List (FuncId×gF)):Prop:=
 ∀f h,lk H f=some h-> ∀ps R,KW (h ps R) (λx=>Ev λa b=>dN Q kp a b f ps R=some x)
theorem tP.nil:tP Q kp []:=λf h hh=>by simp[lk] at hh
theorem pW{H:List (FuncId×gF)}(zm: ∀f fn c,Q.funcs[f]?=some fn->fn.body=some c->e8 (dc f) c=true)(hH:tP Q kp H): ∀(k:Nat),A8 (runK Q kp dc H lf k) (dN Q kp)
 |0=>λf ps R=>by
  unfold runK;split
  next h hh=>exact hH f h hh ps R
  exact KW.fail
 |k+1=>λf ps R=>by
  unfold runK;split
  next h hh=>exact hH f h hh ps R
  exact q9 zm (pW zm hH k) f (λfn c _ _ d _ h hh=>by simp[lk] at hh) ps R
theorem oN: ∀(l:List Func) (i0:Nat),jn dc i0 l=true-> ∀i fn c,l[i]?=some fn->fn.body=some c->e8 (dc (i0+i)) c=true
 | [],_,_,i,fn,c,h,_=>by simp at h
 |f::r,i0,h,i,fn,c,hf,hc=>by
  simp only[jn,zac] at h;cases i with
  |zero=>grind
  |succ i=>have:=oN r (i0+1) h.2 i fn c (by grind) hc;rwa [show i0+1+i=i0+(i+1) by omega] at this
theorem kL(h:jn dc 0 Q.funcs.toList=true)(f:FuncId)(fn:Func)(c:Code)(hf:Q.funcs[f]?=some fn)(hc:fn.body=some c):e8 (dc f) c=true:=by have:=oN Q.funcs.toList 0 h f fn c (by grind) hc;rwa [zbk] at this
def dP(id:Nat):List Code->Option Code
 | []=>none
 |c::r=>if Nat.beq (Code.rD c) id then some c else dP id r
def dA(Q:Program)(f:FuncId)(id:Nat):Code:=
 match Q.funcs[f]? with
 |some fn=>(match fn.body with |some c=>(dP id (aG c)).getD .skip |none=> .skip)
 |none=> .skip
def uniq(Q:Program)(f:FuncId):Bool:=
 match Q.funcs[f]? with
 |some fn=>(match fn.body with |some c=>du ((aG c).map Code.rD)|none=>true)
 |none=>true
theorem il{d:Code}: ∀(l:List Code),(l.map Code.rD).Nodup->d∈l->dP (Code.rD d) l=some d
 | [],_,h=>by simp at h
 |c::r,hn,h=>by
  simp only[za7,zbn] at hn;simp only[dP];rcases zav.1 h with rfl |h
  ·simp
  split
  ·grind [Nat.eq_of_beq_eq_true]
  exact il r hn.2 h
theorem bj: ∀(b:Code) {c d:Code},c∈aG b->d∈aG c->d∈aG b
 | .seq x y,c,d,hc,hd=>by simp only[aG,za6] at hc⊢;exact hc.imp (bj x · hd) (bj y · hd)
 | .cond _ x y,c,d,hc,hd=>by simp only[aG,za6] at hc⊢;exact hc.imp (bj x · hd) (bj y · hd)
 | .block _ x,c,d,hc,hd=>bj x (by grind [aG]) hd
 | .scope x,c,d,hc,hd=>bj x (by grind [aG]) hd
 | .loop x,c,d,hc,hd=>by
  simp only[aG,zav] at hc⊢;rcases hc with rfl |hc
  ·grind
  exact .inr (bj x hc hd)
 | .skip,c,d,hc,_ | .label _,c,d,hc,_ | .region ..,c,d,hc,_ | .exit _,c,d,hc,_ | .ret,c,d,hc,_ | .rangeFunc ..,c,d,hc,_ | .goto _,c,d,hc,_ | .refuse _,c,d,hc,_=>by simp[aG] at hc
theorem ki{id:Nat}{c:Code}: ∀(l:List Code),dP id l=some c->c∈l
 | [],h=>by simp[dP] at h
 |d::r,h=>by
  simp only[dP] at h;split at h
  ·grind
  exact zbN _ (ki r h)
theorem vf{f:FuncId}{id:Nat}{d:Code}(hu:uniq Q f=true)(hd:d∈aG (dA Q f id)):dA Q f (Code.rD d)=d:=by
 unfold dA at hd⊢;unfold uniq at hu;split at hd
 next fn jt=>
  rw[jt] at hu;split at hd
  next c hc=>
   simp only[hc] at hu⊢;cases hf:dP id (aG c) with
   |none=>rw[hf] at hd;simp[aG] at hd
   |some e=>rw[hf] at hd;have:=bj c (ki _ hf) hd;rw[il _ (cU _ hu) this,zb4]
  simp[aG] at hd
 simp[aG] at hd
def yr(Q:Program)(kp:rT)(f:FuncId)(h:gF):Prop:= ∀ps R,KW (h ps R) (λx=>Ev λa b=>dN Q kp a b f ps R=some x)
theorem tP.cons{H:List (FuncId×gF)}{f:FuncId}{h:gF}(hf:yr Q kp f h)(hH:tP Q kp H):tP Q kp ((f,h)::H):=by
 intro f' h' hh ps R;simp only[lk] at hh;split at hh
 next he=>have he:=zab he;subst he;simp only[zae] at hh;subst hh;exact hf ps R
 exact hH f' h' hh ps R
theorem yr.EZ{f:FuncId}{fn:Func}{h:gF}(jt:Q.funcs[f]?=some fn)(hx:dR f kp.xs=true)(hb: ∀ps R ae,h ps R ae-> ∃x,kp.X f ps R=some x/\ae x):yr Q kp f h:=by
 intro ps R ae hp;obtain⟨x,h1,h2⟩:=hb ps R ae hp;refine⟨x,⟨1,λa b _ hb=> ?_⟩,h2⟩;obtain⟨b,rfl⟩: ∃b',b=b'+1:=⟨b-1,by omega⟩
 grind [dN]
theorem yr.mk{H:List (FuncId×gF)}{f:FuncId}{h:gF}{hk:List (Nat×(S->K (PX×S)))}{k:Nat}(zm:jn dc 0 Q.funcs.toList=true)(hH:tP Q kp H)(hu:uniq Q f=true)
  (hl: ∀id g,lk hk id=some g-> ∀s,KW (g s) (λx=>Ev λa b=>dp (aR Q (dN Q kp a b) (kp f) a (dA Q f id)) (kp f id) a s=some x))
  (hb: ∀ps R ae,h ps R ae->fD Q (runK Q kp dc H lf k) kp hk dc lf f ps R ae):yr Q kp f h:=by
 intro ps R ae hp;refine q9 (kL zm) (pW (kL zm) hH k) f (λfn c jt hc d hd g hg s=> ?_) ps R ae (hb ps R ae hp);have e:dA Q f (Code.rD d)=d:=by grind [uniq,dA,il,cU]
 have:=hl _ g hg s;rwa [e] at this
def roundPost(n:Nat)(I:Nat->S->Prop)(O:PX×S->Prop)(x:PX×S):Prop:=match x.1 with | .normal=> ∃m,m<n/\I m x.2 |_=>O x
theorem zn{H:List (FuncId×gF)}{c:Code}{hk:List (Nat×(S->K (PX×S)))}{kp1:Nat->Option (List Nat×List Nat)}{Gl:Nat->Nat}{k:Nat}{keep:Option (List Nat×List Nat)}(zm:jn dc 0 Q.funcs.toList=true)(hH:tP Q kp H)(hc:e8 Gl c=true)
  (hl: ∀d∈aG c,∀h,lk hk (Code.rD d)=some h->sQ Q (dN Q kp) kp1 d h)
  {I:Nat->S->Prop} {O:PX×S->Prop}
  (hr: ∀n s,I n s->pe (cr Q (runK Q kp dc H lf k) kp1 hk Gl lf c) keep s (roundPost n I O)):
  ∀n s,I n s-> ∃x,O x/\bN (λa b=>aR Q (dN Q kp a b) kp1 a c) keep s x:=by
 intro n
 induction n using Nat.strongRecOn with
 |_ n ih=>
  intro s hs;obtain⟨x,h1,h2⟩:=ve (body:=λa b=>aR Q (dN Q kp a b) kp1 a c) (cB (pW (kL zm) hH k) c hc hl s) _ (hr n s hs);obtain⟨e,s2⟩:=x;cases e with
  |normal=>obtain⟨m,hm,hi⟩:=h2;grind [bN.on]
  |exit id=>exact⟨_,h2,bN.out h1 (by simp)⟩
  |ret=>exact⟨_,h2,bN.out h1 (by simp)⟩
end
end Pi
