/- The text PiKOk4. -/
import Derived.Test.YtfelfooeclnbiaaPiDrawOk2
namespace Pi
open Go
section
variable{Q:Program}{s:S}
theorem tN{t:TypeId}{p q:P}:KW (qT Q s t p q) (λs1=>cC Q s t p q=some s1):=by
 unfold qT;split
 next n v i k' off=>
  split
  ·exact KW.fail
  rename_i k hk;split
  next s1 x hf=>
   split
   ·rename_i ty es ho;split
    ·rename_i k2 r9;split
     next hc=>refine KW.bind (p:=λ_=>i<es.length) (KW.cW λhb=>by grind) λ_ hi=> ?_;refine KW.bind (jx Q ty _) λy hy=>KW.ret ?_;grind [cC,lK]
     exact KW.fail
    exact KW.fail
   exact KW.fail
  exact KW.fail
 grind [KW.bU]
theorem rJ{dst:Option Nat}{t t2:TypeId}{p q:P}:KW (oi Q s dst t t2 p q) (λs1=>dt Q s dst t t2 p q=some s1):=by
 unfold oi;split
 ·exact KW.fail
 rename_i e he;split
 next i k hi hk=>
  split
  next ys z hy hz=>
   split
   ·rename_i hb;split
    ·rename_i n v len;split
     ·rename_i en dQ;split
      ·rename_i ty es ho;split
       next hc=>refine KW.bind (p:=λ_=>(Nat.ble len es.length&&de (len+ys.length) i.bytes)=true) (KW.cW λhb=>hb) λ_ hl=> ?_;grind [KW.bU,de,dt]
       exact KW.fail
      exact KW.fail
     exact KW.fail
    ·refine KW.bind (p:=λ_=>de ys.length i.bytes=true) (KW.cW λhb=>hb) λ_ hl=> ?_;grind [KW.bU,dt,KW.fail]
    exact KW.fail
   exact KW.fail
  exact KW.fail
 exact KW.fail
theorem v8{dst:Option Nat}{t:TypeId}{p q:P}:KW (uN Q s dst t p q) (λs1=>jj Q s dst t p q=some s1):=by
 unfold uN;split
 next e k1 l k2 c h1=>
  split
  next i k z h2 h3 h4=>
   split
   ·rename_i hz;refine KW.bind (p:=λ_=>decide (0<=l/\l<=c/\c<=9223372036854775807/\(i.bytes:Int)*c<=281474976710656)=true) (KW.cW λhb=>hb) λ_ hb=> ?_;split
    ·simp_all [KW.bU,jj]
    exact KW.fail
   exact KW.fail
  exact KW.fail
 exact KW.fail
theorem tO{dst:Option Nat}{t:TypeId}{p:P}:KW (qU Q s dst t p) (λs1=>fF Q s dst t p=some s1):=by
 unfold qU;split
 next e n v k off len h1=>
  split
  next k2 z ty es h2 h3 h4=>
   split
   next hc=>refine KW.bind (p:=λ_=>off+len<=es.length) (KW.cW λhb=>by grind) λ_ hb=>KW.bU λs1 h=> ?_;simp_all [fF,zbH]
   exact KW.fail
  exact KW.fail
 exact KW.fail
theorem wa{dst:Option Nat}{t t2:TypeId}{p q:P}:KW (uO Q s dst t t2 p q) (λs1=>jk Q s dst t t2 p q=some s1):=by
 unfold uO;split
 next e n v len h1=>
  split
  next k h2=>
   split
   ·rename_i ys ty es h3 h4;split
    next ht=>refine KW.bind (p:=λ_=>decide (len<=es.length/\ys.length<=len)=true) (KW.cW λhb=>hb) λ_ hb=>KW.bU λs2 hs=> ?_;simp_all [jk]
    exact KW.fail
   exact KW.fail
  exact KW.fail
 exact KW.fail
theorem nR: ∀(ys:List D),cP ys=true->dI ys=some (bytesOf ys)
 | [],_=>rfl
 |x::r,h=>by
  unfold cP at h;split at h
  ·grind
  next n r' heq=>obtain⟨rfl,rfl⟩:=heq;simp only[dI,nR _ h];rfl
  cases h
theorem tP{o:Oper}{g:Option (Nat×Bool)}:KW (qV Q s o g) (λs1=>dE Q s o g=some s1):=by
 unfold qV;split
 ·simp[KW.bU]
 rename_i wM;split
 next he=>
  have hex:pv Q s o g=none-> ∀s1,ef Q s o g=some s1->dE Q s o g=some s1:=λhp s1 h=>by grind [dE]
  unfold Ae at he;unfold CM;split
  ·grind [pv,KW.bind,tN,KW.bU,ef]
  next t1 t2 x ho=>
   split
   ·rename_i e h1 h2;split
    ·rename_i ys hu hs;split
     ·rename_i la;have hp:pv Q s o g=none:=by
       have:(s.eg g x).aV=none:=by
        cases hx:s.eg g x with
        |sl n v len=>rfl
        |eL n v k off len=>rfl
        |d y=>rw[hx] at la;cases y<;>first |rfl | (simp[P.uM] at la)
        |_=>rw[hx] at la;simp[P.uM] at la
       grind [pv]
      refine KW.bind (p:=λ_=>cP ys=true) (KW.cW λhb=>hb) λ_ hb=>KW.bU λs2 h3=>hex hp _ ?_;grind [ef,nR]
     exact KW.fail
    exact KW.fail
   grind
  next c ho=>
   split
   ·rename_i hc;have hp:pv Q s o g=none:=by grind [pv]
    split
    next x y t t2 h1 h2=>refine rJ.mono λs1 h=>hex hp _ ?_;unfold ef;simp only[ho,hc,h1,h2];exact h
    exact KW.fail
   ·rename_i hc;have hp:pv Q s o g=none:=by unfold pv;simp only[ho,hc]
    split
    next x y t t2 h1 h2=>refine wa.mono λs1 h=>hex hp _ ?_;unfold ef;simp only[ho,hc,h1,h2];exact h
    exact KW.fail
   ·rename_i hc;have hp:pv Q s o g=none:=by unfold pv;simp only[ho,hc]
    split
    next x t h1 h2=>refine tO.mono λs1 h=>hex hp _ ?_;unfold ef;simp only[ho,hc,h1,h2];exact h
    exact KW.fail
   ·rename_i hc;have hp:pv Q s o g=none:=by unfold pv;simp only[ho,hc]
    split
    next x y t ts h1 h2=>refine ve.mono λs1 h=>hex hp _ ?_;unfold ef;simp only[ho,hc,h1,h2];exact h
    exact KW.fail
   grind
  next t x y ho=>
   have hp:pv Q s o g=none:=by unfold pv;rw[ho]
   refine v8.mono λs1 h=>hex hp _ ?_;grind [ef]
  next t m k x ho=>
   have hp:pv Q s o g=none:=by unfold pv;rw[ho]
   split
   next Ef=>refine ra.mono λs1 h=>hex hp _ ?_;unfold ef;simp only[ho,Ef,zaR];exact h
   exact KW.bU λs1 h=>hex hp _ h
  grind [pv,KW.bU]
 grind [KW.bind,yI,KW.bU,dE]
theorem wb{o:Oper}{g:Option (Nat×Bool)}:KW (uP Q s o g) (λs1=>exec Q s o g=some s1):=by
 unfold uP;cases hm:iL o with
 |some r=>grind [KW.bU,exec]
 |none=>refine tP.mono λs1 h=> ?_;grind [exec]
end
def Ev(p:Nat->Nat->Prop):Prop:= ∃N,∀a b,N<=a->N<=b->p a b
theorem Ev.const{p:Prop}(h:p):Ev λ_ _=>p:=⟨0,λ_ _ _ _=>h⟩
theorem Ev.mono{p q:Nat->Nat->Prop}(h:Ev p)(Aj: ∀a b,p a b->q a b):Ev q:=by obtain⟨N,h⟩:=h;exact⟨N,λa b ha hb=>Aj a b (h a b ha hb)⟩
theorem Ev.and{p q:Nat->Nat->Prop}(h:Ev p)(k:Ev q):Ev λa b=>p a b/\q a b:=by obtain⟨N,h⟩:=h;obtain⟨M,k⟩:=k;exact⟨max N M,λa b ha hb=>⟨h a b (by omega) (by omega),k a b (by omega) (by omega)⟩⟩
theorem Ev.wc{p q r:Nat->Nat->Prop}(h:Ev p)(k:Ev q)(Aj: ∀a b,p a b->q a b->r a b):Ev r:=(h.and k).mono λa b x=>Aj a b x.1 x.2
theorem Ev.some{p:Nat->Nat->Prop}(h:Ev p): ∃a b,p a b:=by obtain⟨N,h⟩:=h;exact⟨N,N,h N N (zag _) (zag _)⟩
def za(kf:KF)(cf:Nat->Nat->CF):Prop:= ∀f ps R,KW (kf f ps R) (λx=>Ev λa b=>cf a b f ps R=some x)
section
variable{Q:Program}{kf:KF}{cf:Nat->Nat->CF}(ml:za kf cf)
include ml
theorem wg{s:S}{dst:Option Nat}{f:P}{args:List P}:KW (uQ Q kf s dst f args) (λs1=>Ev λa b=>eX Q (cf a b) s dst f args=some s1):=by
 unfold uQ;split
 next gA bV=>
  split
  ·exact KW.fail
  rename_i s1 ps hf;simp only[];split
  next hn=>
   split
   ·exact KW.fail
   rename_i R0 EZ;refine KW.bind (ml _ _ _) λx hx=> ?_;split
   ·rename_i hm;split
    ·exact KW.fail
    rename_i R2 h2;split
    ·exact KW.fail
    rename_i R3 h3;refine KW.bU λs2 h=>hx.mono λa b hx=> ?_;grind [eX]
   exact KW.fail
  exact KW.fail
 exact KW.fail
theorem oY{s:S}{o:Oper}{g:Option (Nat×Bool)}:KW (uR Q kf s o g) (λs1=>Ev λa b=>ct Q (cf a b) s o g=some s1):=by
 unfold uR;split
 ·grind [wg,ct]
 rename_i hc;exact wb.mono λs1 h=>Ev.const h |>.mono λa b h=>by grind [ct]
omit ml in
theorem mn(t:Nat)(v:P): ∀(m:List (Nat×P)),lk m t=some v->rep t v m=m
 | [],h=>rfl
 | (k,u)::r,h=>by
  simp only[lk] at h;simp only[rep];split
  next hk=>rw[zax hk] at h;simp only[zae] at h;rw[h]
  rename_i hk;rw[zaB hk] at h;rw[mn t v r h]
omit ml in
def ik(kn:List (Nat×Bool))(s:S):Prop:= ∀t r,lk kn t=some r->lk s.tm t=some (.d (.bool r))
omit ml in
theorem jY(d:Nat): ∀(kn:List (Nat×Bool)) (t:Nat) (r:Bool),lk (kn.filter λx=> !Nat.beq x.1 d) t=some r->t≠d/\lk kn t=some r
 | [],t,r,h=>by simp[lk] at h
 | (k,u)::l,t,r,h=>by
  simp only[List.filter_cons] at h;split at h
  next hk=>
   simp only[lk] at h⊢;split
   next ht=>rw[zax ht] at h;have e:=zac ht;subst e;refine⟨λe=> ?_,h⟩;subst e;simp at hk
   rename_i ht;rw[zaB ht] at h;exact jY d l t r h
  rename_i hk;obtain⟨h1,h2⟩:=jY d l t r h;refine⟨h1,?_⟩;simp only[lk];have hk:Nat.beq k d=true:=by simpa using hk
  have e:=zac hk;subst e;have:Nat.beq k t=false:=by
   cases hb:Nat.beq k t with
   |false=>rfl
   |true=>exact absurd (zac hb).symm h1
  rw[this];exact h2
omit ml in
theorem ik.step{cf:CF}{ops:List Oper}{kn:List (Nat×Bool)}{s s1:S}{o:Oper}(h:ik kn s)(hs:aC Q cf ops s o=some s1):ik (oo o.dst kn) s1:=by
 obtain⟨c,h2,_⟩:=iW (Q:=Q) (cf:=cf) (ops:=ops) (s:=s) (s2:=s) (o:=o) (λ_ _=>rfl) rfl rfl;rw[hs] at h2;cases c with
 |none=>cases h2
 |some x=>
  obtain⟨_,_,_,g4⟩:=cT (h2.symm:(⟨s.n,s.tm,x.1⟩:S).put o.dst x.2=some s1);intro t r ht;have key:o.dst≠some t/\lk kn t=some r:=by
   unfold oo at ht;split at ht
   next hd=>rw[hd];exact⟨by simp,ht⟩
   rename_i d hd;obtain⟨k1,k2⟩:=jY _ _ _ _ ht;rw[hd];exact⟨λe=>k1 (by simpa using e.symm),k2⟩
  have hv:=h t r key.2;rw[g4 t key.1];exact hv
omit ml in
theorem oZ{ops:List Oper}{o:Oper}(s:S):KW (uS ops o s) (λs1=>s=s1):=by
 unfold uS;split
 ·split
  next d hd=>
   split
   next k z hz=>intro ae hp;have:=hp z rfl;rw[mn d _ _ hz] at this;exact⟨s,rfl,this⟩
   exact KW.ret rfl
  exact KW.ret rfl
 exact KW.ret rfl
theorem qh{ops:List Oper}{kn:List (Nat×Bool)}{s:S}{o:Oper}(wS:ik kn s):KW (r5 Q kf ops kn s o) (λx=>(Ev λa b=>aC Q (cf a b) ops s o=some x.1)/\ik x.2 x.1):=by
 have go: ∀{kn:List (Nat×Bool)},ik kn s-> ∀s1,(Ev λa b=>aC Q (cf a b) ops s o=some s1)->((Ev λa b=>aC Q (cf a b) ops s o=some s1)/\ik (oo o.dst kn) s1):=λwS s1 h=>⟨h,by obtain⟨a,b,h⟩:=h.some;exact wS.step h⟩
 unfold r5;split
 ·exact KW.fail
 next hg=>exact KW.bind (oY ml) λs1 h=>KW.bind (oZ s1) λs2 h2=>by grind [KW.ret,aC]
 rename_i t want hg;split
 next r hr=>
  have hb:=wS t r hr;split
  next hw=>exact KW.bind (oY ml) λs1 h=>KW.bind (oZ s1) λs2 h2=>by grind [KW.ret,aC]
  rename_i hw;exact KW.bind (KW.bU (p:=λs1=>s.put o.dst .skip=some s1) λa h=>h) λs1 h=>KW.ret (go wS s1 ⟨0,λa b _ _=>by grind [aC]⟩)
 split
 next b hb=>
  refine KW.bind (KW.dec (p:=λr=>b=r) rfl) λr hr=> ?_;subst hr;have e:(⟨s.n,rep t (.d (.bool b)) s.tm,s.rg⟩:S)=s:=by rw[mn t _ _ hb]
  rw[e];have Cj:ik ((t,b)::kn) s:=by
   intro t' r' h';simp only[lk] at h';split at h'
   ·simp_all
   exact wS t' r' h'
  split
  next hw=>exact KW.bind (oY ml) λs1 h=>KW.bind (oZ s1) λs2 h2=>by grind [KW.ret,aC]
  rename_i hw;exact KW.bind (KW.bU (p:=λs1=>s.put o.dst .skip=some s1) λa h=>h) λs1 h=>KW.ret (go Cj s1 ⟨0,λa b _ _=>by grind [aC]⟩)
 next t' b' q hb=>exact KW.bind (KW.bU (p:=λs1=>s.put o.dst .skip=some s1) λa h=>h) λs1 h=>KW.ret (go wS s1 ⟨0,λa b _ _=>by grind [aC]⟩)
 exact KW.fail
omit ml in
theorem ik.nil(s:S):ik [] s:=λt r h=>by simp[lk] at h
theorem jb{ops:List Oper}: ∀(l:List Oper) (kn:List (Nat×Bool)) (s:S),ik kn s->KW (fI Q kf ops l kn s) (λs1=>Ev λa b=>bp Q (cf a b) ops l s=some s1)
 | [],_,s,_=>KW.ret (Ev.const rfl)
 |o::r,kn,s,wS=>by unfold fI;refine KW.bind (qh ml wS) λx hx=> ?_;rw[S.force_eq];refine(jb r x.2 x.1 hx.2).mono λs2 h2=>hx.1.wc h2 λa b hx h2=> ?_;grind [bp]
theorem jc{ops:List Oper}: ∀(l:List Oper) (kn:List (Nat×Bool)) (s:S),ik kn s->KW (fJ Q kf ops l kn s) (λx=>Ev λa b=>gD Q (cf a b) ops l s=some x)
 | [],_,s,_=>KW.ret (Ev.const rfl)
 |o::r,kn,s,wS=>by unfold fJ;refine KW.bind (qh ml wS) λx hx=> ?_;rw[S.force_eq];refine KW.bind (jc r x.2 x.1 hx.2) λy hy=>KW.ret (hx.1.wc hy λa b hx hy=> ?_);grind [gD]
theorem mq{ops:List Oper}{s:S}(hc:bh ops=1):KW (λae=>K.bind (fJ Q kf ops ops [] s) (λx=>λae=>gC 0 (masks ops []) x.2 (ae x.1)) ae) (λs1=>Ev λa b=>dF Q (cf a b) ops s=some s1):=by
 refine KW.bind (jc ml ops [] _ (ik.nil _)) λx hx ae hp=>⟨x.1,hx.mono λa b hx=> ?_,mg _ _ _ hp⟩
 have h:gC 0 (masks ops []) x.2 True:=gX _ _ _ _ (λ_=>trivial) hp;grind [dF]
theorem mr{ops:List Oper}{s:S}(hc:bh ops=2):KW (fI Q kf ops ops [] s) (λs1=>Ev λa b=>dF Q (cf a b) ops s=some s1):=
 (jb ml ops [] _ (ik.nil _)).mono λs1 h=>h.mono λa b h=>by grind [dF]
theorem wh{ops:List Oper}{cls:Nat}(oG:ew ops=cls){s:S}:KW (uT Q kf ops cls s) (λs1=>Ev λa b=>dz Q (cf a b) ops s=some s1):=by
 have plain: ∀k,ew ops=k->1<=k->k<=3->bh ops=k:=by grind [ew]
 have marked: ∀k,k<=1->ew ops=k+4->bh ops=0/\bh (aZ ops)=k+1:=by grind [ew,bh]
 subst oG;unfold uT;split
 ·exact KW.fail
 ·grind [mq,dz]
 next hc=>have h1:=marked 0 (by omega) hc;grind [mq,dz]
 ·grind [mr,dz]
 next hc=>have h1:=marked 1 (by omega) hc;grind [mr,dz]
 next hc=>
  have late:bh ops=0/\bh (aZ ops)=0/\ ∀m t d,oa ops=some (m,t,d)->oc ops m=true:=by grind [ew,bh,aZ]
  split
  next m t d hl=>
   split
   ·rename_i vG Eg;refine KW.bind (jc ml ops [] _ (ik.nil _)) λx hx ae hp=>⟨x.1,hx.mono λa b hx=> ?_,mg _ _ _ hp⟩
    have h:gC m (masks ops []) x.2 True:=gX _ _ _ _ (λ_=>trivial) hp;unfold dz;simp only[late.1,late.2.1];unfold jm;simp only[hl,hx];rw[zax ⟨late.2.2 m t d hl,vG,Eg⟩,zax h]
   exact KW.fail
  exact KW.fail
 exact KW.fail
def bB(body:Nat->Nat->S->Option (PX×S))(keep:Option (List Nat×List Nat))(s0:S)(x:PX×S):Prop:=
 ∃N,∀a b k,N<=a->N<=b->N<=k-> ∀s,eZ keep s=some s0->c8 (body a b) keep k s=some x
def o0(body:S->Option (PX×S))(keep:Option (List Nat×List Nat))(s:S)(x:PX×S):Prop:=
 match x.1 with
 | .normal=> ∃s1,body s=some (.normal,s1)/\eZ keep s1=some x.2
 |e=> ∃s1,body s=some (e,s1)/\gE keep s1=some x.2
omit ml in
theorem tQ{fi:S->K (PX×S)}{body:Nat->Nat->S->Option (PX×S)}{s:S}(hb:KW (fi s) (λx=>Ev λa b=>body a b s=some x)){keep:Option (List Nat×List Nat)}:KW (ot fi keep s) (λx=>Ev λa b=>o0 (body a b) keep s x):=by
 unfold ot;refine KW.bind hb λx hx=> ?_;obtain⟨e,s1⟩:=x;cases e with
 |normal=>exact KW.bind (KW.bU λa h=>h) λs2 h2=>KW.ret (hx.mono λa b hx=>⟨s1,hx,h2⟩)
 |exit id=>exact KW.bind (KW.bU λa h=>h) λs2 h2=>KW.ret (hx.mono λa b hx=>⟨s1,hx,h2⟩)
 |ret=>exact KW.bind (KW.bU λa h=>h) λs2 h2=>KW.ret (hx.mono λa b hx=>⟨s1,hx,h2⟩)
omit ml in
theorem bB.out{body:Nat->Nat->S->Option (PX×S)}{keep:Option (List Nat×List Nat)}{s0:S}{x:PX×S}(hr:Ev λa b=>o0 (body a b) keep s0 x)(he:x.1≠ .normal):bB body keep s0 x:=by
 obtain⟨N,hr⟩:=hr;refine⟨N+1,λa b k ha hb hk s hs=> ?_⟩;obtain⟨e,s2⟩:=x;have h:=hr a b (by omega) (by omega);obtain⟨k,rfl⟩: ∃k',k=k'+1:=⟨k-1,by omega⟩
 cases e with
 |normal=>exact absurd rfl he
 |exit id=>obtain⟨s1,h1,h2⟩:=h;simp only[] at h1 h2;simp only[c8,hs,h1,h2]
 |ret=>obtain⟨s1,h1,h2⟩:=h;simp only[] at h1 h2;simp only[c8,hs,h1,h2]
omit ml in
theorem bB.on{body:Nat->Nat->S->Option (PX×S)}{keep:Option (List Nat×List Nat)}{s0 s2:S}{x:PX×S}(hr:Ev λa b=>o0 (body a b) keep s0 (.normal,s2))(h2:bB body keep s2 x):bB body keep s0 x:=by
 obtain⟨N,hr⟩:=hr;obtain⟨M,h2⟩:=h2;refine⟨max N M+1,λa b k ha hb hk s hs=> ?_⟩;obtain⟨s1,h1,h3⟩:=hr a b (by omega) (by omega);obtain⟨k,rfl⟩: ∃k',k=k'+1:=⟨k-1,by omega⟩
 simp only[] at h1 h3;simp only[c8,hs,h1];exact h2 a b k (by omega) (by omega) (by omega) s1 h3
omit ml in
theorem bB.ev{body:Nat->Nat->S->Option (PX×S)}{keep:Option (List Nat×List Nat)}{s s0:S}{x:PX×S}(hs:eZ keep s=some s0)(h:bB body keep s0 x):Ev λa b=>c8 (body a b) keep a s=some x:=by obtain⟨N,h⟩:=h;exact⟨N,λa b ha hb=>h a b a ha hb ha s hs⟩
omit ml in
theorem nS{fi:S->K (PX×S)}{body:Nat->Nat->S->Option (PX×S)}(hb: ∀s,KW (fi s) (λx=>Ev λa b=>body a b s=some x)){keep:Option (List Nat×List Nat)}: ∀(k:Nat) (s:S),KW (oq fi keep k s) (λx=> ∃s0,eZ keep s=some s0/\bB body keep s0 x)
 |0,s=>KW.fail
 |k+1,s=>by
  unfold oq;refine KW.bind (KW.bU λa h=>h) λs0 h0=>KW.bind (hb s0) λx hx=> ?_;obtain⟨e,s1⟩:=x;cases e with
  |normal=>exact(nS hb k s1).mono λy ⟨s2,g1,g2⟩=>⟨s0,h0,bB.on (hx.mono λa b hx=>⟨s1,hx,g1⟩) g2⟩
  |exit id=>exact KW.bind (KW.bU λa h=>h) λs2 h2=>KW.ret ⟨s0,h0,bB.out (hx.mono λa b hx=>⟨s1,hx,h2⟩) (by simp)⟩
  |ret=>exact KW.bind (KW.bU λa h=>h) λs2 h2=>KW.ret ⟨s0,h0,bB.out (hx.mono λa b hx=>⟨s1,hx,h2⟩) (by simp)⟩
def aF:Code->List Code
 | .seq a b=>aF a++aF b
 | .cond _ a b=>aF a++aF b
 | .block _ c | .scope c=>aF c
 | .loop c=>c::aF c
 |_=>[]
variable{kp:Nat->Option (List Nat×List Nat)}{hk:List (Nat×(S->K (PX×S)))}{dc:Nat->Nat}{lf:Nat}
def rK(Q:Program)(cf:Nat->Nat->CF)(kp:Nat->Option (List Nat×List Nat))(c:Code)(h:S->K (PX×S)):Prop:=
 ∀s,KW (h s) (λx=>Ev λa b=>c8 (aP Q (cf a b) kp a c) (kp (Code.qE c)) a s=some x)
theorem cj: ∀(c:Code),eM dc c=true->(∀d∈aF c,∀h,lk hk (Code.qE d)=some h->rK Q cf kp d h)-> ∀(s:S),KW (bY Q kf kp hk dc lf c s) (λx=>Ev λa b=>aP Q (cf a b) kp a c s=some x)
 | .skip,_,_,s=>KW.ret (Ev.const rfl)
 | .label _,_,_,s=>KW.ret (Ev.const rfl)
 | .region id ops draw,hl,_,s=>by
  unfold bY;refine KW.bind (p:=λs1=>Ev λa b=>(if draw then dz Q (cf a b) ops.toList s else bp Q (cf a b) ops.toList ops.toList s)=some s1) ?_ λs1 h1=>KW.ret (h1.mono λa b h1=> ?_)
  ·grind [wh,Nat.eq_of_beq_eq_true,eM,jb,ik.nil]
  simp only[aP,h1]
 | .seq x y,hl,hh,s=>by
  unfold bY;refine KW.bind (cj x (zad _ _▸hl:_/\_).1 (λd hd=>hh d (by simp[aF,hd])) s) λz hz=> ?_;obtain⟨e,s1⟩:=z;cases e with
  |normal=>exact(cj y (zad _ _▸hl:_/\_).2 (λd hd=>hh d (by simp[aF,hd])) s1).mono λu hu=>hz.wc hu λa b hz hu=>by grind [aP]
  |exit id=>exact KW.ret (hz.mono λa b hz=>by simp only[aP,hz])
  |ret=>exact KW.ret (hz.mono λa b hz=>by simp only[aP,hz])
 | .cond c x y,hl,hh,s=>by
  unfold bY;split
  next b hb=>
   refine KW.bind (KW.dec (p:=λr=>b=r) rfl) λr hr=> ?_;subst hr;cases b with
   |true=>exact(cj x (zad _ _▸hl:_/\_).1 (λd hd=>hh d (by simp[aF,hd])) s).mono λz hz=>hz.mono λa b hz=>by grind [aP]
   |false=>exact(cj y (zad _ _▸hl:_/\_).2 (λd hd=>hh d (by simp[aF,hd])) s).mono λz hz=>hz.mono λa b hz=>by grind [aP]
  exact KW.fail
 | .block id c,hl,hh,s=>by
  unfold bY;refine KW.bind (cj c hl (λd hd=>hh d (by simpa [aF] using hd)) s) λx hx=> ?_;obtain⟨e,s1⟩:=x;cases e with
  |normal=>exact KW.ret (hx.mono λa b hx=>by simp only[aP,hx])
  |exit r0=>
   simp only[];split
   next h=>exact KW.ret (hx.mono λa b hx=>by grind [aP])
   grind [KW.ret,aP]
  |ret=>grind [KW.ret,aP]
 | .loop c,hl,hh,s=>by
  unfold bY;split
  next h Eh=>exact(hh c (by simp[aF]) h Eh s).mono λx hx=>hx.mono λa b hx=>by grind [aP]
  exact(nS (body:=λa b=>aP Q (cf a b) kp a c) (λs=>cj c hl (λd hd=>hh d (by simp[aF,hd])) s) lf s).mono λx ⟨s0,g1,g2⟩=>(g2.ev g1).mono λa b hx=>by grind [aP]
 | .scope c,hl,hh,s=>by unfold bY;exact(cj c hl (λd hd=>hh d (by simpa [aF] using hd)) s).mono λx hx=>hx.mono λa b hx=>by grind [aP]
 | .exit id,_,_,s=>KW.ret (Ev.const rfl)
 | .ret,_,_,s=>KW.ret (Ev.const rfl)
 | .rangeFunc _ _ _ _,_,_,s=>KW.fail
 | .goto _,_,_,s=>KW.fail
 | .refuse _,_,_,s=>KW.fail
end
section
variable{Q:Program}{kp:kX}{dc:FuncId->Nat->Nat}{lf:Nat}
theorem qi{kf:KF}{hk:List (Nat×(S->K (PX×S)))}(xG: ∀f fn c,Q.funcs[f]?=some fn->fn.body=some c->eM (dc f) c=true)(ml:za kf (dh Q kp))(f:FuncId)
  (hh: ∀fn c,Q.funcs[f]?=some fn->fn.body=some c-> ∀d∈aF c,∀h,lk hk (Code.qE d)=some h->rK Q (dh Q kp) (kp f) d h)
  (ps:List P) (R:List (Nat×En)):KW (fi Q kf kp hk dc lf f ps R) (λx=>Ev λa b=>dh Q kp a b f ps R=some x):=by
 unfold fi;split
 ·exact KW.fail
 rename_i fn gq;split
 ·exact KW.fail
 rename_i zN;split
 ·exact KW.fail
 rename_i c hc;split
 ·exact KW.fail
 rename_i iF;refine KW.bind (cj ml c (xG f fn c gq hc) (hh fn c gq hc) _) λx hx=> ?_;split
 ·exact KW.fail
 rename_i bz;split
 next qs hq=>
  unfold r6;refine KW.bU λy hy=> ?_;obtain⟨N,hx⟩:=hx;refine⟨N+1,λa b ha hb=> ?_⟩;obtain⟨b,rfl⟩: ∃b',b=b'+1:=⟨b-1,by omega⟩
  grind [dh]
 exact KW.fail
def sE(Q:Program)(kp:kX)(H:List (FuncId×hQ)):Prop:=
 ∀f h,lk H f=some h-> ∀ps R,KW (h ps R) (λx=>Ev λa b=>dh Q kp a b f ps R=some x)
theorem sE.nil:sE Q kp []:=λf h hh=>by simp[lk] at hh
theorem o4{H:List (FuncId×hQ)}(xG: ∀f fn c,Q.funcs[f]?=some fn->fn.body=some c->eM (dc f) c=true)(hH:sE Q kp H): ∀(k:Nat),za (runK Q kp dc H lf k) (dh Q kp)
 |0=>λf ps R=>by
  unfold runK;split
  next h hh=>exact hH f h hh ps R
  exact KW.fail
 |k+1=>λf ps R=>by
  unfold runK;split
  next h hh=>exact hH f h hh ps R
  exact qi xG (o4 xG hH k) f (λfn c _ _ d _ h hh=>by simp[lk] at hh) ps R
theorem nT: ∀(l:List Func) (i0:Nat),iN dc i0 l=true-> ∀i fn c,l[i]?=some fn->fn.body=some c->eM (dc (i0+i)) c=true
 | [],_,_,i,fn,c,h,_=>by simp at h
 |f::r,i0,h,i,fn,c,hf,hc=>by
  simp only[iN,zad] at h;cases i with
  |zero=>grind
  |succ i=>have:=nT r (i0+1) h.2 i fn c (by grind) hc;rwa [show i0+1+i=i0+(i+1) by omega] at this
theorem jZ(h:iN dc 0 Q.funcs.toList=true)(f:FuncId)(fn:Func)(c:Code)(hf:Q.funcs[f]?=some fn)(hc:fn.body=some c):eM (dc f) c=true:=by have:=nT Q.funcs.toList 0 h f fn c (by grind) hc;rwa [za4] at this
def dG(id:Nat):List Code->Option Code
 | []=>none
 |c::r=>if Nat.beq (Code.qE c) id then some c else dG id r
def dq(Q:Program)(f:FuncId)(id:Nat):Code:=
 match Q.funcs[f]? with
 |some fn=>(match fn.body with |some c=>(dG id (aF c)).getD .skip |none=> .skip)
 |none=> .skip
def uniq(Q:Program)(f:FuncId):Bool:=
 match Q.funcs[f]? with
 |some fn=>(match fn.body with |some c=>df ((aF c).map Code.qE)|none=>true)
 |none=>true
theorem gY{d:Code}: ∀(l:List Code),(l.map Code.qE).Nodup->d∈l->dG (Code.qE d) l=some d
 | [],_,h=>by simp at h
 |c::r,hn,h=>by
  simp only[zaZ,zbe] at hn;simp only[dG];rcases zaz.1 h with rfl |h
  ·simp
  split
  ·grind [Nat.eq_of_beq_eq_true]
  exact gY r hn.2 h
theorem a8: ∀(b:Code) {c d:Code},c∈aF b->d∈aF c->d∈aF b
 | .seq x y,c,d,hc,hd=>by simp only[aF,zaY] at hc⊢;exact hc.imp (a8 x · hd) (a8 y · hd)
 | .cond _ x y,c,d,hc,hd=>by simp only[aF,zaY] at hc⊢;exact hc.imp (a8 x · hd) (a8 y · hd)
 | .block _ x,c,d,hc,hd=>a8 x (by grind [aF]) hd
 | .scope x,c,d,hc,hd=>a8 x (by grind [aF]) hd
 | .loop x,c,d,hc,hd=>by
  simp only[aF,zaz] at hc⊢;rcases hc with rfl |hc
  ·grind
  exact .inr (a8 x hc hd)
 | .skip,c,d,hc,_ | .label _,c,d,hc,_ | .region ..,c,d,hc,_ | .exit _,c,d,hc,_ | .ret,c,d,hc,_ | .rangeFunc ..,c,d,hc,_ | .goto _,c,d,hc,_ | .refuse _,c,d,hc,_=>by simp[aF] at hc
theorem jG{id:Nat}{c:Code}: ∀(l:List Code),dG id l=some c->c∈l
 | [],h=>by simp[dG] at h
 |d::r,h=>by
  simp only[dG] at h;split at h
  ·grind
  exact List.mem_cons_of_mem _ (jG r h)
theorem tR{f:FuncId}{id:Nat}{d:Code}(hu:uniq Q f=true)(hd:d∈aF (dq Q f id)):dq Q f (Code.qE d)=d:=by
 unfold dq at hd⊢;unfold uniq at hu;split at hd
 next fn gq=>
  rw[gq] at hu;split at hd
  next c hc=>
   simp only[hc] at hu⊢;cases hf:dG id (aF c) with
   |none=>rw[hf] at hd;simp[aF] at hd
   |some e=>rw[hf] at hd;have:=a8 c (jG _ hf) hd;rw[gY _ (cI _ hu) this,zbU]
  simp[aF] at hd
 simp[aF] at hd
def wT(Q:Program)(kp:kX)(f:FuncId)(h:hQ):Prop:= ∀ps R,KW (h ps R) (λx=>Ev λa b=>dh Q kp a b f ps R=some x)
theorem sE.cons{H:List (FuncId×hQ)}{f:FuncId}{h:hQ}(hf:wT Q kp f h)(hH:sE Q kp H):sE Q kp ((f,h)::H):=by
 intro f' h' hh ps R;simp only[lk] at hh;split at hh
 next he=>have he:=zac he;subst he;simp only[zae] at hh;subst hh;exact hf ps R
 exact hH f' h' hh ps R
theorem wT.Ck{f:FuncId}{fn:Func}{h:hQ}(gq:Q.funcs[f]?=some fn)(hx:dJ f kp.xs=true)(hb: ∀ps R ae,h ps R ae-> ∃x,kp.X f ps R=some x/\ae x):wT Q kp f h:=by
 intro ps R ae hp;obtain⟨x,h1,h2⟩:=hb ps R ae hp;refine⟨x,⟨1,λa b _ hb=> ?_⟩,h2⟩;obtain⟨b,rfl⟩: ∃b',b=b'+1:=⟨b-1,by omega⟩
 grind [dh]
theorem wT.mk{H:List (FuncId×hQ)}{f:FuncId}{h:hQ}{hk:List (Nat×(S->K (PX×S)))}{k:Nat}(xG:iN dc 0 Q.funcs.toList=true)(hH:sE Q kp H)(hu:uniq Q f=true)
  (hl: ∀id g,lk hk id=some g-> ∀s,KW (g s) (λx=>Ev λa b=>c8 (aP Q (dh Q kp a b) (kp f) a (dq Q f id)) (kp f id) a s=some x))
  (hb: ∀ps R ae,h ps R ae->fi Q (runK Q kp dc H lf k) kp hk dc lf f ps R ae):wT Q kp f h:=by
 intro ps R ae hp;refine qi (jZ xG) (o4 (jZ xG) hH k) f (λfn c gq hc d hd g hg s=> ?_) ps R ae (hb ps R ae hp);have e:dq Q f (Code.qE d)=d:=by grind [uniq,dq,gY,cI]
 have:=hl _ g hg s;rwa [e] at this
def roundPost(n:Nat)(I:Nat->S->Prop)(O:PX×S->Prop)(x:PX×S):Prop:=match x.1 with | .normal=> ∃m,m<n/\I m x.2 |_=>O x
theorem xH{H:List (FuncId×hQ)}{c:Code}{hk:List (Nat×(S->K (PX×S)))}{kp1:Nat->Option (List Nat×List Nat)}{C7:Nat->Nat}{k:Nat}{keep:Option (List Nat×List Nat)}(xG:iN dc 0 Q.funcs.toList=true)(hH:sE Q kp H)(hc:eM C7 c=true)
  (hl: ∀d∈aF c,∀h,lk hk (Code.qE d)=some h->rK Q (dh Q kp) kp1 d h)
  {I:Nat->S->Prop} {O:PX×S->Prop}
  (hr: ∀n s,I n s->ot (bY Q (runK Q kp dc H lf k) kp1 hk C7 lf c) keep s (roundPost n I O)):
  ∀n s,I n s-> ∃x,O x/\bB (λa b=>aP Q (dh Q kp a b) kp1 a c) keep s x:=by
 intro n
 induction n using Nat.strongRecOn with
 |_ n ih=>
  intro s hs;obtain⟨x,h1,h2⟩:=tQ (body:=λa b=>aP Q (dh Q kp a b) kp1 a c) (cj (o4 (jZ xG) hH k) c hc hl s) _ (hr n s hs);obtain⟨e,s2⟩:=x;cases e with
  |normal=>obtain⟨m,hm,hi⟩:=h2;grind [bB.on]
  |exit id=>exact⟨_,h2,bB.out h1 (by simp)⟩
  |ret=>exact⟨_,h2,bB.out h1 (by simp)⟩
end
end Pi
