/- The text PiKOk4. -/
import Derived.Test.YtpiohccneeblhaaPiDrawOk2
namespace Pi
open Go
section
variable{Q:Program}{s:S}
theorem Aw{t:TypeId}{p q:P}:KW (xo Q s t p q) (λs1=>dG Q s t p q=some s1):=by
 unfold xo;split
 next n v i k' off=>
  split
  ·exact KW.fail
  rename_i k hk;split
  next ty es jM ho ds q0 LO=>
   split
   ·rename_i k2 rj;split
    next hc=>refine KW.bind (p:=λ_=>i<es.length) (KW.cZ λhb=>by grind) λ_ hi=> ?_;refine KW.bind (p:=λ_=>jM=i) (KW.cZ λhb=>by grind) λ_ I9=>KW.ret ?_;simp only[dG,hk,LO,rj,zac hi];rw[zat (by rw[hc,zbj I9];rfl)]
    exact KW.fail
   exact KW.fail
  rename_i Qr;split
  next s1 x hf=>
   split
   ·rename_i ty es ho;split
    ·rename_i k2 rj;split
     next hc=>refine KW.bind (p:=λ_=>i<es.length) (KW.cZ λhb=>by grind) λ_ hi=> ?_;refine KW.bind (ij Q ty _) λy hy=>KW.ret ?_;grind [dG,iR]
     exact KW.fail
    exact KW.fail
   exact KW.fail
  exact KW.fail
 grind [KW.cb]
theorem x9{dst:Option Nat}{t t2:TypeId}{p q:P}:KW (tn Q s dst t t2 p q) (λs1=>eH Q s dst t t2 p q=some s1):=by
 unfold tn;split
 ·exact KW.fail
 rename_i e he;split
 next i k hi hk=>
  split
  next ys z hy hz=>
   split
   ·rename_i hb;split
    ·rename_i n v len;split
     ·rename_i en eO;split
      ·rename_i ty es ho;split
       next hc=>refine KW.bind (p:=λ_=>(Nat.ble len es.length&&bw (len+ys.length) i.bytes)=true) (KW.cZ λhb=>hb) λ_ hl=> ?_;grind [KW.cb,bw,eH]
       exact KW.fail
      ·rename_i ty es ho;split
       ·rename_i hc;refine KW.bind (p:=λ_=>(Nat.ble len es.length&&bw (len+ys.length) i.bytes)=true) (KW.cZ λhb=>hb) λ_ hl=> ?_;split
        next j hj=>refine KW.cb λa h=> ?_;simp only[eH,he,hi,hk,hy,hz,hb,eO,ho,hj,zaT];rw[zat (by rw[Bool.and_assoc,hc,hl];rfl)];exact h
        exact KW.fail
       exact KW.fail
      exact KW.fail
     exact KW.fail
    ·refine KW.bind (p:=λ_=>bw ys.length i.bytes=true) (KW.cZ λhb=>hb) λ_ hl=> ?_;grind [KW.cb,eH,KW.fail]
    exact KW.fail
   exact KW.fail
  exact KW.fail
 exact KW.fail
theorem CM{dst:Option Nat}{t:TypeId}{p q:P}:KW (BM Q s dst t p q) (λs1=>mj Q s dst t p q=some s1):=by
 unfold BM;split
 next e k1 l k2 c h1=>
  split
  next i k z h2 h3 h4=>
   split
   ·rename_i hz;refine KW.bind (p:=λ_=>decide (0<=l/\l<=c/\c<=9223372036854775807/\(i.bytes:Int)*c<=281474976710656)=true) (KW.cZ λhb=>hb) λ_ hb=> ?_;split
    ·simp_all [KW.cb,mj]
    exact KW.fail
   exact KW.fail
  exact KW.fail
 exact KW.fail
theorem Ax{dst:Option Nat}{t:TypeId}{p:P}:KW (xp Q s dst t p) (λs1=>ji Q s dst t p=some s1):=by
 unfold xp;split
 next e n v k off len h1=>
  split
  next k2 z ty es h2 h3 h4=>
   split
   next hc=>refine KW.bind (p:=λ_=>off+len<=es.length) (KW.cZ λhb=>by grind) λ_ hb=>KW.cb λs1 h=> ?_;simp_all [ji,zbj]
   exact KW.fail
  exact KW.fail
 exact KW.fail
theorem CN{dst:Option Nat}{t t2:TypeId}{p q:P}:KW (BN Q s dst t t2 p q) (λs1=>ml Q s dst t t2 p q=some s1):=by
 unfold BN;split
 next e n v len h1=>
  split
  next k h2=>
   split
   ·rename_i ys ty es h3 h4;split
    next ht=>refine KW.bind (p:=λ_=>decide (len<=es.length/\ys.length<=len)=true) (KW.cZ λhb=>hb) λ_ hb=>KW.cb λs2 hs=> ?_;simp_all [ml]
    exact KW.fail
   exact KW.fail
  exact KW.fail
 exact KW.fail
theorem sE: ∀(ys:List D),eL ys=true->fM ys=some (bytesOf ys)
 | [],_=>rfl
 |x::r,h=>by
  unfold eL at h;split at h
  ·grind
  next n r' heq=>obtain⟨rfl,rfl⟩:=heq;simp only[fM,sE _ h];rfl
  cases h
theorem Ay{o:Oper}{g:Option (Nat×Bool)}:KW (xq Q s o g) (λs1=>fA Q s o g=some s1):=by
 unfold xq;split
 ·simp[KW.cb]
 rename_i DV;split
 next he=>
  have hex:pv Q s o g=none-> ∀s1,ef Q s o g=some s1->fA Q s o g=some s1:=λhp s1 h=>by grind [fA]
  unfold I5 at he;unfold NF;split
  ·grind [pv,KW.bind,Aw,KW.cb,ef]
  next t1 t2 x ho=>
   split
   ·rename_i e h1 h2;split
    ·rename_i ys hu hs;split
     ·rename_i oL;have hp:pv Q s o g=none:=by
       have:(s.eg g x).bq=none:=by
        cases hx:s.eg g x with
        |sl n v len=>rfl
        |hZ n v k off len=>rfl
        |d y=>rw[hx] at oL;cases y<;>first |rfl | (simp[P.BL] at oL)
        |_=>rw[hx] at oL;simp[P.BL] at oL
       grind [pv]
      refine KW.bind (p:=λ_=>eL ys=true) (KW.cZ λhb=>hb) λ_ hb=>KW.cb λs2 h3=>hex hp _ ?_;grind [ef,sE]
     exact KW.fail
    exact KW.fail
   grind
  next c ho=>
   split
   ·rename_i hc;have hp:pv Q s o g=none:=by grind [pv]
    split
    next x y t t2 h1 h2=>refine x9.mono λs1 h=>hex hp _ ?_;unfold ef;simp only[ho,hc,h1,h2];exact h
    exact KW.fail
   ·rename_i hc;have hp:pv Q s o g=none:=by unfold pv;simp only[ho,hc]
    split
    next x y t t2 h1 h2=>refine CN.mono λs1 h=>hex hp _ ?_;unfold ef;simp only[ho,hc,h1,h2];exact h
    exact KW.fail
   ·rename_i hc;have hp:pv Q s o g=none:=by unfold pv;simp only[ho,hc]
    split
    next x t h1 h2=>refine Ax.mono λs1 h=>hex hp _ ?_;unfold ef;simp only[ho,hc,h1,h2];exact h
    exact KW.fail
   ·rename_i hc;have hp:pv Q s o g=none:=by unfold pv;simp only[ho,hc]
    split
    next x y t ts h1 h2=>refine B8.mono λs1 h=>hex hp _ ?_;unfold ef;simp only[ho,hc,h1,h2];exact h
    exact KW.fail
   grind
  next t x y ho=>
   have hp:pv Q s o g=none:=by unfold pv;rw[ho]
   refine CM.mono λs1 h=>hex hp _ ?_;grind [ef]
  next t m k x ho=>
   have hp:pv Q s o g=none:=by unfold pv;rw[ho]
   split
   next O9=>refine xC.mono λs1 h=>hex hp _ ?_;unfold ef;simp only[ho,O9,zaT];exact h
   exact KW.cb λs1 h=>hex hp _ h
  grind [pv,KW.cb]
 grind [KW.bind,GN,KW.cb,fA]
theorem CO{o:Oper}{g:Option (Nat×Bool)}:KW (BO Q s o g) (λs1=>exec Q s o g=some s1):=by
 unfold BO;cases hm:lL o with
 |some r=>grind [KW.cb,exec]
 |none=>refine Ay.mono λs1 h=> ?_;grind [exec]
end
def Ev(p:Nat->Nat->Prop):Prop:= ∃N,∀a b,N<=a->N<=b->p a b
theorem Ev.const{p:Prop}(h:p):Ev λ_ _=>p:=⟨0,λ_ _ _ _=>h⟩
theorem Ev.mono{p q:Nat->Nat->Prop}(h:Ev p)(Ew: ∀a b,p a b->q a b):Ev q:=by obtain⟨N,h⟩:=h;exact⟨N,λa b ha hb=>Ew a b (h a b ha hb)⟩
theorem Ev.and{p q:Nat->Nat->Prop}(h:Ev p)(k:Ev q):Ev λa b=>p a b/\q a b:=by obtain⟨N,h⟩:=h;obtain⟨M,k⟩:=k;exact⟨max N M,λa b ha hb=>⟨h a b (by omega) (by omega),k a b (by omega) (by omega)⟩⟩
theorem Ev.CP{p q r:Nat->Nat->Prop}(h:Ev p)(k:Ev q)(Ew: ∀a b,p a b->q a b->r a b):Ev r:=(h.and k).mono λa b x=>Ew a b x.1 x.2
theorem Ev.some{p:Nat->Nat->Prop}(h:Ev p): ∃a b,p a b:=by obtain⟨N,h⟩:=h;exact⟨N,N,h N N (zae _) (zae _)⟩
def oN(kf:KF)(cf:Nat->Nat->CF):Prop:= ∀f ps R,KW (kf f ps R) (λx=>Ev λa b=>cf a b f ps R=some x)
section
variable{Q:Program}{kf:KF}{cf:Nat->Nat->CF}(eE:oN kf cf)
include eE
theorem CQ{s:S}{dst:Option Nat}{f:P}{args:List P}:KW (lA Q kf s dst f args) (λs1=>Ev λa b=>iz Q (cf a b) s dst f args=some s1):=by
 unfold lA;split
 next fN bF=>
  split
  ·exact KW.fail
  rename_i s1 ps hf;simp only[];split
  next hn=>
   split
   ·exact KW.fail
   rename_i R0 Ml;refine KW.bind (eE _ _ _) λx hx=> ?_;split
   ·rename_i hm;split
    ·exact KW.fail
    rename_i R2 h2;split
    ·exact KW.fail
    rename_i R3 h3;refine KW.cb λs2 h=>hx.mono λa b hx=> ?_;grind [iz]
   exact KW.fail
  exact KW.fail
 exact KW.fail
theorem ug{s:S}{o:Oper}{g:Option (Nat×Bool)}:KW (BP Q kf s o g) (λs1=>Ev λa b=>dK Q (cf a b) s o g=some s1):=by
 unfold BP;split
 ·grind [CQ,dK]
 rename_i hc;exact CO.mono λs1 h=>Ev.const h |>.mono λa b h=>by grind [dK]
omit eE in
theorem qn(t:Nat)(v:P): ∀(m:List (Nat×P)),lk m t=some v->rep t v m=m
 | [],h=>rfl
 | (k,u)::r,h=>by
  simp only[lk] at h;simp only[rep];split
  next hk=>rw[zat hk] at h;simp only[zaf] at h;rw[h]
  rename_i hk;rw[zaC hk] at h;rw[qn t v r h]
omit eE in
def fT(kn:List (Nat×Bool))(s:S):Prop:= ∀t r,lk kn t=some r->lk s.tm t=some (.d (.bool r))
omit eE in
theorem ny(d:Nat): ∀(kn:List (Nat×Bool)) (t:Nat) (r:Bool),lk (kn.filter λx=> !Nat.beq x.1 d) t=some r->t≠d/\lk kn t=some r
 | [],t,r,h=>by simp[lk] at h
 | (k,u)::l,t,r,h=>by
  simp only[List.filter_cons] at h;split at h
  next hk=>
   simp only[lk] at h⊢;split
   next ht=>rw[zat ht] at h;have e:=zab ht;subst e;refine⟨λe=> ?_,h⟩;subst e;simp at hk
   rename_i ht;rw[zaC ht] at h;exact ny d l t r h
  rename_i hk;obtain⟨h1,h2⟩:=ny d l t r h;refine⟨h1,?_⟩;simp only[lk];have hk:Nat.beq k d=true:=by simpa using hk
  have e:=zab hk;subst e;have:Nat.beq k t=false:=by
   cases hb:Nat.beq k t with
   |false=>rfl
   |true=>exact absurd (zab hb).symm h1
  rw[this];exact h2
omit eE in
theorem fT.step{cf:CF}{ops:List Oper}{kn:List (Nat×Bool)}{s s1:S}{o:Oper}(h:fT kn s)(hs:aM Q cf ops s o=some s1):fT (tp o.dst kn) s1:=by
 obtain⟨c,h2,_⟩:=lT (Q:=Q) (cf:=cf) (ops:=ops) (s:=s) (s2:=s) (o:=o) (λ_ _=>rfl) rfl rfl;rw[hs] at h2;cases c with
 |none=>cases h2
 |some x=>
  obtain⟨_,_,_,g4⟩:=eS (h2.symm:(⟨s.n,s.tm,x.1⟩:S).put o.dst x.2=some s1);intro t r ht;have key:o.dst≠some t/\lk kn t=some r:=by
   unfold tp at ht;split at ht
   next hd=>rw[hd];exact⟨by simp,ht⟩
   rename_i d hd;obtain⟨k1,k2⟩:=ny _ _ _ _ ht;rw[hd];exact⟨λe=>k1 (by simpa using e.symm),k2⟩
  have hv:=h t r key.2;rw[g4 t key.1];exact hv
omit eE in
theorem uh{ops:List Oper}{o:Oper}(s:S):KW (BQ ops o s) (λs1=>s=s1):=by
 unfold BQ;split
 ·split
  next d hd=>
   split
   next k z hz=>intro ae hp;have:=hp z rfl;rw[qn d _ _ hz] at this;exact⟨s,rfl,this⟩
   exact KW.ret rfl
  exact KW.ret rfl
 exact KW.ret rfl
theorem mK{ops:List Oper}{kn:List (Nat×Bool)}{s:S}{o:Oper}(o5:fT kn s):KW (rY Q kf ops kn s o) (λx=>(Ev λa b=>aM Q (cf a b) ops s o=some x.1)/\fT x.2 x.1):=by
 have go: ∀{kn:List (Nat×Bool)},fT kn s-> ∀s1,(Ev λa b=>aM Q (cf a b) ops s o=some s1)->((Ev λa b=>aM Q (cf a b) ops s o=some s1)/\fT (tp o.dst kn) s1):=λo5 s1 h=>⟨h,by obtain⟨a,b,h⟩:=h.some;exact o5.step h⟩
 unfold rY;split
 ·exact KW.fail
 next hg=>exact KW.bind (ug eE) λs1 h=>KW.bind (uh s1) λs2 h2=>by grind [KW.ret,aM]
 rename_i t want hg;split
 next r hr=>
  have hb:=o5 t r hr;split
  next hw=>exact KW.bind (ug eE) λs1 h=>KW.bind (uh s1) λs2 h2=>by grind [KW.ret,aM]
  rename_i hw;exact KW.bind (KW.cb (p:=λs1=>s.put o.dst .skip=some s1) λa h=>h) λs1 h=>KW.ret (go o5 s1 ⟨0,λa b _ _=>by grind [aM]⟩)
 split
 next b hb=>
  refine KW.bind (KW.dec (p:=λr=>b=r) rfl) λr hr=> ?_;subst hr;have e:(⟨s.n,rep t (.d (.bool b)) s.tm,s.rg⟩:S)=s:=by rw[qn t _ _ hb]
  rw[e];have Mm:fT ((t,b)::kn) s:=by
   intro t' r' h';simp only[lk] at h';split at h'
   ·simp_all
   exact o5 t' r' h'
  split
  next hw=>exact KW.bind (ug eE) λs1 h=>KW.bind (uh s1) λs2 h2=>by grind [KW.ret,aM]
  rename_i hw;exact KW.bind (KW.cb (p:=λs1=>s.put o.dst .skip=some s1) λa h=>h) λs1 h=>KW.ret (go Mm s1 ⟨0,λa b _ _=>by grind [aM]⟩)
 next t' b' q hb=>exact KW.bind (KW.cb (p:=λs1=>s.put o.dst .skip=some s1) λa h=>h) λs1 h=>KW.ret (go o5 s1 ⟨0,λa b _ _=>by grind [aM]⟩)
 exact KW.fail
omit eE in
theorem fT.nil(s:S):fT [] s:=λt r h=>by simp[lk] at h
theorem jv{ops:List Oper}: ∀(l:List Oper) (kn:List (Nat×Bool)) (s:S),fT kn s->KW (ib Q kf ops l kn s) (λs1=>Ev λa b=>cj Q (cf a b) ops l s=some s1)
 | [],_,s,_=>KW.ret (Ev.const rfl)
 |o::r,kn,s,o5=>by unfold ib;refine KW.bind (mK eE o5) λx hx=> ?_;rw[S.force_eq];refine(jv r x.2 x.1 hx.2).mono λs2 h2=>hx.1.CP h2 λa b hx h2=> ?_;grind [cj]
theorem lY{ops:List Oper}: ∀(l:List Oper) (kn:List (Nat×Bool)) (s:S),fT kn s->KW (jk Q kf ops l kn s) (λx=>Ev λa b=>kj Q (cf a b) ops l s=some x)
 | [],_,s,_=>KW.ret (Ev.const rfl)
 |o::r,kn,s,o5=>by unfold jk;refine KW.bind (mK eE o5) λx hx=> ?_;rw[S.force_eq];refine KW.bind (lY r x.2 x.1 hx.2) λy hy=>KW.ret (hx.1.CP hy λa b hx hy=> ?_);grind [kj]
theorem qo{ops:List Oper}{s:S}(hc:b8 ops=1):KW (λae=>K.bind (jk Q kf ops ops [] s) (λx=>λae=>ki 0 (masks ops []) x.2 (ae x.1)) ae) (λs1=>Ev λa b=>fB Q (cf a b) ops s=some s1):=by
 refine KW.bind (lY eE ops [] _ (fT.nil _)) λx hx ae hp=>⟨x.1,hx.mono λa b hx=> ?_,qk _ _ _ hp⟩
 have h:ki 0 (masks ops []) x.2 True:=kO _ _ _ _ (λ_=>trivial) hp;grind [fB]
theorem qp{ops:List Oper}{s:S}(hc:b8 ops=2):KW (ib Q kf ops ops [] s) (λs1=>Ev λa b=>fB Q (cf a b) ops s=some s1):=
 (jv eE ops [] _ (fT.nil _)).mono λs1 h=>h.mono λa b h=>by grind [fB]
theorem qq{ops:List Oper}{cls:Nat}(tP:gE ops=cls){s:S}:KW (u9 Q kf ops cls s) (λs1=>Ev λa b=>fu Q (cf a b) ops s=some s1):=by
 have plain: ∀k,gE ops=k->1<=k->k<=3->b8 ops=k:=by grind [gE]
 have marked: ∀k,k<=1->gE ops=k+4->b8 ops=0/\b8 (bM ops)=k+1:=by grind [gE,b8]
 subst tP;unfold u9;split
 ·exact KW.fail
 ·grind [qo,fu]
 next hc=>have h1:=marked 0 (by omega) hc;grind [qo,fu]
 ·grind [qp,fu]
 next hc=>have h1:=marked 1 (by omega) hc;grind [qp,fu]
 next hc=>
  have late:b8 ops=0/\b8 (bM ops)=0/\ ∀m t d,ta ops=some (m,t,d)->tc ops m=true:=by grind [gE,b8,bM]
  split
  next m t d hl=>
   split
   ·rename_i w5 Pa;refine KW.bind (lY eE ops [] _ (fT.nil _)) λx hx ae hp=>⟨x.1,hx.mono λa b hx=> ?_,qk _ _ _ hp⟩
    have h:ki m (masks ops []) x.2 True:=kO _ _ _ _ (λ_=>trivial) hp;unfold fu;simp only[late.1,late.2.1];unfold mq;simp only[hl,hx];rw[zat ⟨late.2.2 m t d hl,w5,Pa⟩,zat h]
   exact KW.fail
  exact KW.fail
 exact KW.fail
def cB(body:Nat->Nat->S->Option (PX×S))(keep:Option (List Nat×List Nat))(s0:S)(x:PX×S):Prop:=
 ∃N,∀a b k,N<=a->N<=b->N<=k-> ∀s,cw keep s=some s0->eK (body a b) keep k s=some x
def ui(body:S->Option (PX×S))(keep:Option (List Nat×List Nat))(s:S)(x:PX×S):Prop:=
 match x.1 with
 | .normal=> ∃s1,body s=some (.normal,s1)/\cw keep s1=some x.2
 |e=> ∃s1,body s=some (e,s1)/\eI keep s1=some x.2
omit eE in
theorem Az{iM:S->K (PX×S)}{body:Nat->Nat->S->Option (PX×S)}{s:S}(hb:KW (iM s) (λx=>Ev λa b=>body a b s=some x)){keep:Option (List Nat×List Nat)}:KW (pr iM keep s) (λx=>Ev λa b=>ui (body a b) keep s x):=by
 unfold pr;refine KW.bind hb λx hx=> ?_;obtain⟨e,s1⟩:=x;cases e with
 |normal=>exact KW.bind (KW.cb λa h=>h) λs2 h2=>KW.ret (hx.mono λa b hx=>⟨s1,hx,h2⟩)
 |exit id=>exact KW.bind (KW.cb λa h=>h) λs2 h2=>KW.ret (hx.mono λa b hx=>⟨s1,hx,h2⟩)
 |ret=>exact KW.bind (KW.cb λa h=>h) λs2 h2=>KW.ret (hx.mono λa b hx=>⟨s1,hx,h2⟩)
omit eE in
theorem cB.out{body:Nat->Nat->S->Option (PX×S)}{keep:Option (List Nat×List Nat)}{s0:S}{x:PX×S}(hr:Ev λa b=>ui (body a b) keep s0 x)(he:x.1≠ .normal):cB body keep s0 x:=by
 obtain⟨N,hr⟩:=hr;refine⟨N+1,λa b k ha hb hk s hs=> ?_⟩;obtain⟨e,s2⟩:=x;have h:=hr a b (by omega) (by omega);obtain⟨k,rfl⟩: ∃k',k=k'+1:=⟨k-1,by omega⟩
 cases e with
 |normal=>exact absurd rfl he
 |exit id=>obtain⟨s1,h1,h2⟩:=h;simp only[] at h1 h2;simp only[eK,hs,h1,h2]
 |ret=>obtain⟨s1,h1,h2⟩:=h;simp only[] at h1 h2;simp only[eK,hs,h1,h2]
omit eE in
theorem cB.on{body:Nat->Nat->S->Option (PX×S)}{keep:Option (List Nat×List Nat)}{s0 s2:S}{x:PX×S}(hr:Ev λa b=>ui (body a b) keep s0 (.normal,s2))(h2:cB body keep s2 x):cB body keep s0 x:=by
 obtain⟨N,hr⟩:=hr;obtain⟨M,h2⟩:=h2;refine⟨max N M+1,λa b k ha hb hk s hs=> ?_⟩;obtain⟨s1,h1,h3⟩:=hr a b (by omega) (by omega);obtain⟨k,rfl⟩: ∃k',k=k'+1:=⟨k-1,by omega⟩
 simp only[] at h1 h3;simp only[eK,hs,h1];exact h2 a b k (by omega) (by omega) (by omega) s1 h3
omit eE in
theorem cB.ev{body:Nat->Nat->S->Option (PX×S)}{keep:Option (List Nat×List Nat)}{s s0:S}{x:PX×S}(hs:cw keep s=some s0)(h:cB body keep s0 x):Ev λa b=>eK (body a b) keep a s=some x:=by obtain⟨N,h⟩:=h;exact⟨N,λa b ha hb=>h a b a ha hb ha s hs⟩
omit eE in
theorem sF{iM:S->K (PX×S)}{body:Nat->Nat->S->Option (PX×S)}(hb: ∀s,KW (iM s) (λx=>Ev λa b=>body a b s=some x)){keep:Option (List Nat×List Nat)}: ∀(k:Nat) (s:S),KW (tq iM keep k s) (λx=> ∃s0,cw keep s=some s0/\cB body keep s0 x)
 |0,s=>KW.fail
 |k+1,s=>by
  unfold tq;refine KW.bind (KW.cb λa h=>h) λs0 h0=>KW.bind (hb s0) λx hx=> ?_;obtain⟨e,s1⟩:=x;cases e with
  |normal=>exact(sF hb k s1).mono λy ⟨s2,g1,g2⟩=>⟨s0,h0,cB.on (hx.mono λa b hx=>⟨s1,hx,g1⟩) g2⟩
  |exit id=>exact KW.bind (KW.cb λa h=>h) λs2 h2=>KW.ret ⟨s0,h0,cB.out (hx.mono λa b hx=>⟨s1,hx,h2⟩) (by simp)⟩
  |ret=>exact KW.bind (KW.cb λa h=>h) λs2 h2=>KW.ret ⟨s0,h0,cB.out (hx.mono λa b hx=>⟨s1,hx,h2⟩) (by simp)⟩
def aw:Code->List Code
 | .seq a b=>aw a++aw b
 | .cond _ a b=>aw a++aw b
 | .block _ c | .scope c=>aw c
 | .loop c=>c::aw c
 |_=>[]
variable{kp:Nat->Option (List Nat×List Nat)}{hk:List (Nat×(S->K (PX×S)))}{dc:Nat->Nat}{lf:Nat}
def ya(Q:Program)(cf:Nat->Nat->CF)(kp:Nat->Option (List Nat×List Nat))(c:Code)(h:S->K (PX×S)):Prop:=
 ∀s,KW (h s) (λx=>Ev λa b=>eK (aT Q (cf a b) kp a c) (kp (Code.lz c)) a s=some x)
theorem dC: ∀(c:Code),bB dc c=true->(∀d∈aw c,∀h,lk hk (Code.lz d)=some h->ya Q cf kp d h)-> ∀(s:S),KW (dn Q kf kp hk dc lf c s) (λx=>Ev λa b=>aT Q (cf a b) kp a c s=some x)
 | .skip,_,_,s=>KW.ret (Ev.const rfl)
 | .label _,_,_,s=>KW.ret (Ev.const rfl)
 | .region id ops draw,hl,_,s=>by
  unfold dn;refine KW.bind (p:=λs1=>Ev λa b=>(if draw then fu Q (cf a b) ops.toList s else cj Q (cf a b) ops.toList ops.toList s)=some s1) ?_ λs1 h1=>KW.ret (h1.mono λa b h1=> ?_)
  ·grind [qq,Nat.eq_of_beq_eq_true,bB,jv,fT.nil]
  simp only[aT,h1]
 | .seq x y,hl,hh,s=>by
  unfold dn;refine KW.bind (dC x (zad _ _▸hl:_/\_).1 (λd hd=>hh d (by simp[aw,hd])) s) λz hz=> ?_;obtain⟨e,s1⟩:=z;cases e with
  |normal=>exact(dC y (zad _ _▸hl:_/\_).2 (λd hd=>hh d (by simp[aw,hd])) s1).mono λu hu=>hz.CP hu λa b hz hu=>by grind [aT]
  |exit id=>exact KW.ret (hz.mono λa b hz=>by simp only[aT,hz])
  |ret=>exact KW.ret (hz.mono λa b hz=>by simp only[aT,hz])
 | .cond c x y,hl,hh,s=>by
  unfold dn;split
  next b hb=>
   refine KW.bind (KW.dec (p:=λr=>b=r) rfl) λr hr=> ?_;subst hr;cases b with
   |true=>exact(dC x (zad _ _▸hl:_/\_).1 (λd hd=>hh d (by simp[aw,hd])) s).mono λz hz=>hz.mono λa b hz=>by grind [aT]
   |false=>exact(dC y (zad _ _▸hl:_/\_).2 (λd hd=>hh d (by simp[aw,hd])) s).mono λz hz=>hz.mono λa b hz=>by grind [aT]
  exact KW.fail
 | .block id c,hl,hh,s=>by
  unfold dn;refine KW.bind (dC c hl (λd hd=>hh d (by simpa [aw] using hd)) s) λx hx=> ?_;obtain⟨e,s1⟩:=x;cases e with
  |normal=>exact KW.ret (hx.mono λa b hx=>by simp only[aT,hx])
  |exit kl=>
   simp only[];split
   next h=>exact KW.ret (hx.mono λa b hx=>by grind [aT])
   grind [KW.ret,aT]
  |ret=>grind [KW.ret,aT]
 | .loop c,hl,hh,s=>by
  unfold dn;split
  next h EY=>exact(hh c (by simp[aw]) h EY s).mono λx hx=>hx.mono λa b hx=>by grind [aT]
  exact(sF (body:=λa b=>aT Q (cf a b) kp a c) (λs=>dC c hl (λd hd=>hh d (by simp[aw,hd])) s) lf s).mono λx ⟨s0,g1,g2⟩=>(g2.ev g1).mono λa b hx=>by grind [aT]
 | .scope c,hl,hh,s=>by unfold dn;exact(dC c hl (λd hd=>hh d (by simpa [aw] using hd)) s).mono λx hx=>hx.mono λa b hx=>by grind [aT]
 | .exit id,_,_,s=>KW.ret (Ev.const rfl)
 | .ret,_,_,s=>KW.ret (Ev.const rfl)
 | .rangeFunc _ _ _ _,_,_,s=>KW.fail
 | .goto _,_,_,s=>KW.fail
 | .refuse _,_,_,s=>KW.fail
end
section
variable{Q:Program}{kp:tf}{dc:FuncId->Nat->Nat}{lf:Nat}
theorem wb{kf:KF}{hk:List (Nat×(S->K (PX×S)))}(yb: ∀f fn c,Q.funcs[f]?=some fn->fn.body=some c->bB (dc f) c=true)(eE:oN kf (dh Q kp))(f:FuncId)
  (hh: ∀fn c,Q.funcs[f]?=some fn->fn.body=some c-> ∀d∈aw c,∀h,lk hk (Code.lz d)=some h->ya Q (dh Q kp) (kp f) d h)
  (ps:List P) (R:List (Nat×En)):KW (iM Q kf kp hk dc lf f ps R) (λx=>Ev λa b=>dh Q kp a b f ps R=some x):=by
 unfold iM;split
 ·exact KW.fail
 rename_i fn fg;split
 ·exact KW.fail
 rename_i KJ;split
 ·exact KW.fail
 rename_i c hc;split
 ·exact KW.fail
 rename_i iY;refine KW.bind (dC eE c (yb f fn c fg hc) (hh fn c fg hc) _) λx hx=> ?_;split
 ·exact KW.fail
 rename_i b9;split
 next qs hq=>
  unfold tu;refine KW.cb λy hy=> ?_;obtain⟨N,hx⟩:=hx;refine⟨N+1,λa b ha hb=> ?_⟩;obtain⟨b,rfl⟩: ∃b',b=b'+1:=⟨b-1,by omega⟩
  grind [dh]
 exact KW.fail
def zb(Q:Program)(kp:tf)(H:List (FuncId×cR)):Prop:=
 ∀f h,lk H f=some h-> ∀ps R,KW (h ps R) (λx=>Ev λa b=>dh Q kp a b f ps R=some x)
theorem zb.nil:zb Q kp []:=λf h hh=>by simp[lk] at hh
theorem o6{H:List (FuncId×cR)}(yb: ∀f fn c,Q.funcs[f]?=some fn->fn.body=some c->bB (dc f) c=true)(hH:zb Q kp H): ∀(k:Nat),oN (runK Q kp dc H lf k) (dh Q kp)
 |0=>λf ps R=>by
  unfold runK;split
  next h hh=>exact hH f h hh ps R
  exact KW.fail
 |k+1=>λf ps R=>by
  unfold runK;split
  next h hh=>exact hH f h hh ps R
  exact wb yb (o6 yb hH k) f (λfn c _ _ d _ h hh=>by simp[lk] at hh) ps R
theorem sG: ∀(l:List Func) (i0:Nat),iB dc i0 l=true-> ∀i fn c,l[i]?=some fn->fn.body=some c->bB (dc (i0+i)) c=true
 | [],_,_,i,fn,c,h,_=>by simp at h
 |f::r,i0,h,i,fn,c,hf,hc=>by
  simp only[iB,zad] at h;cases i with
  |zero=>grind
  |succ i=>have:=sG r (i0+1) h.2 i fn c (by grind) hc;rwa [show i0+1+i=i0+(i+1) by omega] at this
theorem gu(h:iB dc 0 Q.funcs.toList=true)(f:FuncId)(fn:Func)(c:Code)(hf:Q.funcs[f]?=some fn)(hc:fn.body=some c):bB (dc f) c=true:=by have:=sG Q.funcs.toList 0 h f fn c (by grind) hc;rwa [zbK] at this
def fH(id:Nat):List Code->Option Code
 | []=>none
 |c::r=>if Nat.beq (Code.lz c) id then some c else fH id r
def bz(Q:Program)(f:FuncId)(id:Nat):Code:=
 match Q.funcs[f]? with
 |some fn=>(match fn.body with |some c=>(fH id (aw c)).getD .skip |none=> .skip)
 |none=> .skip
def uniq(Q:Program)(f:FuncId):Bool:=
 match Q.funcs[f]? with
 |some fn=>(match fn.body with |some c=>cD ((aw c).map Code.lz)|none=>true)
 |none=>true
theorem im{d:Code}: ∀(l:List Code),(l.map Code.lz).Nodup->d∈l->fH (Code.lz d) l=some d
 | [],_,h=>by simp at h
 |c::r,hn,h=>by
  simp only[zaO,zax] at hn;simp only[fH];rcases zan.1 h with rfl |h
  ·simp
  split
  ·grind [Nat.eq_of_beq_eq_true]
  exact im r hn.2 h
theorem bO: ∀(b:Code) {c d:Code},c∈aw b->d∈aw c->d∈aw b
 | .seq x y,c,d,hc,hd=>by simp only[aw,zaH] at hc⊢;exact hc.imp (bO x · hd) (bO y · hd)
 | .cond _ x y,c,d,hc,hd=>by simp only[aw,zaH] at hc⊢;exact hc.imp (bO x · hd) (bO y · hd)
 | .block _ x,c,d,hc,hd=>bO x (by grind [aw]) hd
 | .scope x,c,d,hc,hd=>bO x (by grind [aw]) hd
 | .loop x,c,d,hc,hd=>by
  simp only[aw,zan] at hc⊢;rcases hc with rfl |hc
  ·grind
  exact .inr (bO x hc hd)
 | .skip,c,d,hc,_ | .label _,c,d,hc,_ | .region ..,c,d,hc,_ | .exit _,c,d,hc,_ | .ret,c,d,hc,_ | .rangeFunc ..,c,d,hc,_ | .goto _,c,d,hc,_ | .refuse _,c,d,hc,_=>by simp[aw] at hc
theorem mL{id:Nat}{c:Code}: ∀(l:List Code),fH id l=some c->c∈l
 | [],h=>by simp[fH] at h
 |d::r,h=>by
  simp only[fH] at h;split at h
  ·grind
  exact zaB _ (mL r h)
theorem sH{f:FuncId}{id:Nat}{d:Code}(hu:uniq Q f=true)(hd:d∈aw (bz Q f id)):bz Q f (Code.lz d)=d:=by
 unfold bz at hd⊢;unfold uniq at hu;split at hd
 next fn fg=>
  rw[fg] at hu;split at hd
  next c hc=>
   simp only[hc] at hu⊢;cases hf:fH id (aw c) with
   |none=>rw[hf] at hd;simp[aw] at hd
   |some e=>rw[hf] at hd;have:=bO c (mL _ hf) hd;rw[im _ (cS _ hu) this,zbM]
  simp[aw] at hd
 simp[aw] at hd
def CR(Q:Program)(kp:tf)(f:FuncId)(h:cR):Prop:= ∀ps R,KW (h ps R) (λx=>Ev λa b=>dh Q kp a b f ps R=some x)
theorem zb.cons{H:List (FuncId×cR)}{f:FuncId}{h:cR}(hf:CR Q kp f h)(hH:zb Q kp H):zb Q kp ((f,h)::H):=by
 intro f' h' hh ps R;simp only[lk] at hh;split at hh
 next he=>have he:=zab he;subst he;simp only[zaf] at hh;subst hh;exact hf ps R
 exact hH f' h' hh ps R
theorem CR.K2{f:FuncId}{fn:Func}{h:cR}(fg:Q.funcs[f]?=some fn)(hx:eV f kp.xs=true)(hb: ∀ps R ae,h ps R ae-> ∃x,kp.X f ps R=some x/\ae x):CR Q kp f h:=by
 intro ps R ae hp;obtain⟨x,h1,h2⟩:=hb ps R ae hp;refine⟨x,⟨1,λa b _ hb=> ?_⟩,h2⟩;obtain⟨b,rfl⟩: ∃b',b=b'+1:=⟨b-1,by omega⟩
 grind [dh]
theorem CR.mk{H:List (FuncId×cR)}{f:FuncId}{h:cR}{hk:List (Nat×(S->K (PX×S)))}{k:Nat}(yb:iB dc 0 Q.funcs.toList=true)(hH:zb Q kp H)(hu:uniq Q f=true)
  (hl: ∀id g,lk hk id=some g-> ∀s,KW (g s) (λx=>Ev λa b=>eK (aT Q (dh Q kp a b) (kp f) a (bz Q f id)) (kp f id) a s=some x))
  (hb: ∀ps R ae,h ps R ae->iM Q (runK Q kp dc H lf k) kp hk dc lf f ps R ae):CR Q kp f h:=by
 intro ps R ae hp;refine wb (gu yb) (o6 (gu yb) hH k) f (λfn c fg hc d hd g hg s=> ?_) ps R ae (hb ps R ae hp);have e:bz Q f (Code.lz d)=d:=by grind [uniq,bz,im,cS]
 have:=hl _ g hg s;rwa [e] at this
def roundPost(n:Nat)(I:Nat->S->Prop)(O:PX×S->Prop)(x:PX×S):Prop:=match x.1 with | .normal=> ∃m,m<n/\I m x.2 |_=>O x
theorem EZ{H:List (FuncId×cR)}{c:Code}{hk:List (Nat×(S->K (PX×S)))}{kp1:Nat->Option (List Nat×List Nat)}{N0:Nat->Nat}{k:Nat}{keep:Option (List Nat×List Nat)}(yb:iB dc 0 Q.funcs.toList=true)(hH:zb Q kp H)(hc:bB N0 c=true)
  (hl: ∀d∈aw c,∀h,lk hk (Code.lz d)=some h->ya Q (dh Q kp) kp1 d h)
  {I:Nat->S->Prop} {O:PX×S->Prop}
  (hr: ∀n s,I n s->pr (dn Q (runK Q kp dc H lf k) kp1 hk N0 lf c) keep s (roundPost n I O)):
  ∀n s,I n s-> ∃x,O x/\cB (λa b=>aT Q (dh Q kp a b) kp1 a c) keep s x:=by
 intro n
 induction n using Nat.strongRecOn with
 |_ n ih=>
  intro s hs;obtain⟨x,h1,h2⟩:=Az (body:=λa b=>aT Q (dh Q kp a b) kp1 a c) (dC (o6 (gu yb) hH k) c hc hl s) _ (hr n s hs);obtain⟨e,s2⟩:=x;cases e with
  |normal=>obtain⟨m,hm,hi⟩:=h2;grind [cB.on]
  |exit id=>exact⟨_,h2,cB.out h1 (by simp)⟩
  |ret=>exact⟨_,h2,cB.out h1 (by simp)⟩
end
end Pi
