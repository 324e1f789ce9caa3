/- The text PiKOk4. -/
import Derived.Test.YtfelfooeclnbiaaGreatDoorPiDrawOk2
namespace Pi
open Go
section
variable{Q:Program}{s:S}
theorem MD{t:TypeId}{p q:P}:KW (HW Q s t p q) (λs1=>gw Q s t p q=some s1):=by
 unfold HW;split
 next n v i k' off=>
  split
  ·exact KW.fail
  rename_i k hk;split
  next s1 x hf=>
   split
   ·rename_i ty es ho;split
    ·rename_i k2 u7;split
     next hc=>refine KW.bind (p:=λ_=>i<es.length) (KW.jF λhb=>by grind) λ_ hi=> ?_;refine KW.bind (nz Q ty _) λy hy=>KW.ret ?_;grind [gw,xj]
     exact KW.fail
    exact KW.fail
   exact KW.fail
  exact KW.fail
 grind [KW.dR]
theorem Iw{dst:Option Nat}{t t2:TypeId}{p q:P}:KW (B5 Q s dst t t2 p q) (λs1=>iU Q s dst t t2 p q=some s1):=by
 unfold B5;split
 ·exact KW.fail
 rename_i e he;split
 next i k hi hk=>
  split
  next ys z hy hz=>
   split
   ·rename_i hb;split
    ·rename_i n v len;split
     ·rename_i en mC;split
      ·rename_i ty es ho;split
       next hc=>refine KW.bind (p:=λ_=>(Nat.ble len es.length&&aJ (len+ys.length) i.bytes)=true) (KW.jF λhb=>hb) λ_ hl=> ?_;grind [KW.dR,aJ,iU]
       exact KW.fail
      exact KW.fail
     exact KW.fail
    ·refine KW.bind (p:=λ_=>aJ ys.length i.bytes=true) (KW.jF λhb=>hb) λ_ hl=> ?_;grind [KW.dR,iU,KW.fail]
    exact KW.fail
   exact KW.fail
  exact KW.fail
 exact KW.fail
theorem Qg{dst:Option Nat}{t:TypeId}{p q:P}:KW (Pb Q s dst t p q) (λs1=>sg Q s dst t p q=some s1):=by
 unfold Pb;split
 next e k1 l k2 c h1=>
  split
  next i k z h2 h3 h4=>
   split
   ·rename_i hz;refine KW.bind (p:=λ_=>decide (0<=l/\l<=c/\c<=9223372036854775807/\(i.bytes:Int)*c<=281474976710656)=true) (KW.jF λhb=>hb) λ_ hb=> ?_;split
    ·simp_all [KW.dR,sg]
    exact KW.fail
   exact KW.fail
  exact KW.fail
 exact KW.fail
theorem ME{dst:Option Nat}{t:TypeId}{p:P}:KW (HX Q s dst t p) (λs1=>nr Q s dst t p=some s1):=by
 unfold HX;split
 next e n v k off len h1=>
  split
  next k2 z ty es h2 h3 h4=>
   split
   next hc=>refine KW.bind (p:=λ_=>off+len<=es.length) (KW.jF λhb=>by grind) λ_ hb=>KW.dR λs1 h=> ?_;simp_all [nr,zbw]
   exact KW.fail
  exact KW.fail
 exact KW.fail
theorem Qh{dst:Option Nat}{t t2:TypeId}{p q:P}:KW (Pc Q s dst t t2 p q) (λs1=>sj Q s dst t t2 p q=some s1):=by
 unfold Pc;split
 next e n v len h1=>
  split
  next k h2=>
   split
   ·rename_i ys ty es h3 h4;split
    next ht=>refine KW.bind (p:=λ_=>decide (len<=es.length/\ys.length<=len)=true) (KW.jF λhb=>hb) λ_ hb=>KW.dR λs2 hs=> ?_;simp_all [sj]
    exact KW.fail
   exact KW.fail
  exact KW.fail
 exact KW.fail
theorem A3: ∀(ys:List D),eQ ys=true->jD ys=some (bytesOf ys)
 | [],_=>rfl
 |x::r,h=>by
  unfold eQ at h;split at h
  ·grind
  next n r' heq=>obtain⟨rfl,rfl⟩:=heq;simp only[jD,A3 _ h];rfl
  cases h
theorem MF{o:Oper}{g:Option (Nat×Bool)}:KW (HY Q s o g) (λs1=>jg Q s o g=some s1):=by
 unfold HY;split
 ·simp[KW.dR]
 rename_i Vp;split
 next he=>
  have hex:pv Q s o g=none-> ∀s1,ef Q s o g=some s1->jg Q s o g=some s1:=λhp s1 h=>by grind [jg]
  unfold qff at he;unfold efK;split
  ·grind [pv,KW.bind,MD,KW.dR,ef]
  next t1 t2 x ho=>
   split
   ·rename_i e h1 h2;split
    ·rename_i ys hu hs;split
     ·rename_i Mj;have hp:pv Q s o g=none:=by
       have:(s.eg g x).cp=none:=by
        cases hx:s.eg g x with
        |sl n v len=>rfl
        |lu n v k off len=>rfl
        |d y=>rw[hx] at Mj;cases y<;>first |rfl | (simp[P.isRow] at Mj)
        |_=>rw[hx] at Mj;simp[P.isRow] at Mj
       grind [pv]
      refine KW.bind (p:=λ_=>eQ ys=true) (KW.jF λhb=>hb) λ_ hb=>KW.dR λs2 h3=>hex hp _ ?_;grind [ef,A3]
     exact KW.fail
    exact KW.fail
   grind
  next c ho=>
   split
   ·rename_i hc;have hp:pv Q s o g=none:=by grind [pv]
    split
    next x y t t2 h1 h2=>refine Iw.mono λs1 h=>hex hp _ ?_;unfold ef;simp only[ho,hc,h1,h2];exact h
    exact KW.fail
   ·rename_i hc;have hp:pv Q s o g=none:=by unfold pv;simp only[ho,hc]
    split
    next x y t t2 h1 h2=>refine Qh.mono λs1 h=>hex hp _ ?_;unfold ef;simp only[ho,hc,h1,h2];exact h
    exact KW.fail
   ·rename_i hc;have hp:pv Q s o g=none:=by unfold pv;simp only[ho,hc]
    split
    next x t h1 h2=>refine ME.mono λs1 h=>hex hp _ ?_;unfold ef;simp only[ho,hc,h1,h2];exact h
    exact KW.fail
   grind
  next t x y ho=>
   have hp:pv Q s o g=none:=by unfold pv;rw[ho]
   refine Qg.mono λs1 h=>hex hp _ ?_;grind [ef]
  grind [pv,KW.dR]
 grind [KW.bind,qbN,KW.dR,jg]
theorem Qi{o:Oper}{g:Option (Nat×Bool)}:KW (Pd Q s o g) (λs1=>exec Q s o g=some s1):=by
 unfold Pd;cases hm:re o with
 |some r=>grind [KW.dR,exec]
 |none=>refine MF.mono λs1 h=> ?_;grind [exec]
end
def Ev(p:Nat->Nat->Prop):Prop:= ∃N,∀a b,N<=a->N<=b->p a b
theorem Ev.const{p:Prop}(h:p):Ev λ_ _=>p:=⟨0,λ_ _ _ _=>h⟩
theorem Ev.mono{p q:Nat->Nat->Prop}(h:Ev p)(Pu: ∀a b,p a b->q a b):Ev q:=by obtain⟨N,h⟩:=h;exact⟨N,λa b ha hb=>Pu a b (h a b ha hb)⟩
theorem Ev.and{p q:Nat->Nat->Prop}(h:Ev p)(k:Ev q):Ev λa b=>p a b/\q a b:=by obtain⟨N,h⟩:=h;obtain⟨M,k⟩:=k;exact⟨max N M,λa b ha hb=>⟨h a b (by omega) (by omega),k a b (by omega) (by omega)⟩⟩
theorem Ev.Qj{p q r:Nat->Nat->Prop}(h:Ev p)(k:Ev q)(Pu: ∀a b,p a b->q a b->r a b):Ev r:=(h.and k).mono λa b x=>Pu a b x.1 x.2
theorem Ev.some{p:Nat->Nat->Prop}(h:Ev p): ∃a b,p a b:=by obtain⟨N,h⟩:=h;exact⟨N,N,h N N (zai _) (zai _)⟩
def zV(kf:KF)(cf:Nat->Nat->CF):Prop:= ∀f ps R,KW (kf f ps R) (λx=>Ev λa b=>cf a b f ps R=some x)
section
variable{Q:Program}{kf:KF}{cf:Nat->Nat->CF}(iu:zV kf cf)
include iu
theorem Qk{s:S}{dst:Option Nat}{f:P}{args:List P}:KW (qH Q kf s dst f args) (λs1=>Ev λa b=>lX Q (cf a b) s dst f args=some s1):=by
 unfold qH;split
 next kF cF=>
  split
  ·exact KW.fail
  rename_i s1 ps hf;simp only[];split
  next hn=>
   split
   ·exact KW.fail
   rename_i R0 hR0;refine KW.bind (iu _ _ _) λx hx=> ?_;split
   ·rename_i hm;split
    ·exact KW.fail
    rename_i R2 h2;split
    ·exact KW.fail
    rename_i R3 h3;refine KW.dR λs2 h=>hx.mono λa b hx=> ?_;grind [lX]
   exact KW.fail
  exact KW.fail
 exact KW.fail
theorem CH{s:S}{o:Oper}{g:Option (Nat×Bool)}:KW (Pe Q kf s o g) (λs1=>Ev λa b=>ga Q (cf a b) s o g=some s1):=by
 unfold Pe;split
 ·grind [Qk,ga]
 rename_i hc;exact Qi.mono λs1 h=>Ev.const h |>.mono λa b h=>by grind [ga]
omit iu in
theorem xS(t:Nat)(v:P): ∀(m:List (Nat×P)),lk m t=some v->rep t v m=m
 | [],h=>rfl
 | (k,u)::r,h=>by
  simp only[lk] at h;simp only[rep];split
  next hk=>rw[zaq hk] at h;simp only[zak] at h;rw[h]
  rename_i hk;rw[zap hk] at h;rw[xS t v r h]
omit iu in
def jL(kn:List (Nat×Bool))(s:S):Prop:= ∀t r,lk kn t=some r->lk s.tm t=some (.d (.bool r))
omit iu in
theorem uq(d:Nat): ∀(kn:List (Nat×Bool)) (t:Nat) (r:Bool),lk (kn.filter λx=> !Nat.beq x.1 d) t=some r->t≠d/\lk kn t=some r
 | [],t,r,h=>by simp[lk] at h
 | (k,u)::l,t,r,h=>by
  simp only[List.filter_cons] at h;split at h
  next hk=>
   simp only[lk] at h⊢;split
   next ht=>rw[zaq ht] at h;have e:=zah ht;subst e;refine⟨λe=> ?_,h⟩;subst e;simp at hk
   rename_i ht;rw[zap ht] at h;exact uq d l t r h
  rename_i hk;obtain⟨h1,h2⟩:=uq d l t r h;refine⟨h1,?_⟩;simp only[lk];have hk:Nat.beq k d=true:=by simpa using hk
  have e:=zah hk;subst e;have:Nat.beq k t=false:=by
   cases hb:Nat.beq k t with
   |false=>rfl
   |true=>exact absurd (zah hb).symm h1
  rw[this];exact h2
omit iu in
theorem jL.step{cf:CF}{ops:List Oper}{kn:List (Nat×Bool)}{s s1:S}{o:Oper}(h:jL kn s)(hs:bj Q cf ops s o=some s1):jL (B6 o.dst kn) s1:=by
 obtain⟨c,h2,_⟩:=rm (Q:=Q) (cf:=cf) (ops:=ops) (s:=s) (s2:=s) (o:=o) (λ_ _=>rfl) rfl rfl;rw[hs] at h2;cases c with
 |none=>cases h2
 |some x=>
  obtain⟨_,_,_,g4⟩:=gZ (h2.symm:(⟨s.n,s.tm,x.1⟩:S).put o.dst x.2=some s1);intro t r ht;have key:o.dst≠some t/\lk kn t=some r:=by
   unfold B6 at ht;split at ht
   next hd=>rw[hd];exact⟨by simp,ht⟩
   rename_i d hd;obtain⟨k1,k2⟩:=uq _ _ _ _ ht;rw[hd];exact⟨λe=>k1 (by simpa using e.symm),k2⟩
  have hv:=h t r key.2;rw[g4 t key.1];exact hv
omit iu in
theorem CI{ops:List Oper}{o:Oper}(s:S):KW (Pf ops o s) (λs1=>s=s1):=by
 unfold Pf;split
 ·split
  next d hd=>
   split
   next k z hz=>intro ae hp;have:=hp z rfl;rw[xS d _ _ hz] at this;exact⟨s,rfl,this⟩
   exact KW.ret rfl
  exact KW.ret rfl
 exact KW.ret rfl
theorem sN{ops:List Oper}{kn:List (Nat×Bool)}{s:S}{o:Oper}(dy:jL kn s):KW (Aw Q kf ops kn s o) (λx=>(Ev λa b=>bj Q (cf a b) ops s o=some x.1)/\jL x.2 x.1):=by
 have go: ∀{kn:List (Nat×Bool)},jL kn s-> ∀s1,(Ev λa b=>bj Q (cf a b) ops s o=some s1)->((Ev λa b=>bj Q (cf a b) ops s o=some s1)/\jL (B6 o.dst kn) s1):=λdy s1 h=>⟨h,by obtain⟨a,b,h⟩:=h.some;exact dy.step h⟩
 unfold Aw;split
 ·exact KW.fail
 next hg=>exact KW.bind (CH iu) λs1 h=>KW.bind (CI s1) λs2 h2=>by grind [KW.ret,bj]
 rename_i t want hg;split
 next r hr=>
  have hb:=dy t r hr;split
  next hw=>exact KW.bind (CH iu) λs1 h=>KW.bind (CI s1) λs2 h2=>by grind [KW.ret,bj]
  rename_i hw;exact KW.bind (KW.dR (p:=λs1=>s.put o.dst .skip=some s1) λa h=>h) λs1 h=>KW.ret (go dy s1 ⟨0,λa b _ _=>by grind [bj]⟩)
 split
 next b hb=>
  refine KW.bind (KW.dec (p:=λr=>b=r) rfl) λr hr=> ?_;subst hr;have e:(⟨s.n,rep t (.d (.bool b)) s.tm,s.rg⟩:S)=s:=by rw[xS t _ _ hb]
  rw[e];have qhO:jL ((t,b)::kn) s:=by
   intro t' r' h';simp only[lk] at h';split at h'
   ·simp_all
   exact dy t' r' h'
  split
  next hw=>exact KW.bind (CH iu) λs1 h=>KW.bind (CI s1) λs2 h2=>by grind [KW.ret,bj]
  rename_i hw;exact KW.bind (KW.dR (p:=λs1=>s.put o.dst .skip=some s1) λa h=>h) λs1 h=>KW.ret (go qhO s1 ⟨0,λa b _ _=>by grind [bj]⟩)
 next t' b' q hb=>exact KW.bind (KW.dR (p:=λs1=>s.put o.dst .skip=some s1) λa h=>h) λs1 h=>KW.ret (go dy s1 ⟨0,λa b _ _=>by grind [bj]⟩)
 exact KW.fail
omit iu in
theorem jL.nil(s:S):jL [] s:=λt r h=>by simp[lk] at h
theorem nG{ops:List Oper}: ∀(l:List Oper) (kn:List (Nat×Bool)) (s:S),jL kn s->KW (lF Q kf ops l kn s) (λs1=>Ev λa b=>de Q (cf a b) ops l s=some s1)
 | [],_,s,_=>KW.ret (Ev.const rfl)
 |o::r,kn,s,dy=>by unfold lF;refine KW.bind (sN iu dy) λx hx=> ?_;rw[S.force_eq];refine(nG r x.2 x.1 hx.2).mono λs2 h2=>hx.1.Qj h2 λa b hx h2=> ?_;grind [de]
theorem ru{ops:List Oper}: ∀(l:List Oper) (kn:List (Nat×Bool)) (s:S),jL kn s->KW (nu Q kf ops l kn s) (λx=>Ev λa b=>pc Q (cf a b) ops l s=some x)
 | [],_,s,_=>KW.ret (Ev.const rfl)
 |o::r,kn,s,dy=>by unfold nu;refine KW.bind (sN iu dy) λx hx=> ?_;rw[S.force_eq];refine KW.bind (ru r x.2 x.1 hx.2) λy hy=>KW.ret (hx.1.Qj hy λa b hx hy=> ?_);grind [pc]
theorem xT{ops:List Oper}{s:S}(hc:cZ ops=1):KW (λae=>K.bind (nu Q kf ops ops [] s) (λx=>λae=>pb 0 (masks ops []) x.2 (ae x.1)) ae) (λs1=>Ev λa b=>jh Q (cf a b) ops s=some s1):=by
 refine KW.bind (ru iu ops [] _ (jL.nil _)) λx hx ae hp=>⟨x.1,hx.mono λa b hx=> ?_,xP _ _ _ hp⟩
 have h:pb 0 (masks ops []) x.2 True:=pI _ _ _ _ (λ_=>trivial) hp;grind [jh]
theorem xU{ops:List Oper}{s:S}(hc:cZ ops=2):KW (lF Q kf ops ops [] s) (λs1=>Ev λa b=>jh Q (cf a b) ops s=some s1):=
 (nG iu ops [] _ (jL.nil _)).mono λs1 h=>h.mono λa b h=>by grind [jh]
theorem xV{ops:List Oper}{cls:Nat}(Co:kI ops=cls){s:S}:KW (El Q kf ops cls s) (λs1=>Ev λa b=>iY Q (cf a b) ops s=some s1):=by
 have plain: ∀k,kI ops=k->1<=k->k<=3->cZ ops=k:=by grind [kI]
 have marked: ∀k,k<=1->kI ops=k+4->cZ ops=0/\cZ (cP ops)=k+1:=by grind [kI,cZ]
 subst Co;unfold El;split
 ·exact KW.fail
 ·grind [xT,iY]
 next hc=>have h1:=marked 0 (by omega) hc;grind [xT,iY]
 ·grind [xU,iY]
 next hc=>have h1:=marked 1 (by omega) hc;grind [xU,iY]
 next hc=>
  have late:cZ ops=0/\cZ (cP ops)=0/\ ∀m t d,B0 ops=some (m,t,d)->B1 ops m=true:=by grind [kI,cZ,cP]
  split
  next m t d hl=>
   split
   ·rename_i Hm htm;refine KW.bind (ru iu ops [] _ (jL.nil _)) λx hx ae hp=>⟨x.1,hx.mono λa b hx=> ?_,xP _ _ _ hp⟩
    have h:pb m (masks ops []) x.2 True:=pI _ _ _ _ (λ_=>trivial) hp;unfold iY;simp only[late.1,late.2.1];unfold sq;simp only[hl,hx];rw[zaq ⟨late.2.2 m t d hl,Hm,htm⟩,zaq h]
   exact KW.fail
  exact KW.fail
 exact KW.fail
def dF(body:Nat->Nat->S->Option (PX×S))(keep:Option (List Nat×List Nat))(s0:S)(x:PX×S):Prop:=
 ∃N,∀a b k,N<=a->N<=b->N<=k-> ∀s,cH keep s=some s0->im (body a b) keep k s=some x
def CJ(body:S->Option (PX×S))(keep:Option (List Nat×List Nat))(s:S)(x:PX×S):Prop:=
 match x.1 with
 | .normal=> ∃s1,body s=some (.normal,s1)/\cH keep s1=some x.2
 |e=> ∃s1,body s=some (e,s1)/\eE keep s1=some x.2
omit iu in
theorem MG{my:S->K (PX×S)}{body:Nat->Nat->S->Option (PX×S)}{s:S}(hb:KW (my s) (λx=>Ev λa b=>body a b s=some x)){keep:Option (List Nat×List Nat)}:KW (w8 my keep s) (λx=>Ev λa b=>CJ (body a b) keep s x):=by
 unfold w8;refine KW.bind hb λx hx=> ?_;obtain⟨e,s1⟩:=x;cases e with
 |normal=>exact KW.bind (KW.dR λa h=>h) λs2 h2=>KW.ret (hx.mono λa b hx=>⟨s1,hx,h2⟩)
 |exit id=>exact KW.bind (KW.dR λa h=>h) λs2 h2=>KW.ret (hx.mono λa b hx=>⟨s1,hx,h2⟩)
 |ret=>exact KW.bind (KW.dR λa h=>h) λs2 h2=>KW.ret (hx.mono λa b hx=>⟨s1,hx,h2⟩)
omit iu in
theorem dF.out{body:Nat->Nat->S->Option (PX×S)}{keep:Option (List Nat×List Nat)}{s0:S}{x:PX×S}(hr:Ev λa b=>CJ (body a b) keep s0 x)(he:x.1≠ .normal):dF body keep s0 x:=by
 obtain⟨N,hr⟩:=hr;refine⟨N+1,λa b k ha hb hk s hs=> ?_⟩;obtain⟨e,s2⟩:=x;have h:=hr a b (by omega) (by omega);obtain⟨k,rfl⟩: ∃k',k=k'+1:=⟨k-1,by omega⟩
 cases e with
 |normal=>exact absurd rfl he
 |exit id=>obtain⟨s1,h1,h2⟩:=h;simp only[] at h1 h2;simp only[im,hs,h1,h2]
 |ret=>obtain⟨s1,h1,h2⟩:=h;simp only[] at h1 h2;simp only[im,hs,h1,h2]
omit iu in
theorem dF.on{body:Nat->Nat->S->Option (PX×S)}{keep:Option (List Nat×List Nat)}{s0 s2:S}{x:PX×S}(hr:Ev λa b=>CJ (body a b) keep s0 (.normal,s2))(h2:dF body keep s2 x):dF body keep s0 x:=by
 obtain⟨N,hr⟩:=hr;obtain⟨M,h2⟩:=h2;refine⟨max N M+1,λa b k ha hb hk s hs=> ?_⟩;obtain⟨s1,h1,h3⟩:=hr a b (by omega) (by omega);obtain⟨k,rfl⟩: ∃k',k=k'+1:=⟨k-1,by omega⟩
 simp only[] at h1 h3;simp only[im,hs,h1];exact h2 a b k (by omega) (by omega) (by omega) s1 h3
omit iu in
theorem dF.ev{body:Nat->Nat->S->Option (PX×S)}{keep:Option (List Nat×List Nat)}{s s0:S}{x:PX×S}(hs:cH keep s=some s0)(h:dF body keep s0 x):Ev λa b=>im (body a b) keep a s=some x:=by obtain⟨N,h⟩:=h;exact⟨N,λa b ha hb=>h a b a ha hb ha s hs⟩
omit iu in
theorem A4{my:S->K (PX×S)}{body:Nat->Nat->S->Option (PX×S)}(hb: ∀s,KW (my s) (λx=>Ev λa b=>body a b s=some x)){keep:Option (List Nat×List Nat)}: ∀(k:Nat) (s:S),KW (B7 my keep k s) (λx=> ∃s0,cH keep s=some s0/\dF body keep s0 x)
 |0,s=>KW.fail
 |k+1,s=>by
  unfold B7;refine KW.bind (KW.dR λa h=>h) λs0 h0=>KW.bind (hb s0) λx hx=> ?_;obtain⟨e,s1⟩:=x;cases e with
  |normal=>exact(A4 hb k s1).mono λy ⟨s2,g1,g2⟩=>⟨s0,h0,dF.on (hx.mono λa b hx=>⟨s1,hx,g1⟩) g2⟩
  |exit id=>exact KW.bind (KW.dR λa h=>h) λs2 h2=>KW.ret ⟨s0,h0,dF.out (hx.mono λa b hx=>⟨s1,hx,h2⟩) (by simp)⟩
  |ret=>exact KW.bind (KW.dR λa h=>h) λs2 h2=>KW.ret ⟨s0,h0,dF.out (hx.mono λa b hx=>⟨s1,hx,h2⟩) (by simp)⟩
def aM:Code->List Code
 | .seq a b=>aM a++aM b
 | .cond _ a b=>aM a++aM b
 | .block _ c | .scope c=>aM c
 | .loop c=>c::aM c
 |_=>[]
variable{kp:Nat->Option (List Nat×List Nat)}{hk:List (Nat×(S->K (PX×S)))}{dc:Nat->Nat}{lf:Nat}
def Ix(Q:Program)(cf:Nat->Nat->CF)(kp:Nat->Option (List Nat×List Nat))(c:Code)(h:S->K (PX×S)):Prop:=
 ∀s,KW (h s) (λx=>Ev λa b=>im (bJ Q (cf a b) kp a c) (kp (Code.rZ c)) a s=some x)
theorem fK: ∀(c:Code),b8 dc c=true->(∀d∈aM c,∀h,lk hk (Code.rZ d)=some h->Ix Q cf kp d h)-> ∀(s:S),KW (ff Q kf kp hk dc lf c s) (λx=>Ev λa b=>bJ Q (cf a b) kp a c s=some x)
 | .skip,_,_,s=>KW.ret (Ev.const rfl)
 | .label _,_,_,s=>KW.ret (Ev.const rfl)
 | .region id ops draw,hl,_,s=>by
  unfold ff;refine KW.bind (p:=λs1=>Ev λa b=>(if draw then iY Q (cf a b) ops.toList s else de Q (cf a b) ops.toList ops.toList s)=some s1) ?_ λs1 h1=>KW.ret (h1.mono λa b h1=> ?_)
  ·grind [xV,Nat.eq_of_beq_eq_true,b8,nG,jL.nil]
  simp only[bJ,h1]
 | .seq x y,hl,hh,s=>by
  unfold ff;refine KW.bind (fK x (zad _ _▸hl:_/\_).1 (λd hd=>hh d (by simp[aM,hd])) s) λz hz=> ?_;obtain⟨e,s1⟩:=z;cases e with
  |normal=>exact(fK y (zad _ _▸hl:_/\_).2 (λd hd=>hh d (by simp[aM,hd])) s1).mono λu hu=>hz.Qj hu λa b hz hu=>by grind [bJ]
  |exit id=>exact KW.ret (hz.mono λa b hz=>by simp only[bJ,hz])
  |ret=>exact KW.ret (hz.mono λa b hz=>by simp only[bJ,hz])
 | .cond c x y,hl,hh,s=>by
  unfold ff;split
  next b hb=>
   refine KW.bind (KW.dec (p:=λr=>b=r) rfl) λr hr=> ?_;subst hr;cases b with
   |true=>exact(fK x (zad _ _▸hl:_/\_).1 (λd hd=>hh d (by simp[aM,hd])) s).mono λz hz=>hz.mono λa b hz=>by grind [bJ]
   |false=>exact(fK y (zad _ _▸hl:_/\_).2 (λd hd=>hh d (by simp[aM,hd])) s).mono λz hz=>hz.mono λa b hz=>by grind [bJ]
  exact KW.fail
 | .block id c,hl,hh,s=>by
  unfold ff;refine KW.bind (fK c hl (λd hd=>hh d (by simpa [aM] using hd)) s) λx hx=> ?_;obtain⟨e,s1⟩:=x;cases e with
  |normal=>exact KW.ret (hx.mono λa b hx=>by simp only[bJ,hx])
  |exit pd=>
   simp only[];split
   next h=>exact KW.ret (hx.mono λa b hx=>by grind [bJ])
   grind [KW.ret,bJ]
  |ret=>grind [KW.ret,bJ]
 | .loop c,hl,hh,s=>by
  unfold ff;split
  next h Wy=>exact(hh c (by simp[aM]) h Wy s).mono λx hx=>hx.mono λa b hx=>by grind [bJ]
  exact(A4 (body:=λa b=>bJ Q (cf a b) kp a c) (λs=>fK c hl (λd hd=>hh d (by simp[aM,hd])) s) lf s).mono λx ⟨s0,g1,g2⟩=>(g2.ev g1).mono λa b hx=>by grind [bJ]
 | .scope c,hl,hh,s=>by unfold ff;exact(fK c hl (λd hd=>hh d (by simpa [aM] using hd)) s).mono λx hx=>hx.mono λa b hx=>by grind [bJ]
 | .exit id,_,_,s=>KW.ret (Ev.const rfl)
 | .ret,_,_,s=>KW.ret (Ev.const rfl)
 | .rangeFunc _ _ _ _,_,_,s=>KW.fail
 | .goto _,_,_,s=>KW.fail
 | .refuse _,_,_,s=>KW.fail
end
section
variable{Q:Program}{kp:sr}{dc:FuncId->Nat->Nat}{lf:Nat}
theorem E3{kf:KF}{hk:List (Nat×(S->K (PX×S)))}(MH: ∀f fn c,Q.funcs[f]?=some fn->fn.body=some c->b8 (dc f) c=true)(iu:zV kf (fG Q kp))(f:FuncId)
  (hh: ∀fn c,Q.funcs[f]?=some fn->fn.body=some c-> ∀d∈aM c,∀h,lk hk (Code.rZ d)=some h->Ix Q (fG Q kp) (kp f) d h)
  (ps:List P) (R:List (Nat×En)):KW (my Q kf kp hk dc lf f ps R) (λx=>Ev λa b=>fG Q kp a b f ps R=some x):=by
 unfold my;split
 ·exact KW.fail
 rename_i fn gK;split
 ·exact KW.fail
 rename_i V0;split
 ·exact KW.fail
 rename_i c hc;split
 ·exact KW.fail
 rename_i kU;refine KW.bind (fK iu c (MH f fn c gK hc) (hh fn c gK hc) _) λx hx=> ?_;split
 ·exact KW.fail
 rename_i cU;split
 next qs hq=>
  unfold B8;refine KW.dR λy hy=> ?_;obtain⟨N,hx⟩:=hx;refine⟨N+1,λa b ha hb=> ?_⟩;obtain⟨b,rfl⟩: ∃b',b=b'+1:=⟨b-1,by omega⟩
  grind [fG]
 exact KW.fail
def Kv(Q:Program)(kp:sr)(H:List (FuncId×bh)):Prop:=
 ∀f h,lk H f=some h-> ∀ps R,KW (h ps R) (λx=>Ev λa b=>fG Q kp a b f ps R=some x)
theorem Kv.nil:Kv Q kp []:=λf h hh=>by simp[lk] at hh
theorem wK{H:List (FuncId×bh)}(MH: ∀f fn c,Q.funcs[f]?=some fn->fn.body=some c->b8 (dc f) c=true)(hH:Kv Q kp H): ∀(k:Nat),zV (runK Q kp dc H lf k) (fG Q kp)
 |0=>λf ps R=>by
  unfold runK;split
  next h hh=>exact hH f h hh ps R
  exact KW.fail
 |k+1=>λf ps R=>by
  unfold runK;split
  next h hh=>exact hH f h hh ps R
  exact E3 MH (wK MH hH k) f (λfn c _ _ d _ h hh=>by simp[lk] at hh) ps R
theorem A5: ∀(l:List Func) (i0:Nat),nv dc i0 l=true-> ∀i fn c,l[i]?=some fn->fn.body=some c->b8 (dc (i0+i)) c=true
 | [],_,_,i,fn,c,h,_=>by simp at h
 |f::r,i0,h,i,fn,c,hf,hc=>by
  simp only[nv,zad] at h;cases i with
  |zero=>grind
  |succ i=>have:=A5 r (i0+1) h.2 i fn c (by grind) hc;rwa [show i0+1+i=i0+(i+1) by omega] at this
theorem kx(h:nv dc 0 Q.funcs.toList=true)(f:FuncId)(fn:Func)(c:Code)(hf:Q.funcs[f]?=some fn)(hc:fn.body=some c):b8 (dc f) c=true:=by have:=A5 Q.funcs.toList 0 h f fn c (by grind) hc;rwa [zaI] at this
def jm(id:Nat):List Code->Option Code
 | []=>none
 |c::r=>if Nat.beq (Code.rZ c) id then some c else jm id r
def bE(Q:Program)(f:FuncId)(id:Nat):Code:=
 match Q.funcs[f]? with
 |some fn=>(match fn.body with |some c=>(jm id (aM c)).getD .skip |none=> .skip)
 |none=> .skip
def uniq(Q:Program)(f:FuncId):Bool:=
 match Q.funcs[f]? with
 |some fn=>(match fn.body with |some c=>dJ ((aM c).map Code.rZ)|none=>true)
 |none=>true
theorem jn{d:Code}: ∀(l:List Code),(l.map Code.rZ).Nodup->d∈l->jm (Code.rZ d) l=some d
 | [],_,h=>by simp at h
 |c::r,hn,h=>by
  simp only[zaO,za8] at hn;simp only[jm];rcases zas.1 h with rfl |h
  ·simp
  split
  ·grind [Nat.eq_of_beq_eq_true]
  exact jn r hn.2 h
theorem cR: ∀(b:Code) {c d:Code},c∈aM b->d∈aM c->d∈aM b
 | .seq x y,c,d,hc,hd=>by simp only[aM,zaB] at hc⊢;exact hc.imp (cR x · hd) (cR y · hd)
 | .cond _ x y,c,d,hc,hd=>by simp only[aM,zaB] at hc⊢;exact hc.imp (cR x · hd) (cR y · hd)
 | .block _ x,c,d,hc,hd=>cR x (by grind [aM]) hd
 | .scope x,c,d,hc,hd=>cR x (by grind [aM]) hd
 | .loop x,c,d,hc,hd=>by
  simp only[aM,zas] at hc⊢;rcases hc with rfl |hc
  ·grind
  exact .inr (cR x hc hd)
 | .skip,c,d,hc,_ | .label _,c,d,hc,_ | .region ..,c,d,hc,_ | .exit _,c,d,hc,_ | .ret,c,d,hc,_ | .rangeFunc ..,c,d,hc,_ | .goto _,c,d,hc,_ | .refuse _,c,d,hc,_=>by simp[aM] at hc
theorem sO{id:Nat}{c:Code}: ∀(l:List Code),jm id l=some c->c∈l
 | [],h=>by simp[jm] at h
 |d::r,h=>by
  simp only[jm] at h;split at h
  ·grind
  exact zaH _ (sO r h)
theorem A6{f:FuncId}{id:Nat}{d:Code}(hu:uniq Q f=true)(hd:d∈aM (bE Q f id)):bE Q f (Code.rZ d)=d:=by
 unfold bE at hd⊢;unfold uniq at hu;split at hd
 next fn gK=>
  rw[gK] at hu;split at hd
  next c hc=>
   simp only[hc] at hu⊢;cases hf:jm id (aM c) with
   |none=>rw[hf] at hd;simp[aM] at hd
   |some e=>rw[hf] at hd;have:=cR c (sO _ hf) hd;rw[jn _ (dq _ hu) this,zby]
  simp[aM] at hd
 simp[aM] at hd
def Vw(Q:Program)(kp:sr)(f:FuncId)(h:bh):Prop:= ∀ps R,KW (h ps R) (λx=>Ev λa b=>fG Q kp a b f ps R=some x)
theorem Kv.cons{H:List (FuncId×bh)}{f:FuncId}{h:bh}(hf:Vw Q kp f h)(hH:Kv Q kp H):Kv Q kp ((f,h)::H):=by
 intro f' h' hh ps R;simp only[lk] at hh;split at hh
 next he=>have he:=zah he;subst he;simp only[zak] at hh;subst hh;exact hf ps R
 exact hH f' h' hh ps R
theorem Vw.qq{f:FuncId}{fn:Func}{h:bh}(gK:Q.funcs[f]?=some fn)(hx:jE f kp.xs=true)(hb: ∀ps R ae,h ps R ae-> ∃x,kp.X f ps R=some x/\ae x):Vw Q kp f h:=by
 intro ps R ae hp;obtain⟨x,h1,h2⟩:=hb ps R ae hp;refine⟨x,⟨1,λa b _ hb=> ?_⟩,h2⟩;obtain⟨b,rfl⟩: ∃b',b=b'+1:=⟨b-1,by omega⟩
 grind [fG]
theorem Vw.mk{H:List (FuncId×bh)}{f:FuncId}{h:bh}{hk:List (Nat×(S->K (PX×S)))}{k:Nat}(MH:nv dc 0 Q.funcs.toList=true)(hH:Kv Q kp H)(hu:uniq Q f=true)
  (hl: ∀id g,lk hk id=some g-> ∀s,KW (g s) (λx=>Ev λa b=>im (bJ Q (fG Q kp a b) (kp f) a (bE Q f id)) (kp f id) a s=some x))
  (hb: ∀ps R ae,h ps R ae->my Q (runK Q kp dc H lf k) kp hk dc lf f ps R ae):Vw Q kp f h:=by
 intro ps R ae hp;refine E3 (kx MH) (wK (kx MH) hH k) f (λfn c gK hc d hd g hg s=> ?_) ps R ae (hb ps R ae hp);have e:bE Q f (Code.rZ d)=d:=by grind [uniq,bE,jn,dq]
 have:=hl _ g hg s;rwa [e] at this
def roundPost(n:Nat)(I:Nat->S->Prop)(O:PX×S->Prop)(x:PX×S):Prop:=match x.1 with | .normal=> ∃m,m<n/\I m x.2 |_=>O x
theorem Wz{H:List (FuncId×bh)}{c:Code}{hk:List (Nat×(S->K (PX×S)))}{kp1:Nat->Option (List Nat×List Nat)}{dc1:Nat->Nat}{k:Nat}{keep:Option (List Nat×List Nat)}(MH:nv dc 0 Q.funcs.toList=true)(hH:Kv Q kp H)(hc:b8 dc1 c=true)
  (hl: ∀d∈aM c,∀h,lk hk (Code.rZ d)=some h->Ix Q (fG Q kp) kp1 d h)
  {I:Nat->S->Prop} {O:PX×S->Prop}
  (hr: ∀n s,I n s->w8 (ff Q (runK Q kp dc H lf k) kp1 hk dc1 lf c) keep s (roundPost n I O)):
  ∀n s,I n s-> ∃x,O x/\dF (λa b=>bJ Q (fG Q kp a b) kp1 a c) keep s x:=by
 intro n
 induction n using Nat.strongRecOn with
 |_ n ih=>
  intro s hs;obtain⟨x,h1,h2⟩:=MG (body:=λa b=>bJ Q (fG Q kp a b) kp1 a c) (fK (wK (kx MH) hH k) c hc hl s) _ (hr n s hs);obtain⟨e,s2⟩:=x;cases e with
  |normal=>obtain⟨m,hm,hi⟩:=h2;grind [dF.on]
  |exit id=>exact⟨_,h2,dF.out h1 (by simp)⟩
  |ret=>exact⟨_,h2,dF.out h1 (by simp)⟩
end
end Pi
