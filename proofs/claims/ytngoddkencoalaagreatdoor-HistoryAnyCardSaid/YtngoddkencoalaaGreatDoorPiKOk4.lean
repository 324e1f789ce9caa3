/- The text PiKOk4. -/
import Derived.Test.YtngoddkencoalaaGreatDoorPiDrawOk2
namespace Pi
open Go
section
variable {Q:Program} {s:S}
theorem KG {t:TypeId} {p q:P}:KW (F6 Q s t p q) (fun s1=>fX Q s t p q=some s1):=by
 unfold F6
 split
 ·rename_i n v i k' off
  split
  ·exact KW.fail
  ·rename_i k hk
   split
   ·rename_i s1 x hf
    split
    ·rename_i ty es ho
     split
     ·rename_i k2 qX
      split
      ·rename_i hc
       refine KW.bind (p:=fun _=>i<es.length) (KW.jg fun hb=>by simpa using hb) fun _ hi=> ?_
       refine KW.bind (mM Q ty _) fun y hy=>KW.ret ?_
       simp only[fX,hk,hf,ho,wj hi,qX,if_pos hc,hy]
      ·exact KW.fail
     ·exact KW.fail
    ·exact KW.fail
   ·exact KW.fail
 ·exact KW.dH fun a h=>h
theorem GH {dst:Option Nat} {t t2:TypeId} {p q:P}:KW (A5 Q s dst t t2 p q) (fun s1=>iC Q s dst t t2 p q=some s1):=by
 unfold A5
 split
 ·exact KW.fail
 ·rename_i e he
  split
  ·rename_i i k hi hk
   split
   ·rename_i ys z hy hz
    split
    ·rename_i hb
     split
     ·rename_i n v len
      split
      ·rename_i en jC
       split
       ·rename_i ty es ho
        split
        ·rename_i hc
         refine KW.bind (p:=fun _=>(Nat.ble len es.length&&aT (len+ys.length) i.bytes)=true) (KW.jg fun hb=>hb) fun _ hl=> ?_
         refine KW.dH fun s1 h=> ?_
         have hc2:(Nat.beq en.aU v&&Nat.beq ty e&&Nat.ble len es.length&&aT (len+ys.length) i.bytes)=true:=by
          rw[Bool.and_assoc,hl];simpa using hc
         simp only[iC,he,hi,hk,hy,hz,if_pos hb,jC,ho,if_pos hc2]
         exact h
        ·exact KW.fail
       ·exact KW.fail
      ·exact KW.fail
     ·refine KW.bind (p:=fun _=>aT ys.length i.bytes=true) (KW.jg fun hb=>hb) fun _ hl=> ?_
      split
      ·rename_i s2 v hn
       refine KW.dH fun s1 h=> ?_
       simp only[iC,he,hi,hk,hy,hz,if_pos hb,if_pos hl,hn]
       exact h
      ·exact KW.fail
     ·exact KW.fail
    ·exact KW.fail
   ·exact KW.fail
  ·exact KW.fail
theorem N7 {dst:Option Nat} {t:TypeId} {p q:P}:KW (M5 Q s dst t p q) (fun s1=>rT Q s dst t p q=some s1):=by
 unfold M5
 split
 ·rename_i e k1 l k2 c h1
  split
  ·rename_i i k z h2 h3 h4
   split
   ·rename_i hz
    refine KW.bind (p:=fun _=>decide (0<=l/\l<=c/\c<=9223372036854775807/\(i.bytes:Int)*c<=281474976710656)=true) (KW.jg fun hb=>hb) fun _ hb=> ?_
    have hc:(Nat.beq z.cells.length (k+1)&&decide (0<=l/\l<=c/\c<=9223372036854775807/\(i.bytes:Int)*c<=281474976710656))=true:=by rw[hz,hb];rfl
    split
    ·rename_i s1 v hn
     refine KW.dH fun s2 hs=> ?_
     simp only[rT,h1,h2,h3,h4,if_pos hc,hn]
     exact hs
    ·exact KW.fail
   ·exact KW.fail
  ·exact KW.fail
 ·exact KW.fail
theorem KH {dst:Option Nat} {t:TypeId} {p:P}:KW (F7 Q s dst t p) (fun s1=>mG Q s dst t p=some s1):=by
 unfold F7
 split
 ·rename_i e n v k off len h1
  split
  ·rename_i k2 z ty es h2 h3 h4
   split
   ·rename_i hc
    refine KW.bind (p:=fun _=>off+len<=es.length) (KW.jg fun hb=>by simpa using hb) fun _ hb=>KW.dH fun s1 h=> ?_
    simp only[mG,h1,h2,h3,h4]
    rw[if_pos (by rw[hc,decide_eq_true hb];rfl)]
    exact h
   ·exact KW.fail
  ·exact KW.fail
 ·exact KW.fail
theorem N8 {dst:Option Nat} {t t2:TypeId} {p q:P}:KW (M6 Q s dst t t2 p q) (fun s1=>rU Q s dst t t2 p q=some s1):=by
 unfold M6
 split
 ·rename_i e n v len h1
  split
  ·rename_i k h2
   split
   ·rename_i ys ty es h3 h4
    split
    ·rename_i ht
     refine KW.bind (p:=fun _=>decide (len<=es.length/\ys.length<=len)=true) (KW.jg fun hb=>hb) fun _ hb=>KW.dH fun s2 hs=> ?_
     have hc:(Nat.beq ty e&&decide (len<=es.length/\ys.length<=len))=true:=by rw[ht,hb];rfl
     simp only[rU,h1,h2,h3,h4,if_pos hc]
     exact hs
    ·exact KW.fail
   ·exact KW.fail
  ·exact KW.fail
 ·exact KW.fail
theorem z7: ∀(ys:List D),gy ys=true->je ys=some (bytesOf ys)
 | [],_=>rfl
 |x::r,h=>by
  unfold gy at h
  split at h
  ·rename_i heq;cases heq
  ·rename_i n r' heq
   simp only[List.cons.injEq] at heq
   obtain⟨rfl,rfl⟩:=heq
   simp only[je,z7 _ h]
   rfl
  ·cases h
theorem KI {o:Oper} {g:Option (Nat×Bool)}:KW (F8 Q s o g) (fun s1=>iO Q s o g=some s1):=by
 unfold F8
 split
 ·exact KW.dH fun a h=>h
 ·rename_i Mn
  split
  ·rename_i he
   have hex:pv Q s o g=none-> ∀s1,ef Q s o g=some s1->iO Q s o g=some s1:=fun hp s1 h=>by
    unfold iO;simp only[Mn,hp];exact h
   unfold qc8 at he
   unfold efK
   split
   ·rename_i t ad x ho
    have hp:pv Q s o g=none:=by unfold pv;rw[ho]
    refine KW.bind KG fun s1 h1=>KW.dH fun s2 h2=>hex hp _ ?_
    unfold ef
    simp only[ho,h1]
    exact h2
   ·rename_i t1 t2 x ho
    split
    ·rename_i e h1 h2
     split
     ·rename_i ys hu hs
      split
      ·rename_i DE
       have hp:pv Q s o g=none:=by
        have:(s.eg g x).cw=none:=by
         cases hx:s.eg g x with
         |sl n v len=>rfl
         |kT n v k off len=>rfl
         |d y=>rw[hx] at DE;cases y<;>first |rfl | (simp[P.isRow] at DE)
         |_=>rw[hx] at DE;simp[P.isRow] at DE
        unfold pv
        simp only[ho,this]
       refine KW.bind (p:=fun _=>gy ys=true) (KW.jg fun hb=>hb) fun _ hb=>KW.dH fun s2 h3=>hex hp _ ?_
       unfold ef
       simp only[ho,h1,h2,hu,hs,z7 _ hb]
       exact h3
      ·exact KW.fail
     ·exact KW.fail
    ·exact KW.fail
   ·rename_i c ho
    split
    ·rename_i hc
     have hp:pv Q s o g=none:=by unfold pv;simp only[ho,hc]
     split
     ·rename_i x y t t2 h1 h2
      refine GH.mono fun s1 h=>hex hp _ ?_
      unfold ef
      simp only[ho,hc,h1,h2]
      exact h
     ·exact KW.fail
    ·rename_i hc
     have hp:pv Q s o g=none:=by unfold pv;simp only[ho,hc]
     split
     ·rename_i x y t t2 h1 h2
      refine N8.mono fun s1 h=>hex hp _ ?_
      unfold ef
      simp only[ho,hc,h1,h2]
      exact h
     ·exact KW.fail
    ·rename_i hc
     have hp:pv Q s o g=none:=by unfold pv;simp only[ho,hc]
     split
     ·rename_i x t h1 h2
      refine KH.mono fun s1 h=>hex hp _ ?_
      unfold ef
      simp only[ho,hc,h1,h2]
      exact h
     ·exact KW.fail
    ·exact KW.fail
   ·rename_i t x y ho
    have hp:pv Q s o g=none:=by unfold pv;rw[ho]
    refine N7.mono fun s1 h=>hex hp _ ?_
    unfold ef
    simp only[ho]
    exact h
   ·rename_i n1 n2 n3 n4
    have hp:pv Q s o g=none:=by
     split at he
     ·rename_i ho;unfold pv;rw[ho]
     ·rename_i ho;unfold pv;rw[ho]
     ·rename_i ho;exact absurd ho (n1 _ _ _)
     ·rename_i ho;exact absurd ho (n2 _ _ _)
     ·rename_i ho;exact absurd ho (n3 _)
     ·rename_i ho;exact absurd ho (n4 _ _ _)
     ·rename_i ho;unfold pv;rw[ho]
     ·rename_i ho;unfold pv;rw[ho]
     ·rename_i ho;unfold pv;rw[ho]
     ·rename_i ho;unfold pv;rw[ho]
     ·rename_i ho;unfold pv;rw[ho]
     ·rename_i ho;unfold pv;rw[ho]
     ·rename_i ho;unfold pv;rw[ho]
     ·cases he
    exact KW.dH fun a h=>hex hp _ h
  ·refine KW.bind YS fun p hp=>KW.dH fun s1 h=> ?_
   unfold iO
   simp only[Mn,hp]
   exact h
theorem N9 {o:Oper} {g:Option (Nat×Bool)}:KW (M7 Q s o g) (fun s1=>exec Q s o g=some s1):=by
 unfold M7
 cases hm:qS o with
 |some r=>
  obtain⟨t,len,parts⟩:=r
  exact KW.dH fun a h=>by
   unfold exec
   rw[hm]
   exact h
 |none=>
  refine KI.mono fun s1 h=> ?_
  unfold exec
  rw[hm]
  exact h
end
def Ev (p:Nat->Nat->Prop):Prop:= ∃N,∀a b,N<=a->N<=b->p a b
theorem Ev.const {p:Prop} (h:p):Ev fun _ _=>p:=⟨0,fun _ _ _ _=>h⟩
theorem Ev.mono {p q:Nat->Nat->Prop} (h:Ev p) (Ns: ∀a b,p a b->q a b):Ev q:=by
 obtain⟨N,h⟩:=h
 exact⟨N,fun a b ha hb=>Ns a b (h a b ha hb)⟩
theorem Ev.and {p q:Nat->Nat->Prop} (h:Ev p) (k:Ev q):Ev fun a b=>p a b/\q a b:=by
 obtain⟨N,h⟩:=h
 obtain⟨M,k⟩:=k
 exact⟨max N M,fun a b ha hb=>⟨h a b (by omega) (by omega),k a b (by omega) (by omega)⟩⟩
theorem Ev.Oa {p q r:Nat->Nat->Prop} (h:Ev p) (k:Ev q) (Ns: ∀a b,p a b->q a b->r a b):Ev r:=(h.and k).mono fun a b x=>Ns a b x.1 x.2
theorem Ev.some {p:Nat->Nat->Prop} (h:Ev p): ∃a b,p a b:=by
 obtain⟨N,h⟩:=h
 exact⟨N,N,h N N (Nat.le_refl _) (Nat.le_refl _)⟩
def yZ (kf:KF) (cf:Nat->Nat->CF):Prop:= ∀f ps R,KW (kf f ps R) (fun x=>Ev fun a b=>cf a b f ps R=some x)
section
variable {Q:Program} {kf:KF} {cf:Nat->Nat->CF} (fG:yZ kf cf)
include fG
theorem Ob {s:S} {dst:Option Nat} {f:P} {args:List P}:KW (ql Q kf s dst f args) (fun s1=>Ev fun a b=>jW Q (cf a b) s dst f args=some s1):=by
 unfold ql
 split
 ·rename_i ju cy
  split
  ·exact KW.fail
  ·rename_i s1 ps hf
   simp only[]
   split
   ·rename_i hn
    split
    ·exact KW.fail
    ·rename_i R0 hR0
     refine KW.bind (fG _ _ _) fun x hx=> ?_
     split
     ·rename_i hm
      split
      ·exact KW.fail
      ·rename_i R2 h2
       split
       ·exact KW.fail
       ·rename_i R3 h3
        refine KW.dH fun s2 h=>hx.mono fun a b hx=> ?_
        simp only[jW,hf,if_pos hn,hR0,hx,if_pos hm,h2,h3]
        exact h
     ·exact KW.fail
   ·exact KW.fail
 ·exact KW.fail
theorem BL {s:S} {o:Oper} {g:Option (Nat×Bool)}:KW (M8 Q kf s o g) (fun s1=>Ev fun a b=>fH Q (cf a b) s o g=some s1):=by
 unfold M8
 split
 ·rename_i f xs hc
  exact(Ob fG).mono fun s1 h=>h.mono fun a b h=>by unfold fH;simp only[hc];exact h
 ·rename_i hc
  exact N9.mono fun s1 h=>Ev.const h |>.mono fun a b h=>by unfold fH;simp only[hc];exact h
omit fG in
theorem wW (t:Nat) (v:P): ∀(m:List (Nat×P)),lk m t=some v->rep t v m=m
 | [],h=>rfl
 | (k,u)::r,h=>by
  simp only[lk] at h
  simp only[rep]
  split
  ·rename_i hk;rw[if_pos hk] at h;simp only[Option.some.injEq] at h;rw[h]
  ·rename_i hk;rw[if_neg hk] at h;rw[wW t v r h]
omit fG in
def jm (kn:List (Nat×Bool)) (s:S):Prop:= ∀t r,lk kn t=some r->lk s.tm t=some (.d (.bool r))
omit fG in
theorem s7 (d:Nat): ∀(kn:List (Nat×Bool)) (t:Nat) (r:Bool),lk (kn.filter fun x=> !Nat.beq x.1 d) t=some r->t≠d/\lk kn t=some r
 | [],t,r,h=>by simp[lk] at h
 | (k,u)::l,t,r,h=>by
  simp only[List.filter_cons] at h
  split at h
  ·rename_i hk
   simp only[lk] at h⊢
   split
   ·rename_i ht
    rw[if_pos ht] at h
    have e:=Nat.eq_of_beq_eq_true ht
    subst e
    refine⟨fun e=> ?_,h⟩
    subst e
    simp at hk
   ·rename_i ht
    rw[if_neg ht] at h
    exact s7 d l t r h
  ·rename_i hk
   obtain⟨h1,h2⟩:=s7 d l t r h
   refine⟨h1,?_⟩
   simp only[lk]
   have hk:Nat.beq k d=true:=by simpa using hk
   have e:=Nat.eq_of_beq_eq_true hk
   subst e
   have:Nat.beq k t=false:=by
    cases hb:Nat.beq k t with
    |false=>rfl
    |true=>exact absurd (Nat.eq_of_beq_eq_true hb).symm h1
   rw[this]
   exact h2
omit fG in
theorem jm.step {cf:CF} {ops:List Oper} {kn:List (Nat×Bool)} {s s1:S} {o:Oper} (h:jm kn s) (hs:br Q cf ops s o=some s1):jm (A6 o.dst kn) s1:=by
 obtain⟨c,h2,_⟩:=q5 (Q:=Q) (cf:=cf) (ops:=ops) (s:=s) (s2:=s) (o:=o) (fun _ _=>rfl) rfl rfl
 rw[hs] at h2
 cases c with
 |none=>cases h2
 |some x=>
  obtain⟨_,_,_,g4⟩:=gI (h2.symm:(⟨s.n,s.tm,x.1⟩:S).put o.dst x.2=some s1)
  intro t r ht
  have key:o.dst≠some t/\lk kn t=some r:=by
   unfold A6 at ht
   split at ht
   ·rename_i hd;rw[hd];exact⟨by simp,ht⟩
   ·rename_i d hd
    obtain⟨k1,k2⟩:=s7 _ _ _ _ ht
    rw[hd]
    exact⟨fun e=>k1 (by simpa using e.symm),k2⟩
  have hv:=h t r key.2
  rw[g4 t key.1]
  exact hv
omit fG in
theorem BM {ops:List Oper} {o:Oper} (s:S):KW (M9 ops o s) (fun s1=>s=s1):=by
 unfold M9
 split
 ·split
  ·rename_i d hd
   split
   ·rename_i k z hz
    intro post hp
    have:=hp z rfl
    rw[wW d _ _ hz] at this
    exact⟨s,rfl,this⟩
   ·exact KW.ret rfl
  ·exact KW.ret rfl
 ·exact KW.ret rfl
theorem sf {ops:List Oper} {kn:List (Nat×Bool)} {s:S} {o:Oper} (eb:jm kn s):KW (zA Q kf ops kn s o) (fun x=>(Ev fun a b=>br Q (cf a b) ops s o=some x.1)/\jm x.2 x.1):=by
 have go: ∀{kn:List (Nat×Bool)},jm kn s-> ∀s1,(Ev fun a b=>br Q (cf a b) ops s o=some s1)->((Ev fun a b=>br Q (cf a b) ops s o=some s1)/\jm (A6 o.dst kn) s1):=fun eb s1 h=>⟨h,by obtain⟨a,b,h⟩:=h.some;exact eb.step h⟩
 unfold zA
 split
 ·exact KW.fail
 ·rename_i hg
  exact KW.bind (BL fG) fun s1 h=>KW.bind (BM s1) fun s2 h2=>by
   subst h2
   exact KW.ret (go eb s1 (h.mono fun a b h=>by unfold br;simp only[hg];exact h))
 ·rename_i t want hg
  split
  ·rename_i r hr
   have hb:=eb t r hr
   split
   ·rename_i hw
    exact KW.bind (BL fG) fun s1 h=>KW.bind (BM s1) fun s2 h2=>by
     subst h2
     exact KW.ret (go eb s1 (h.mono fun a b h=>by unfold br;simp only[hg,hb,if_pos hw];exact h))
   ·rename_i hw
    exact KW.bind (KW.dH (p:=fun s1=>s.put o.dst .skip=some s1) fun a h=>h) fun s1 h=>KW.ret (go eb s1 ⟨0,fun a b _ _=>by unfold br;simp only[hg,hb,if_neg hw];exact h⟩)
  ·split
   ·rename_i b hb
    refine KW.bind (KW.dec (p:=fun r=>b=r) rfl) fun r hr=> ?_
    subst hr
    have e:(⟨s.n,rep t (.d (.bool b)) s.tm,s.rg⟩:S)=s:=by rw[wW t _ _ hb]
    rw[e]
    have qdn:jm ((t,b)::kn) s:=by
     intro t' r' h'
     simp only[lk] at h'
     split at h'
     ·rename_i ht
      have ht:=Nat.eq_of_beq_eq_true ht
      subst ht
      simp only[Option.some.injEq] at h'
      subst h'
      exact hb
     ·exact eb t' r' h'
    split
    ·rename_i hw
     exact KW.bind (BL fG) fun s1 h=>KW.bind (BM s1) fun s2 h2=>by
      subst h2
      exact KW.ret (go qdn s1 (h.mono fun a b h=>by unfold br;simp only[hg,hb,if_pos hw];exact h))
    ·rename_i hw
     exact KW.bind (KW.dH (p:=fun s1=>s.put o.dst .skip=some s1) fun a h=>h) fun s1 h=>KW.ret (go qdn s1 ⟨0,fun a b _ _=>by unfold br;simp only[hg,hb,if_neg hw];exact h⟩)
   ·rename_i t' b' q hb
    exact KW.bind (KW.dH (p:=fun s1=>s.put o.dst .skip=some s1) fun a h=>h) fun s1 h=>KW.ret (go eb s1 ⟨0,fun a b _ _=>by unfold br;simp only[hg,hb];exact h⟩)
   ·exact KW.fail
omit fG in
theorem jm.nil (s:S):jm [] s:=fun t r h=>by simp[lk] at h
theorem mT {ops:List Oper}: ∀(l:List Oper) (kn:List (Nat×Bool)) (s:S),jm kn s->KW (kY Q kf ops l kn s) (fun s1=>Ev fun a b=>dh Q (cf a b) ops l s=some s1)
 | [],_,s,_=>KW.ret (Ev.const rfl)
 |o::r,kn,s,eb=>by
  unfold kY
  refine KW.bind (sf fG eb) fun x hx=> ?_
  rw[S.force_eq]
  refine(mT r x.2 x.1 hx.2).mono fun s2 h2=>hx.1.Oa h2 fun a b hx h2=> ?_
  simp only[dh,hx]
  exact h2
theorem q9 {ops:List Oper}: ∀(l:List Oper) (kn:List (Nat×Bool)) (s:S),jm kn s->KW (mI Q kf ops l kn s) (fun x=>Ev fun a b=>ot Q (cf a b) ops l s=some x)
 | [],_,s,_=>KW.ret (Ev.const rfl)
 |o::r,kn,s,eb=>by
  unfold mI
  refine KW.bind (sf fG eb) fun x hx=> ?_
  rw[S.force_eq]
  refine KW.bind (q9 r x.2 x.1 hx.2) fun y hy=>KW.ret (hx.1.Oa hy fun a b hx hy=> ?_)
  simp only[ot,hx,hy]
theorem wX {ops:List Oper} {s:S} (hc:cg ops=1):KW (fun post=>K.bind (mI Q kf ops ops [] s) (fun x=>fun post=>oq 0 (masks ops []) x.2 (post x.1)) post) (fun s1=>Ev fun a b=>iP Q (cf a b) ops s=some s1):=by
 refine KW.bind (q9 fG ops [] _ (jm.nil _)) fun x hx post hp=>⟨x.1,hx.mono fun a b hx=> ?_,wT _ _ _ hp⟩
 have h:oq 0 (masks ops []) x.2 True:=oP _ _ _ _ (fun _=>trivial) hp
 unfold iP
 simp only[hc,hx,if_pos h]
theorem wY {ops:List Oper} {s:S} (hc:cg ops=2):KW (kY Q kf ops ops [] s) (fun s1=>Ev fun a b=>iP Q (cf a b) ops s=some s1):=
 (mT fG ops [] _ (jm.nil _)).mono fun s1 h=>h.mono fun a b h=>by
  unfold iP
  simp only[hc]
  exact h
theorem wZ {ops:List Oper} {cls:Nat} (Bv:jY ops=cls) {s:S}:KW (Dp Q kf ops cls s) (fun s1=>Ev fun a b=>iI Q (cf a b) ops s=some s1):=by
 have plain: ∀k,jY ops=k->1<=k->k<=3->cg ops=k:=by
  intro k hk h1 h3
  unfold jY at hk
  split at hk
  ·split at hk
   ·split at hk
    ·split at hk<;>omega
    ·omega
   ·omega
  ·rename_i j hj
   omega
 have marked: ∀k,k<=1->jY ops=k+4->cg ops=0/\cg (cI ops)=k+1:=by
  intro k gh hk
  unfold jY at hk
  split at hk
  ·rename_i h0
   split at hk
   ·split at hk
    ·split at hk<;>omega
    ·omega
   ·rename_i j hj
    exact⟨h0,by omega⟩
  ·rename_i j hj
   have:cg ops<=2:=by
    unfold cg
    split
    ·split<;>omega
    ·omega
   omega
 subst Bv
 unfold Dp
 split
 ·exact KW.fail
 ·rename_i hc
  have h1:=plain _ hc (by omega) (by omega)
  refine(wX fG h1).mono fun s1 h=>h.mono fun a b h=> ?_
  unfold iI
  simp only[h1]
  exact h
 ·rename_i hc
  have h1:=marked 0 (by omega) hc
  refine(wX fG h1.2).mono fun s1 h=>h.mono fun a b h=> ?_
  unfold iI
  simp only[h1.1,h1.2]
  exact h
 ·rename_i hc
  have h1:=plain _ hc (by omega) (by omega)
  refine(wY fG h1).mono fun s1 h=>h.mono fun a b h=> ?_
  unfold iI
  simp only[h1]
  exact h
 ·rename_i hc
  have h1:=marked 1 (by omega) hc
  refine(wY fG h1.2).mono fun s1 h=>h.mono fun a b h=> ?_
  unfold iI
  simp only[h1.1,h1.2]
  exact h
 ·rename_i hc
  have late:cg ops=0/\cg (cI ops)=0/\ ∀m t d,A0 ops=some (m,t,d)->A1 ops m=true:=by
   unfold jY at hc
   split at hc
   ·rename_i h0
    split at hc
    ·rename_i h1
     refine⟨h0,h1,fun m t d hl=> ?_⟩
     rw[hl] at hc
     simp only at hc
     split at hc
     ·assumption
     ·omega
    ·rename_i j hj
     have:cg (cI ops)<=2:=by
      unfold cg
      split
      ·split<;>omega
      ·omega
     omega
   ·rename_i j hj
    have:cg ops<=2:=by
     unfold cg
     split
     ·split<;>omega
     ·omega
    omega
  split
  ·rename_i m t d hl
   split
   ·rename_i Gp htm
    refine KW.bind (q9 fG ops [] _ (jm.nil _)) fun x hx post hp=>⟨x.1,hx.mono fun a b hx=> ?_,wT _ _ _ hp⟩
    have h:oq m (masks ops []) x.2 True:=oP _ _ _ _ (fun _=>trivial) hp
    unfold iI
    simp only[late.1,late.2.1]
    unfold rW
    simp only[hl,hx]
    rw[if_pos ⟨late.2.2 m t d hl,Gp,htm⟩,if_pos h]
   ·exact KW.fail
  ·exact KW.fail
 ·exact KW.fail
def dJ (body:Nat->Nat->S->Option (PX×S)) (keep:Option (List Nat×List Nat)) (s0:S) (x:PX×S):Prop:=
 ∃N,∀a b k,N<=a->N<=b->N<=k-> ∀s,cq keep s=some s0->hQ (body a b) keep k s=some x
def BN (body:S->Option (PX×S)) (keep:Option (List Nat×List Nat)) (s:S) (x:PX×S):Prop:=
 match x.1 with
 | .normal=> ∃s1,body s=some (.normal,s1)/\cq keep s1=some x.2
 |e=> ∃s1,body s=some (e,s1)/\dt keep s1=some x.2
omit fG in
theorem KJ {lQ:S->K (PX×S)} {body:Nat->Nat->S->Option (PX×S)} {s:S} (hb:KW (lQ s) (fun x=>Ev fun a b=>body a b s=some x)) {keep:Option (List Nat×List Nat)}:KW (vV lQ keep s) (fun x=>Ev fun a b=>BN (body a b) keep s x):=by
 unfold vV
 refine KW.bind hb fun x hx=> ?_
 obtain⟨e,s1⟩:=x
 cases e with
 |normal=>exact KW.bind (KW.dH fun a h=>h) fun s2 h2=>KW.ret (hx.mono fun a b hx=>⟨s1,hx,h2⟩)
 |exit id=>exact KW.bind (KW.dH fun a h=>h) fun s2 h2=>KW.ret (hx.mono fun a b hx=>⟨s1,hx,h2⟩)
 |ret=>exact KW.bind (KW.dH fun a h=>h) fun s2 h2=>KW.ret (hx.mono fun a b hx=>⟨s1,hx,h2⟩)
omit fG in
theorem dJ.out {body:Nat->Nat->S->Option (PX×S)} {keep:Option (List Nat×List Nat)} {s0:S} {x:PX×S} (hr:Ev fun a b=>BN (body a b) keep s0 x) (he:x.1≠ .normal):dJ body keep s0 x:=by
 obtain⟨N,hr⟩:=hr
 refine⟨N+1,fun a b k ha hb hk s hs=> ?_⟩
 obtain⟨e,s2⟩:=x
 have h:=hr a b (by omega) (by omega)
 obtain⟨k,rfl⟩: ∃k',k=k'+1:=⟨k-1,by omega⟩
 cases e with
 |normal=>exact absurd rfl he
 |exit id=>obtain⟨s1,h1,h2⟩:=h;simp only[] at h1 h2;simp only[hQ,hs,h1,h2]
 |ret=>obtain⟨s1,h1,h2⟩:=h;simp only[] at h1 h2;simp only[hQ,hs,h1,h2]
omit fG in
theorem dJ.on {body:Nat->Nat->S->Option (PX×S)} {keep:Option (List Nat×List Nat)} {s0 s2:S} {x:PX×S} (hr:Ev fun a b=>BN (body a b) keep s0 (.normal,s2)) (h2:dJ body keep s2 x):dJ body keep s0 x:=by
 obtain⟨N,hr⟩:=hr
 obtain⟨M,h2⟩:=h2
 refine⟨max N M+1,fun a b k ha hb hk s hs=> ?_⟩
 obtain⟨s1,h1,h3⟩:=hr a b (by omega) (by omega)
 obtain⟨k,rfl⟩: ∃k',k=k'+1:=⟨k-1,by omega⟩
 simp only[] at h1 h3
 simp only[hQ,hs,h1]
 exact h2 a b k (by omega) (by omega) (by omega) s1 h3
omit fG in
theorem dJ.ev {body:Nat->Nat->S->Option (PX×S)} {keep:Option (List Nat×List Nat)} {s s0:S} {x:PX×S} (hs:cq keep s=some s0) (h:dJ body keep s0 x):Ev fun a b=>hQ (body a b) keep a s=some x:=by
 obtain⟨N,h⟩:=h
 exact⟨N,fun a b ha hb=>h a b a ha hb ha s hs⟩
omit fG in
theorem z8 {lQ:S->K (PX×S)} {body:Nat->Nat->S->Option (PX×S)} (hb: ∀s,KW (lQ s) (fun x=>Ev fun a b=>body a b s=some x)) {keep:Option (List Nat×List Nat)}: ∀(k:Nat) (s:S),KW (A7 lQ keep k s) (fun x=> ∃s0,cq keep s=some s0/\dJ body keep s0 x)
 |0,s=>KW.fail
 |k+1,s=>by
  unfold A7
  refine KW.bind (KW.dH fun a h=>h) fun s0 h0=>KW.bind (hb s0) fun x hx=> ?_
  obtain⟨e,s1⟩:=x
  cases e with
  |normal=>exact(z8 hb k s1).mono fun y ⟨s2,g1,g2⟩=>⟨s0,h0,dJ.on (hx.mono fun a b hx=>⟨s1,hx,g1⟩) g2⟩
  |exit id=>exact KW.bind (KW.dH fun a h=>h) fun s2 h2=>KW.ret ⟨s0,h0,dJ.out (hx.mono fun a b hx=>⟨s1,hx,h2⟩) (by simp)⟩
  |ret=>exact KW.bind (KW.dH fun a h=>h) fun s2 h2=>KW.ret ⟨s0,h0,dJ.out (hx.mono fun a b hx=>⟨s1,hx,h2⟩) (by simp)⟩
def aN:Code->List Code
 | .seq a b=>aN a++aN b
 | .cond _ a b=>aN a++aN b
 | .block _ c | .scope c=>aN c
 | .loop c=>c::aN c
 |_=>[]
variable {kp:Nat->Option (List Nat×List Nat)} {hk:List (Nat×(S->K (PX×S)))} {dc:Nat->Nat} {lf:Nat}
def GI (Q:Program) (cf:Nat->Nat->CF) (kp:Nat->Option (List Nat×List Nat)) (c:Code) (h:S->K (PX×S)):Prop:=
 ∀s,KW (h s) (fun x=>Ev fun a b=>hQ (bz Q (cf a b) kp a c) (kp (Code.rM c)) a s=some x)
theorem fp: ∀(c:Code),bW dc c=true->(∀d∈aN c,∀h,lk hk (Code.rM d)=some h->GI Q cf kp d h)-> ∀(s:S),KW (e7 Q kf kp hk dc lf c s) (fun x=>Ev fun a b=>bz Q (cf a b) kp a c s=some x)
 | .skip,_,_,s=>KW.ret (Ev.const rfl)
 | .label _,_,_,s=>KW.ret (Ev.const rfl)
 | .region id ops draw,hl,_,s=>by
  unfold e7
  refine KW.bind (p:=fun s1=>Ev fun a b=>(if draw then iI Q (cf a b) ops.toList s else dh Q (cf a b) ops.toList ops.toList s)=some s1) ?_ fun s1 h1=>KW.ret (h1.mono fun a b h1=> ?_)
  ·cases draw with
   |true=>exact wZ fG (Nat.eq_of_beq_eq_true (by simpa [bW] using hl))
   |false=>exact mT fG _ [] _ (jm.nil _)
  ·simp only[bz,h1]
 | .seq x y,hl,hh,s=>by
  unfold e7
  refine KW.bind (fp x (Bool.and_eq_true _ _▸hl:_/\_).1 (fun d hd=>hh d (by simp[aN,hd])) s) fun z hz=> ?_
  obtain⟨e,s1⟩:=z
  cases e with
  |normal=>exact(fp y (Bool.and_eq_true _ _▸hl:_/\_).2 (fun d hd=>hh d (by simp[aN,hd])) s1).mono fun u hu=>hz.Oa hu fun a b hz hu=>by simp only[bz,hz];exact hu
  |exit id=>exact KW.ret (hz.mono fun a b hz=>by simp only[bz,hz])
  |ret=>exact KW.ret (hz.mono fun a b hz=>by simp only[bz,hz])
 | .cond c x y,hl,hh,s=>by
  unfold e7
  split
  ·rename_i b hb
   refine KW.bind (KW.dec (p:=fun r=>b=r) rfl) fun r hr=> ?_
   subst hr
   cases b with
   |true=>exact(fp x (Bool.and_eq_true _ _▸hl:_/\_).1 (fun d hd=>hh d (by simp[aN,hd])) s).mono fun z hz=>hz.mono fun a b hz=>by simp only[bz,hb,if_true];exact hz
   |false=>exact(fp y (Bool.and_eq_true _ _▸hl:_/\_).2 (fun d hd=>hh d (by simp[aN,hd])) s).mono fun z hz=>hz.mono fun a b hz=>by simp only[bz,hb,Bool.false_eq_true,if_false];exact hz
  ·exact KW.fail
 | .block id c,hl,hh,s=>by
  unfold e7
  refine KW.bind (fp c hl (fun d hd=>hh d (by simpa [aN] using hd)) s) fun x hx=> ?_
  obtain⟨e,s1⟩:=x
  cases e with
  |normal=>exact KW.ret (hx.mono fun a b hx=>by simp only[bz,hx])
  |exit ou=>
   simp only[]
   split
   ·rename_i h;exact KW.ret (hx.mono fun a b hx=>by simp only[bz,hx,if_pos h])
   ·rename_i h;exact KW.ret (hx.mono fun a b hx=>by simp only[bz,hx,if_neg h])
  |ret=>exact KW.ret (hx.mono fun a b hx=>by simp only[bz,hx])
 | .loop c,hl,hh,s=>by
  unfold e7
  split
  ·rename_i h KK
   exact(hh c (by simp[aN]) h KK s).mono fun x hx=>hx.mono fun a b hx=>by simp only[bz];exact hx
  ·exact(z8 (body:=fun a b=>bz Q (cf a b) kp a c) (fun s=>fp c hl (fun d hd=>hh d (by simp[aN,hd])) s) lf s).mono fun x ⟨s0,g1,g2⟩=>(g2.ev g1).mono fun a b hx=>by simp only[bz];exact hx
 | .scope c,hl,hh,s=>by
  unfold e7
  exact(fp c hl (fun d hd=>hh d (by simpa [aN] using hd)) s).mono fun x hx=>hx.mono fun a b hx=>by simp only[bz];exact hx
 | .exit id,_,_,s=>KW.ret (Ev.const rfl)
 | .ret,_,_,s=>KW.ret (Ev.const rfl)
 | .rangeFunc _ _ _ _,_,_,s=>KW.fail
 | .goto _,_,_,s=>KW.fail
 | .refuse _,_,_,s=>KW.fail
end
section
variable {Q:Program} {kp:py} {dc:FuncId->Nat->Nat} {lf:Nat}
theorem D0 {kf:KF} {hk:List (Nat×(S->K (PX×S)))} (KL: ∀f fn c,Q.funcs[f]?=some fn->fn.body=some c->bW (dc f) c=true) (fG:yZ kf (eZ Q kp)) (f:FuncId)
  (hh: ∀fn c,Q.funcs[f]?=some fn->fn.body=some c-> ∀d∈aN c,∀h,lk hk (Code.rM d)=some h->GI Q (eZ Q kp) (kp f) d h)
  (ps:List P) (R:List (Nat×En)):KW (lQ Q kf kp hk dc lf f ps R) (fun x=>Ev fun a b=>eZ Q kp a b f ps R=some x):=by
 unfold lQ
 split
 ·exact KW.fail
 ·rename_i fn eJ
  split
  ·exact KW.fail
  rename_i YM
  split
  ·exact KW.fail
  ·rename_i c hc
   split
   ·exact KW.fail
   ·rename_i gJ
    refine KW.bind (fp fG c (KL f fn c eJ hc) (hh fn c eJ hc) _) fun x hx=> ?_
    obtain⟨e,s1⟩:=x
    split
    ·exact KW.fail
    ·rename_i dz
     split
     ·rename_i qs hq
      unfold A8
      refine KW.dH fun y hy=> ?_
      obtain⟨N,hx⟩:=hx
      refine⟨N+1,fun a b ha hb=> ?_⟩
      obtain⟨b,rfl⟩: ∃b',b=b'+1:=⟨b-1,by omega⟩
      have hx:=hx a b (by omega) (by omega)
      simp only[eZ,eJ,if_neg YM,hc,if_neg gJ,hx]
      cases e with
      |exit id=>exact absurd rfl (dz id)
      |normal=>simp only[hq,hy]
      |ret=>simp only[hq,hy]
     ·exact KW.fail
def Iy (Q:Program) (kp:py) (H:List (FuncId×bm)):Prop:=
 ∀f h,lk H f=some h-> ∀ps R,KW (h ps R) (fun x=>Ev fun a b=>eZ Q kp a b f ps R=some x)
theorem Iy.nil:Iy Q kp []:=fun f h hh=>by simp[lk] at hh
theorem vu {H:List (FuncId×bm)} (KL: ∀f fn c,Q.funcs[f]?=some fn->fn.body=some c->bW (dc f) c=true) (hH:Iy Q kp H): ∀(k:Nat),yZ (runK Q kp dc H lf k) (eZ Q kp)
 |0=>fun f ps R=>by
  unfold runK
  split
  ·rename_i h hh;exact hH f h hh ps R
  ·exact KW.fail
 |k+1=>fun f ps R=>by
  unfold runK
  split
  ·rename_i h hh;exact hH f h hh ps R
  ·exact D0 KL (vu KL hH k) f (fun fn c _ _ d _ h hh=>by simp[lk] at hh) ps R
theorem Aa: ∀(l:List Func) (i0:Nat),mJ dc i0 l=true-> ∀i fn c,l[i]?=some fn->fn.body=some c->bW (dc (i0+i)) c=true
 | [],_,_,i,fn,c,h,_=>by simp at h
 |f::r,i0,h,i,fn,c,hf,hc=>by
  simp only[mJ,Bool.and_eq_true] at h
  cases i with
  |zero=>
   simp at hf
   subst hf
   rw[hc] at h
   exact h.1
  |succ i=>
   have:=Aa r (i0+1) h.2 i fn c (by simpa using hf) hc
   rwa [show i0+1+i=i0+(i+1) by omega] at this
theorem jP (h:mJ dc 0 Q.funcs.toList=true) (f:FuncId) (fn:Func) (c:Code) (hf:Q.funcs[f]?=some fn) (hc:fn.body=some c):bW (dc f) c=true:=by
 have:=Aa Q.funcs.toList 0 h f fn c (by simpa using hf) hc
 rwa [Nat.zero_add] at this
def iX (id:Nat):List Code->Option Code
 | []=>none
 |c::r=>if Nat.beq (Code.rM c) id then some c else iX id r
def bt (Q:Program) (f:FuncId) (id:Nat):Code:=
 match Q.funcs[f]? with
 |some fn=>(match fn.body with |some c=>(iX id (aN c)).getD .skip |none=> .skip)
 |none=> .skip
def uniq (Q:Program) (f:FuncId):Bool:=
 match Q.funcs[f]? with
 |some fn=>(match fn.body with |some c=>dN ((aN c).map Code.rM)|none=>true)
 |none=>true
theorem iY {d:Code}: ∀(l:List Code),(l.map Code.rM).Nodup->d∈l->iX (Code.rM d) l=some d
 | [],_,h=>by simp at h
 |c::r,hn,h=>by
  simp only[List.map_cons,List.nodup_cons] at hn
  simp only[iX]
  rcases List.mem_cons.1 h with rfl |h
  ·simp
  ·split
   ·rename_i he
    have he:=Nat.eq_of_beq_eq_true he
    exact absurd (List.mem_map.2 ⟨d,h,he.symm⟩) hn.1
   ·exact iY r hn.2 h
theorem cL: ∀(b:Code) {c d:Code},c∈aN b->d∈aN c->d∈aN b
 | .seq x y,c,d,hc,hd=>by
  simp only[aN,List.mem_append] at hc⊢
  exact hc.imp (cL x · hd) (cL y · hd)
 | .cond _ x y,c,d,hc,hd=>by
  simp only[aN,List.mem_append] at hc⊢
  exact hc.imp (cL x · hd) (cL y · hd)
 | .block _ x,c,d,hc,hd=>cL x (by simpa only[aN] using hc) hd
 | .scope x,c,d,hc,hd=>cL x (by simpa only[aN] using hc) hd
 | .loop x,c,d,hc,hd=>by
  simp only[aN,List.mem_cons] at hc⊢
  rcases hc with rfl |hc
  ·exact .inr hd
  ·exact .inr (cL x hc hd)
 | .skip,c,d,hc,_ | .label _,c,d,hc,_ | .region ..,c,d,hc,_ | .exit _,c,d,hc,_ | .ret,c,d,hc,_ | .rangeFunc ..,c,d,hc,_ | .goto _,c,d,hc,_ | .refuse _,c,d,hc,_=>by simp[aN] at hc
theorem sg {id:Nat} {c:Code}: ∀(l:List Code),iX id l=some c->c∈l
 | [],h=>by simp[iX] at h
 |d::r,h=>by
  simp only[iX] at h
  split at h
  ·simp only[Option.some.injEq] at h;subst h;simp
  ·exact List.mem_cons_of_mem _ (sg r h)
theorem s8 {f:FuncId} {id:Nat} {d:Code} (hu:uniq Q f=true) (hd:d∈aN (bt Q f id)):bt Q f (Code.rM d)=d:=by
 unfold bt at hd⊢
 unfold uniq at hu
 split at hd
 ·rename_i fn eJ
  rw[eJ] at hu
  split at hd
  ·rename_i c hc
   simp only[hc] at hu⊢
   cases hf:iX id (aN c) with
   |none=>rw[hf] at hd;simp[aN] at hd
   |some e=>
    rw[hf] at hd
    simp only[Option.getD_some] at hd
    have:=cL c (sg _ hf) hd
    rw[iY _ (dw _ hu) this,Option.getD_some]
  ·simp[aN] at hd
 ·simp[aN] at hd
def Ms (Q:Program) (kp:py) (f:FuncId) (h:bm):Prop:= ∀ps R,KW (h ps R) (fun x=>Ev fun a b=>eZ Q kp a b f ps R=some x)
theorem Iy.cons {H:List (FuncId×bm)} {f:FuncId} {h:bm} (hf:Ms Q kp f h) (hH:Iy Q kp H):Iy Q kp ((f,h)::H):=by
 intro f' h' hh ps R
 simp only[lk] at hh
 split at hh
 ·rename_i he
  have he:=Nat.eq_of_beq_eq_true he
  subst he
  simp only[Option.some.injEq] at hh
  subst hh
  exact hf ps R
 ·exact hH f' h' hh ps R
theorem Ms.TI {f:FuncId} {fn:Func} {h:bm} (eJ:Q.funcs[f]?=some fn) (hx:gw f kp.xs=true) (hb: ∀ps R post,h ps R post-> ∃x,kp.X f ps R=some x/\post x):Ms Q kp f h:=by
 intro ps R post hp
 obtain⟨x,h1,h2⟩:=hb ps R post hp
 refine⟨x,⟨1,fun a b _ hb=> ?_⟩,h2⟩
 obtain⟨b,rfl⟩: ∃b',b=b'+1:=⟨b-1,by omega⟩
 simp only[eZ,eJ,if_pos hx,h1]
theorem Ms.mk {H:List (FuncId×bm)} {f:FuncId} {h:bm} {hk:List (Nat×(S->K (PX×S)))} {k:Nat} (KL:mJ dc 0 Q.funcs.toList=true) (hH:Iy Q kp H) (hu:uniq Q f=true)
  (hl: ∀id g,lk hk id=some g-> ∀s,KW (g s) (fun x=>Ev fun a b=>hQ (bz Q (eZ Q kp a b) (kp f) a (bt Q f id)) (kp f id) a s=some x))
  (hb: ∀ps R post,h ps R post->lQ Q (runK Q kp dc H lf k) kp hk dc lf f ps R post):Ms Q kp f h:=by
 intro ps R post hp
 refine D0 (jP KL) (vu (jP KL) hH k) f (fun fn c eJ hc d hd g hg s=> ?_) ps R post (hb ps R post hp)
 have e:bt Q f (Code.rM d)=d:=by
  unfold uniq at hu
  rw[eJ] at hu
  simp only[hc] at hu
  unfold bt
  rw[eJ]
  simp only[hc,iY _ (dw _ hu) hd,Option.getD_some]
 have:=hl _ g hg s
 rwa [e] at this
def roundPost (n:Nat) (I:Nat->S->Prop) (O:PX×S->Prop) (x:PX×S):Prop:=match x.1 with | .normal=> ∃m,m<n/\I m x.2 |_=>O x
theorem TJ {H:List (FuncId×bm)} {c:Code} {hk:List (Nat×(S->K (PX×S)))} {kp1:Nat->Option (List Nat×List Nat)} {dc1:Nat->Nat} {k:Nat} {keep:Option (List Nat×List Nat)} (KL:mJ dc 0 Q.funcs.toList=true) (hH:Iy Q kp H) (hc:bW dc1 c=true)
  (hl: ∀d∈aN c,∀h,lk hk (Code.rM d)=some h->GI Q (eZ Q kp) kp1 d h)
  {I:Nat->S->Prop} {O:PX×S->Prop}
  (hr: ∀n s,I n s->vV (e7 Q (runK Q kp dc H lf k) kp1 hk dc1 lf c) keep s (roundPost n I O)):
  ∀n s,I n s-> ∃x,O x/\dJ (fun a b=>bz Q (eZ Q kp a b) kp1 a c) keep s x:=by
 intro n
 induction n using Nat.strongRecOn with
 |_ n ih=>
  intro s hs
  obtain⟨x,h1,h2⟩:=KJ (body:=fun a b=>bz Q (eZ Q kp a b) kp1 a c) (fp (vu (jP KL) hH k) c hc hl s) _ (hr n s hs)
  obtain⟨e,s2⟩:=x
  cases e with
  |normal=>
   obtain⟨m,hm,hi⟩:=h2
   obtain⟨y,g1,g2⟩:=ih m hm s2 hi
   exact⟨y,g1,dJ.on h1 g2⟩
  |exit id=>exact⟨_,h2,dJ.out h1 (by simp)⟩
  |ret=>exact⟨_,h2,dJ.out h1 (by simp)⟩
end
end Pi
