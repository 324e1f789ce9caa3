/- The text PiLem. -/
import Derived.Test.YtngoddkencoalaaGreatDoorPiX
import Derived.IntWalk
namespace Pi
open Go
theorem aq {b:Bool} {A:Prop} (hb:b=true) (h:A):cond b A False:=by subst hb;exact h
theorem aw {b:Bool} {A B:Prop} (h1:b=true->A) (h2:b=false->B):cond b A B:=by cases b with |true=>exact h1 rfl |false=>exact h2 rfl
theorem fw {b:Bool} {A B:Prop} (hb:b=true) (h:A):cond b A B:=by subst hb;exact h
theorem kq {b:Bool} {A B:Prop} (hb:b=false) (h:B):cond b A B:=by subst hb;exact h
theorem qaj {Q:Program} (l:List TypeId) (ts:List TypeId) (h:(Nat.beq ts.length l.length&&ts.all fun t=>Q.readableRec t&&Nat.blt t Q.types.size)=true): ∀t∈ts,Q.readableRec t=true/\t<Q.types.size:=fun t ht=>by
 simp only[Bool.and_eq_true] at h
 have:=List.all_eq_true.1 h.2 t ht
 simp only[Bool.and_eq_true] at this
 exact⟨this.1,Nat.le_of_ble_eq_true this.2⟩
theorem TP {Q:Program} {m:Nat} (l:List TypeId) (ts:List TypeId) (h:(Nat.beq ts.length l.length&&ts.all fun t=>ko Q m t)=true): ∀t∈ts,ko Q m t=true:=fun t ht=>by
 simp only[Bool.and_eq_true] at h
 exact List.all_eq_true.1 h.2 t ht
theorem fitAll_cons {Q:Program} {m:Nat} {t:TypeId} {ts:List TypeId}: ∀{xs:List D},oR Q m (t::ts) xs-> ∃x r,xs=x::r/\tc Q m t x/\oR Q m ts r
 | [],h=>h.elim
 |x::r,h=>⟨x,r,rfl,h.1,h.2⟩
theorem fitAll_nil {Q:Program} {m:Nat}: ∀{xs:List D},oR Q m [] xs->xs=[]
 | [],_=>rfl
 |_::_,h=>h.elim
def EqP (a b:List P):Prop:=a=b
def EqR (a b:List (Nat×En)):Prop:=a=b
def bD (b:UInt8):D:= .int .u8 b.toNat
@[simp] theorem BR: ∀(l:List D) (k:Nat),bytesOf (l.take k)=(bytesOf l).take k
 | [],k=>by simp[bytesOf]
 |x::r,0=>by simp[bytesOf]
 |x::r,k+1=>by simp[bytesOf,BR r k]
@[simp] theorem BS: ∀(l:List D) (k:Nat),bytesOf (l.drop k)=(bytesOf l).drop k
 | [],k=>by simp[bytesOf]
 |x::r,0=>by simp
 |x::r,k+1=>by simp[bytesOf,BS r k]
@[simp] theorem xb: ∀(l m:List D),bytesOf (l++m)=bytesOf l++bytesOf m
 | [],m=>rfl
 |x::r,m=>by simp[bytesOf,xb r m]
@[simp] theorem D9: ∀s:List UInt8,bytesOf (s.map bD)=s
 | []=>rfl
 |b::r=>by simp[bytesOf,D9 r,D.ah,bD]
theorem ur: ∀(l:List D) (k:Nat),gy l=true->gy (l.take k)=true
 | [],k,_=>by simp[gy]
 |x::r,0,_=>by simp[gy]
 |x::r,k+1,h=>by
  cases x with
  |int kd n=>cases kd<;>simp[gy] at h⊢;exact ur r k h
  |_=>simp[gy] at h
@[simp] theorem xc: ∀s:List UInt8,gy (s.map bD)=true
 | []=>rfl
 |b::r=>by simp[gy,xc r,bD]
@[simp] theorem Mw (s:List UInt8) (n:Nat):gy ((s.map bD).take n)=true:=ur _ _ (xc s)
theorem ay {α:Type} (f:α->D) (l:List α) (i:Nat) (h:i<l.length):D.nth (l.map f) i=f l[i]:=by simp[D.nth,h]
theorem jF {n b:Nat} (h:n*b<=140737488355328) (h2:n<=9223372036854775807):aT n b=true:=by
 simp[aT,h,h2]
def ae (keep:Option (List Nat×List Nat)) (g:S->K (PX×S)):S->K (PX×S):=fun s post=>match cq keep s with |some s0=>g s0 post |none=>False
theorem Ea {body:Nat->Nat->S->Option (PX×S)} {keep:Option (List Nat×List Nat)} {g:S->K (PX×S)} (h: ∀s0,KW (g s0) (fun x=>dJ body keep s0 x)) (s:S):KW (ae keep g s) (fun x=>Ev fun a b=>hQ (body a b) keep a s=some x):=fun post hp=>by
 unfold ae at hp
 split at hp
 ·rename_i s0 h0
  obtain⟨x,h1,h2⟩:=h s0 post hp
  exact⟨x,h1.ev h0,h2⟩
 ·exact hp.elim
theorem IB {Q:Program} {kp:py} {f:FuncId}: ∀id g,lk ([]:List (Nat×(S->K (PX×S)))) id=some g-> ∀s,KW (g s) (fun x=>Ev fun a b=>hQ (bz Q (eZ Q kp a b) (kp f) a (bt Q f id)) (kp f id) a s=some x):=fun id g h=>by simp[lk] at h
theorem TQ {Q:Program} {kp:py} {f id:Nat} {g:S->K (PX×S)} (h: ∀s,KW (g s) (fun x=>Ev fun a b=>hQ (bz Q (eZ Q kp a b) (kp f) a (bt Q f id)) (kp f id) a s=some x)) {r:List (Nat×(S->K (PX×S)))}
  (hr: ∀id g,lk r id=some g-> ∀s,KW (g s) (fun x=>Ev fun a b=>hQ (bz Q (eZ Q kp a b) (kp f) a (bt Q f id)) (kp f id) a s=some x)):
  ∀ou g',lk ((id,g)::r) ou=some g'-> ∀s,KW (g' s) (fun x=>Ev fun a b=>hQ (bz Q (eZ Q kp a b) (kp f) a (bt Q f ou)) (kp f ou) a s=some x):=fun ou g' h'=>by
 simp only[lk] at h'
 split at h'
 ·rename_i he
  have he:=Nat.eq_of_beq_eq_true he
  subst he
  simp only[Option.some.injEq] at h'
  subst h'
  exact h
 ·exact hr ou g' h'
end Pi
