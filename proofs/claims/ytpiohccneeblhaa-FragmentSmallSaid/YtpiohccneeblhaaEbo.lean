/- The texts PiLem PiTold PiSeat. -/
import Derived.Test.YtpiohccneeblhaaEbn
import Derived.IntWalk
namespace Pi
open Go
abbrev ob(b:Bool)(A:Prop):Prop:=cond b A False
theorem bf{b:Bool}{A:Prop}(hb:b=true)(h:A):cond b A False:=by subst hb;exact h
theorem eA{b:Bool}{A B:Prop}(h1:b=true->A)(h2:b=false->B):cond b A B:=by cases b with |true=>exact h1 rfl |false=>exact h2 rfl
theorem oe{b:Bool}{A B:Prop}(hb:b=true)(h:A):cond b A B:=by subst hb;exact h
theorem fY{b:Bool}{A B:Prop}(hb:b=false)(h:B):cond b A B:=by subst hb;exact h
theorem HE{Q:Program}(l:List TypeId)(ts:List TypeId)(h:(Nat.beq ts.length l.length&&ts.all λt=>Q.readableRec t&&Nat.blt t Q.types.size)=true): ∀t∈ts,Q.readableRec t=true/\t<Q.types.size:=λt ht=>by simp only[zad] at h;have:=zaY.1 h.2 t ht;simp only[zad] at this;exact⟨this.1,zbu this.2⟩
theorem Fo{Q:Program}{m:Nat}(l:List TypeId)(ts:List TypeId)(h:(Nat.beq ts.length l.length&&ts.all λt=>gW Q m t)=true): ∀t∈ts,gW Q m t=true:=λt ht=>by simp only[zad] at h;exact zaY.1 h.2 t ht
theorem fitAll_cons{Q:Program}{m:Nat}{t:TypeId}{ts:List TypeId}: ∀{xs:List D},l6 Q m (t::ts) xs-> ∃x r,xs=x::r/\wA Q m t x/\l6 Q m ts r
 | [],h=>h.elim
 |x::r,h=>⟨x,r,rfl,h.1,h.2⟩
theorem fitAll_nil{Q:Program}{m:Nat}: ∀{xs:List D},l6 Q m [] xs->xs=[]
 | [],_=>rfl
 |_::_,h=>h.elim
def PT(a b:List P):Prop:=a=b
def PU(a b:List (Nat×En)):Prop:=a=b
def bD(b:UInt8):D:= .int .u8 b.toNat
@[simp] theorem uy: ∀(l:List D) (k:Nat),bytesOf (l.take k)=(bytesOf l).take k
 | [],k=>by simp[bytesOf]
 |x::r,0=>by simp[bytesOf]
 |x::r,k+1=>by simp[bytesOf,uy r k]
@[simp] theorem uz: ∀(l:List D) (k:Nat),bytesOf (l.drop k)=(bytesOf l).drop k
 | [],k=>by simp[bytesOf]
 |x::r,0=>by simp
 |x::r,k+1=>by simp[bytesOf,uz r k]
@[simp] theorem qE: ∀(l m:List D),bytesOf (l++m)=bytesOf l++bytesOf m
 | [],m=>rfl
 |x::r,m=>by simp[bytesOf,qE r m]
@[simp] theorem wF: ∀s:List UInt8,bytesOf (s.map bD)=s
 | []=>rfl
 |b::r=>by simp[bytesOf,wF r,D.bB,bD]
theorem og: ∀(l:List D) (k:Nat),eN l=true->eN (l.take k)=true
 | [],k,_=>by simp[eN]
 |x::r,0,_=>by simp[eN]
 |x::r,k+1,h=>by
  cases x with
  |int kd n=>cases kd<;>simp[eN] at h⊢;exact og r k h
  |_=>simp[eN] at h
@[simp] theorem qF: ∀s:List UInt8,eN (s.map bD)=true
 | []=>rfl
 |b::r=>by simp[eN,qF r,bD]
@[simp] theorem BA (s:List UInt8) (n:Nat):eN ((s.map bD).take n)=true:=og _ _ (qF s)
def aF(keep:Option (List Nat×List Nat))(g:S->K (PX×S)):S->K (PX×S):=λs ae=>match cx keep s with |some s0=>g s0 ae |none=>False
theorem wG{body:Nat->Nat->S->Option (PX×S)}{keep:Option (List Nat×List Nat)}{g:S->K (PX×S)}(h: ∀s0,KW (g s0) (λx=>cC body keep s0 x))(s:S):KW (aF keep g s) (λx=>Ev λa b=>eK (body a b) keep a s=some x):=λae hp=>by
 unfold aF at hp;split at hp
 next s0 h0=>obtain⟨x,h1,h2⟩:=h s0 ae hp;exact⟨x,h1.ev h0,h2⟩
 exact hp.elim
theorem zs{Q:Program}{kp:tq}{f:FuncId}: ∀id g,lk ([]:List (Nat×(S->K (PX×S)))) id=some g-> ∀s,KW (g s) (λx=>Ev λa b=>eK (aS Q (dh Q kp a b) (kp f) a (bA Q f id)) (kp f id) a s=some x):=λid g h=>by simp[lk] at h
theorem Fp{Q:Program}{kp:tq}{f id:Nat}{g:S->K (PX×S)}(h: ∀s,KW (g s) (λx=>Ev λa b=>eK (aS Q (dh Q kp a b) (kp f) a (bA Q f id)) (kp f id) a s=some x)){r:List (Nat×(S->K (PX×S)))}
  (hr: ∀id g,lk r id=some g-> ∀s,KW (g s) (λx=>Ev λa b=>eK (aS Q (dh Q kp a b) (kp f) a (bA Q f id)) (kp f id) a s=some x)):
  ∀kl g',lk ((id,g)::r) kl=some g'-> ∀s,KW (g' s) (λx=>Ev λa b=>eK (aS Q (dh Q kp a b) (kp f) a (bA Q f kl)) (kp f kl) a s=some x):=λkl g' h'=>by
 simp only[lk] at h';split at h'
 next he=>have he:=zab he;subst he;simp only[zaf] at h';subst h';exact h
 exact hr kl g' h'
abbrev TF:=List P->List (Nat×En)->Option (P×List (Nat×En))
def Ly:List (Nat×TF)->CF
 | [],_,_,_=>none
 | (n,g)::r,f,ps,R=>if Nat.beq n f then g ps R else Ly r f ps R
def Fq(Q:Program)(w0:World)(fN:Nat)(g:TF):Prop:=
 w0.drawn=0-> ∀ps R p R1,g ps R=some (p,R1)-> ∀(F:Nat->Prop) (G:Nat->Value) (w:World) (vs:List Value),aL Q ⟨G,w0,0,false⟩ F G w R->vs.length=ps.length->
  (∀(i:Nat) (v:Value) (c:P),vs[i]?=some v->ps[i]?=some c->ao F w G R v c)->
  bF Q fN ⟨vs⟩ w (λv w'=> ∃F' G',aL Q ⟨G,w0,0,false⟩ F' G' w' R1/\ao F' w' G' R1 v p/\Ext (Own G R) (Own G' R1) F F' w w')
inductive A1(Q:Program)(w0:World):List (Nat×TF)->Prop
 |nil:A1 Q w0 []
 |cons {n:Nat} {g:TF} {r:List (Nat×TF)} (h:Fq Q w0 n g) (hr:A1 Q w0 r):A1 Q w0 ((n,g)::r)
theorem A1.ok{Q:Program}{w0:World}{l:List (Nat×TF)}(h0:w0.drawn=0)(h:A1 Q w0 l):cL Q w0 (Ly l):=by
 induction h with
 |nil=>intro f ps R p R1 h;cases h
 |cons h hr ih=>
  intro f ps R p R1 h';unfold Ly at h';split at h'
  next hf=>have hf:=zab hf;subst hf;exact h h0 ps R p R1 h'
  exact ih f ps R p R1 h'
theorem enters{Q:Program}{f:FuncId}{fn:Func}(fg:Q.funcs[f]?=some fn)(bZ:fn.body.isSome=true)(iY:(fn.name== "runtime.NumGoroutine")=false)(vs:Array Value)(w:World):(callFunc f vs).run Q w= .ok (.enter f vs) w:=by
 simp[callFunc,fg];rw[zaB (by simpa using iY)];cases hb:fn.body with
 |none=>rw[hb] at bZ;cases bZ
 |some c=>simp
theorem Fs(Q:Program)(kf:KF)(kp:FuncId->Nat->Option (List Nat×List Nat))(xs:List Nat)(X Y:CF)(hk:List (Nat×(S->K (PX×S))))(dc:FuncId->Nat->Nat)(lf:Nat):
 iM Q kf ⟨kp,xs,X⟩ hk dc lf=iM Q kf ⟨kp,xs,Y⟩ hk dc lf:=rfl
theorem uA(Q:Program)(kp:FuncId->Nat->Option (List Nat×List Nat))(xs:List Nat)(X Y:CF)(dc:FuncId->Nat->Nat)(H:List (FuncId×cR))(lf:Nat): ∀k,
  runK Q ⟨kp,xs,X⟩ dc H lf k=runK Q ⟨kp,xs,Y⟩ dc H lf k
 |0=>rfl
 |k+1=>by funext f ps R;unfold runK;rw[uA Q kp xs X Y dc H lf k,Fs Q _ kp xs X Y]
end Pi
