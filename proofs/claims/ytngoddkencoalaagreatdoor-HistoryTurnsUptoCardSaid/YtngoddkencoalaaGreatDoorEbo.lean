/- The texts PiLem PiTold. -/
import Derived.Test.YtngoddkencoalaaGreatDoorEbn
import Derived.IntWalk
namespace Pi
open Go
abbrev ob(b:Bool)(A:Prop):Prop:=cond b A False
theorem aq{b:Bool}{A:Prop}(hb:b=true)(h:A):cond b A False:=by subst hb;exact h
theorem aA{b:Bool}{A B:Prop}(h1:b=true->A)(h2:b=false->B):cond b A B:=by cases b with |true=>exact h1 rfl |false=>exact h2 rfl
theorem ie{b:Bool}{A B:Prop}(hb:b=true)(h:A):cond b A B:=by subst hb;exact h
theorem iK{b:Bool}{A B:Prop}(hb:b=false)(h:B):cond b A B:=by subst hb;exact h
theorem qeE{Q:Program}(l:List TypeId)(ts:List TypeId)(h:(Nat.beq ts.length l.length&&ts.all λt=>Q.readableRec t&&Nat.blt t Q.types.size)=true): ∀t∈ts,Q.readableRec t=true/\t<Q.types.size:=λt ht=>by simp only[zab] at h;have:=zbm.1 h.2 t ht;simp only[zab] at this;exact⟨this.1,zbO this.2⟩
theorem qaq{Q:Program}{m:Nat}(l:List TypeId)(ts:List TypeId)(h:(Nat.beq ts.length l.length&&ts.all λt=>gE Q m t)=true): ∀t∈ts,gE Q m t=true:=λt ht=>by simp only[zab] at h;exact zbm.1 h.2 t ht
theorem fitAll_cons{Q:Program}{m:Nat}{t:TypeId}{ts:List TypeId}: ∀{xs:List D},qB Q m (t::ts) xs-> ∃x r,xs=x::r/\BP Q m t x/\qB Q m ts r
 | [],h=>h.elim
 |x::r,h=>⟨x,r,rfl,h.1,h.2⟩
theorem fitAll_nil{Q:Program}{m:Nat}: ∀{xs:List D},qB Q m [] xs->xs=[]
 | [],_=>rfl
 |_::_,h=>h.elim
def EqP(a b:List P):Prop:=a=b
def EqR(a b:List (Nat×En)):Prop:=a=b
def bD(b:UInt8):D:= .int .u8 b.toNat
@[simp] theorem Ey: ∀(l:List D) (k:Nat),bytesOf (l.take k)=(bytesOf l).take k
 | [],k=>by simp[bytesOf]
 |x::r,0=>by simp[bytesOf]
 |x::r,k+1=>by simp[bytesOf,Ey r k]
@[simp] theorem Ez: ∀(l:List D) (k:Nat),bytesOf (l.drop k)=(bytesOf l).drop k
 | [],k=>by simp[bytesOf]
 |x::r,0=>by simp
 |x::r,k+1=>by simp[bytesOf,Ez r k]
@[simp] theorem zA: ∀(l m:List D),bytesOf (l++m)=bytesOf l++bytesOf m
 | [],m=>rfl
 |x::r,m=>by simp[bytesOf,zA r m]
@[simp] theorem Hu: ∀s:List UInt8,bytesOf (s.map bD)=s
 | []=>rfl
 |b::r=>by simp[bytesOf,Hu r,D.aj,bD]
theorem wP: ∀(l:List D) (k:Nat),hJ l=true->hJ (l.take k)=true
 | [],k,_=>by simp[hJ]
 |x::r,0,_=>by simp[hJ]
 |x::r,k+1,h=>by
  cases x with
  |int kd n=>cases kd<;>simp[hJ] at h⊢;exact wP r k h
  |_=>simp[hJ] at h
@[simp] theorem zB: ∀s:List UInt8,hJ (s.map bD)=true
 | []=>rfl
 |b::r=>by simp[hJ,zB r,bD]
@[simp] theorem QR (s:List UInt8) (n:Nat):hJ ((s.map bD).take n)=true:=wP _ _ (zB s)
theorem ax{α:Type}(f:α->D)(l:List α)(i:Nat)(h:i<l.length):D.nth (l.map f) i=f l[i]:=by simp[D.nth,h]
theorem bN{n b:Nat}(h:n*b<=140737488355328)(h2:n<=9223372036854775807):aI n b=true:=by simp[aI,h,h2]
def ah(keep:Option (List Nat×List Nat))(g:S->K (PX×S)):S->K (PX×S):=λs ae=>match cz keep s with |some s0=>g s0 ae |none=>False
theorem Hv{body:Nat->Nat->S->Option (PX×S)}{keep:Option (List Nat×List Nat)}{g:S->K (PX×S)}(h: ∀s0,KW (g s0) (λx=>dU body keep s0 x))(s:S):KW (ah keep g s) (λx=>Ev λa b=>iJ (body a b) keep a s=some x):=λae hp=>by
 unfold ah at hp;split at hp
 next s0 h0=>obtain⟨x,h1,h2⟩:=h s0 ae hp;exact⟨x,h1.ev h0,h2⟩
 exact hp.elim
theorem MI{Q:Program}{kp:qV}{f:FuncId}: ∀id g,lk ([]:List (Nat×(S->K (PX×S)))) id=some g-> ∀s,KW (g s) (λx=>Ev λa b=>iJ (bQ Q (fJ Q kp a b) (kp f) a (bw Q f id)) (kp f id) a s=some x):=λid g h=>by simp[lk] at h
theorem qar{Q:Program}{kp:qV}{f id:Nat}{g:S->K (PX×S)}(h: ∀s,KW (g s) (λx=>Ev λa b=>iJ (bQ Q (fJ Q kp a b) (kp f) a (bw Q f id)) (kp f id) a s=some x)){r:List (Nat×(S->K (PX×S)))}
  (hr: ∀id g,lk r id=some g-> ∀s,KW (g s) (λx=>Ev λa b=>iJ (bQ Q (fJ Q kp a b) (kp f) a (bw Q f id)) (kp f id) a s=some x)):
  ∀qi g',lk ((id,g)::r) qi=some g'-> ∀s,KW (g' s) (λx=>Ev λa b=>iJ (bQ Q (fJ Q kp a b) (kp f) a (bw Q f qi)) (kp f qi) a s=some x):=λqi g' h'=>by
 simp only[lk] at h';split at h'
 next he=>have he:=zag he;subst he;simp only[zam] at h';subst h';exact h
 exact hr qi g' h'
abbrev TF:=List P->List (Nat×En)->Option (P×List (Nat×En))
def xOf:List (Nat×TF)->CF
 | [],_,_,_=>none
 | (n,g)::r,f,ps,R=>if Nat.beq n f then g ps R else xOf r f ps R
def Pd(Q:Program)(w0:World)(kW:Nat)(g:TF):Prop:=
 w0.drawn=0-> ∀ps R p R1,g ps R=some (p,R1)-> ∀(F:Nat->Prop) (G:Nat->Value) (w:World) (vs:List Value),fM Q ⟨G,w0,0,false⟩ F G w R->vs.length=ps.length->
  (∀(i:Nat) (v:Value) (c:P),vs[i]?=some v->ps[i]?=some c->aH F w G R v c)->
  kH Q kW ⟨vs⟩ w (λv w'=> ∃F' G',fM Q ⟨G,w0,0,false⟩ F' G' w' R1/\aH F' w' G' R1 v p/\Ext (Own G R) (Own G' R1) F F' w w')
inductive Pe(Q:Program)(w0:World):List (Nat×TF)->Prop
 |nil:Pe Q w0 []
 |cons {n:Nat} {g:TF} {r:List (Nat×TF)} (h:Pd Q w0 n g) (hr:Pe Q w0 r):Pe Q w0 ((n,g)::r)
theorem Pe.ok{Q:Program}{w0:World}{l:List (Nat×TF)}(h0:w0.drawn=0)(h:Pe Q w0 l):dw Q w0 (xOf l):=by
 induction h with
 |nil=>intro f ps R p R1 h;cases h
 |cons h hr ih=>
  intro f ps R p R1 h';unfold xOf at h';split at h'
  next hf=>have hf:=zag hf;subst hf;exact h h0 ps R p R1 h'
  exact ih f ps R p R1 h'
theorem r0{w:World}{b:Nat}{cs:Array Value}{T:TypeId}{fr:Nat×Nat}(h:w.heap[b]?=some (.cells cs T fr))(i:Nat):w.cell? ⟨b,i,none⟩=cs[i]?:=by simp[World.cell?,h]
theorem S1{cs:Array Value}{i:Nat}(h:i<cs.size):cs[i]?=some (cs.getD i undef):=by simp[zaI,h]
theorem enters{Q:Program}{f:FuncId}{fn:Func}(gg:Q.funcs[f]?=some fn)(cN:fn.body.isSome=true)(lG:(fn.name== "runtime.NumGoroutine")=false)(vs:Array Value)(w:World):(callFunc f vs).run Q w= .ok (.enter f vs) w:=by
 simp[callFunc,gg];rw[zan (by simpa using lG)];cases hb:fn.body with
 |none=>rw[hb] at cN;cases cN
 |some c=>simp
end Pi
