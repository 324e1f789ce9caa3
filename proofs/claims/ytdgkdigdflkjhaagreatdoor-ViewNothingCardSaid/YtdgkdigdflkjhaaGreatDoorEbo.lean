/- The texts PiLem PiTold. -/
import Derived.Test.YtdgkdigdflkjhaaGreatDoorEbn
import Derived.IntWalk
namespace Pi
open Go
abbrev ob b (A:Prop):=cond b A False
theorem aq{b}{A:Prop}(hb:b=true)(h:A):cond b A False:=by subst hb;exact h
theorem ay{b}{A B:Prop}(h1:b=true->A)(h2:b=false->B):cond b A B:=by cases b with |true=>exact h1 rfl |false=>exact h2 rfl
theorem kJ{b}{A B:Prop}(hb:b=true)(h:A):cond b A B:=by subst hb;exact h
theorem fJ{b}{A B:Prop}(hb:b=false)(h:B):cond b A B:=by subst hb;exact h
theorem qfP{Q:Program}(l:List TypeId)(ts:List TypeId)(h:(Nat.beq ts.length l.length&&ts.all λt=>Q.readableRec t&&Nat.blt t Q.types.size)=true): ∀t∈ts,Q.readableRec t=true/\t<Q.types.size:=λt ht=>by simp only[zac] at h;have:=zbj.1 h.2 t ht;simp only[zac] at this;exact⟨this.1,zbL this.2⟩
theorem qaI{Q m}(l:List TypeId)(ts:List TypeId)(h:(Nat.beq ts.length l.length&&ts.all λt=>lV Q m t)=true): ∀t∈ts,lV Q m t=true:=λt ht=>by simp only[zac] at h;exact zbj.1 h.2 t ht
theorem fitAll_cons{Q m t ts}: ∀{xs:List D},tE Q m (t::ts) xs-> ∃x r,xs=x::r/\II Q m t x/\tE Q m ts r
 | [],h=>h.elim
 |x::r,h=>⟨x,r,rfl,h.1,h.2⟩
theorem fitAll_nil{Q m}: ∀{xs:List D},tE Q m [] xs->xs=[]
 | [],_=>rfl
 |_::_,h=>h.elim
def EqP(a b:List P):=a=b
def EqR(a b:List (Nat×En)):=a=b
def bD(b:UInt8):D:= .int .u8 b.toNat
@[simp] theorem FJ: ∀l k,bytesOf (l.take k)=(bytesOf l).take k
 | [],k=>by simp[bytesOf]
 |x::r,0=>by simp[bytesOf]
 |x::r,k+1=>by simp[bytesOf,FJ r k]
@[simp] theorem FK: ∀l k,bytesOf (l.drop k)=(bytesOf l).drop k
 | [],k=>by simp[bytesOf]
 |x::r,0=>by simp
 |x::r,k+1=>by simp[bytesOf,FK r k]
@[simp] theorem Ay: ∀l m,bytesOf (l++m)=bytesOf l++bytesOf m
 | [],m=>rfl
 |x::r,m=>by simp[bytesOf,Ay r m]
@[simp] theorem IQ: ∀s,bytesOf (s.map bD)=s
 | []=>rfl
 |b::r=>by simp[bytesOf,IQ r,D.aj,bD]
theorem xt: ∀l k,iF l=true->iF (l.take k)=true
 | [],k,_=>by simp[iF]
 |x::r,0,_=>by simp[iF]
 |x::r,k+1,h=>by
  cases x with
  |int kd n=>cases kd<;>simp[iF] at h⊢;exact xt r k h
  |_=>simp[iF] at h
@[simp] theorem Az: ∀s:List UInt8,iF (s.map bD)=true
 | []=>rfl
 |b::r=>by simp[iF,Az r,bD]
@[simp] theorem SC (s:List UInt8) n:iF ((s.map bD).take n)=true:=xt _ _ (Az s)
theorem az{α:Type} f (l:List α) i (h:i<l.length):D.nth (l.map f) i=f l[i]:=by simp[D.nth,h]
theorem cL{n b}(h:n*b<=140737488355328)(h2:n<=9223372036854775807):aG n b=true:=by simp[aG,h,h2]
def ah(keep:Option (List Nat×List Nat))(g:S->K (PX×S)):S->K (PX×S):=λs ae=>match cG keep s with |some s0=>g s0 ae |none=>False
theorem IU{body keep g}(h: ∀s0,KW (g s0) (λx=>ec body keep s0 x)) s:KW (ah keep g s) (λx=>Ev λa b=>jc (body a b) keep a s=some x):=λae hp=>by
 unfold ah at hp;split at hp
 next s0 h0=>obtain⟨x,h1,h2⟩:=h s0 ae hp;exact⟨x,h1.ev h0,h2⟩
 exact hp.elim
theorem N2{Q kp f}: ∀id g,lk ([]:List (Nat×(S->K (PX×S)))) id=some g-> ∀s,KW (g s) (λx=>Ev λa b=>jc (bU Q (fj Q kp a b) (kp f) a (bA Q f id)) (kp f id) a s=some x):=λid g h=>by simp[lk] at h
theorem qaJ{Q kp}{f id:Nat}{g:S->K (PX×S)}(h: ∀s,KW (g s) (λx=>Ev λa b=>jc (bU Q (fj Q kp a b) (kp f) a (bA Q f id)) (kp f id) a s=some x)){r}
  (hr: ∀id g,lk r id=some g-> ∀s,KW (g s) (λx=>Ev λa b=>jc (bU Q (fj Q kp a b) (kp f) a (bA Q f id)) (kp f id) a s=some x)):
  ∀qA g',lk ((id,g)::r) qA=some g'-> ∀s,KW (g' s) (λx=>Ev λa b=>jc (bU Q (fj Q kp a b) (kp f) a (bA Q f qA)) (kp f qA) a s=some x):=λqA g' h'=>by
 simp only[lk] at h';split at h'
 next he=>have he:=zag he;subst he;simp only[zam] at h';subst h';exact h
 exact hr qA g' h'
abbrev TF:=List P->List (Nat×En)->Option (P×List (Nat×En))
def xOf:List (Nat×TF)->CF
 | [],_,_,_=>none
 | (n,g)::r,f,ps,R=>if Nat.beq n f then g ps R else xOf r f ps R
def CG Q w0 (jZ:Nat)(g:TF):=
 w0.drawn=0-> ∀ps R p R1,g ps R=some (p,R1)-> ∀(F:Nat->Prop) (G:Nat->Value) (w:World) (vs:List Value),fX Q ⟨G,w0,0,false⟩ F G w R->vs.length=ps.length->
  (∀(i:Nat) (v:Value) (c:P),vs[i]?=some v->ps[i]?=some c->aH F w G R v c)->
  kP Q jZ ⟨vs⟩ w (λv w'=> ∃F' G',fX Q ⟨G,w0,0,false⟩ F' G' w' R1/\aH F' w' G' R1 v p/\Ext (Own G R) (Own G' R1) F F' w w')
inductive QW(Q:Program)(w0:World):List (Nat×TF)->Prop
 |nil:QW Q w0 []
 |cons {n:Nat} {g:TF} {r:List (Nat×TF)} (h:CG Q w0 n g) (hr:QW Q w0 r):QW Q w0 ((n,g)::r)
theorem QW.ok{Q w0 l}(h0:w0.drawn=0)(h:QW Q w0 l):cz Q w0 (xOf l):=by
 induction h with
 |nil=>intro f ps R p R1 h;cases h
 |cons h hr ih=>
  intro f ps R p R1 h';unfold xOf at h';split at h'
  next hf=>have hf:=zag hf;subst hf;exact h h0 ps R p R1 h'
  exact ih f ps R p R1 h'
theorem sE{w:World}{b cs T fr}(h:w.heap[b]?=some (.cells cs T fr)) i:w.cell? ⟨b,i,none⟩=cs[i]?:=by simp[World.cell?,h]
theorem UQ{cs:Array Value}{i}(h:i<cs.size):cs[i]?=some (cs.getD i undef):=by simp[zaF,h]
theorem enters{Q f fn}(gC:Q.funcs[f]?=some fn)(cS:fn.body.isSome=true)(lT:(fn.name== "runtime.NumGoroutine")=false) vs  w:(callFunc f vs).run Q w= .ok (.enter f vs) w:=by
 simp[callFunc,gC];rw[zan (by simpa using lT)];cases hb:fn.body with
 |none=>rw[hb] at cS;cases cS
 |some c=>simp
end Pi
