/- The texts PiLem PiTold. -/
import Derived.Test.YtngoddkencoalaaGreatDoorEbn
import Derived.IntWalk
namespace Pi
open Go
theorem aq{b:Bool}{A:Prop}(hb:b=true)(h:A):cond b A False:=by subst hb;exact h
theorem az{b:Bool}{A B:Prop}(h1:b=true->A)(h2:b=false->B):cond b A B:=by cases b with |true=>exact h1 rfl |false=>exact h2 rfl
theorem fT{b:Bool}{A B:Prop}(hb:b=true)(h:A):cond b A B:=by subst hb;exact h
theorem lD{b:Bool}{A B:Prop}(hb:b=false)(h:B):cond b A B:=by subst hb;exact h
theorem qcJ{Q:Program}(l:List TypeId)(ts:List TypeId)(h:(Nat.beq ts.length l.length&&ts.all λt=>Q.readableRec t&&Nat.blt t Q.types.size)=true): ∀t∈ts,Q.readableRec t=true/\t<Q.types.size:=λt ht=>by simp only[zab] at h;have:=zbl.1 h.2 t ht;simp only[zab] at this;exact⟨this.1,zbJ this.2⟩
theorem Xm{Q:Program}{m:Nat}(l:List TypeId)(ts:List TypeId)(h:(Nat.beq ts.length l.length&&ts.all λt=>lC Q m t)=true): ∀t∈ts,lC Q m t=true:=λt ht=>by simp only[zab] at h;exact zbl.1 h.2 t ht
theorem fitAll_cons{Q:Program}{m:Nat}{t:TypeId}{ts:List TypeId}: ∀{xs:List D},pZ Q m (t::ts) xs-> ∃x r,xs=x::r/\AQ Q m t x/\pZ Q m ts r
 | [],h=>h.elim
 |x::r,h=>⟨x,r,rfl,h.1,h.2⟩
theorem fitAll_nil{Q:Program}{m:Nat}: ∀{xs:List D},pZ Q m [] xs->xs=[]
 | [],_=>rfl
 |_::_,h=>h.elim
def EqP(a b:List P):Prop:=a=b
def EqR(a b:List (Nat×En)):Prop:=a=b
def bD(b:UInt8):D:= .int .u8 b.toNat
@[simp] theorem Dr: ∀(l:List D) (k:Nat),bytesOf (l.take k)=(bytesOf l).take k
 | [],k=>by simp[bytesOf]
 |x::r,0=>by simp[bytesOf]
 |x::r,k+1=>by simp[bytesOf,Dr r k]
@[simp] theorem Ds: ∀(l:List D) (k:Nat),bytesOf (l.drop k)=(bytesOf l).drop k
 | [],k=>by simp[bytesOf]
 |x::r,0=>by simp
 |x::r,k+1=>by simp[bytesOf,Ds r k]
@[simp] theorem yO: ∀(l m:List D),bytesOf (l++m)=bytesOf l++bytesOf m
 | [],m=>rfl
 |x::r,m=>by simp[bytesOf,yO r m]
@[simp] theorem F6: ∀s:List UInt8,bytesOf (s.map bD)=s
 | []=>rfl
 |b::r=>by simp[bytesOf,F6 r,D.aj,bD]
theorem wk: ∀(l:List D) (k:Nat),hJ l=true->hJ (l.take k)=true
 | [],k,_=>by simp[hJ]
 |x::r,0,_=>by simp[hJ]
 |x::r,k+1,h=>by
  cases x with
  |int kd n=>cases kd<;>simp[hJ] at h⊢;exact wk r k h
  |_=>simp[hJ] at h
@[simp] theorem yP: ∀s:List UInt8,hJ (s.map bD)=true
 | []=>rfl
 |b::r=>by simp[hJ,yP r,bD]
@[simp] theorem O7 (s:List UInt8) (n:Nat):hJ ((s.map bD).take n)=true:=wk _ _ (yP s)
theorem ay{α:Type}(f:α->D)(l:List α)(i:Nat)(h:i<l.length):D.nth (l.map f) i=f l[i]:=by simp[D.nth,h]
theorem da{n b:Nat}(h:n*b<=140737488355328)(h2:n<=9223372036854775807):aO n b=true:=by simp[aO,h,h2]
def ah(keep:Option (List Nat×List Nat))(g:S->K (PX×S)):S->K (PX×S):=λs ae=>match cA keep s with |some s0=>g s0 ae |none=>False
theorem F7{body:Nat->Nat->S->Option (PX×S)}{keep:Option (List Nat×List Nat)}{g:S->K (PX×S)}(h: ∀s0,KW (g s0) (λx=>dZ body keep s0 x))(s:S):KW (ah keep g s) (λx=>Ev λa b=>iM (body a b) keep a s=some x):=λae hp=>by
 unfold ah at hp;split at hp
 next s0 h0=>obtain⟨x,h1,h2⟩:=h s0 ae hp;exact⟨x,h1.ev h0,h2⟩
 exact hp.elim
theorem K7{Q:Program}{kp:qD}{f:FuncId}: ∀id g,lk ([]:List (Nat×(S->K (PX×S)))) id=some g-> ∀s,KW (g s) (λx=>Ev λa b=>iM (bE Q (fo Q kp a b) (kp f) a (bB Q f id)) (kp f id) a s=some x):=λid g h=>by simp[lk] at h
theorem Xn{Q:Program}{kp:qD}{f id:Nat}{g:S->K (PX×S)}(h: ∀s,KW (g s) (λx=>Ev λa b=>iM (bE Q (fo Q kp a b) (kp f) a (bB Q f id)) (kp f id) a s=some x)){r:List (Nat×(S->K (PX×S)))}
  (hr: ∀id g,lk r id=some g-> ∀s,KW (g s) (λx=>Ev λa b=>iM (bE Q (fo Q kp a b) (kp f) a (bB Q f id)) (kp f id) a s=some x)):
  ∀pG g',lk ((id,g)::r) pG=some g'-> ∀s,KW (g' s) (λx=>Ev λa b=>iM (bE Q (fo Q kp a b) (kp f) a (bB Q f pG)) (kp f pG) a s=some x):=λpG g' h'=>by
 simp only[lk] at h';split at h'
 next he=>have he:=zaf he;subst he;simp only[zam] at h';subst h';exact h
 exact hr pG g' h'
abbrev TF:=List P->List (Nat×En)->Option (P×List (Nat×En))
def xOf:List (Nat×TF)->CF
 | [],_,_,_=>none
 | (n,g)::r,f,ps,R=>if Nat.beq n f then g ps R else xOf r f ps R
def Nl(Q:Program)(w0:World)(kP:Nat)(g:TF):Prop:=
 w0.drawn=0-> ∀ps R p R1,g ps R=some (p,R1)-> ∀(F:Nat->Prop) (G:Nat->Value) (w:World) (vs:List Value),fN Q ⟨G,w0,0,false⟩ F G w R->vs.length=ps.length->
  (∀(i:Nat) (v:Value) (c:P),vs[i]?=some v->ps[i]?=some c->aH F w G R v c)->
  kD Q kP ⟨vs⟩ w (λv w'=> ∃F' G',fN Q ⟨G,w0,0,false⟩ F' G' w' R1/\aH F' w' G' R1 v p/\Ext (Own G R) (Own G' R1) F F' w w')
inductive Nn(Q:Program)(w0:World):List (Nat×TF)->Prop
 |nil:Nn Q w0 []
 |cons {n:Nat} {g:TF} {r:List (Nat×TF)} (h:Nl Q w0 n g) (hr:Nn Q w0 r):Nn Q w0 ((n,g)::r)
theorem Nn.ok{Q:Program}{w0:World}{l:List (Nat×TF)}(h0:w0.drawn=0)(h:Nn Q w0 l):dC Q w0 (xOf l):=by
 induction h with
 |nil=>intro f ps R p R1 h;cases h
 |cons h hr ih=>
  intro f ps R p R1 h';unfold xOf at h';split at h'
  next hf=>have hf:=zaf hf;subst hf;exact h h0 ps R p R1 h'
  exact ih f ps R p R1 h'
theorem rO{w:World}{b:Nat}{cs:Array Value}{T:TypeId}{fr:Nat×Nat}(h:w.heap[b]?=some (.cells cs T fr))(i:Nat):w.cell? ⟨b,i,none⟩=cs[i]?:=by simp[World.cell?,h]
theorem Rg{cs:Array Value}{i:Nat}(h:i<cs.size):cs[i]?=some (cs.getD i undef):=by simp[zaD,h]
theorem enters{Q:Program}{f:FuncId}{fn:Func}(gj:Q.funcs[f]?=some fn)(cO:fn.body.isSome=true)(jD:(fn.name== "runtime.NumGoroutine")=false)(vs:Array Value)(w:World):(callFunc f vs).run Q w= .ok (.enter f vs) w:=by
 simp[callFunc,gj];rw[zal (by simpa using jD)];cases hb:fn.body with
 |none=>rw[hb] at cO;cases cO
 |some c=>simp
end Pi
