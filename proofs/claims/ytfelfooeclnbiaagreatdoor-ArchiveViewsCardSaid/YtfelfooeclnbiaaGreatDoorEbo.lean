/- The texts PiLem PiTold. -/
import Derived.Test.YtfelfooeclnbiaaGreatDoorEbn
import Derived.IntWalk
namespace Pi
open Go
abbrev ob(b:Bool)(A:Prop):Prop:=cond b A False
theorem ao{b:Bool}{A:Prop}(hb:b=true)(h:A):cond b A False:=by subst hb;exact h
theorem az{b:Bool}{A B:Prop}(h1:b=true->A)(h2:b=false->B):cond b A B:=by cases b with |true=>exact h1 rfl |false=>exact h2 rfl
theorem gh{b:Bool}{A B:Prop}(hb:b=true)(h:A):cond b A B:=by subst hb;exact h
theorem jo{b:Bool}{A B:Prop}(hb:b=false)(h:B):cond b A B:=by subst hb;exact h
theorem qca{Q:Program}(l:List TypeId)(ts:List TypeId)(h:(Nat.beq ts.length l.length&&ts.all λt=>Q.readableRec t&&Nat.blt t Q.types.size)=true): ∀t∈ts,Q.readableRec t=true/\t<Q.types.size:=λt ht=>by simp only[zad] at h;have:=zaZ.1 h.2 t ht;simp only[zad] at this;exact⟨this.1,zbJ this.2⟩
theorem WI{Q:Program}{m:Nat}(l:List TypeId)(ts:List TypeId)(h:(Nat.beq ts.length l.length&&ts.all λt=>kW Q m t)=true): ∀t∈ts,kW Q m t=true:=λt ht=>by simp only[zad] at h;exact zaZ.1 h.2 t ht
theorem fitAll_cons{Q:Program}{m:Nat}{t:TypeId}{ts:List TypeId}: ∀{xs:List D},rz Q m (t::ts) xs-> ∃x r,xs=x::r/\E8 Q m t x/\rz Q m ts r
 | [],h=>h.elim
 |x::r,h=>⟨x,r,rfl,h.1,h.2⟩
theorem fitAll_nil{Q:Program}{m:Nat}: ∀{xs:List D},rz Q m [] xs->xs=[]
 | [],_=>rfl
 |_::_,h=>h.elim
def EqP(a b:List P):Prop:=a=b
def EqR(a b:List (Nat×En)):Prop:=a=b
def bD(b:UInt8):D:= .int .u8 b.toNat
@[simp] theorem CO: ∀(l:List D) (k:Nat),bytesOf (l.take k)=(bytesOf l).take k
 | [],k=>by simp[bytesOf]
 |x::r,0=>by simp[bytesOf]
 |x::r,k+1=>by simp[bytesOf,CO r k]
@[simp] theorem CP: ∀(l:List D) (k:Nat),bytesOf (l.drop k)=(bytesOf l).drop k
 | [],k=>by simp[bytesOf]
 |x::r,0=>by simp
 |x::r,k+1=>by simp[bytesOf,CP r k]
@[simp] theorem x8: ∀(l m:List D),bytesOf (l++m)=bytesOf l++bytesOf m
 | [],m=>rfl
 |x::r,m=>by simp[bytesOf,x8 r m]
@[simp] theorem Fe: ∀s:List UInt8,bytesOf (s.map bD)=s
 | []=>rfl
 |b::r=>by simp[bytesOf,Fe r,D.aj,bD]
theorem vK: ∀(l:List D) (k:Nat),eQ l=true->eQ (l.take k)=true
 | [],k,_=>by simp[eQ]
 |x::r,0,_=>by simp[eQ]
 |x::r,k+1,h=>by
  cases x with
  |int kd n=>cases kd<;>simp[eQ] at h⊢;exact vK r k h
  |_=>simp[eQ] at h
@[simp] theorem x9: ∀s:List UInt8,eQ (s.map bD)=true
 | []=>rfl
 |b::r=>by simp[eQ,x9 r,bD]
@[simp] theorem Om (s:List UInt8) (n:Nat):eQ ((s.map bD).take n)=true:=vK _ _ (x9 s)
theorem aG{α:Type}(f:α->D)(l:List α)(i:Nat)(h:i<l.length):D.nth (l.map f) i=f l[i]:=by simp[D.nth,h]
theorem bL{n b:Nat}(h:n*b<=140737488355328)(h2:n<=9223372036854775807):aJ n b=true:=by simp[aJ,h,h2]
def ah(keep:Option (List Nat×List Nat))(g:S->K (PX×S)):S->K (PX×S):=λs ae=>match cH keep s with |some s0=>g s0 ae |none=>False
theorem Ff{body:Nat->Nat->S->Option (PX×S)}{keep:Option (List Nat×List Nat)}{g:S->K (PX×S)}(h: ∀s0,KW (g s0) (λx=>dF body keep s0 x))(s:S):KW (ah keep g s) (λx=>Ev λa b=>im (body a b) keep a s=some x):=λae hp=>by
 unfold ah at hp;split at hp
 next s0 h0=>obtain⟨x,h1,h2⟩:=h s0 ae hp;exact⟨x,h1.ev h0,h2⟩
 exact hp.elim
theorem Ky{Q:Program}{kp:sr}{f:FuncId}: ∀id g,lk ([]:List (Nat×(S->K (PX×S)))) id=some g-> ∀s,KW (g s) (λx=>Ev λa b=>im (bJ Q (fG Q kp a b) (kp f) a (bE Q f id)) (kp f id) a s=some x):=λid g h=>by simp[lk] at h
theorem WJ{Q:Program}{kp:sr}{f id:Nat}{g:S->K (PX×S)}(h: ∀s,KW (g s) (λx=>Ev λa b=>im (bJ Q (fG Q kp a b) (kp f) a (bE Q f id)) (kp f id) a s=some x)){r:List (Nat×(S->K (PX×S)))}
  (hr: ∀id g,lk r id=some g-> ∀s,KW (g s) (λx=>Ev λa b=>im (bJ Q (fG Q kp a b) (kp f) a (bE Q f id)) (kp f id) a s=some x)):
  ∀pd g',lk ((id,g)::r) pd=some g'-> ∀s,KW (g' s) (λx=>Ev λa b=>im (bJ Q (fG Q kp a b) (kp f) a (bE Q f pd)) (kp f pd) a s=some x):=λpd g' h'=>by
 simp only[lk] at h';split at h'
 next he=>have he:=zah he;subst he;simp only[zak] at h';subst h';exact h
 exact hr pd g' h'
abbrev TF:=List P->List (Nat×En)->Option (P×List (Nat×En))
def xOf:List (Nat×TF)->CF
 | [],_,_,_=>none
 | (n,g)::r,f,ps,R=>if Nat.beq n f then g ps R else xOf r f ps R
def MP(Q:Program)(w0:World)(kF:Nat)(g:TF):Prop:=
 w0.drawn=0-> ∀ps R p R1,g ps R=some (p,R1)-> ∀(F:Nat->Prop) (G:Nat->Value) (w:World) (vs:List Value),eZ Q ⟨G,w0,0,false⟩ F G w R->vs.length=ps.length->
  (∀(i:Nat) (v:Value) (c:P),vs[i]?=some v->ps[i]?=some c->aF F w G R v c)->
  jb Q kF ⟨vs⟩ w (λv w'=> ∃F' G',eZ Q ⟨G,w0,0,false⟩ F' G' w' R1/\aF F' w' G' R1 v p/\Ext (Own G R) (Own G' R1) F F' w w')
inductive MQ(Q:Program)(w0:World):List (Nat×TF)->Prop
 |nil:MQ Q w0 []
 |cons {n:Nat} {g:TF} {r:List (Nat×TF)} (h:MP Q w0 n g) (hr:MQ Q w0 r):MQ Q w0 ((n,g)::r)
theorem MQ.ok{Q:Program}{w0:World}{l:List (Nat×TF)}(h0:w0.drawn=0)(h:MQ Q w0 l):eG Q w0 (xOf l):=by
 induction h with
 |nil=>intro f ps R p R1 h;cases h
 |cons h hr ih=>
  intro f ps R p R1 h';unfold xOf at h';split at h'
  next hf=>have hf:=zah hf;subst hf;exact h h0 ps R p R1 h'
  exact ih f ps R p R1 h'
theorem qa{w0 w:World}{v:Value}{b:Nat}(hz: ∀b,b<w0.heap.size->w.heap[b]?=w0.heap[b]?)(h:w0.cell? ⟨b,0,none⟩=some v):w.cell? ⟨b,0,none⟩=some v:=by
 by_cases hb:b<w0.heap.size
 ·unfold World.cell? at h⊢;rw[hz b hb];exact h
 unfold World.cell? at h;rw[show w0.heap[({block:=b,off:=0,spot:=none}:Addr).block]?=none from zci (by show w0.heap.size<=b;omega)] at h;simp at h
theorem gi{w:World}{b:Nat}{cs:Array Value}{T:TypeId}{fr:Nat×Nat}(h:w.heap[b]?=some (.cells cs T fr))(i:Nat):w.cell? ⟨b,i,none⟩=cs[i]?:=by simp[World.cell?,h]
theorem sR{cs:Array Value}{i:Nat}(h:i<cs.size):cs[i]?=some (cs.getD i undef):=by simp[zaA,h]
theorem enters{Q:Program}{f:FuncId}{fn:Func}(gK:Q.funcs[f]?=some fn)(cD:fn.body.isSome=true)(kU:(fn.name== "runtime.NumGoroutine")=false)(vs:Array Value)(w:World):(callFunc f vs).run Q w= .ok (.enter f vs) w:=by
 simp[callFunc,gK];rw[zap (by simpa using kU)];cases hb:fn.body with
 |none=>rw[hb] at cD;cases cD
 |some c=>simp
end Pi
