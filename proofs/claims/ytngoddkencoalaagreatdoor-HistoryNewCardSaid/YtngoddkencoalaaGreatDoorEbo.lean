/- The texts PiLem PiTold. -/
import Derived.Test.YtngoddkencoalaaGreatDoorEbn
import Derived.IntWalk
namespace Pi
open Go
theorem aq{b:Bool}{A:Prop}(hb:b=true)(h:A):cond b A False:=by subst hb;exact h
theorem ay{b:Bool}{A B:Prop}(h1:b=true->A)(h2:b=false->B):cond b A B:=by cases b with |true=>exact h1 rfl |false=>exact h2 rfl
theorem gI{b:Bool}{A B:Prop}(hb:b=true)(h:A):cond b A B:=by subst hb;exact h
theorem jq{b:Bool}{A B:Prop}(hb:b=false)(h:B):cond b A B:=by subst hb;exact h
theorem qbY{Q:Program}(l:List TypeId)(ts:List TypeId)(h:(Nat.beq ts.length l.length&&ts.all λt=>Q.readableRec t&&Nat.blt t Q.types.size)=true): ∀t∈ts,Q.readableRec t=true/\t<Q.types.size:=λt ht=>by simp only[zab] at h;have:=zbk.1 h.2 t ht;simp only[zab] at this;exact⟨this.1,zbI this.2⟩
theorem WC{Q:Program}{m:Nat}(l:List TypeId)(ts:List TypeId)(h:(Nat.beq ts.length l.length&&ts.all λt=>kY Q m t)=true): ∀t∈ts,kY Q m t=true:=λt ht=>by simp only[zab] at h;exact zbk.1 h.2 t ht
theorem fitAll_cons{Q:Program}{m:Nat}{t:TypeId}{ts:List TypeId}: ∀{xs:List D},pA Q m (t::ts) xs-> ∃x r,xs=x::r/\Ab Q m t x/\pA Q m ts r
 | [],h=>h.elim
 |x::r,h=>⟨x,r,rfl,h.1,h.2⟩
theorem fitAll_nil{Q:Program}{m:Nat}: ∀{xs:List D},pA Q m [] xs->xs=[]
 | [],_=>rfl
 |_::_,h=>h.elim
def EqP(a b:List P):Prop:=a=b
def EqR(a b:List (Nat×En)):Prop:=a=b
def bD(b:UInt8):D:= .int .u8 b.toNat
@[simp] theorem CS: ∀(l:List D) (k:Nat),bytesOf (l.take k)=(bytesOf l).take k
 | [],k=>by simp[bytesOf]
 |x::r,0=>by simp[bytesOf]
 |x::r,k+1=>by simp[bytesOf,CS r k]
@[simp] theorem CT: ∀(l:List D) (k:Nat),bytesOf (l.drop k)=(bytesOf l).drop k
 | [],k=>by simp[bytesOf]
 |x::r,0=>by simp
 |x::r,k+1=>by simp[bytesOf,CT r k]
@[simp] theorem x8: ∀(l m:List D),bytesOf (l++m)=bytesOf l++bytesOf m
 | [],m=>rfl
 |x::r,m=>by simp[bytesOf,x8 r m]
@[simp] theorem Fl: ∀s:List UInt8,bytesOf (s.map bD)=s
 | []=>rfl
 |b::r=>by simp[bytesOf,Fl r,D.aj,bD]
theorem vd: ∀(l:List D) (k:Nat),gU l=true->gU (l.take k)=true
 | [],k,_=>by simp[gU]
 |x::r,0,_=>by simp[gU]
 |x::r,k+1,h=>by
  cases x with
  |int kd n=>cases kd<;>simp[gU] at h⊢;exact vd r k h
  |_=>simp[gU] at h
@[simp] theorem x9: ∀s:List UInt8,gU (s.map bD)=true
 | []=>rfl
 |b::r=>by simp[gU,x9 r,bD]
@[simp] theorem Oq (s:List UInt8) (n:Nat):gU ((s.map bD).take n)=true:=vd _ _ (x9 s)
theorem aA{α:Type}(f:α->D)(l:List α)(i:Nat)(h:i<l.length):D.nth (l.map f) i=f l[i]:=by simp[D.nth,h]
theorem cp{n b:Nat}(h:n*b<=140737488355328)(h2:n<=9223372036854775807):aM n b=true:=by simp[aM,h,h2]
def ah(keep:Option (List Nat×List Nat))(g:S->K (PX×S)):S->K (PX×S):=λs ae=>match cw keep s with |some s0=>g s0 ae |none=>False
theorem Fm{body:Nat->Nat->S->Option (PX×S)}{keep:Option (List Nat×List Nat)}{g:S->K (PX×S)}(h: ∀s0,KW (g s0) (λx=>dS body keep s0 x))(s:S):KW (ah keep g s) (λx=>Ev λa b=>iB (body a b) keep a s=some x):=λae hp=>by
 unfold ah at hp;split at hp
 next s0 h0=>obtain⟨x,h1,h2⟩:=h s0 ae hp;exact⟨x,h1.ev h0,h2⟩
 exact hp.elim
theorem Kx{Q:Program}{kp:pZ}{f:FuncId}: ∀id g,lk ([]:List (Nat×(S->K (PX×S)))) id=some g-> ∀s,KW (g s) (λx=>Ev λa b=>iB (bB Q (ff Q kp a b) (kp f) a (bA Q f id)) (kp f id) a s=some x):=λid g h=>by simp[lk] at h
theorem WD{Q:Program}{kp:pZ}{f id:Nat}{g:S->K (PX×S)}(h: ∀s,KW (g s) (λx=>Ev λa b=>iB (bB Q (ff Q kp a b) (kp f) a (bA Q f id)) (kp f id) a s=some x)){r:List (Nat×(S->K (PX×S)))}
  (hr: ∀id g,lk r id=some g-> ∀s,KW (g s) (λx=>Ev λa b=>iB (bB Q (ff Q kp a b) (kp f) a (bA Q f id)) (kp f id) a s=some x)):
  ∀o6 g',lk ((id,g)::r) o6=some g'-> ∀s,KW (g' s) (λx=>Ev λa b=>iB (bB Q (ff Q kp a b) (kp f) a (bA Q f o6)) (kp f o6) a s=some x):=λo6 g' h'=>by
 simp only[lk] at h';split at h'
 next he=>have he:=zaf he;subst he;simp only[zal] at h';subst h';exact h
 exact hr o6 g' h'
abbrev TF:=List P->List (Nat×En)->Option (P×List (Nat×En))
def xOf:List (Nat×TF)->CF
 | [],_,_,_=>none
 | (n,g)::r,f,ps,R=>if Nat.beq n f then g ps R else xOf r f ps R
def MK(Q:Program)(w0:World)(ku:Nat)(g:TF):Prop:=
 w0.drawn=0-> ∀ps R p R1,g ps R=some (p,R1)-> ∀(F:Nat->Prop) (G:Nat->Value) (w:World) (vs:List Value),fE Q ⟨G,w0,0,false⟩ F G w R->vs.length=ps.length->
  (∀(i:Nat) (v:Value) (c:P),vs[i]?=some v->ps[i]?=some c->aF F w G R v c)->
  j9 Q ku ⟨vs⟩ w (λv w'=> ∃F' G',fE Q ⟨G,w0,0,false⟩ F' G' w' R1/\aF F' w' G' R1 v p/\Ext (Own G R) (Own G' R1) F F' w w')
inductive ML(Q:Program)(w0:World):List (Nat×TF)->Prop
 |nil:ML Q w0 []
 |cons {n:Nat} {g:TF} {r:List (Nat×TF)} (h:MK Q w0 n g) (hr:ML Q w0 r):ML Q w0 ((n,g)::r)
theorem ML.ok{Q:Program}{w0:World}{l:List (Nat×TF)}(h0:w0.drawn=0)(h:ML Q w0 l):du Q w0 (xOf l):=by
 induction h with
 |nil=>intro f ps R p R1 h;cases h
 |cons h hr ih=>
  intro f ps R p R1 h';unfold xOf at h';split at h'
  next hf=>have hf:=zaf hf;subst hf;exact h h0 ps R p R1 h'
  exact ih f ps R p R1 h'
theorem q4{w:World}{b:Nat}{cs:Array Value}{T:TypeId}{fr:Nat×Nat}(h:w.heap[b]?=some (.cells cs T fr))(i:Nat):w.cell? ⟨b,i,none⟩=cs[i]?:=by simp[World.cell?,h]
theorem Qs{cs:Array Value}{i:Nat}(h:i<cs.size):cs[i]?=some (cs.getD i undef):=by simp[zaD,h]
theorem enters{Q:Program}{f:FuncId}{fn:Func}(fW:Q.funcs[f]?=some fn)(cG:fn.body.isSome=true)(jm:(fn.name== "runtime.NumGoroutine")=false)(vs:Array Value)(w:World):(callFunc f vs).run Q w= .ok (.enter f vs) w:=by
 simp[callFunc,fW];rw[zam (by simpa using jm)];cases hb:fn.body with
 |none=>rw[hb] at cG;cases cG
 |some c=>simp
end Pi
