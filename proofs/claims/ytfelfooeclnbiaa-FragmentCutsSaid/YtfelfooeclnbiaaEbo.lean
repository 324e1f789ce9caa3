/- The texts PiLem PiTold. -/
import Derived.Test.YtfelfooeclnbiaaEbn
import Derived.IntWalk
namespace Pi
open Go
abbrev ob(b:Bool)(A:Prop):Prop:=cond b A False
theorem rP{b:Bool}{A:Prop}(hb:b=true)(h:A):cond b A False:=by subst hb;exact h
theorem qq{b:Bool}{A B:Prop}(h1:b=true->A)(h2:b=false->B):cond b A B:=by cases b with |true=>exact h1 rfl |false=>exact h2 rfl
theorem AV{b:Bool}{A B:Prop}(hb:b=true)(h:A):cond b A B:=by subst hb;exact h
theorem zm{Q:Program}(l:List TypeId)(ts:List TypeId)(h:(Nat.beq ts.length l.length&&ts.all λt=>Q.readableRec t&&Nat.blt t Q.types.size)=true): ∀t∈ts,Q.readableRec t=true/\t<Q.types.size:=λt ht=>by simp only[zad] at h;have:=zaE.1 h.2 t ht;simp only[zad] at this;exact⟨this.1,za3 this.2⟩
theorem xP{Q:Program}{m:Nat}(l:List TypeId)(ts:List TypeId)(h:(Nat.beq ts.length l.length&&ts.all λt=>eI Q m t)=true): ∀t∈ts,eI Q m t=true:=λt ht=>by simp only[zad] at h;exact zaE.1 h.2 t ht
theorem fitAll_cons{Q:Program}{m:Nat}{t:TypeId}{ts:List TypeId}: ∀{xs:List D},je Q m (t::ts) xs-> ∃x r,xs=x::r/\wq Q m t x/\je Q m ts r
 | [],h=>h.elim
 |x::r,h=>⟨x,r,rfl,h.1,h.2⟩
theorem fitAll_nil{Q:Program}{m:Nat}: ∀{xs:List D},je Q m [] xs->xs=[]
 | [],_=>rfl
 |_::_,h=>h.elim
def Es(a b:List P):Prop:=a=b
def Et(a b:List (Nat×En)):Prop:=a=b
def bD(b:UInt8):D:= .int .u8 b.toNat
@[simp] theorem o9: ∀(l:List D) (k:Nat),bytesOf (l.take k)=(bytesOf l).take k
 | [],k=>by simp[bytesOf]
 |x::r,0=>by simp[bytesOf]
 |x::r,k+1=>by simp[bytesOf,o9 r k]
@[simp] theorem pb: ∀(l:List D) (k:Nat),bytesOf (l.drop k)=(bytesOf l).drop k
 | [],k=>by simp[bytesOf]
 |x::r,0=>by simp
 |x::r,k+1=>by simp[bytesOf,pb r k]
@[simp] theorem mB: ∀(l m:List D),bytesOf (l++m)=bytesOf l++bytesOf m
 | [],m=>rfl
 |x::r,m=>by simp[bytesOf,mB r m]
@[simp] theorem qt: ∀s:List UInt8,bytesOf (s.map bD)=s
 | []=>rfl
 |b::r=>by simp[bytesOf,qt r,D.cr,bD]
theorem kP: ∀(l:List D) (k:Nat),cP l=true->cP (l.take k)=true
 | [],k,_=>by simp[cP]
 |x::r,0,_=>by simp[cP]
 |x::r,k+1,h=>by
  cases x with
  |int kd n=>cases kd<;>simp[cP] at h⊢;exact kP r k h
  |_=>simp[cP] at h
@[simp] theorem mC: ∀s:List UInt8,cP (s.map bD)=true
 | []=>rfl
 |b::r=>by simp[cP,mC r,bD]
@[simp] theorem uu (s:List UInt8) (n:Nat):cP ((s.map bD).take n)=true:=kP _ _ (mC s)
theorem zn{n:Int}(h:(Lit.int .i64 n).wf=true): -9223372036854775808<=n/\n<=9223372036854775807:=by simp[Lit.wf,IntKind.min,IntKind.max,IntKind.signed,IntKind.bits] at h;omega
def bg(keep:Option (List Nat×List Nat))(g:S->K (PX×S)):S->K (PX×S):=λs ae=>match eZ keep s with |some s0=>g s0 ae |none=>False
theorem qu{body:Nat->Nat->S->Option (PX×S)}{keep:Option (List Nat×List Nat)}{g:S->K (PX×S)}(h: ∀s0,KW (g s0) (λx=>bB body keep s0 x))(s:S):KW (bg keep g s) (λx=>Ev λa b=>c8 (body a b) keep a s=some x):=λae hp=>by
 unfold bg at hp;split at hp
 next s0 h0=>obtain⟨x,h1,h2⟩:=h s0 ae hp;exact⟨x,h1.ev h0,h2⟩
 exact hp.elim
theorem sG{Q:Program}{kp:kX}{f:FuncId}: ∀id g,lk ([]:List (Nat×(S->K (PX×S)))) id=some g-> ∀s,KW (g s) (λx=>Ev λa b=>c8 (aP Q (dh Q kp a b) (kp f) a (dq Q f id)) (kp f id) a s=some x):=λid g h=>by simp[lk] at h
theorem xQ{Q:Program}{kp:kX}{f id:Nat}{g:S->K (PX×S)}(h: ∀s,KW (g s) (λx=>Ev λa b=>c8 (aP Q (dh Q kp a b) (kp f) a (dq Q f id)) (kp f id) a s=some x)){r:List (Nat×(S->K (PX×S)))}
  (hr: ∀id g,lk r id=some g-> ∀s,KW (g s) (λx=>Ev λa b=>c8 (aP Q (dh Q kp a b) (kp f) a (dq Q f id)) (kp f id) a s=some x)):
  ∀r0 g',lk ((id,g)::r) r0=some g'-> ∀s,KW (g' s) (λx=>Ev λa b=>c8 (aP Q (dh Q kp a b) (kp f) a (dq Q f r0)) (kp f r0) a s=some x):=λr0 g' h'=>by
 simp only[lk] at h';split at h'
 next he=>have he:=zac he;subst he;simp only[zae] at h';subst h';exact h
 exact hr r0 g' h'
abbrev TF:=List P->List (Nat×En)->Option (P×List (Nat×En))
def BA:List (Nat×TF)->CF
 | [],_,_,_=>none
 | (n,g)::r,f,ps,R=>if Nat.beq n f then g ps R else BA r f ps R
def AW(Q:Program)(w0:World)(gA:Nat)(g:TF):Prop:=
 w0.drawn=0-> ∀ps R p R1,g ps R=some (p,R1)-> ∀(F:Nat->Prop) (G:Nat->Value) (w:World) (vs:List Value),cZ Q ⟨G,w0,0,false⟩ F G w R->vs.length=ps.length->
  (∀(i:Nat) (v:Value) (c:P),vs[i]?=some v->ps[i]?=some c->ao F w G R v c)->
  fP Q gA ⟨vs⟩ w (λv w'=> ∃F' G',cZ Q ⟨G,w0,0,false⟩ F' G' w' R1/\ao F' w' G' R1 v p/\Ext (Own G R) (Own G' R1) F F' w w')
inductive tZ(Q:Program)(w0:World):List (Nat×TF)->Prop
 |nil:tZ Q w0 []
 |cons {n:Nat} {g:TF} {r:List (Nat×TF)} (h:AW Q w0 n g) (hr:tZ Q w0 r):tZ Q w0 ((n,g)::r)
theorem tZ.ok{Q:Program}{w0:World}{l:List (Nat×TF)}(h0:w0.drawn=0)(h:tZ Q w0 l):gl Q w0 (BA l):=by
 induction h with
 |nil=>intro f ps R p R1 h;cases h
 |cons h hr ih=>
  intro f ps R p R1 h';unfold BA at h';split at h'
  next hf=>have hf:=zac hf;subst hf;exact h h0 ps R p R1 h'
  exact ih f ps R p R1 h'
theorem cx{w:World}{b:Nat}{cs:Array Value}{T:TypeId}{fr:Nat×Nat}(h:w.heap[b]?=some (.cells cs T fr))(i:Nat):w.cell? ⟨b,i,none⟩=cs[i]?:=by simp[World.cell?,h]
theorem jH{cs:Array Value}{i:Nat}(h:i<cs.size):cs[i]?=some (cs.getD i undef):=by simp[zak,h]
theorem enters{Q:Program}{f:FuncId}{fn:Func}(gq:Q.funcs[f]?=some fn)(eH:fn.body.isSome=true)(iF:(fn.name== "runtime.NumGoroutine")=false)(vs:Array Value)(w:World):(callFunc f vs).run Q w= .ok (.enter f vs) w:=by
 simp[callFunc,gq];rw[zaB (by simpa using iF)];cases hb:fn.body with
 |none=>rw[hb] at eH;cases eH
 |some c=>simp
end Pi
