/- The texts PiLem PiTold. -/
import Derived.Test.YtngoddkencoalaaGreatDoorEbn
import Derived.IntWalk
namespace Pi
open Go
theorem ao {b:Bool} {A:Prop} (hb:b=true) (h:A):cond b A False:=by subst hb;exact h
theorem ax {b:Bool} {A B:Prop} (h1:b=true->A) (h2:b=false->B):cond b A B:=by cases b with |true=>exact h1 rfl |false=>exact h2 rfl
theorem ju {b:Bool} {A B:Prop} (hb:b=true) (h:A):cond b A B:=by subst hb;exact h
theorem eA {b:Bool} {A B:Prop} (hb:b=false) (h:B):cond b A B:=by subst hb;exact h
theorem qbT {Q:Program} (l:List TypeId) (ts:List TypeId) (h:(Nat.beq ts.length l.length&&ts.all fun t=>Q.readableRec t&&Nat.blt t Q.types.size)=true): ∀t∈ts,Q.readableRec t=true/\t<Q.types.size:=fun t ht=>by
 simp only[zab] at h
 have:=zbk.1 h.2 t ht
 simp only[zab] at this
 exact⟨this.1,zbI this.2⟩
theorem Wp {Q:Program} {m:Nat} (l:List TypeId) (ts:List TypeId) (h:(Nat.beq ts.length l.length&&ts.all fun t=>kY Q m t)=true): ∀t∈ts,kY Q m t=true:=fun t ht=>by
 simp only[zab] at h
 exact zbk.1 h.2 t ht
theorem fitAll_cons {Q:Program} {m:Nat} {t:TypeId} {ts:List TypeId}: ∀{xs:List D},pB Q m (t::ts) xs-> ∃x r,xs=x::r/\zV Q m t x/\pB Q m ts r
 | [],h=>h.elim
 |x::r,h=>⟨x,r,rfl,h.1,h.2⟩
theorem fitAll_nil {Q:Program} {m:Nat}: ∀{xs:List D},pB Q m [] xs->xs=[]
 | [],_=>rfl
 |_::_,h=>h.elim
def EqP (a b:List P):Prop:=a=b
def EqR (a b:List (Nat×En)):Prop:=a=b
def bD (b:UInt8):D:= .int .u8 b.toNat
@[simp] theorem CP: ∀(l:List D) (k:Nat),bytesOf (l.take k)=(bytesOf l).take k
 | [],k=>by simp[bytesOf]
 |x::r,0=>by simp[bytesOf]
 |x::r,k+1=>by simp[bytesOf,CP r k]
@[simp] theorem CQ: ∀(l:List D) (k:Nat),bytesOf (l.drop k)=(bytesOf l).drop k
 | [],k=>by simp[bytesOf]
 |x::r,0=>by simp
 |x::r,k+1=>by simp[bytesOf,CQ r k]
@[simp] theorem xU: ∀(l m:List D),bytesOf (l++m)=bytesOf l++bytesOf m
 | [],m=>rfl
 |x::r,m=>by simp[bytesOf,xU r m]
@[simp] theorem Ff: ∀s:List UInt8,bytesOf (s.map bD)=s
 | []=>rfl
 |b::r=>by simp[bytesOf,Ff r,D.ah,bD]
theorem u4: ∀(l:List D) (k:Nat),gT l=true->gT (l.take k)=true
 | [],k,_=>by simp[gT]
 |x::r,0,_=>by simp[gT]
 |x::r,k+1,h=>by
  cases x with
  |int kd n=>cases kd<;>simp[gT] at h⊢;exact u4 r k h
  |_=>simp[gT] at h
@[simp] theorem xV: ∀s:List UInt8,gT (s.map bD)=true
 | []=>rfl
 |b::r=>by simp[gT,xV r,bD]
@[simp] theorem Od (s:List UInt8) (n:Nat):gT ((s.map bD).take n)=true:=u4 _ _ (xV s)
theorem ay {α:Type} (f:α->D) (l:List α) (i:Nat) (h:i<l.length):D.nth (l.map f) i=f l[i]:=by simp[D.nth,h]
theorem cT {n b:Nat} (h:n*b<=140737488355328) (h2:n<=9223372036854775807):aN n b=true:=by
 simp[aN,h,h2]
def ae (keep:Option (List Nat×List Nat)) (g:S->K (PX×S)):S->K (PX×S):=fun s post=>match cr keep s with |some s0=>g s0 post |none=>False
theorem Fg {body:Nat->Nat->S->Option (PX×S)} {keep:Option (List Nat×List Nat)} {g:S->K (PX×S)} (h: ∀s0,KW (g s0) (fun x=>dQ body keep s0 x)) (s:S):KW (ae keep g s) (fun x=>Ev fun a b=>iy (body a b) keep a s=some x):=fun post hp=>by
 unfold ae at hp
 split at hp
 ·rename_i s0 h0
  obtain⟨x,h1,h2⟩:=h s0 post hp
  exact⟨x,h1.ev h0,h2⟩
 ·exact hp.elim
theorem Ks {Q:Program} {kp:pZ} {f:FuncId}: ∀id g,lk ([]:List (Nat×(S->K (PX×S)))) id=some g-> ∀s,KW (g s) (fun x=>Ev fun a b=>iy (bz Q (fc Q kp a b) (kp f) a (bx Q f id)) (kp f id) a s=some x):=fun id g h=>by simp[lk] at h
theorem Wq {Q:Program} {kp:pZ} {f id:Nat} {g:S->K (PX×S)} (h: ∀s,KW (g s) (fun x=>Ev fun a b=>iy (bz Q (fc Q kp a b) (kp f) a (bx Q f id)) (kp f id) a s=some x)) {r:List (Nat×(S->K (PX×S)))}
  (hr: ∀id g,lk r id=some g-> ∀s,KW (g s) (fun x=>Ev fun a b=>iy (bz Q (fc Q kp a b) (kp f) a (bx Q f id)) (kp f id) a s=some x)):
  ∀o7 g',lk ((id,g)::r) o7=some g'-> ∀s,KW (g' s) (fun x=>Ev fun a b=>iy (bz Q (fc Q kp a b) (kp f) a (bx Q f o7)) (kp f o7) a s=some x):=fun o7 g' h'=>by
 simp only[lk] at h'
 split at h'
 ·rename_i he
  have he:=zaf he
  subst he
  simp only[zal] at h'
  subst h'
  exact h
 ·exact hr o7 g' h'
abbrev TF:=List P->List (Nat×En)->Option (P×List (Nat×En))
def xOf:List (Nat×TF)->CF
 | [],_,_,_=>none
 | (n,g)::r,f,ps,R=>if Nat.beq n f then g ps R else xOf r f ps R
def MA (Q:Program) (w0:World) (ku:Nat) (g:TF):Prop:=
 w0.drawn=0-> ∀ps R p R1,g ps R=some (p,R1)-> ∀(F:Nat->Prop) (G:Nat->Value) (w:World) (vs:List Value),fG Q ⟨G,w0,0,false⟩ F G w R->vs.length=ps.length->
  (∀(i:Nat) (v:Value) (c:P),vs[i]?=some v->ps[i]?=some c->aF F w G R v c)->
  j8 Q ku ⟨vs⟩ w (fun v w'=> ∃F' G',fG Q ⟨G,w0,0,false⟩ F' G' w' R1/\aF F' w' G' R1 v p/\Ext (Own G R) (Own G' R1) F F' w w')
inductive MB (Q:Program) (w0:World):List (Nat×TF)->Prop
 |nil:MB Q w0 []
 |cons {n:Nat} {g:TF} {r:List (Nat×TF)} (h:MA Q w0 n g) (hr:MB Q w0 r):MB Q w0 ((n,g)::r)
theorem MB.ok {Q:Program} {w0:World} {l:List (Nat×TF)} (h0:w0.drawn=0) (h:MB Q w0 l):dt Q w0 (xOf l):=by
 induction h with
 |nil=>intro f ps R p R1 h;cases h
 |cons h hr ih=>
  intro f ps R p R1 h'
  unfold xOf at h'
  split at h'
  ·rename_i hf
   have hf:=zaf hf
   subst hf
   exact h h0 ps R p R1 h'
  ·exact ih f ps R p R1 h'
theorem qU {w:World} {b:Nat} {cs:Array Value} {T:TypeId} {fr:Nat×Nat} (h:w.heap[b]?=some (.cells cs T fr)) (i:Nat):w.cell? ⟨b,i,none⟩=cs[i]?:=by
 simp[World.cell?,h]
theorem Qj {cs:Array Value} {i:Nat} (h:i<cs.size):cs[i]?=some (cs.getD i undef):=by
 simp[zaD,h]
theorem enters {Q:Program} {f:FuncId} {fn:Func} (fX:Q.funcs[f]?=some fn) (cE:fn.body.isSome=true) (jr:(fn.name== "runtime.NumGoroutine")=false) (vs:Array Value) (w:World):(callFunc f vs).run Q w= .ok (.enter f vs) w:=by
 simp[callFunc,fX]
 rw[zam (by simpa using jr)]
 cases hb:fn.body with
 |none=>rw[hb] at cE;cases cE
 |some c=>simp
end Pi
