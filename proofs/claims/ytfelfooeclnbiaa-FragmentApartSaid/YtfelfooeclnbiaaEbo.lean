/- The texts PiLem PiTold PiSeat. -/
import Derived.Test.YtfelfooeclnbiaaEbn
import Derived.IntWalk
namespace Pi
open Go
abbrev ob(b:Bool)(A:Prop):Prop:=cond b A False
theorem ez{b:Bool}{A:Prop}(hb:b=true)(h:A):cond b A False:=by subst hb;exact h
theorem oX{b:Bool}{A B:Prop}(h1:b=true->A)(h2:b=false->B):cond b A B:=by cases b with |true=>exact h1 rfl |false=>exact h2 rfl
theorem ua{b:Bool}{A B:Prop}(hb:b=true)(h:A):cond b A B:=by subst hb;exact h
theorem bw{b:Bool}{A B:Prop}(hb:b=false)(h:B):cond b A B:=by subst hb;exact h
theorem BB{Q:Program}(l:List TypeId)(ts:List TypeId)(h:(Nat.beq ts.length l.length&&ts.all λt=>Q.readableRec t&&Nat.blt t Q.types.size)=true): ∀t∈ts,Q.readableRec t=true/\t<Q.types.size:=λt ht=>by simp only[zac] at h;have:=zaI.1 h.2 t ht;simp only[zac] at this;exact⟨this.1,za3 this.2⟩
theorem zC{Q:Program}{m:Nat}(l:List TypeId)(ts:List TypeId)(h:(Nat.beq ts.length l.length&&ts.all λt=>eV Q m t)=true): ∀t∈ts,eV Q m t=true:=λt ht=>by simp only[zac] at h;exact zaI.1 h.2 t ht
theorem fitAll_cons{Q:Program}{m:Nat}{t:TypeId}{ts:List TypeId}: ∀{xs:List D},jP Q m (t::ts) xs-> ∃x r,xs=x::r/\xK Q m t x/\jP Q m ts r
 | [],h=>h.elim
 |x::r,h=>⟨x,r,rfl,h.1,h.2⟩
theorem fitAll_nil{Q:Program}{m:Nat}: ∀{xs:List D},jP Q m [] xs->xs=[]
 | [],_=>rfl
 |_::_,h=>h.elim
def Ip(a b:List P):Prop:=a=b
def Iq(a b:List (Nat×En)):Prop:=a=b
def bD(b:UInt8):D:= .int .u8 b.toNat
@[simp] theorem p8: ∀(l:List D) (k:Nat),bytesOf (l.take k)=(bytesOf l).take k
 | [],k=>by simp[bytesOf]
 |x::r,0=>by simp[bytesOf]
 |x::r,k+1=>by simp[bytesOf,p8 r k]
@[simp] theorem p9: ∀(l:List D) (k:Nat),bytesOf (l.drop k)=(bytesOf l).drop k
 | [],k=>by simp[bytesOf]
 |x::r,0=>by simp
 |x::r,k+1=>by simp[bytesOf,p9 r k]
@[simp] theorem ny: ∀(l m:List D),bytesOf (l++m)=bytesOf l++bytesOf m
 | [],m=>rfl
 |x::r,m=>by simp[bytesOf,ny r m]
@[simp] theorem rG: ∀s:List UInt8,bytesOf (s.map bD)=s
 | []=>rfl
 |b::r=>by simp[bytesOf,rG r,D.hT,bD]
theorem lL: ∀(l:List D) (k:Nat),cX l=true->cX (l.take k)=true
 | [],k,_=>by simp[cX]
 |x::r,0,_=>by simp[cX]
 |x::r,k+1,h=>by
  cases x with
  |int kd n=>cases kd<;>simp[cX] at h⊢;exact lL r k h
  |_=>simp[cX] at h
@[simp] theorem nz: ∀s:List UInt8,cX (s.map bD)=true
 | []=>rfl
 |b::r=>by simp[cX,nz r,bD]
@[simp] theorem vN (s:List UInt8) (n:Nat):cX ((s.map bD).take n)=true:=lL _ _ (nz s)
def bQ(keep:Option (List Nat×List Nat))(g:S->K (PX×S)):S->K (PX×S):=λs ae=>match fq keep s with |some s0=>g s0 ae |none=>False
theorem lM{body:Nat->Nat->S->Option (PX×S)}{keep:Option (List Nat×List Nat)}{g:S->K (PX×S)}(h: ∀s0,KW (g s0) (λx=>bb body keep s0 x))(s:S):KW (bQ keep g s) (λx=>Ev λa b=>dk (body a b) keep a s=some x):=λae hp=>by
 unfold bQ at hp;split at hp
 next s0 h0=>obtain⟨x,h1,h2⟩:=h s0 ae hp;exact⟨x,h1.ev h0,h2⟩
 exact hp.elim
theorem ub{Q:Program}{kp:rS}{f:FuncId}: ∀id g,lk ([]:List (Nat×(S->K (PX×S)))) id=some g-> ∀s,KW (g s) (λx=>Ev λa b=>dk (aP Q (cW Q kp a b) (kp f) a (da Q f id)) (kp f id) a s=some x):=λid g h=>by simp[lk] at h
theorem zD{Q:Program}{kp:rS}{f id:Nat}{g:S->K (PX×S)}(h: ∀s,KW (g s) (λx=>Ev λa b=>dk (aP Q (cW Q kp a b) (kp f) a (da Q f id)) (kp f id) a s=some x)){r:List (Nat×(S->K (PX×S)))}
  (hr: ∀id g,lk r id=some g-> ∀s,KW (g s) (λx=>Ev λa b=>dk (aP Q (cW Q kp a b) (kp f) a (da Q f id)) (kp f id) a s=some x)):
  ∀tr g',lk ((id,g)::r) tr=some g'-> ∀s,KW (g' s) (λx=>Ev λa b=>dk (aP Q (cW Q kp a b) (kp f) a (da Q f tr)) (kp f tr) a s=some x):=λtr g' h'=>by
 simp only[lk] at h';split at h'
 next he=>have he:=zab he;subst he;simp only[zae] at h';subst h';exact h
 exact hr tr g' h'
abbrev TF:=List P->List (Nat×En)->Option (P×List (Nat×En))
def Ew:List (Nat×TF)->CF
 | [],_,_,_=>none
 | (n,g)::r,f,ps,R=>if Nat.beq n f then g ps R else Ew r f ps R
def Ex(Q:Program)(w0:World)(gZ:Nat)(g:TF):Prop:=
 w0.drawn=0-> ∀ps R p R1,g ps R=some (p,R1)-> ∀(F:Nat->Prop) (G:Nat->Value) (w:World) (vs:List Value),dK Q ⟨G,w0,0,false⟩ F G w R->vs.length=ps.length->
  (∀(i:Nat) (v:Value) (c:P),vs[i]?=some v->ps[i]?=some c->ak F w G R v c)->
  gj Q gZ ⟨vs⟩ w (λv w'=> ∃F' G',dK Q ⟨G,w0,0,false⟩ F' G' w' R1/\ak F' w' G' R1 v p/\Ext (Own G R) (Own G' R1) F F' w w')
inductive vu(Q:Program)(w0:World):List (Nat×TF)->Prop
 |nil:vu Q w0 []
 |cons {n:Nat} {g:TF} {r:List (Nat×TF)} (h:Ex Q w0 n g) (hr:vu Q w0 r):vu Q w0 ((n,g)::r)
theorem vu.ok{Q:Program}{w0:World}{l:List (Nat×TF)}(h0:w0.drawn=0)(h:vu Q w0 l):jc Q w0 (Ew l):=by
 induction h with
 |nil=>intro f ps R p R1 h;cases h
 |cons h hr ih=>
  intro f ps R p R1 h';unfold Ew at h';split at h'
  next hf=>have hf:=zab hf;subst hf;exact h h0 ps R p R1 h'
  exact ih f ps R p R1 h'
theorem fA{w:World}{b:Nat}{cs:Array Value}{T:TypeId}{fr:Nat×Nat}(h:w.heap[b]?=some (.cells cs T fr))(i:Nat):w.cell? ⟨b,i,none⟩=cs[i]?:=by simp[World.cell?,h]
theorem nA{cs:Array Value}{i:Nat}(h:i<cs.size):cs[i]?=some (cs.getD i undef):=by simp[zak,h]
theorem enters{Q:Program}{f:FuncId}{fn:Func}(jD:Q.funcs[f]?=some fn)(gC:fn.body.isSome=true)(lE:(fn.name== "runtime.NumGoroutine")=false)(vs:Array Value)(w:World):(callFunc f vs).run Q w= .ok (.enter f vs) w:=by
 simp[callFunc,jD];rw[zav (by simpa using lE)];cases hb:fn.body with
 |none=>rw[hb] at gC;cases gC
 |some c=>simp
theorem zE(Q:Program)(kf:KF)(kp:FuncId->Nat->Option (List Nat×List Nat))(xs:List Nat)(X Y:CF)(hk:List (Nat×(S->K (PX×S))))(dc:FuncId->Nat->Nat)(lf:Nat):
 fE Q kf ⟨kp,xs,X⟩ hk dc lf=fE Q kf ⟨kp,xs,Y⟩ hk dc lf:=rfl
theorem qa(Q:Program)(kp:FuncId->Nat->Option (List Nat×List Nat))(xs:List Nat)(X Y:CF)(dc:FuncId->Nat->Nat)(H:List (FuncId×eY))(lf:Nat): ∀k,
  runK Q ⟨kp,xs,X⟩ dc H lf k=runK Q ⟨kp,xs,Y⟩ dc H lf k
 |0=>rfl
 |k+1=>by funext f ps R;unfold runK;rw[qa Q kp xs X Y dc H lf k,zE Q _ kp xs X Y]
end Pi
