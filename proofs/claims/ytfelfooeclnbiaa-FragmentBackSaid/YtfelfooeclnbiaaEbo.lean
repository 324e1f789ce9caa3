/- The texts PiLem PiTold PiSeat. -/
import Derived.Test.YtfelfooeclnbiaaEbn
import Derived.IntWalk
namespace Pi
open Go
abbrev ob(b:Bool)(A:Prop):Prop:=cond b A False
theorem im{b:Bool}{A:Prop}(hb:b=true)(h:A):cond b A False:=by subst hb;exact h
theorem tS{b:Bool}{A B:Prop}(h1:b=true->A)(h2:b=false->B):cond b A B:=by cases b with |true=>exact h1 rfl |false=>exact h2 rfl
theorem rm{b:Bool}{A B:Prop}(hb:b=true)(h:A):cond b A B:=by subst hb;exact h
theorem oR{b:Bool}{A B:Prop}(hb:b=false)(h:B):cond b A B:=by subst hb;exact h
theorem Bj{Q:Program}(l:List TypeId)(ts:List TypeId)(h:(Nat.beq ts.length l.length&&ts.all λt=>Q.readableRec t&&Nat.blt t Q.types.size)=true): ∀t∈ts,Q.readableRec t=true/\t<Q.types.size:=λt ht=>by simp only[zac] at h;have:=zaO.1 h.2 t ht;simp only[zac] at this;exact⟨this.1,zbc this.2⟩
theorem zu{Q:Program}{m:Nat}(l:List TypeId)(ts:List TypeId)(h:(Nat.beq ts.length l.length&&ts.all λt=>eW Q m t)=true): ∀t∈ts,eW Q m t=true:=λt ht=>by simp only[zac] at h;exact zaO.1 h.2 t ht
theorem fitAll_cons{Q:Program}{m:Nat}{t:TypeId}{ts:List TypeId}: ∀{xs:List D},jG Q m (t::ts) xs-> ∃x r,xs=x::r/\ri Q m t x/\jG Q m ts r
 | [],h=>h.elim
 |x::r,h=>⟨x,r,rfl,h.1,h.2⟩
theorem fitAll_nil{Q:Program}{m:Nat}: ∀{xs:List D},jG Q m [] xs->xs=[]
 | [],_=>rfl
 |_::_,h=>h.elim
def HK(a b:List P):Prop:=a=b
def HL(a b:List (Nat×En)):Prop:=a=b
def bD(b:UInt8):D:= .int .u8 b.toNat
@[simp] theorem p3: ∀(l:List D) (k:Nat),bytesOf (l.take k)=(bytesOf l).take k
 | [],k=>by simp[bytesOf]
 |x::r,0=>by simp[bytesOf]
 |x::r,k+1=>by simp[bytesOf,p3 r k]
@[simp] theorem p4: ∀(l:List D) (k:Nat),bytesOf (l.drop k)=(bytesOf l).drop k
 | [],k=>by simp[bytesOf]
 |x::r,0=>by simp
 |x::r,k+1=>by simp[bytesOf,p4 r k]
@[simp] theorem nk: ∀(l m:List D),bytesOf (l++m)=bytesOf l++bytesOf m
 | [],m=>rfl
 |x::r,m=>by simp[bytesOf,nk r m]
@[simp] theorem rn: ∀s:List UInt8,bytesOf (s.map bD)=s
 | []=>rfl
 |b::r=>by simp[bytesOf,rn r,D.bp,bD]
theorem lE: ∀(l:List D) (k:Nat),da l=true->da (l.take k)=true
 | [],k,_=>by simp[da]
 |x::r,0,_=>by simp[da]
 |x::r,k+1,h=>by
  cases x with
  |int kd n=>cases kd<;>simp[da] at h⊢;exact lE r k h
  |_=>simp[da] at h
@[simp] theorem np: ∀s:List UInt8,da (s.map bD)=true
 | []=>rfl
 |b::r=>by simp[da,np r,bD]
@[simp] theorem vP (s:List UInt8) (n:Nat):da ((s.map bD).take n)=true:=lE _ _ (np s)
def bu(keep:Option (List Nat×List Nat))(g:S->K (PX×S)):S->K (PX×S):=λs ae=>match fm keep s with |some s0=>g s0 ae |none=>False
theorem rp{body:Nat->Nat->S->Option (PX×S)}{keep:Option (List Nat×List Nat)}{g:S->K (PX×S)}(h: ∀s0,KW (g s0) (λx=>bN body keep s0 x))(s:S):KW (bu keep g s) (λx=>Ev λa b=>dp (body a b) keep a s=some x):=λae hp=>by
 unfold bu at hp;split at hp
 next s0 h0=>obtain⟨x,h1,h2⟩:=h s0 ae hp;exact⟨x,h1.ev h0,h2⟩
 exact hp.elim
theorem tT{Q:Program}{kp:rT}{f:FuncId}: ∀id g,lk ([]:List (Nat×(S->K (PX×S)))) id=some g-> ∀s,KW (g s) (λx=>Ev λa b=>dp (aR Q (dN Q kp a b) (kp f) a (dA Q f id)) (kp f id) a s=some x):=λid g h=>by simp[lk] at h
theorem zw{Q:Program}{kp:rT}{f id:Nat}{g:S->K (PX×S)}(h: ∀s,KW (g s) (λx=>Ev λa b=>dp (aR Q (dN Q kp a b) (kp f) a (dA Q f id)) (kp f id) a s=some x)){r:List (Nat×(S->K (PX×S)))}
  (hr: ∀id g,lk r id=some g-> ∀s,KW (g s) (λx=>Ev λa b=>dp (aR Q (dN Q kp a b) (kp f) a (dA Q f id)) (kp f id) a s=some x)):
  ∀tc g',lk ((id,g)::r) tc=some g'-> ∀s,KW (g' s) (λx=>Ev λa b=>dp (aR Q (dN Q kp a b) (kp f) a (dA Q f tc)) (kp f tc) a s=some x):=λtc g' h'=>by
 simp only[lk] at h';split at h'
 next he=>have he:=zab he;subst he;simp only[zae] at h';subst h';exact h
 exact hr tc g' h'
abbrev TF:=List P->List (Nat×En)->Option (P×List (Nat×En))
def DQ:List (Nat×TF)->CF
 | [],_,_,_=>none
 | (n,g)::r,f,ps,R=>if Nat.beq n f then g ps R else DQ r f ps R
def DR(Q:Program)(w0:World)(gS:Nat)(g:TF):Prop:=
 w0.drawn=0-> ∀ps R p R1,g ps R=some (p,R1)-> ∀(F:Nat->Prop) (G:Nat->Value) (w:World) (vs:List Value),dO Q ⟨G,w0,0,false⟩ F G w R->vs.length=ps.length->
  (∀(i:Nat) (v:Value) (c:P),vs[i]?=some v->ps[i]?=some c->ao F w G R v c)->
  gh Q gS ⟨vs⟩ w (λv w'=> ∃F' G',dO Q ⟨G,w0,0,false⟩ F' G' w' R1/\ao F' w' G' R1 v p/\Ext (Own G R) (Own G' R1) F F' w w')
inductive vu(Q:Program)(w0:World):List (Nat×TF)->Prop
 |nil:vu Q w0 []
 |cons {n:Nat} {g:TF} {r:List (Nat×TF)} (h:DR Q w0 n g) (hr:vu Q w0 r):vu Q w0 ((n,g)::r)
theorem vu.ok{Q:Program}{w0:World}{l:List (Nat×TF)}(h0:w0.drawn=0)(h:vu Q w0 l):iR Q w0 (DQ l):=by
 induction h with
 |nil=>intro f ps R p R1 h;cases h
 |cons h hr ih=>
  intro f ps R p R1 h';unfold DQ at h';split at h'
  next hf=>have hf:=zab hf;subst hf;exact h h0 ps R p R1 h'
  exact ih f ps R p R1 h'
theorem fw{w:World}{b:Nat}{cs:Array Value}{T:TypeId}{fr:Nat×Nat}(h:w.heap[b]?=some (.cells cs T fr))(i:Nat):w.cell? ⟨b,i,none⟩=cs[i]?:=by simp[World.cell?,h]
theorem nq{cs:Array Value}{i:Nat}(h:i<cs.size):cs[i]?=some (cs.getD i undef):=by simp[zam,h]
theorem enters{Q:Program}{f:FuncId}{fn:Func}(jt:Q.funcs[f]?=some fn)(gA:fn.body.isSome=true)(lx:(fn.name== "runtime.NumGoroutine")=false)(vs:Array Value)(w:World):(callFunc f vs).run Q w= .ok (.enter f vs) w:=by
 simp[callFunc,jt];rw[zay (by simpa using lx)];cases hb:fn.body with
 |none=>rw[hb] at gA;cases gA
 |some c=>simp
theorem zx(Q:Program)(kf:KF)(kp:FuncId->Nat->Option (List Nat×List Nat))(xs:List Nat)(X Y:CF)(hk:List (Nat×(S->K (PX×S))))(dc:FuncId->Nat->Nat)(lf:Nat):
 fD Q kf ⟨kp,xs,X⟩ hk dc lf=fD Q kf ⟨kp,xs,Y⟩ hk dc lf:=rfl
theorem sW(Q:Program)(kp:FuncId->Nat->Option (List Nat×List Nat))(xs:List Nat)(X Y:CF)(dc:FuncId->Nat->Nat)(H:List (FuncId×gF))(lf:Nat): ∀k,
  runK Q ⟨kp,xs,X⟩ dc H lf k=runK Q ⟨kp,xs,Y⟩ dc H lf k
 |0=>rfl
 |k+1=>by funext f ps R;unfold runK;rw[sW Q kp xs X Y dc H lf k,zx Q _ kp xs X Y]
end Pi
