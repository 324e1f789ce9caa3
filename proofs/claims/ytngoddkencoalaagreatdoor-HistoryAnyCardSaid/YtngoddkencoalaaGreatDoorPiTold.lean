/- The text PiTold. -/
import Derived.Test.YtngoddkencoalaaGreatDoorPiLem
namespace Pi
open Go
abbrev TF:=List P->List (Nat×En)->Option (P×List (Nat×En))
def xOf:List (Nat×TF)->CF
 | [],_,_,_=>none
 | (n,g)::r,f,ps,R=>if Nat.beq n f then g ps R else xOf r f ps R
def KQ (Q:Program) (w0:World) (ju:Nat) (g:TF):Prop:=
 w0.drawn=0-> ∀ps R p R1,g ps R=some (p,R1)-> ∀(F:Nat->Prop) (G:Nat->Value) (w:World) (vs:List Value),fo Q ⟨G,w0,0,false⟩ F G w R->vs.length=ps.length->
  (∀(i:Nat) (v:Value) (c:P),vs[i]?=some v->ps[i]?=some c->aD F w G R v c)->
  jD Q ju ⟨vs⟩ w (fun v w'=> ∃F' G',fo Q ⟨G,w0,0,false⟩ F' G' w' R1/\aD F' w' G' R1 v p/\Ext (Own G R) (Own G' R1) F F' w w')
inductive KR (Q:Program) (w0:World):List (Nat×TF)->Prop
 |nil:KR Q w0 []
 |cons {n:Nat} {g:TF} {r:List (Nat×TF)} (h:KQ Q w0 n g) (hr:KR Q w0 r):KR Q w0 ((n,g)::r)
theorem KR.ok {Q:Program} {w0:World} {l:List (Nat×TF)} (h0:w0.drawn=0) (h:KR Q w0 l):db Q w0 (xOf l):=by
 induction h with
 |nil=>intro f ps R p R1 h;cases h
 |cons h hr ih=>
  intro f ps R p R1 h'
  unfold xOf at h'
  split at h'
  ·rename_i hf
   have hf:=Nat.eq_of_beq_eq_true hf
   subst hf
   exact h h0 ps R p R1 h'
  ·exact ih f ps R p R1 h'
theorem qy {w:World} {b:Nat} {cs:Array Value} {T:TypeId} {fr:Nat×Nat} (h:w.heap[b]?=some (.cells cs T fr)) (i:Nat):w.cell? ⟨b,i,none⟩=cs[i]?:=by
 simp[World.cell?,h]
theorem Oo {cs:Array Value} {i:Nat} (h:i<cs.size):cs[i]?=some (cs.getD i undef):=by
 simp[Array.getD_eq_getD_getElem?,h]
theorem enters {Q:Program} {f:FuncId} {fn:Func} (eJ:Q.funcs[f]?=some fn) (cB:fn.body.isSome=true) (gJ:(fn.name== "runtime.NumGoroutine")=false) (vs:Array Value) (w:World):(callFunc f vs).run Q w= .ok (.enter f vs) w:=by
 simp[callFunc,eJ]
 rw[if_neg (by simpa using gJ)]
 cases hb:fn.body with
 |none=>rw[hb] at cB;cases cB
 |some c=>simp
end Pi
