/- The text PiSd. -/
import Derived.Test.YtpiohccneeblhaaPiApp
import GoSem.Core.Sem
namespace Go
theorem pR{ε α β:Type}{x:Except ε α}{f:α->Except ε β}{b:β}(h:(x>>=f)= .ok b): ∃a,x= .ok a/\f a= .ok b:=by
 cases x with
 |error e=>cases h
 |ok a=>exact⟨a,rfl,h⟩
def Cx(w:World)(x:Except String (World×List Addr)):Prop:= ∀r,x= .ok r->r.1.drawn=w.drawn
theorem Cx.bind{α:Type}{w:World}{x:Except String α}{f:α->Except String (World×List Addr)}(h: ∀a,Cx w (f a)):Cx w (x>>=f):=by intro r hr;obtain⟨a,_,h2⟩:=pR hr;exact h a r h2
theorem Cx.Pf{w:World}{s:String}:Cx w (MonadExcept.throw s):=λ_ h=>by cases h
theorem Cx.Pg{w:World}{r:World×List Addr}(h:r.1.drawn=w.drawn):Cx w (pure r):=λ_ e=>by cases e;exact h
theorem oL{p:Program}{w:World}{at_:Addr}{u:TypeId}{k:Addr}{v:Value}{atomic:Bool}{r:World×List Addr}
  (h:w.viewStore p at_ u k v atomic= .ok r):r.1.drawn=w.drawn:=by
 have:Cx w (w.viewStore p at_ u k v atomic):=by
  unfold World.viewStore;dsimp only
  repeat' (first |exact Cx.Pf |exact Cx.Pg rfl | (refine Cx.bind (λ_=> ?_))|split | (dsimp only))
 exact this r h
theorem pS{p:Program}{w:World}{a:Addr}{v:Value}{atomic:Bool}{w':World}{t:List Addr}
  (h:w.farStore p a v atomic= .ok (w',t)):w'.drawn=w.drawn:=by
 unfold World.farStore at h;split at h
 ·split at h
  ·cases h;rename_i hv;exact oL hv
  cases h
 cases h
theorem Am{α:Type}(a:Ask α): ∀(w:World),w.drawn<=(w.ask a).2.drawn:=by
 induction a with
 |done a=>exact λw=>zae _
 |ask what range k ih=>
  intro w;unfold World.ask;simp only;split
  ·exact ih _ w
  exact zaN (zbq _) (ih _ {w with drawn:=w.drawn+1})
theorem An(w:World)(c:Sys):w.drawn<=(w.sys c).2.drawn:=by
 unfold World.sys;have:=Am (Kernel.perform c w.os) w;split
 ·exact zae _
 rename_i h;rw[h] at this;exact this
theorem rB(w:World)(a:Addr)(v:Value):(w.setCell a v).drawn=w.drawn:=by rfl
theorem iT{α:Type}{p:Program}(m:Sem α): ∀{w w':World} {a:α},m.run p w= .ok a w'->w.drawn<=w'.drawn:=by
 induction m with
 |pure a=>intro w w' b h;simp only[Sem.run] at h;cases h;exact zae _
 |load m a k ih=>
  intro w w' b h;unfold Sem.run at h;split at h
  ·exact ih _ h
  split at h
  ·exact ih _ h
  cases h
 |store m a v k ih=>
  intro w w' b h;have key:(match w.cell? a with
    |some _=>if w.frozen? a then Result.halt (.unsupported (.unsafePointer "a write to bytes that a string shares")) w else k.run p (w.setCell a v)
    |none=>match w.farStore p a v (m==Mode.atomic) with
     | .ok (w,_)=>k.run p w
     | .error h=> .halt h w)= .ok b w'->w.drawn<=w'.drawn:=by
   intro h;split at h
   ·split at h
    ·cases h
    exact zaN (Nat.le_of_eq (rB w a v).symm) (ih h)
   split at h
   next hf=>have:=ih h;rw[pS hf] at this;exact this
   cases h
  cases v
  case agg=>cases h
  case tuple=>cases h
  all_goals (simp only[Sem.run] at h;exact key h)
 |new o k ih=>intro w w' b h;simp only[Sem.run] at h;have:=ih _ h;exact this
 |shape r k ih=>intro w w' b h;simp only[Sem.run] at h;exact ih _ h
 |freeze a n k ih=>intro w w' b h;simp only[Sem.run] at h;have:=ih h;refine zaN ?_ this;unfold World.freeze;split<;>exact zae _
 |frozen a k ih=>intro w w' b h;simp only[Sem.run] at h;exact ih _ h
 |getObj r k ih=>
  intro w w' b h;unfold Sem.run at h;split at h
  ·cases h
  ·exact ih _ h
  cases h
 |setObj r o k ih=>
  intro w w' b h;unfold Sem.run at h;split at h
  ·cases h
  ·have:=ih h;exact this
  cases h
 |choose q k ih=>
  intro w w' b h;unfold Sem.run at h;split at h
  ·exact ih _ h
  exact zaN (zbq _) (ih _ h)
 |sys c k ih=>intro w w' b h;simp only[Sem.run] at h;exact zaN (An w c) (ih _ h)
 |program k ih=>intro w w' b h;simp only[Sem.run] at h;exact ih _ h
 |mark m k ih=>intro w w' b h;simp only[Sem.run] at h;exact ih h
 |halt h=>intro w w' b h;simp only[Sem.run] at h;cases h
end Go
