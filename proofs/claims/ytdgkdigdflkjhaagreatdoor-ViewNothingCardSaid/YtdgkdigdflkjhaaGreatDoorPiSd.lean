/- The text PiSd. -/
import Derived.Test.YtdgkdigdflkjhaaGreatDoorPiApp
import GoSem.Core.Sem
namespace Go
theorem zO{ε α β:Type}{x}{f:α->Except ε β}{b}(h:(x>>=f)= .ok b): ∃a,x= .ok a/\f a= .ok b:=by
 cases x with
 |error e=>cases h
 |ok a=>exact⟨a,rfl,h⟩
def T7(w:World)(x:Except String (World×List Addr)):= ∀r,x= .ok r->r.1.drawn=w.drawn
theorem T7.bind{α:Type}{w}{x:Except String α}{f}(h: ∀a,T7 w (f a)):T7 w (x>>=f):=by intro r hr;obtain⟨a,_,h2⟩:=zO hr;exact h a r h2
theorem T7.thr{w s}:T7 w (MonadExcept.throw s):=λ_ h=>by cases h
theorem T7.pur{w r}(h:r.1.drawn=w.drawn):T7 w (pure r):=λ_ e=>by cases e;exact h
theorem yc{p}{w:World}{at_ u k v}{atomic r}
  (h:w.viewStore p at_ u k v atomic= .ok r):r.1.drawn=w.drawn:=by
 have:T7 w (w.viewStore p at_ u k v atomic):=by
  unfold World.viewStore;dsimp only
  repeat' (first |exact T7.thr |exact T7.pur rfl | (refine T7.bind (λ_=> ?_))|split | (dsimp only))
 exact this r h
theorem zP{p}{w:World}{a v atomic w'}{t}
  (h:w.farStore p a v atomic= .ok (w',t)):w'.drawn=w.drawn:=by
 unfold World.farStore at h;split at h
 ·split at h
  ·cases h;rename_i hv;exact yc hv
  cases h
 cases h
theorem Qu{α:Type}(a:Ask α): ∀(w:World),w.drawn<=(w.ask a).2.drawn:=by
 induction a with
 |done a=>exact λw=>zal _
 |ask what range k ih=>
  intro w;unfold World.ask;simp only;split
  ·exact ih _ w
  exact zaL (zdv _) (ih _ {w with drawn:=w.drawn+1})
theorem Qv(w:World) c:w.drawn<=(w.sys c).2.drawn:=by
 unfold World.sys;have:=Qu (Kernel.perform c w.os) w;split
 ·exact zal _
 rename_i h;rw[h] at this;exact this
theorem Cu(w:World) a v:(w.setCell a v).drawn=w.drawn:=by rfl
theorem rv{α:Type}{p}(m:Sem α): ∀{w w':World} {a:α},m.run p w= .ok a w'->w.drawn<=w'.drawn:=by
 induction m with
 |pure a=>intro w w' b h;simp only[Sem.run] at h;cases h;exact zal _
 |load m a k ih=>
  intro w w' b h;unfold Sem.run at h;split at h
  ·exact ih _ h
  split at h
  ·exact ih _ h
  cases h
 |store m a v k ih=>
  intro w w' b h;have key:(match w.cell? a with
    |some _=>if w.frozen? a then Result.halt (.unsupported (.unsafePointer "a write to bytes that a string shares")) w else k.run p (w.setCell a v)
    |none=>match w.farStore p a v (m==Mode.atomic) with
     | .ok (w,_)=>k.run p w
     | .error h=> .halt h w)= .ok b w'->w.drawn<=w'.drawn:=by
   intro h;split at h
   ·split at h
    ·cases h
    exact zaL (Nat.le_of_eq (Cu w a v).symm) (ih h)
   split at h
   next hf=>have:=ih h;rw[zP hf] at this;exact this
   cases h
  cases v
  case agg=>cases h
  case tuple=>cases h
  all_goals (simp only[Sem.run] at h;exact key h)
 |new o k ih=>intro w w' b h;simp only[Sem.run] at h;have:=ih _ h;exact this
 |shape r k ih=>intro w w' b h;simp only[Sem.run] at h;exact ih _ h
 |freeze a n k ih=>intro w w' b h;simp only[Sem.run] at h;have:=ih h;refine zaL ?_ this;unfold World.freeze;split<;>exact zal _
 |frozen a k ih=>intro w w' b h;simp only[Sem.run] at h;exact ih _ h
 |getObj r k ih=>
  intro w w' b h;unfold Sem.run at h;split at h
  ·cases h
  ·exact ih _ h
  cases h
 |setObj r o k ih=>
  intro w w' b h;unfold Sem.run at h;split at h
  ·cases h
  ·have:=ih h;exact this
  cases h
 |choose q k ih=>
  intro w w' b h;unfold Sem.run at h;split at h
  ·exact ih _ h
  exact zaL (zdv _) (ih _ h)
 |sys c k ih=>intro w w' b h;simp only[Sem.run] at h;exact zaL (Qv w c) (ih _ h)
 |program k ih=>intro w w' b h;simp only[Sem.run] at h;exact ih _ h
 |mark m k ih=>intro w w' b h;simp only[Sem.run] at h;exact ih h
 |halt h=>intro w w' b h;simp only[Sem.run] at h;cases h
end Go
