/- The text PiSd. -/
import Derived.Test.YtngoddkencoalaaGreatDoorPiApp
import GoSem.Core.Sem
namespace Go
theorem yR{ε α β:Type}{x:Except ε α}{f:α->Except ε β}{b:β}(h:(x>>=f)= .ok b): ∃a,x= .ok a/\f a= .ok b:=by
 cases x with
 |error e=>cases h
 |ok a=>exact⟨a,rfl,h⟩
def Sg(w:World)(x:Except String (World×List Addr)):Prop:= ∀r,x= .ok r->r.1.drawn=w.drawn
theorem Sg.bind{α:Type}{w:World}{x:Except String α}{f:α->Except String (World×List Addr)}(h: ∀a,Sg w (f a)):Sg w (x>>=f):=by intro r hr;obtain⟨a,_,h2⟩:=yR hr;exact h a r h2
theorem Sg.thr{w:World}{s:String}:Sg w (MonadExcept.throw s):=λ_ h=>by cases h
theorem Sg.pur{w:World}{r:World×List Addr}(h:r.1.drawn=w.drawn):Sg w (pure r):=λ_ e=>by cases e;exact h
theorem xp{p:Program}{w:World}{at_:Addr}{u:TypeId}{k:Addr}{v:Value}{atomic:Bool}{r:World×List Addr}
  (h:w.viewStore p at_ u k v atomic= .ok r):r.1.drawn=w.drawn:=by
 have:Sg w (w.viewStore p at_ u k v atomic):=by
  unfold World.viewStore;dsimp only
  repeat' (first |exact Sg.thr |exact Sg.pur rfl | (refine Sg.bind (λ_=> ?_))|split | (dsimp only))
 exact this r h
theorem yS{p:Program}{w:World}{a:Addr}{v:Value}{atomic:Bool}{w':World}{t:List Addr}
  (h:w.farStore p a v atomic= .ok (w',t)):w'.drawn=w.drawn:=by
 unfold World.farStore at h;split at h
 ·split at h
  ·cases h;rename_i hv;exact xp hv
  cases h
 cases h
theorem OI{α:Type}(a:Ask α): ∀(w:World),w.drawn<=(w.ask a).2.drawn:=by
 induction a with
 |done a=>exact λw=>zak _
 |ask what range k ih=>
  intro w;unfold World.ask;simp only;split
  ·exact ih _ w
  exact zaE (zdm _) (ih _ {w with drawn:=w.drawn+1})
theorem OJ(w:World)(c:Sys):w.drawn<=(w.sys c).2.drawn:=by
 unfold World.sys;have:=OI (Kernel.perform c w.os) w;split
 ·exact zak _
 rename_i h;rw[h] at this;exact this
theorem BD(w:World)(a:Addr)(v:Value):(w.setCell a v).drawn=w.drawn:=by rfl
theorem q4{α:Type}{p:Program}(m:Sem α): ∀{w w':World} {a:α},m.run p w= .ok a w'->w.drawn<=w'.drawn:=by
 induction m with
 |pure a=>intro w w' b h;simp only[Sem.run] at h;cases h;exact zak _
 |load m a k ih=>
  intro w w' b h;unfold Sem.run at h;split at h
  ·exact ih _ h
  split at h
  ·exact ih _ h
  cases h
 |store m a v k ih=>
  intro w w' b h;have key:(match w.cell? a with
    |some _=>if w.frozen? a then Result.halt (.unsupported (.unsafePointer "a write to bytes that a string shares")) w else k.run p (w.setCell a v)
    |none=>match w.farStore p a v (m==Mode.atomic) with
     | .ok (w,_)=>k.run p w
     | .error h=> .halt h w)= .ok b w'->w.drawn<=w'.drawn:=by
   intro h;split at h
   ·split at h
    ·cases h
    exact zaE (zdb (BD w a v).symm) (ih h)
   split at h
   next hf=>have:=ih h;rw[yS hf] at this;exact this
   cases h
  cases v
  case agg=>cases h
  case tuple=>cases h
  all_goals (simp only[Sem.run] at h;exact key h)
 |new o k ih=>intro w w' b h;simp only[Sem.run] at h;have:=ih _ h;exact this
 |shape r k ih=>intro w w' b h;simp only[Sem.run] at h;exact ih _ h
 |freeze a n k ih=>intro w w' b h;simp only[Sem.run] at h;have:=ih h;refine zaE ?_ this;unfold World.freeze;split<;>exact zak _
 |frozen a k ih=>intro w w' b h;simp only[Sem.run] at h;exact ih _ h
 |getObj r k ih=>
  intro w w' b h;unfold Sem.run at h;split at h
  ·cases h
  ·exact ih _ h
  cases h
 |setObj r o k ih=>
  intro w w' b h;unfold Sem.run at h;split at h
  ·cases h
  ·have:=ih h;exact this
  cases h
 |choose q k ih=>
  intro w w' b h;unfold Sem.run at h;split at h
  ·exact ih _ h
  exact zaE (zdm _) (ih _ h)
 |sys c k ih=>intro w w' b h;simp only[Sem.run] at h;exact zaE (OJ w c) (ih _ h)
 |program k ih=>intro w w' b h;simp only[Sem.run] at h;exact ih _ h
 |mark m k ih=>intro w w' b h;simp only[Sem.run] at h;exact ih h
 |halt h=>intro w w' b h;simp only[Sem.run] at h;cases h
end Go
