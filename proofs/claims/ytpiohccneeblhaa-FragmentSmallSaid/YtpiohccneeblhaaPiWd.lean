/- The text PiWd. -/
import Derived.Test.YtpiohccneeblhaaPiCallOk
import Derived.OrdersIn
import Derived.TacticsIn
import Derived.LoopNIn
import Derived.RangeFuncCalls
import Derived.Scope
namespace Pi
open Go
def wd(r:Option Nat):Fence:={fn:=λ_=>True,depth:=none,alive:=false,round:=r}
theorem E5(r:Option Nat)(n:Nat):(wd r).room n:=λd h=>by cases h
theorem qb{r:Option Nat}{n:Nat}{P:Program}{f:FuncId}{args:Array Value}{w:World}{R:Ending->World->Prop}(h:Calls P f args w R):CallsIn (wd r) n P f args w R:=by
 cases r with
 |none=>exact callsIn_wide.2 h
 |some l=>exact CallsIn.inRound l (callsIn_wide.2 h)
theorem mJ{r:Option Nat}{P:Program}{o:Oper}{a:Act}{w:World}{K:Act->World->Prop}{Q':Exit->Act->World->Prop}(hd: ∀c,o.op≠ .defer c)(h:o.uponIn (wd r) 0 P a K Q' ((execOp a.eval o).run P w)):o.wpIn (wd r) 0 P a w K Q':=by refine⟨λ_ _=>trivial,?_⟩;rw[show(o.semAt (wd r).round a.eval)=execOp a.eval o from Oper.semAt_eq _ _ _ hd];exact h
theorem ez{P:Program}{b:Frame}{a:Act}{k:List Item}{cs:List Frame}{w:World}{c:Code}:step P (lone (b.atR a (.code (.scope c)::k)) cs w)= .next (lone (b.atR a (.code c:: .inScope c::k)) cs w):=
 step_lone_go (by simp[stepG,stepG.exec,Frame.atR])
theorem rF{P:Program}{b:Frame}{a:Act}{k:List Item}{cs:List Frame}{w:World}{c:Code}:step P (lone (b.atR a (.inScope c::k)) cs w)= .next (lone (b.atR a k) cs w):=
 step_lone_go (by simp[stepG,stepG.exec,Frame.atR])
theorem dJ{F:Fence}{n:Nat}{P:Program}{Q:Exit->Act->World->Prop}{a:Act}{w:World}{c:Code}(h:c.wpIn F n P (Exit.noGoto Q) a w):(Code.scope c).wpIn F n P Q a w:=by
 intro b k cs xf hb hr;have h0:(lone (b.atR a (.code (.scope c)::k)) cs w).fenced P F:=fenced_calm hb hr rfl;obtain⟨e,a₁,w₁,hq,vU⟩:=h b (.inScope c::k) cs xf hb hr;cases e with
 |normal=>exact⟨.normal,a₁,w₁,hq,.head h0 ez (StepsIn.trans vU (.one (fenced_calm hb hr rfl) rF))⟩
 |exit id=>
  have hx:exitTo id (.inScope c::k)=exitTo id k:=by simp[exitTo]
  exact⟨.exit id,a₁,w₁,hq,λk' hk=> .head h0 ez (vU.1 k' (by rw[hx];exact hk)),
   λPB hk=>let ⟨k₁,h1,h2⟩:=vU.2 PB (by rw[hx];exact hk);⟨k₁,h1,.head h0 ez h2⟩⟩
 |goto l=>exact hq.elim
 |ret=>exact⟨_,a₁,w₁,hq,.of_steps (.one h0 ez) vU⟩
 |panic ch=>exact⟨_,a₁,w₁,hq,.of_steps (.one h0 ez) vU⟩
 |outgrown=>exact⟨_,a₁,w₁,hq,.of_steps (.one h0 ez) vU⟩
theorem du{r:Option Nat}{P:Program}{ops:Array Oper}{Q':Exit->Act->World->Prop}{o:Oper}{l:List Oper}{a:Act}{w:World}
  (h:if Region.wanted o (yielded ops a.tmps) then o.wpIn (wd r) 0 P a w (wpListIn (wd r) 0 P ops Q' l) Q' else wpListIn (wd r) 0 P ops Q' l (a.put o.dst undef) w):wpListIn (wd r) 0 P ops Q' (o::l) a w:=by
 unfold wpListIn;split
 next hw=>rw[zat hw] at h;exact h
 rename_i hw;rw[zaB hw] at h;exact⟨λ_ _=>trivial,h⟩
end Pi
