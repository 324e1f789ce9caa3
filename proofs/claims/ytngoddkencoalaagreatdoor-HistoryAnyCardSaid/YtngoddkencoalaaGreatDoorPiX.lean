/- The text PiX. -/
import Derived.Test.YtngoddkencoalaaGreatDoorPiLaw
namespace Pi
open Go Go.RowKit
section
variable {Q:Program} {w0 w:World} {F:Nat->Prop} {G:Nat->Value} {f:FuncId} {vs:List Value}
theorem fo.later {T:Tg} (h:fo Q T F G w []) {w':World} (h0:T.w0.drawn=0) (hb:Below w.heap.size w w'):fo Q T F G w' []:=
 ⟨.nil,Nat.zero_le _,fun t p hp=>by simp[lk] at hp,fun n e he=>by simp[lk] at he,fun n m e e' b he=>by simp[lk] at he,fun n e b he=>by simp[lk] at he,
  fun b hf=>Nat.lt_of_lt_of_le (h.iR b hf) hb.size,fun n e i he=>by simp[lk] at he,fun b hz=>⟨(h.z b hz).1,(hb.block b (h.iR b (h.z b hz).1)).trans (h.z b hz).2⟩,by rw[h0];exact Nat.zero_le _,Nat.le_trans h.sz hb.size⟩
theorem TO (G:Nat->Value) (b:Nat): ¬Own G [] b:=fun⟨n,e,he,_⟩=>by simp[lk] at he
theorem tf {T:Tg} (h0:T.w0.drawn=0) (hH:fo Q T F G w []) (hc:(callFunc f ⟨vs⟩).run Q w= .ok (.enter f ⟨vs⟩) w) {p:P}
  (h:Calls Q f ⟨vs⟩ w fun e w'=> ∃v,e= .returned v/\Below w.heap.size w w'/\ ∀F G,aD F w' G [] v p):
  jD Q f ⟨vs⟩ w (fun v w'=> ∃F' G',fo Q T F' G' w' []/\aD F' w' G' [] v p/\Ext (Own G []) (Own G' []) F F' w w'):=by
 refine .inl ⟨hc,h.mono fun e w' ⟨v,he,hb,hp⟩=>⟨v,he,F,G,hH.later h0 hb,hp F G,⟨fun _ h=>h,fun _ h=> .inl h,fun b h=>absurd h (TO G b),fun b bk _=>hb.block b bk,hb.size,hb.os,hb.tape,hb.output⟩⟩⟩
end
end Pi
