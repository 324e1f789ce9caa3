/- For every input the law FragmentTakes returns true, and its arguments read as before. There are no conditions. -/
import Derived.Test.YtpiohccneeblhaaEbu
import Derived.Test.YtpiohccneeblhaaRows
namespace Go.Proofs.Ytpiohccneeblhaa
open Go.ChangeShapes Go.WideShapes Go.ChangeAt Go.RowKit
theorem mX:ownKnob Try.prog.godebug=none:=by kernel_rfl
theorem jX:laidOutB Try.prog=true:=by kernel_rfl
set_option maxRecDepth 100000 in
theorem kW(os:Os)(started:os.Started)(H:Type)(enc:TypeId×Value->H):
  ReturnsInHanded {} Try.checked os 4 .any (Rows.fragmentTakesSpec.pre6 enc Try.prog Try.f4 Rows.fragmentTakesRow.domain false) (Rows.fragmentTakesSpec.post enc Try.prog Try.f4 false true false false):=by
 refine returnsInHanded_of_change (C:=Try.checked) mX started (by kernel_rfl) Try.func4
  (ChangeSpec.witness6 (enc:=enc) (C:=Try.checked) false ⟨#[], #[.slice none 0 0],[]⟩ 8 (by kernel_rfl) (by kernel_rfl) (by kernel_rfl) (by kernel_rfl)) ?_
 intro W base args ds gs before KD hW hcnd _;have hval: ∀(j:Nat) t v,Try.f4.params[j]?=some t->args[j]?=some v->Value.okWide Try.prog W .any base t v:=KD;refine Pi.um (Q:=Try.prog) (kp:=Pi.D1 Pi.Eg) (m:=8) (tb:=4) (by kernel_rfl) Try.func4 (by kernel_rfl) (by kernel_rfl) jX ?_ ?_ rfl (by kernel_rfl) Try.underlying4 (Pi.H5 ⟨trivial⟩) hval hW ?_ Pi.l9
 ·rw[Try.params4];exact Pi.Hn [23] _ (by kernel_rfl)
 ·rw[Try.params4];exact Pi.E6 [23] _ (by kernel_rfl)
 rw[Try.params4];intro ds h;match ds,h with | [d0],_=>rfl
theorem fragmentTakes_holds:Rows.FragmentTakesSaid:=
 OpenClaim.holds_of_wide 4 Try.f4 rfl rfl rfl rfl rfl rfl rfl ⟨rfl,rfl,rfl,rfl,rfl⟩ rfl rfl rfl rfl rfl (by kernel_rfl) Try.func4 (by kernel_rfl)
  (of_decide_eq_true (by kernel_rfl)) (by unfold Func.isWrapper;first | (rw[if_pos (by decide+kernel)];kernel_rfl)| (rw[if_neg (by decide+kernel)];exact⟨rfl,rfl⟩))
  (λos started H enc _=>kW os started H enc)
#print axioms fragmentTakes_holds
end Go.Proofs.Ytpiohccneeblhaa
