/- For every input the law FragmentSmall returns true, and its arguments read as before. There are no conditions. -/
import Derived.Test.YtpiohccneeblhaaEbu
import Derived.Test.YtpiohccneeblhaaRows
namespace Go.Proofs.Ytpiohccneeblhaa
open Go.ChangeShapes Go.WideShapes Go.ChangeAt Go.RowKit
theorem na:ownKnob Try.prog.godebug=none:=by kernel_rfl
theorem jX:laidOutB Try.prog=true:=by kernel_rfl
set_option maxRecDepth 100000 in
theorem kW(os:Os)(started:os.Started)(H:Type)(enc:TypeId×Value->H):
  ReturnsInHanded {} Try.checked os 5 .any (Rows.fragmentSmallSpec.pre6 enc Try.prog Try.f5 Rows.fragmentSmallRow.domain false) (Rows.fragmentSmallSpec.post enc Try.prog Try.f5 false true false false):=by
 refine returnsInHanded_of_change (C:=Try.checked) na started (by kernel_rfl) Try.func5
  (ChangeSpec.witness6 (enc:=enc) (C:=Try.checked) false ⟨#[], #[.slice none 0 0,.bool false],[]⟩ 8 (by kernel_rfl) (by kernel_rfl) (by kernel_rfl) (by kernel_rfl)) ?_
 intro W base args ds gs before K9 hW hcnd _;have hval: ∀(j:Nat) t v,Try.f5.params[j]?=some t->args[j]?=some v->Value.okWide Try.prog W .any base t v:=K9;refine Pi.ux (Q:=Try.prog) (kp:=Pi.Ei Pi.Ez) (m:=8) (tb:=4) (by kernel_rfl) Try.func5 (by kernel_rfl) (by kernel_rfl) jX ?_ ?_ rfl (by kernel_rfl) Try.underlying4 (Pi.Io ⟨trivial⟩) hval hW ?_ Pi.me
 ·rw[Try.params5];exact Pi.HE [42,4] _ (by kernel_rfl)
 ·rw[Try.params5];exact Pi.Fo [42,4] _ (by kernel_rfl)
 rw[Try.params5];intro ds h;match ds,h with | [d0,d1],_=>rfl
theorem fragmentSmall_holds:Rows.FragmentSmallSaid:=
 OpenClaim.holds_of_wide 5 Try.f5 rfl rfl rfl rfl rfl rfl rfl ⟨rfl,rfl,rfl,rfl,rfl⟩ rfl rfl rfl rfl rfl (by kernel_rfl) Try.func5 (by kernel_rfl)
  (of_decide_eq_true (by kernel_rfl)) (by unfold Func.isWrapper;first | (rw[if_pos (by decide+kernel)];kernel_rfl)| (rw[if_neg (by decide+kernel)];exact⟨rfl,rfl⟩))
  (λos started H enc _=>kW os started H enc)
#print axioms fragmentSmall_holds
end Go.Proofs.Ytpiohccneeblhaa
