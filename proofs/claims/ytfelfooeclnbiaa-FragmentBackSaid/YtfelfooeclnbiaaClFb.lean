/- For every input the law FragmentBack returns true, and its arguments read as before. There are no conditions. -/
import Derived.Test.YtfelfooeclnbiaaEbp
import Derived.Test.YtfelfooeclnbiaaRows
namespace Go.Proofs.Ytfelfooeclnbiaa
open Go.ChangeShapes Go.WideShapes Go.ChangeAt Go.RowKit
theorem kT:ownKnob Try.prog.godebug=none:=by kernel_rfl
theorem ix:laidOutB Try.prog=true:=by kernel_rfl
set_option maxRecDepth 100000 in
theorem iW(os:Os)(started:os.Started)(H:Type)(enc:TypeId×Value->H):
  ReturnsInHanded {} Try.checked os 6 .any (Rows.fragmentBackSpec.pre6 enc Try.prog Try.f6 Rows.fragmentBackRow.domain false) (Rows.fragmentBackSpec.post enc Try.prog Try.f6 false true false false):=by
 refine returnsInHanded_of_change (C:=Try.checked) kT started (by kernel_rfl) Try.func6
  (ChangeSpec.witness6 (enc:=enc) (C:=Try.checked) false ⟨#[], #[.string ⟨#[]⟩,.int .u8 0,.slice none 0 0],[]⟩ 8 (by kernel_rfl) (by kernel_rfl) (by kernel_rfl) (by kernel_rfl)) ?_
 intro W base args ds gs before Dt hW hcnd _;have hval: ∀(j:Nat) t v,Try.f6.params[j]?=some t->args[j]?=some v->Value.okWide Try.prog W .any base t v:=Dt;refine Pi.pZ (Q:=Try.prog) (kp:=Pi.B3 Pi.xN) (m:=8) (tb:=4) (by kernel_rfl) Try.func6 (by kernel_rfl) (by kernel_rfl) ix ?_ ?_ rfl (by kernel_rfl) Try.underlying4 (Pi.C0 ⟨trivial⟩) hval hW ?_ Pi.km
 ·rw[Try.params6];exact Pi.Bj [9,5,46] _ (by kernel_rfl)
 ·rw[Try.params6];exact Pi.zu [9,5,46] _ (by kernel_rfl)
 rw[Try.params6];intro ds h;match ds,h with | [d0,d1,d2],_=>rfl
theorem fragmentBack_holds:Rows.FragmentBackSaid:=
 OpenClaim.holds_of_wide 6 Try.f6 rfl rfl rfl rfl rfl rfl rfl ⟨rfl,rfl,rfl,rfl,rfl⟩ rfl rfl rfl rfl rfl (by kernel_rfl) Try.func6 (by kernel_rfl)
  (of_decide_eq_true (by kernel_rfl)) (by unfold Func.isWrapper;first | (rw[if_pos (by decide+kernel)];kernel_rfl)| (rw[if_neg (by decide+kernel)];exact⟨rfl,rfl⟩))
  (λos started H enc _=>iW os started H enc)
#print axioms fragmentBack_holds
end Go.Proofs.Ytfelfooeclnbiaa
