/- For every input the law FragmentApart returns true, and its arguments read as before. There are no conditions. -/
import Derived.Test.YtfelfooeclnbiaaEbp
import Derived.Test.YtfelfooeclnbiaaRows
namespace Go.Proofs.Ytfelfooeclnbiaa
open Go.ChangeShapes Go.WideShapes Go.ChangeAt Go.RowKit
theorem kA:ownKnob Try.prog.godebug=none:=by kernel_rfl
theorem gN:laidOutB Try.prog=true:=by kernel_rfl
set_option maxRecDepth 100000 in
theorem iI(os:Os)(started:os.Started)(H:Type)(enc:TypeId×Value->H):
  ReturnsInHanded {} Try.checked os 7 .any (Rows.fragmentApartSpec.pre6 enc Try.prog Try.f7 Rows.fragmentApartRow.domain false) (Rows.fragmentApartSpec.post enc Try.prog Try.f7 false true false false):=by
 refine returnsInHanded_of_change (C:=Try.checked) kA started (by kernel_rfl) Try.func7
  (ChangeSpec.witness6 (enc:=enc) (C:=Try.checked) false ⟨#[], #[.string ⟨#[]⟩,.string ⟨#[]⟩,.int .u8 0],[]⟩ 8 (by kernel_rfl) (by kernel_rfl) (by kernel_rfl) (by kernel_rfl)) ?_
 intro W base args ds gs before D7 hW hcnd _;have hval: ∀(j:Nat) t v,Try.f7.params[j]?=some t->args[j]?=some v->Value.okWide Try.prog W .any base t v:=D7;refine Pi.p7 (Q:=Try.prog) (kp:=Pi.Ct Pi.xP) (m:=8) (tb:=4) (by kernel_rfl) Try.func7 (by kernel_rfl) (by kernel_rfl) gN ?_ ?_ rfl (by kernel_rfl) Try.underlying4 (Pi.Dt ⟨trivial⟩) hval hW ?_ Pi.jR
 ·rw[Try.params7];exact Pi.BB [9,9,5] _ (by kernel_rfl)
 ·rw[Try.params7];exact Pi.zC [9,9,5] _ (by kernel_rfl)
 rw[Try.params7];intro ds h;match ds,h with | [d0,d1,d2],_=>rfl
theorem fragmentApart_holds:Rows.FragmentApartSaid:=
 OpenClaim.holds_of_wide 7 Try.f7 rfl rfl rfl rfl rfl rfl rfl ⟨rfl,rfl,rfl,rfl,rfl⟩ rfl rfl rfl rfl rfl (by kernel_rfl) Try.func7 (by kernel_rfl)
  (of_decide_eq_true (by kernel_rfl)) (by unfold Func.isWrapper;first | (rw[if_pos (by decide+kernel)];kernel_rfl)| (rw[if_neg (by decide+kernel)];exact⟨rfl,rfl⟩))
  (λos started H enc _=>iI os started H enc)
#print axioms fragmentApart_holds
end Go.Proofs.Ytfelfooeclnbiaa
