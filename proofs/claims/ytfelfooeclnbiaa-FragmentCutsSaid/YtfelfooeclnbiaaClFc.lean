/- For every input the law FragmentCuts returns true, and its arguments read as before. There are no conditions. -/
import Derived.Test.YtfelfooeclnbiaaEbq
import Derived.Test.YtfelfooeclnbiaaRows
namespace Go.Proofs.Ytfelfooeclnbiaa
open Go.ChangeShapes Go.WideShapes Go.ChangeAt Go.RowKit
theorem ke:ownKnob Try.prog.godebug=none:=by kernel_rfl
theorem hD:laidOutB Try.prog=true:=by kernel_rfl
set_option maxRecDepth 100000 in
theorem im(os:Os)(started:os.Started)(H:Type)(enc:TypeId×Value->H):
  ReturnsInHanded {} Try.checked os 3 .any (Rows.fragmentCutsSpec.pre6 enc Try.prog Try.f3 Rows.fragmentCutsRow.domain false) (Rows.fragmentCutsSpec.post enc Try.prog Try.f3 false true false false):=by
 refine returnsInHanded_of_change (C:=Try.checked) ke started (by kernel_rfl) Try.func3
  (ChangeSpec.witness6 (enc:=enc) (C:=Try.checked) false ⟨#[], #[.int .i64 0,.int .i64 0,.string ⟨#[]⟩,.int .i64 0],[]⟩ 8 (by kernel_rfl) (by kernel_rfl) (by kernel_rfl) (by kernel_rfl)) ?_
 intro W base args ds gs before Bd hW hcnd _;have hval: ∀(j:Nat) t v,Try.f3.params[j]?=some t->args[j]?=some v->Value.okWide Try.prog W .any base t v:=Bd;refine Pi.o8 (Q:=Try.prog) (kp:=Pi.Aa Pi.wz) (m:=8) (tb:=4) (by kernel_rfl) Try.func3 (by kernel_rfl) (by kernel_rfl) hD ?_ ?_ rfl (by kernel_rfl) Try.underlying4 (Pi.A5 ⟨trivial⟩) hval hW ?_ Pi.jI
 ·rw[Try.params3];exact Pi.zm [3,3,9,3] _ (by kernel_rfl)
 ·rw[Try.params3];exact Pi.xP [3,3,9,3] _ (by kernel_rfl)
 rw[Try.params3];intro ds h;match ds,h with | [d0,d1,d2,d3],_=>rfl
theorem fragmentCuts_holds:Rows.FragmentCutsSaid:=
 OpenClaim.holds_of_wide 3 Try.f3 rfl rfl rfl rfl rfl rfl rfl ⟨rfl,rfl,rfl,rfl,rfl⟩ rfl rfl rfl rfl rfl (by kernel_rfl) Try.func3 (by kernel_rfl)
  (of_decide_eq_true (by kernel_rfl)) (by unfold Func.isWrapper;first | (rw[if_pos (by decide+kernel)];kernel_rfl)| (rw[if_neg (by decide+kernel)];exact⟨rfl,rfl⟩))
  (λos started H enc _=>im os started H enc)
#print axioms fragmentCuts_holds
end Go.Proofs.Ytfelfooeclnbiaa
