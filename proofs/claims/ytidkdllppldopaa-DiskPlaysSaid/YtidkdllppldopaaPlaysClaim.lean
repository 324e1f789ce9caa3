/- For every input the law DiskPlays returns true, and its arguments read as before. There are no conditions. -/
import Derived.Test.YtidkdllppldopaaPlaysLaw
namespace Go.Proofs.Ytidkdllppldopaa
open Go.ChangeShapes Go.WideShapes Go.ChangeAt Go.RowKit

theorem own_diskPlays : ownKnob Try.prog.godebug = none := by kernel_rfl
theorem laidOut_diskPlays : laidOutB Try.prog = true := by kernel_rfl

set_option maxRecDepth 100000 in
theorem diskPlays_lifted (os : Os) (started : os.Started) (H : Type) (enc : TypeId × Value → H) :
    ReturnsInHanded {} Try.checked os 4 .any (Rows.diskPlaysSpec.pre6 enc Try.prog Try.f4 Rows.diskPlaysRow.domain false) (Rows.diskPlaysSpec.post enc Try.prog Try.f4 false true false false) := by
  refine returnsInHanded_of_change (C := Try.checked) own_diskPlays started (by kernel_rfl) Try.func4
    (ChangeSpec.witness6 (enc := enc) (C := Try.checked) false ⟨#[], #[.int .i64 0, .slice none 0 0], []⟩ 8 (by kernel_rfl) (by kernel_rfl) (by kernel_rfl) (by kernel_rfl)) ?_
  intro W base args ds gs before hval0 hW hcnd _
  have hval : ∀ (j : Nat) t v, Try.f4.params[j]? = some t → args[j]? = some v → Value.okWide Try.prog W .any base t v := hval0
  refine Pi.law_contract (Q := Try.prog) (kp := Pi.kpT) (m := 8) (tb := 4) (by kernel_rfl) Try.func4 (by kernel_rfl) (by kernel_rfl) laidOut_diskPlays ?_ ?_ rfl (by kernel_rfl) Try.underlying4 hval hW ?_ Pi.okPlaysLaw
  · rw [Try.params4]; exact Pi.all_of [3, 22] _ (by kernel_rfl)
  · rw [Try.params4]; exact Pi.all_of2 [3, 22] _ (by kernel_rfl)
  · rw [Try.params4]; intro ds h; match ds, h with | [d0, d1], _ => rfl

theorem diskPlays_holds : Rows.DiskPlaysSaid :=
  OpenClaim.holds_of_wide 4 Try.f4 rfl rfl rfl rfl rfl rfl rfl ⟨rfl, rfl, rfl, rfl, rfl⟩ rfl rfl rfl rfl rfl (by kernel_rfl) Try.func4 (by kernel_rfl)
    (of_decide_eq_true (by kernel_rfl)) (by unfold Func.isWrapper; first | (rw [if_pos (by decide +kernel)]; kernel_rfl) | (rw [if_neg (by decide +kernel)]; exact ⟨rfl, rfl⟩))
    (fun os started H enc _ => diskPlays_lifted os started H enc)
#print axioms diskPlays_holds
end Go.Proofs.Ytidkdllppldopaa
