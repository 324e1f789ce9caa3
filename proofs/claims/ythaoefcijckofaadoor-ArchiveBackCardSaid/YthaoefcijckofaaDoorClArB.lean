/- For every input the law ArchiveBack returns true, and its arguments read as before: the row, and its tied card. There are no conditions. -/
import Derived.Test.YthaoefcijckofaaDoorEbs
import Derived.Deep.DeepWitnessRowRef
import Derived.Test.YthaoefcijckofaaDoorTie
import Derived.Test.YthaoefcijckofaaDoorCards
namespace Go.Proofs.YthaoefcijckofaaDoor
open Go.ChangeShapes Go.WideShapes Go.ChangeAt Go.RowKit

theorem own_archiveBack : ownKnob Tryd.prog.godebug = none := by kernel_rfl
theorem laidOut_archiveBack : laidOutB Tryd.prog = true := by kernel_rfl

set_option maxRecDepth 100000 in
theorem archiveBack_witness (os : Os) {H : Type} (enc : TypeId × Value → H) :
    (OpenSpec.ofChange Rows.archiveBackSpec).preRow enc Tryd.prog Tryd.f12 Rows.archiveBackRow.domain false Rows.archiveBackRow.laid ((Pi.wL os).forCall (fun _ _ => 0) ⟨#[], #[.slice none 0 0, .slice none 0 0, .string ⟨#[]⟩], []⟩).memory #[.slice none 0 0, .slice none 0 0, .string ⟨#[]⟩] := by
  have hw : (DataW.whole enc Tryd.prog ((Pi.wL os).forCall (fun _ _ => 0) ⟨#[], #[.slice none 0 0, .slice none 0 0, .string ⟨#[]⟩], []⟩).memory Tryd.f12.params.toList (OpenSpec.ofChange Rows.archiveBackSpec).vars false (#[.slice none 0 0, .slice none 0 0, .string ⟨#[]⟩] : Array Value).toList 8).isSome = true := by kernel_rfl
  obtain ⟨x, hx⟩ := Option.isSome_iff_exists.1 hw
  exact OpenSpec.preRow_of_cond 8 hx (by kernel_rfl) (fun k hk => by cases hk) (by kernel_rfl) (Pi.laidL_H _ (Pi.wL_met os _))

set_option maxRecDepth 100000 in
theorem archiveBack_lifted (os : Os) (started : os.Started) (H : Type) (enc : TypeId × Value → H) (F : Stop.Interp) :
    ReturnsInHanded {} Tryd.checked os 12 .any ((OpenSpec.ofChange Rows.archiveBackSpec).preRow enc Tryd.prog Tryd.f12 Rows.archiveBackRow.domain false Rows.archiveBackRow.laid) (((OpenSpec.ofChange Rows.archiveBackSpec).at F).post enc Tryd.prog Tryd.f12 false true false false) := by
  refine returnsInHanded_of_row (C := Tryd.checked) (s := OpenSpec.ofChange Rows.archiveBackSpec) own_archiveBack started (by kernel_rfl) Tryd.func12
    (witness_row_atRef (enc := enc) (C := Tryd.checked) false (Pi.wL os) _ (World.laidAll_os _ _ _) (by kernel_rfl) (by kernel_rfl) (by kernel_rfl) (archiveBack_witness os enc)) ?_
  intro W base args ds gs before hval0 hW _ _ _ hL hS _
  have hval : ∀ (j : Nat) t v, Tryd.f12.params[j]? = some t → args[j]? = some v → Value.okWide Tryd.prog W .any base t v := hval0
  refine Pi.law_contract (Q := Tryd.prog) (kp := Pi.kpT Pi.xBase) (s := Rows.archiveBackSpec) (m := 8) (tb := 4) (by kernel_rfl) Tryd.func12 (by kernel_rfl) (by kernel_rfl) laidOut_archiveBack ?_ ?_ rfl (by kernel_rfl) Tryd.underlying4 (Pi.xB_ok (Pi.stW_of hL hS)) hval hW ?_ Pi.okArchiveBackLaw
  · rw [Tryd.params12]; exact Pi.all_of [54, 54, 9] _ (by kernel_rfl)
  · rw [Tryd.params12]; exact Pi.all_of2 [54, 54, 9] _ (by kernel_rfl)
  · rw [Tryd.params12]; intro ds h; match ds, h with | [d0, d1, d2], _ => rfl

theorem archiveBack_holds : Rows.ArchiveBackSaid :=
  OpenClaim.holds_of_cond 12 Tryd.f12 rfl rfl rfl rfl rfl rfl rfl ⟨rfl, rfl, rfl, rfl, rfl⟩ rfl rfl rfl rfl rfl (by kernel_rfl) Tryd.func12 (by kernel_rfl)
    (of_decide_eq_true (by kernel_rfl)) (by unfold Func.isWrapper; first | (rw [if_pos (by decide +kernel)]; kernel_rfl) | (rw [if_neg (by decide +kernel)]; exact ⟨rfl, rfl⟩))
    (fun os started H enc _ F => by rw [OpenClaim.pre_eq_preRow]; exact archiveBack_lifted os started H enc F)

theorem archiveBack_card_holds : Rows.ArchiveBackCardSaid :=
  Claim7.holds_tied_plain_at .later [] [.data, .data, .data, .data, .sentinel, .sentinel, .pinned] true (true, "f9de9c76a8de30475b2c8b05dcabcf259b38426108a69a21a774b9fed072e3d0") true
    archiveBack_holds (fun _ h => by cases h) (by kernel_rfl) (fun _ h => by cases h) archiveBack_row_tie rfl ⟨rfl, rfl⟩ (by kernel_rfl) rfl
    (fun f fn hf hfn => by
      obtain rfl : f = 12 := Option.some.inj ((show Tryd.prog.funcNamed "recension/recensionlaw17.ArchiveBack" = some 12 by kernel_rfl).symm.trans hf) |>.symm
      obtain rfl : fn = Tryd.f12 := (Option.some.inj (Tryd.func12.symm.trans hfn)).symm
      exact ⟨by kernel_rfl, fun j t ht => by
        rw [Tryd.params12] at ht
        have hm : t ∈ [54, 54, 9] := by simpa using Array.mem_of_getElem? ht
        have hall : ([54, 54, 9].all fun u => !Tryd.prog.wantsStandIn u) = true := by kernel_rfl
        have := List.all_eq_true.1 hall t hm
        exact (show Tryd.prog.wantsStandIn t = false by simpa using this)⟩)
    (by kernel_rfl)
#print axioms archiveBack_card_holds
end Go.Proofs.YthaoefcijckofaaDoor
