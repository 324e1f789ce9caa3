/- For every input the law TreeOrder returns true, and its arguments read as before: the row, and its tied card. There are no conditions. -/
import Derived.Test.YtccffeofkhkbcaaGreatDoorEbu
import Derived.Deep.DeepWitnessRowRef
import Derived.Test.YtccffeofkhkbcaaGreatDoorTie
import Derived.Test.YtccffeofkhkbcaaGreatDoorCards
namespace Go.Proofs.YtccffeofkhkbcaaGreatDoor
open Go.ChangeShapes Go.WideShapes Go.ChangeAt Go.RowKit

theorem own_treeOrder : ownKnob Tryz.prog.godebug = none := by kernel_rfl
theorem laidOut_treeOrder : laidOutB Tryz.prog = true := by kernel_rfl

set_option maxRecDepth 100000 in
theorem treeOrder_witness (os : Os) {H : Type} (enc : TypeId × Value → H) :
    (OpenSpec.ofChange Rows.treeOrderSpec).preRow enc Tryz.prog Tryz.f8 Rows.treeOrderRow.domain false Rows.treeOrderRow.laid ((Pi.wL os).forCall (fun _ _ => 0) ⟨#[], #[.slice none 0 0, .slice none 0 0, .int .u16 0], []⟩).memory #[.slice none 0 0, .slice none 0 0, .int .u16 0] := by
  have hw : (DataW.whole enc Tryz.prog ((Pi.wL os).forCall (fun _ _ => 0) ⟨#[], #[.slice none 0 0, .slice none 0 0, .int .u16 0], []⟩).memory Tryz.f8.params.toList (OpenSpec.ofChange Rows.treeOrderSpec).vars false (#[.slice none 0 0, .slice none 0 0, .int .u16 0] : Array Value).toList 8).isSome = true := by kernel_rfl
  obtain ⟨x, hx⟩ := Option.isSome_iff_exists.1 hw
  exact OpenSpec.preRow_of_cond 8 hx (by kernel_rfl) (fun k hk => by cases hk) (by kernel_rfl) (Pi.laidL_H _ (Pi.wL_met os _))

set_option maxRecDepth 100000 in
theorem treeOrder_lifted (os : Os) (started : os.Started) (H : Type) (enc : TypeId × Value → H) (F : Stop.Interp) :
    ReturnsInHanded {} Tryz.checked os 8 .any ((OpenSpec.ofChange Rows.treeOrderSpec).preRow enc Tryz.prog Tryz.f8 Rows.treeOrderRow.domain false Rows.treeOrderRow.laid) (((OpenSpec.ofChange Rows.treeOrderSpec).at F).post enc Tryz.prog Tryz.f8 false true false false) := by
  refine returnsInHanded_of_row (C := Tryz.checked) (s := OpenSpec.ofChange Rows.treeOrderSpec) own_treeOrder started (by kernel_rfl) Tryz.func8
    (witness_row_atRef (enc := enc) (C := Tryz.checked) false (Pi.wL os) _ (World.laidAll_os _ _ _) (by kernel_rfl) (by kernel_rfl) (by kernel_rfl) (treeOrder_witness os enc)) ?_
  intro W base args ds gs before hval0 hW _ _ _ hL hS _
  have hval : ∀ (j : Nat) t v, Tryz.f8.params[j]? = some t → args[j]? = some v → Value.okWide Tryz.prog W .any base t v := hval0
  refine Pi.law_contract (Q := Tryz.prog) (kp := Pi.kpT Pi.xTree) (s := Rows.treeOrderSpec) (m := 8) (tb := 4) (by kernel_rfl) Tryz.func8 (by kernel_rfl) (by kernel_rfl) laidOut_treeOrder ?_ ?_ rfl (by kernel_rfl) Tryz.underlying4 (Pi.xTree_ok (Pi.stW_of hL hS)) hval hW ?_ Pi.okOrderLawX
  · rw [Tryz.params8]; exact Pi.all_of [32, 33, 34] _ (by kernel_rfl)
  · rw [Tryz.params8]; exact Pi.all_of2 [32, 33, 34] _ (by kernel_rfl)
  · rw [Tryz.params8]; intro ds h; match ds, h with | [d0, d1, d2], _ => rfl

theorem treeOrder_holds : Rows.TreeOrderSaid :=
  OpenClaim.holds_of_cond 8 Tryz.f8 rfl rfl rfl rfl rfl rfl rfl ⟨rfl, rfl, rfl, rfl, rfl⟩ rfl rfl rfl rfl rfl (by kernel_rfl) Tryz.func8 (by kernel_rfl)
    (of_decide_eq_true (by kernel_rfl)) (by unfold Func.isWrapper; first | (rw [if_pos (by decide +kernel)]; kernel_rfl) | (rw [if_neg (by decide +kernel)]; exact ⟨rfl, rfl⟩))
    (fun os started H enc _ F => by rw [OpenClaim.pre_eq_preRow]; exact treeOrder_lifted os started H enc F)

theorem treeOrder_card_holds : Rows.TreeOrderCardSaid :=
  Claim7.holds_tied_plain_at .later [] [.data, .data, .data, .data, .pinned] true (true, "99a6f769837edadae92aa23a4a561f32a8ecb0e2f292d6de4b6492bcb07811ac") false
    treeOrder_holds (fun _ h => by cases h) (by kernel_rfl) (fun _ h => by cases h) treeOrder_row_tie rfl ⟨rfl, rfl⟩ (by kernel_rfl) rfl
    (fun f fn hf hfn => by
      obtain rfl : f = 8 := Option.some.inj ((show Tryz.prog.funcNamed "recension/recensionlaw15.TreeOrder" = some 8 by kernel_rfl).symm.trans hf) |>.symm
      obtain rfl : fn = Tryz.f8 := (Option.some.inj (Tryz.func8.symm.trans hfn)).symm
      exact ⟨by kernel_rfl, fun j t ht => by
        rw [Tryz.params8] at ht
        have hm : t ∈ [32, 33, 34] := by simpa using Array.mem_of_getElem? ht
        have hall : ([32, 33, 34].all fun u => !Tryz.prog.wantsStandIn u) = true := by kernel_rfl
        have := List.all_eq_true.1 hall t hm
        exact (show Tryz.prog.wantsStandIn t = false by simpa using this)⟩)
    (by kernel_rfl)
#print axioms treeOrder_card_holds
end Go.Proofs.YtccffeofkhkbcaaGreatDoor
