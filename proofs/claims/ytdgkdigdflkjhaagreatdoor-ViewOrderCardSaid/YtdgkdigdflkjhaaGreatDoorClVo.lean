/- For every input the law ViewOrder returns true, and its arguments read as before: the row, and its tied card. There are no conditions. -/
import Derived.Test.YtdgkdigdflkjhaaGreatDoorEai
import Derived.Deep.DeepWitnessRowRef
import Derived.Test.YtdgkdigdflkjhaaGreatDoorTie
import Derived.Test.YtdgkdigdflkjhaaGreatDoorCards
namespace Go.Proofs.YtdgkdigdflkjhaaGreatDoor
open Go.ChangeShapes Go.WideShapes Go.ChangeAt Go.RowKit

theorem own_viewOrder : ownKnob Tryz.prog.godebug = none := by kernel_rfl
theorem laidOut_viewOrder : laidOutB Tryz.prog = true := by kernel_rfl

set_option maxRecDepth 100000 in
theorem viewOrder_witness (os : Os) {H : Type} (enc : TypeId × Value → H) :
    (OpenSpec.ofChange Rows.viewOrderSpec).preRow enc Tryz.prog Tryz.f3 Rows.viewOrderRow.domain false Rows.viewOrderRow.laid ((Pi.wL os).forCall (fun _ _ => 0) ⟨#[], #[.slice none 0 0, .int .u8 0], []⟩).memory #[.slice none 0 0, .int .u8 0] := by
  have hw : (DataW.whole enc Tryz.prog ((Pi.wL os).forCall (fun _ _ => 0) ⟨#[], #[.slice none 0 0, .int .u8 0], []⟩).memory Tryz.f3.params.toList (OpenSpec.ofChange Rows.viewOrderSpec).vars false (#[.slice none 0 0, .int .u8 0] : Array Value).toList 8).isSome = true := by kernel_rfl
  obtain ⟨x, hx⟩ := Option.isSome_iff_exists.1 hw
  exact OpenSpec.preRow_of_cond 8 hx (by kernel_rfl) (fun k hk => by cases hk) (by kernel_rfl) (Pi.qfR _ (Pi.qk2 os _))

set_option maxRecDepth 100000 in
theorem viewOrder_lifted (os : Os) (started : os.Started) (H : Type) (enc : TypeId × Value → H) (F : Stop.Interp) :
    ReturnsInHanded {} Tryz.checked os 3 .any ((OpenSpec.ofChange Rows.viewOrderSpec).preRow enc Tryz.prog Tryz.f3 Rows.viewOrderRow.domain false Rows.viewOrderRow.laid) (((OpenSpec.ofChange Rows.viewOrderSpec).at F).post enc Tryz.prog Tryz.f3 false true false false) := by
  refine returnsInHanded_of_row (C := Tryz.checked) (s := OpenSpec.ofChange Rows.viewOrderSpec) own_viewOrder started (by kernel_rfl) Tryz.func3
    (witness_row_atRef (enc := enc) (C := Tryz.checked) false (Pi.wL os) _ (World.laidAll_os _ _ _) (by kernel_rfl) (by kernel_rfl) (by kernel_rfl) (viewOrder_witness os enc)) ?_
  intro W base args ds gs before hval0 hW _ _ _ hL hS _
  have hval : ∀ (j : Nat) t v, Tryz.f3.params[j]? = some t → args[j]? = some v → Value.okWide Tryz.prog W .any base t v := hval0
  refine Pi.Hm (Q := Tryz.prog) (kp := Pi.yP Pi.xV6) (s := Rows.viewOrderSpec) (m := 8) (tb := 4) (by kernel_rfl) Tryz.func3 (by kernel_rfl) (by kernel_rfl) laidOut_viewOrder ?_ ?_ rfl (by kernel_rfl) Tryz.underlying4 (Pi.qlb (Pi.qk1 hL hS)) hval hW ?_ Pi.okVorLawX
  · rw [Tryz.params3]; exact Pi.qhZ [22, 5] _ (by kernel_rfl)
  · rw [Tryz.params3]; exact Pi.qcH [22, 5] _ (by kernel_rfl)
  · rw [Tryz.params3]; intro ds h; match ds, h with | [d0, d1], _ => rfl

set_option maxHeartbeats 0 in
theorem viewOrder_holds : Rows.ViewOrderSaid :=
  OpenClaim.holds_of_cond 3 Tryz.f3 rfl rfl rfl rfl rfl rfl rfl ⟨rfl, rfl, rfl, rfl, rfl⟩ rfl rfl rfl rfl rfl (by as_aux_lemma => kernel_rfl) Tryz.func3 (by simp only [joinedFacts, Bool.and_eq_true]; (repeat' refine And.intro ?_ ?_) <;> (as_aux_lemma => kernel_rfl))
    (of_decide_eq_true (by as_aux_lemma => kernel_rfl)) (by unfold Func.isWrapper; first | (rw [if_pos (by decide +kernel)]; kernel_rfl) | (rw [if_neg (by decide +kernel)]; exact ⟨rfl, rfl⟩))
    (fun os started H enc _ F => by rw [OpenClaim.pre_eq_preRow]; exact viewOrder_lifted os started H enc F)

theorem viewOrder_card_holds : Rows.ViewOrderCardSaid :=
  Claim7.holds_tied_plain_at .later [] [.data, .data, .data, .data, .pinned] true (true, "dc282b4bcb442580b74d133591fb4f187d08e9304dc1e74d5d138f2201d2280e") false
    viewOrder_holds (fun _ h => by cases h) (by as_aux_lemma => kernel_rfl) (fun _ h => by cases h) viewOrder_row_tie rfl ⟨rfl, rfl⟩ (by as_aux_lemma => kernel_rfl) rfl
    (fun f fn hf hfn => by
      obtain rfl : f = 3 := Option.some.inj ((show Tryz.prog.funcNamed "recension/recensionlaw16.ViewOrder" = some 3 by as_aux_lemma => kernel_rfl).symm.trans hf) |>.symm
      obtain rfl : fn = Tryz.f3 := (Option.some.inj (Tryz.func3.symm.trans hfn)).symm
      exact ⟨by as_aux_lemma => kernel_rfl, fun j t ht => by
        rw [Tryz.params3] at ht
        have hm : t ∈ [22, 5] := by simpa using Array.mem_of_getElem? ht
        have hall : ([22, 5].all fun u => !Tryz.prog.wantsStandIn u) = true := by as_aux_lemma => kernel_rfl
        have := List.all_eq_true.1 hall t hm
        exact (show Tryz.prog.wantsStandIn t = false by simpa using this)⟩)
    (by as_aux_lemma => kernel_rfl)
#print axioms viewOrder_card_holds
end Go.Proofs.YtdgkdigdflkjhaaGreatDoor
