/- For every input the law StampOrder returns true, and its arguments read as before: the row, and its tied card. -/
import Derived.Test.YtgkbhgcgnjdnnaaDoorStOrd
import Derived.Test.YtgkbhgcgnjdnnaaDoorStWorld
import Derived.Deep.DeepWitnessRowRef
import Derived.Test.YtgkbhgcgnjdnnaaDoorTie
import Derived.Test.YtgkbhgcgnjdnnaaDoorCards
namespace Go.Proofs.YtgkbhgcgnjdnnaaDoor
open Go.ChangeShapes Go.WideShapes Go.ChangeAt Go.RowKit

theorem own_stampOrder : ownKnob Tryd.prog.godebug = none := by kernel_rfl
theorem laidOut_stampOrder : laidOutB Tryd.prog = true := by kernel_rfl

set_option maxRecDepth 100000 in
theorem stampOrder_witness (os : Os) {H : Type} (enc : TypeId × Value → H) :
    (OpenSpec.ofChange Rows.stampOrderSpec).preRow enc Tryd.prog Tryd.f9 Rows.stampOrderRow.domain false Rows.stampOrderRow.laid ((Pi.wL os).forCall (fun _ _ => 0) ⟨#[], #[.agg #[.int .i64 0, .int .i64 0, .int .i64 0], .agg #[.int .i64 0, .int .i64 0, .int .i64 0], .agg #[.int .i64 0, .int .i64 0, .int .i64 0]], []⟩).memory #[.agg #[.int .i64 0, .int .i64 0, .int .i64 0], .agg #[.int .i64 0, .int .i64 0, .int .i64 0], .agg #[.int .i64 0, .int .i64 0, .int .i64 0]] := by
  have hw : (DataW.whole enc Tryd.prog ((Pi.wL os).forCall (fun _ _ => 0) ⟨#[], #[.agg #[.int .i64 0, .int .i64 0, .int .i64 0], .agg #[.int .i64 0, .int .i64 0, .int .i64 0], .agg #[.int .i64 0, .int .i64 0, .int .i64 0]], []⟩).memory Tryd.f9.params.toList (OpenSpec.ofChange Rows.stampOrderSpec).vars false #[Value.agg #[.int .i64 0, .int .i64 0, .int .i64 0], .agg #[.int .i64 0, .int .i64 0, .int .i64 0], .agg #[.int .i64 0, .int .i64 0, .int .i64 0]].toList 8).isSome = true := by kernel_rfl
  obtain ⟨x, hx⟩ := Option.isSome_iff_exists.1 hw
  exact OpenSpec.preRow_of_cond 8 hx (by kernel_rfl) (fun k hk => by cases hk) (by kernel_rfl) (Pi.laidL_H _ (Pi.wL_met os _))

set_option maxRecDepth 100000 in
theorem stampOrder_lifted (os : Os) (started : os.Started) (H : Type) (enc : TypeId × Value → H) (F : Stop.Interp) :
    ReturnsInHanded {} Tryd.checked os 9 .any ((OpenSpec.ofChange Rows.stampOrderSpec).preRow enc Tryd.prog Tryd.f9 Rows.stampOrderRow.domain false Rows.stampOrderRow.laid) (((OpenSpec.ofChange Rows.stampOrderSpec).at F).post enc Tryd.prog Tryd.f9 false true false false) := by
  refine returnsInHanded_of_row (C := Tryd.checked) (s := OpenSpec.ofChange Rows.stampOrderSpec) own_stampOrder started (by kernel_rfl) Tryd.func9
    (witness_row_atRef (enc := enc) (C := Tryd.checked) false (Pi.wL os) _ (World.laidAll_os _ _ _) (by kernel_rfl) (by kernel_rfl) (by kernel_rfl) (stampOrder_witness os enc)) ?_
  intro W base args ds gs before hval0 hW _ _ _ hL hS _
  have hval : ∀ (j : Nat) t v, Tryd.f9.params[j]? = some t → args[j]? = some v → Value.okWide Tryd.prog W .any base t v := hval0
  refine Pi.law_contract (Q := Tryd.prog) (kp := Pi.kpT) (s := Rows.stampOrderSpec) (m := 8) (tb := 4) (by kernel_rfl) Tryd.func9 (by kernel_rfl) (by kernel_rfl) laidOut_stampOrder ?_ ?_ rfl (by kernel_rfl) Tryd.underlying4 (Pi.xT_ok (Pi.stW_of hL hS)) hval hW ?_ Pi.okOrdLaw
  · rw [Tryd.params9]; exact Pi.all_of [25, 25, 25] _ (by kernel_rfl)
  · rw [Tryd.params9]; exact Pi.all_of2 [25, 25, 25] _ (by kernel_rfl)
  · rw [Tryd.params9]; intro ds h; match ds, h with | [d0, d1, d2], _ => rfl

theorem stampOrder_holds : Rows.StampOrderSaid :=
  OpenClaim.holds_of_cond 9 Tryd.f9 rfl rfl rfl rfl rfl rfl rfl ⟨rfl, rfl, rfl, rfl, rfl⟩ rfl rfl rfl rfl rfl (by kernel_rfl) Tryd.func9 (by kernel_rfl)
    (of_decide_eq_true (by kernel_rfl)) (by unfold Func.isWrapper; first | (rw [if_pos (by decide +kernel)]; kernel_rfl) | (rw [if_neg (by decide +kernel)]; exact ⟨rfl, rfl⟩))
    (fun os started H enc _ F => by rw [OpenClaim.pre_eq_preRow]; exact stampOrder_lifted os started H enc F)

theorem stampOrder_card_holds : Rows.StampOrderCardSaid :=
  Claim7.holds_tied_plain_at .later [] [.data, .data, .data, .data, .sentinel, .sentinel, .pinned] true (true, "d6923e4ed379cb68bae6e953917814b1658dc5e0e9da2f326a0190d30627099e") true
    stampOrder_holds (fun _ h => by cases h) (by kernel_rfl) (fun _ h => by cases h) stampOrder_row_tie rfl ⟨rfl, rfl⟩ (by kernel_rfl) rfl
    (fun f fn hf hfn => by
      obtain rfl : f = 9 := Option.some.inj ((show Tryd.prog.funcNamed "recension/recensionlaw05.StampOrder" = some 9 by kernel_rfl).symm.trans hf) |>.symm
      obtain rfl : fn = Tryd.f9 := (Option.some.inj (Tryd.func9.symm.trans hfn)).symm
      exact ⟨by kernel_rfl, fun j t ht => by
        rw [Tryd.params9] at ht
        have hm : t ∈ [25, 25, 25] := by simpa using Array.mem_of_getElem? ht
        have hall : ([25, 25, 25].all fun u => !Tryd.prog.wantsStandIn u) = true := by kernel_rfl
        have := List.all_eq_true.1 hall t hm
        exact (show Tryd.prog.wantsStandIn t = false by simpa using this)⟩)
    (by kernel_rfl)
#print axioms stampOrder_card_holds
end Go.Proofs.YtgkbhgcgnjdnnaaDoor
