/- For every input the law PathnameBack returns true, and its arguments read as before: the row, and its tied card. What it reads is of a bulk of at most 1048576. -/
import Derived.Test.YthaoefcijckofaaDoorEbn
import Derived.Deep.DeepWitnessRowRef
import Derived.Test.YthaoefcijckofaaDoorTie
import Derived.Test.YthaoefcijckofaaDoorCards
namespace Go.Proofs.YthaoefcijckofaaDoor
open Go.ChangeShapes Go.WideShapes Go.ChangeAt Go.RowKit

theorem own_pathnameBack : ownKnob Tryd.prog.godebug = none := by kernel_rfl
theorem laidOut_pathnameBack : laidOutB Tryd.prog = true := by kernel_rfl

set_option maxRecDepth 100000 in
theorem pathnameBack_witness (os : Os) {H : Type} (enc : TypeId × Value → H) :
    (Rows.OpenSpec.upto Rows.pathnameBackSpec).preRow enc Tryd.prog Tryd.f10 Rows.pathnameBackUptoRow.domain false Rows.pathnameBackUptoRow.laid ((Pi.wL os).forCall (fun _ _ => 0) ⟨#[], #[.string ⟨#[]⟩, .slice none 0 0], []⟩).memory #[.string ⟨#[]⟩, .slice none 0 0] := by
  have hw : (DataW.whole enc Tryd.prog ((Pi.wL os).forCall (fun _ _ => 0) ⟨#[], #[.string ⟨#[]⟩, .slice none 0 0], []⟩).memory Tryd.f10.params.toList (Rows.OpenSpec.upto Rows.pathnameBackSpec).vars false (#[.string ⟨#[]⟩, .slice none 0 0] : Array Value).toList 8).isSome = true := by kernel_rfl
  obtain ⟨x, hx⟩ := Option.isSome_iff_exists.1 hw
  have hu : (match DataW.whole enc Tryd.prog ((Pi.wL os).forCall (fun _ _ => 0) ⟨#[], #[.string ⟨#[]⟩, .slice none 0 0], []⟩).memory Tryd.f10.params.toList (Rows.OpenSpec.upto Rows.pathnameBackSpec).vars false (#[.string ⟨#[]⟩, .slice none 0 0] : Array Value).toList 8 with | some x => Rows.uptoSmall H (x.1 ++ x.2.1) | none => false) = true := by kernel_rfl
  rw [hx] at hu
  exact OpenSpec.preRow_of_cond 8 hx (by kernel_rfl) (fun k hk => by cases hk; exact hu) (by kernel_rfl) (Pi.laidL_H _ (Pi.wL_met os _))

set_option maxRecDepth 100000 in
theorem pathnameBack_lifted (os : Os) (started : os.Started) (H : Type) (enc : TypeId × Value → H) (F : Stop.Interp) :
    ReturnsInHanded {} Tryd.checked os 10 .any ((Rows.OpenSpec.upto Rows.pathnameBackSpec).preRow enc Tryd.prog Tryd.f10 Rows.pathnameBackUptoRow.domain false Rows.pathnameBackUptoRow.laid) (((Rows.OpenSpec.upto Rows.pathnameBackSpec).at F).post enc Tryd.prog Tryd.f10 false true false false) := by
  refine returnsInHanded_of_row (C := Tryd.checked) (s := Rows.OpenSpec.upto Rows.pathnameBackSpec) own_pathnameBack started (by kernel_rfl) Tryd.func10
    (witness_row_atRef (enc := enc) (C := Tryd.checked) false (Pi.wL os) _ (World.laidAll_os _ _ _) (by kernel_rfl) (by kernel_rfl) (by kernel_rfl) (pathnameBack_witness os enc)) ?_
  intro W base args ds gs before hval0 hW _ hcond _ hL hS _
  have hval : ∀ (j : Nat) t v, Tryd.f10.params[j]? = some t → args[j]? = some v → Value.okWide Tryd.prog W .any base t v := hval0
  refine Pi.law_contract_bulk (Q := Tryd.prog) (kp := Pi.kpT Pi.xBase) (s := Rows.pathnameBackSpec) (m := 8) (tb := 4) (by kernel_rfl) Tryd.func10 (by kernel_rfl) (by kernel_rfl) laidOut_pathnameBack ?_ ?_ rfl (by kernel_rfl) Tryd.underlying4 (Pi.xB_ok (Pi.stW_of hL hS)) hval hW ?_ (fun xs hf hb => Pi.okPBackLaw xs hf (Nat.le_trans hb (Pi.upto_bulk (hcond _ rfl))))
  · rw [Tryd.params10]; exact Pi.all_of [9, 47] _ (by kernel_rfl)
  · rw [Tryd.params10]; exact Pi.all_of2 [9, 47] _ (by kernel_rfl)
  · rw [Tryd.params10]; intro ds h; match ds, h with | [d0, d1], _ => rfl

theorem pathnameBack_holds : Rows.PathnameBackUptoSaid :=
  OpenClaim.holds_of_cond 10 Tryd.f10 rfl rfl rfl rfl rfl rfl rfl ⟨rfl, rfl, rfl, rfl, rfl⟩ rfl rfl rfl rfl rfl (by kernel_rfl) Tryd.func10 (by kernel_rfl)
    (of_decide_eq_true (by kernel_rfl)) (by unfold Func.isWrapper; first | (rw [if_pos (by decide +kernel)]; kernel_rfl) | (rw [if_neg (by decide +kernel)]; exact ⟨rfl, rfl⟩))
    (fun os started H enc _ F => by rw [OpenClaim.pre_eq_preRow]; exact pathnameBack_lifted os started H enc F)

theorem pathnameBackUpto_card_holds : Rows.PathnameBackUptoCardSaid :=
  Claim7.holds_tied_plain_at .later [] [.data, .data, .data, .data, .sentinel, .sentinel, .pinned] true (true, "f9de9c76a8de30475b2c8b05dcabcf259b38426108a69a21a774b9fed072e3d0") true
    pathnameBack_holds (fun _ h => by cases h) (by kernel_rfl) (fun _ h => by cases h) pathnameBackUpto_row_tie rfl ⟨rfl, rfl⟩ (by kernel_rfl) rfl
    (fun f fn hf hfn => by
      obtain rfl : f = 10 := Option.some.inj ((show Tryd.prog.funcNamed "recension/recensionlaw07.PathnameBack" = some 10 by kernel_rfl).symm.trans hf) |>.symm
      obtain rfl : fn = Tryd.f10 := (Option.some.inj (Tryd.func10.symm.trans hfn)).symm
      exact ⟨by kernel_rfl, fun j t ht => by
        rw [Tryd.params10] at ht
        have hm : t ∈ [9, 47] := by simpa using Array.mem_of_getElem? ht
        have hall : ([9, 47].all fun u => !Tryd.prog.wantsStandIn u) = true := by kernel_rfl
        have := List.all_eq_true.1 hall t hm
        exact (show Tryd.prog.wantsStandIn t = false by simpa using this)⟩)
    (by kernel_rfl)
#print axioms pathnameBackUpto_card_holds
end Go.Proofs.YthaoefcijckofaaDoor
