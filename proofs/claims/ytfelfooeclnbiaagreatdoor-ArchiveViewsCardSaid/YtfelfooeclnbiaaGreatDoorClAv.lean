/- For every input the law ArchiveViews returns true, and its arguments read as before: the row, and its tied card. There are no conditions. -/
import Derived.Test.YtfelfooeclnbiaaGreatDoorEbw
import Derived.Deep.DeepWitnessRowRef
import Derived.Test.YtfelfooeclnbiaaGreatDoorTie
import Derived.Test.YtfelfooeclnbiaaGreatDoorCards
namespace Go.Proofs.YtfelfooeclnbiaaGreatDoor
open Go.ChangeShapes Go.WideShapes Go.ChangeAt Go.RowKit
theorem uZ:ownKnob Tryz.prog.godebug=none:=by kernel_rfl
theorem pV:laidOutB Tryz.prog=true:=by kernel_rfl
set_option maxRecDepth 100000 in
theorem pW(os:Os){H:Type}(enc:TypeId×Value->H):
  (OpenSpec.ofChange Rows.archiveViewsSpec).preRow enc Tryz.prog Tryz.f3 Rows.archiveViewsRow.domain false Rows.archiveViewsRow.laid ((Pi.wL os).forCall (λ_ _=>0) ⟨#[], #[.slice none 0 0],[]⟩).memory #[.slice none 0 0]:=by
 have hw:(DataW.whole enc Tryz.prog ((Pi.wL os).forCall (λ_ _=>0) ⟨#[], #[.slice none 0 0],[]⟩).memory Tryz.f3.params.toList (OpenSpec.ofChange Rows.archiveViewsSpec).vars false (#[.slice none 0 0]:Array Value).toList 8).isSome=true:=by kernel_rfl
 obtain⟨x,hx⟩:=Option.isSome_iff_exists.1 hw;exact OpenSpec.preRow_of_cond 8 hx (by kernel_rfl) (λk hk=>by cases hk) (by kernel_rfl) (Pi.qax _ (Pi.qeY os _))
set_option maxRecDepth 100000 in
theorem qD(os:Os)(started:os.Started)(H:Type)(enc:TypeId×Value->H)(F:Stop.Interp):
  ReturnsInHanded {} Tryz.checked os 3 .any ((OpenSpec.ofChange Rows.archiveViewsSpec).preRow enc Tryz.prog Tryz.f3 Rows.archiveViewsRow.domain false Rows.archiveViewsRow.laid) (((OpenSpec.ofChange Rows.archiveViewsSpec).at F).post enc Tryz.prog Tryz.f3 false true false false):=by
 refine returnsInHanded_of_row (C:=Tryz.checked) (s:=OpenSpec.ofChange Rows.archiveViewsSpec) uZ started (by kernel_rfl) Tryz.func3
  (witness_row_atRef (enc:=enc) (C:=Tryz.checked) false (Pi.wL os) _ (World.laidAll_os _ _ _) (by kernel_rfl) (by kernel_rfl) (by kernel_rfl) (pW os enc)) ?_
 intro W base args ds gs before qhy hW _ _ _ hL hS _;have hval: ∀(j:Nat) t v,Tryz.f3.params[j]?=some t->args[j]?=some v->Value.okWide Tryz.prog W .any base t v:=qhy;refine Pi.CN (Q:=Tryz.prog) (kp:=Pi.MZ Pi.qfF) (s:=Rows.archiveViewsSpec) (m:=8) (tb:=4) (by kernel_rfl) Tryz.func3 (by kernel_rfl) (by kernel_rfl) pV ?_ ?_ rfl (by kernel_rfl) Tryz.underlying4 (Pi.qfE (Pi.qeX hL hS)) hval hW ?_ Pi.tK
 ·rw[Tryz.params3];exact Pi.qca [22] _ (by kernel_rfl)
 ·rw[Tryz.params3];exact Pi.WI [22] _ (by kernel_rfl)
 rw[Tryz.params3];intro ds h;match ds,h with | [d0],_=>rfl
theorem rY:Rows.ArchiveViewsSaid:=
 OpenClaim.holds_of_cond 3 Tryz.f3 rfl rfl rfl rfl rfl rfl rfl ⟨rfl,rfl,rfl,rfl,rfl⟩ rfl rfl rfl rfl rfl (by kernel_rfl) Tryz.func3 (by kernel_rfl)
  (of_decide_eq_true (by kernel_rfl)) (by unfold Func.isWrapper;first | (rw[if_pos (by decide+kernel)];kernel_rfl)| (rw[if_neg (by decide+kernel)];exact⟨rfl,rfl⟩))
  (λos started H enc _ F=>by rw[OpenClaim.pre_eq_preRow];exact qD os started H enc F)
theorem archiveViews_card_holds:Rows.ArchiveViewsCardSaid:=
 Claim7.holds_tied_plain_at .later [] [.data,.data,.data,.data,.sentinel,.sentinel,.pinned] true (true, "a40d99eaa7934c1f49f6e0dbb35c28bbd42a8b14fa3c13c548747bb5a22f6a40") true
  rY (λ_ h=>by cases h) (by kernel_rfl) (λ_ h=>by cases h) archiveViews_row_tie rfl ⟨rfl,rfl⟩ (by kernel_rfl) rfl
  (λf fn hf gK=>by
   obtain rfl:f=3:=Option.some.inj ((show Tryz.prog.funcNamed "recension/recensionlaw17.ArchiveViews" =some 3 by kernel_rfl).symm.trans hf)|>.symm
   obtain rfl:fn=Tryz.f3:=(Option.some.inj (Tryz.func3.symm.trans gK)).symm;exact⟨by kernel_rfl,λj t ht=>by
    rw[Tryz.params3] at ht;have hm:t∈[22]:=by simpa using Array.mem_of_getElem? ht
    have gy:([22].all λu=> !Tryz.prog.wantsStandIn u)=true:=by kernel_rfl
    have:=List.all_eq_true.1 gy t hm;exact(show Tryz.prog.wantsStandIn t=false by simpa using this)⟩)
  (by kernel_rfl)
#print axioms archiveViews_card_holds
end Go.Proofs.YtfelfooeclnbiaaGreatDoor
