/- For every input the law HistoryNew returns true, and its arguments read as before: the row, and its tied card. There are no conditions. -/
import Derived.Test.YtngoddkencoalaaGreatDoorEbw
import Derived.Deep.DeepWitnessRowRef
import Derived.Test.YtngoddkencoalaaGreatDoorTie
import Derived.Test.YtngoddkencoalaaGreatDoorCards
namespace Go.Proofs.YtngoddkencoalaaGreatDoor
open Go.ChangeShapes Go.WideShapes Go.ChangeAt Go.RowKit
theorem zm:ownKnob Tryz.prog.godebug=none:=by kernel_rfl
theorem r3:laidOutB Tryz.prog=true:=by kernel_rfl
set_option maxRecDepth 100000 in
theorem r4(os:Os){H:Type}(enc:TypeId×Value->H):
  (OpenSpec.ofChange Rows.historyNewSpec).preRow enc Tryz.prog Tryz.f7 Rows.historyNewRow.domain false Rows.historyNewRow.laid ((Pi.wL os).forCall (λ_ _=>0) ⟨#[], #[.slice none 0 0,.int .u8 0],[]⟩).memory #[.slice none 0 0,.int .u8 0]:=by
 have hw:(DataW.whole enc Tryz.prog ((Pi.wL os).forCall (λ_ _=>0) ⟨#[], #[.slice none 0 0,.int .u8 0],[]⟩).memory Tryz.f7.params.toList (OpenSpec.ofChange Rows.historyNewSpec).vars false (#[.slice none 0 0,.int .u8 0]:Array Value).toList 8).isSome=true:=by kernel_rfl
 obtain⟨x,hx⟩:=Option.isSome_iff_exists.1 hw;exact OpenSpec.preRow_of_cond 8 hx (by kernel_rfl) (λk hk=>by cases hk) (by kernel_rfl) (Pi.qau _ (Pi.qeO os _))
set_option maxRecDepth 100000 in
theorem tE(os:Os)(started:os.Started)(H:Type)(enc:TypeId×Value->H)(F:Stop.Interp):
  ReturnsInHanded {} Tryz.checked os 7 .any ((OpenSpec.ofChange Rows.historyNewSpec).preRow enc Tryz.prog Tryz.f7 Rows.historyNewRow.domain false Rows.historyNewRow.laid) (((OpenSpec.ofChange Rows.historyNewSpec).at F).post enc Tryz.prog Tryz.f7 false true false false):=by
 refine returnsInHanded_of_row (C:=Tryz.checked) (s:=OpenSpec.ofChange Rows.historyNewSpec) zm started (by kernel_rfl) Tryz.func7
  (witness_row_atRef (enc:=enc) (C:=Tryz.checked) false (Pi.wL os) _ (World.laidAll_os _ _ _) (by kernel_rfl) (by kernel_rfl) (by kernel_rfl) (r4 os enc)) ?_
 intro W base args ds gs before qhz hW _ _ _ hL hS _;have hval: ∀(j:Nat) t v,Tryz.f7.params[j]?=some t->args[j]?=some v->Value.okWide Tryz.prog W .any base t v:=qhz;refine Pi.CR (Q:=Tryz.prog) (kp:=Pi.IB Pi.LU) (s:=Rows.historyNewSpec) (m:=8) (tb:=4) (by kernel_rfl) Tryz.func7 (by kernel_rfl) (by kernel_rfl) r3 ?_ ?_ rfl (by kernel_rfl) Tryz.underlying4 (Pi.U4 (Pi.qeN hL hS)) hval hW ?_ Pi.U9
 ·rw[Tryz.params7];exact Pi.qbY [26,5] _ (by kernel_rfl)
 ·rw[Tryz.params7];exact Pi.WC [26,5] _ (by kernel_rfl)
 rw[Tryz.params7];intro ds h;match ds,h with | [d0,d1],_=>rfl
theorem uG:Rows.HistoryNewSaid:=
 OpenClaim.holds_of_cond 7 Tryz.f7 rfl rfl rfl rfl rfl rfl rfl ⟨rfl,rfl,rfl,rfl,rfl⟩ rfl rfl rfl rfl rfl (by kernel_rfl) Tryz.func7 (by kernel_rfl)
  (of_decide_eq_true (by kernel_rfl)) (by unfold Func.isWrapper;first | (rw[if_pos (by decide+kernel)];kernel_rfl)| (rw[if_neg (by decide+kernel)];exact⟨rfl,rfl⟩))
  (λos started H enc _ F=>by rw[OpenClaim.pre_eq_preRow];exact tE os started H enc F)
theorem historyNew_card_holds:Rows.HistoryNewCardSaid:=
 Claim7.holds_tied_plain_at .later [] [.data,.pinned] true (true, "264adaf13f57e276748cb0d74e56198ae19cf09491782a7a9721014bc23c5865") false
  uG (λ_ h=>by cases h) (by kernel_rfl) (λ_ h=>by cases h) historyNew_row_tie rfl ⟨rfl,rfl⟩ (by kernel_rfl) rfl
  (λf fn hf fW=>by
   obtain rfl:f=7:=Option.some.inj ((show Tryz.prog.funcNamed "recension/recensionlaw20.HistoryNew" =some 7 by kernel_rfl).symm.trans hf)|>.symm
   obtain rfl:fn=Tryz.f7:=(Option.some.inj (Tryz.func7.symm.trans fW)).symm;exact⟨by kernel_rfl,λj t ht=>by
    rw[Tryz.params7] at ht;have hm:t∈[26,5]:=by simpa using Array.mem_of_getElem? ht
    have iq:([26,5].all λu=> !Tryz.prog.wantsStandIn u)=true:=by kernel_rfl
    have:=List.all_eq_true.1 iq t hm;exact(show Tryz.prog.wantsStandIn t=false by simpa using this)⟩)
  (by kernel_rfl)
#print axioms historyNew_card_holds
end Go.Proofs.YtngoddkencoalaaGreatDoor
