/- For every input the law HistorySmall returns true, and its arguments read as before: the row, and its tied card. There are no conditions. -/
import Derived.Test.YtngoddkencoalaaGreatDoorEbx
import Derived.Deep.DeepWitnessRowRef
import Derived.Test.YtngoddkencoalaaGreatDoorTie
import Derived.Test.YtngoddkencoalaaGreatDoorCards
namespace Go.Proofs.YtngoddkencoalaaGreatDoor
open Go.ChangeShapes Go.WideShapes Go.ChangeAt Go.RowKit
theorem vK:ownKnob Tryz.prog.godebug=none:=by kernel_rfl
theorem qy:laidOutB Tryz.prog=true:=by kernel_rfl
set_option maxRecDepth 100000 in
theorem qz(os:Os){H:Type}(enc:TypeId×Value->H):
  (OpenSpec.ofChange Rows.historySmallSpec).preRow enc Tryz.prog Tryz.f4 Rows.historySmallRow.domain false Rows.historySmallRow.laid ((Pi.wL os).forCall (λ_ _=>0) ⟨#[], #[.slice none 0 0,.int .u8 0],[]⟩).memory #[.slice none 0 0,.int .u8 0]:=by
 have hw:(DataW.whole enc Tryz.prog ((Pi.wL os).forCall (λ_ _=>0) ⟨#[], #[.slice none 0 0,.int .u8 0],[]⟩).memory Tryz.f4.params.toList (OpenSpec.ofChange Rows.historySmallSpec).vars false (#[.slice none 0 0,.int .u8 0]:Array Value).toList 8).isSome=true:=by kernel_rfl
 obtain⟨x,hx⟩:=Option.isSome_iff_exists.1 hw;exact OpenSpec.preRow_of_cond 8 hx (by kernel_rfl) (λk hk=>by cases hk) (by kernel_rfl) (Pi.qa9 _ (Pi.qfI os _))
set_option maxRecDepth 100000 in
theorem rv(os:Os)(started:os.Started)(H:Type)(enc:TypeId×Value->H)(F:Stop.Interp):
  ReturnsInHanded {} Tryz.checked os 4 .any ((OpenSpec.ofChange Rows.historySmallSpec).preRow enc Tryz.prog Tryz.f4 Rows.historySmallRow.domain false Rows.historySmallRow.laid) (((OpenSpec.ofChange Rows.historySmallSpec).at F).post enc Tryz.prog Tryz.f4 false true false false):=by
 refine returnsInHanded_of_row (C:=Tryz.checked) (s:=OpenSpec.ofChange Rows.historySmallSpec) vK started (by kernel_rfl) Tryz.func4
  (witness_row_atRef (enc:=enc) (C:=Tryz.checked) false (Pi.wL os) _ (World.laidAll_os _ _ _) (by kernel_rfl) (by kernel_rfl) (by kernel_rfl) (qz os enc)) ?_
 intro W base args ds gs before qiD hW _ _ _ hL hS _;have hval: ∀(j:Nat) t v,Tryz.f4.params[j]?=some t->args[j]?=some v->Value.okWide Tryz.prog W .any base t v:=qiD;refine Pi.Dq (Q:=Tryz.prog) (kp:=Pi.Ji Pi.Mt) (s:=Rows.historySmallSpec) (m:=8) (tb:=4) (by kernel_rfl) Tryz.func4 (by kernel_rfl) (by kernel_rfl) qy ?_ ?_ rfl (by kernel_rfl) Tryz.underlying4 (Pi.VF (Pi.qfH hL hS)) hval hW ?_ Pi.VN
 ·rw[Tryz.params4];exact Pi.qcJ [26,5] _ (by kernel_rfl)
 ·rw[Tryz.params4];exact Pi.Xm [26,5] _ (by kernel_rfl)
 rw[Tryz.params4];intro ds h;match ds,h with | [d0,d1],_=>rfl
theorem sU:Rows.HistorySmallSaid:=
 OpenClaim.holds_of_cond 4 Tryz.f4 rfl rfl rfl rfl rfl rfl rfl ⟨rfl,rfl,rfl,rfl,rfl⟩ rfl rfl rfl rfl rfl (by kernel_rfl) Tryz.func4 (by kernel_rfl)
  (of_decide_eq_true (by kernel_rfl)) (by unfold Func.isWrapper;first | (rw[if_pos (by decide+kernel)];kernel_rfl)| (rw[if_neg (by decide+kernel)];exact⟨rfl,rfl⟩))
  (λos started H enc _ F=>by rw[OpenClaim.pre_eq_preRow];exact rv os started H enc F)
theorem historySmall_card_holds:Rows.HistorySmallCardSaid:=
 Claim7.holds_tied_plain_at .later [] [.data,.pinned] true (true, "264adaf13f57e276748cb0d74e56198ae19cf09491782a7a9721014bc23c5865") false
  sU (λ_ h=>by cases h) (by kernel_rfl) (λ_ h=>by cases h) historySmall_row_tie rfl ⟨rfl,rfl⟩ (by kernel_rfl) rfl
  (λf fn hf gj=>by
   obtain rfl:f=4:=Option.some.inj ((show Tryz.prog.funcNamed "recension/recensionlaw20.HistorySmall" =some 4 by kernel_rfl).symm.trans hf)|>.symm
   obtain rfl:fn=Tryz.f4:=(Option.some.inj (Tryz.func4.symm.trans gj)).symm;exact⟨by kernel_rfl,λj t ht=>by
    rw[Tryz.params4] at ht;have hm:t∈[26,5]:=by simpa using Array.mem_of_getElem? ht
    have iF:([26,5].all λu=> !Tryz.prog.wantsStandIn u)=true:=by kernel_rfl
    have:=List.all_eq_true.1 iF t hm;exact(show Tryz.prog.wantsStandIn t=false by simpa using this)⟩)
  (by kernel_rfl)
#print axioms historySmall_card_holds
end Go.Proofs.YtngoddkencoalaaGreatDoor
