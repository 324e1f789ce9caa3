/- For every input the law HistoryNext returns true, and its arguments read as before: the row, and its tied card. There are no conditions. -/
import Derived.Test.YtngoddkencoalaaGreatDoorEbw
import Derived.Deep.DeepWitnessRowRef
import Derived.Test.YtngoddkencoalaaGreatDoorTie
import Derived.Test.YtngoddkencoalaaGreatDoorCards
namespace Go.Proofs.YtngoddkencoalaaGreatDoor
open Go.ChangeShapes Go.WideShapes Go.ChangeAt Go.RowKit
theorem v7:ownKnob Tryz.prog.godebug=none:=by kernel_rfl
theorem qE:laidOutB Tryz.prog=true:=by kernel_rfl
set_option maxRecDepth 100000 in
theorem qF (os:Os) {H:Type} (enc:TypeId×Value->H):
  (OpenSpec.ofChange Rows.historyNextSpec).preRow enc Tryz.prog Tryz.f5 Rows.historyNextRow.domain false Rows.historyNextRow.laid ((Pi.wL os).forCall (fun _ _=>0) ⟨#[], #[.slice none 0 0,.int .u8 0],[]⟩).memory #[.slice none 0 0,.int .u8 0]:=by
 have hw:(DataW.whole enc Tryz.prog ((Pi.wL os).forCall (fun _ _=>0) ⟨#[], #[.slice none 0 0,.int .u8 0],[]⟩).memory Tryz.f5.params.toList (OpenSpec.ofChange Rows.historyNextSpec).vars false (#[.slice none 0 0,.int .u8 0]:Array Value).toList 8).isSome=true:=by kernel_rfl
 obtain⟨x,hx⟩:=Option.isSome_iff_exists.1 hw
 exact OpenSpec.preRow_of_cond 8 hx (by kernel_rfl) (fun k hk=>by cases hk) (by kernel_rfl) (Pi.qak _ (Pi.qeI os _))
set_option maxRecDepth 100000 in
theorem rW (os:Os) (started:os.Started) (H:Type) (enc:TypeId×Value->H) (F:Stop.Interp):
  ReturnsInHanded {} Tryz.checked os 5 .any ((OpenSpec.ofChange Rows.historyNextSpec).preRow enc Tryz.prog Tryz.f5 Rows.historyNextRow.domain false Rows.historyNextRow.laid) (((OpenSpec.ofChange Rows.historyNextSpec).at F).post enc Tryz.prog Tryz.f5 false true false false):=by
 refine returnsInHanded_of_row (C:=Tryz.checked) (s:=OpenSpec.ofChange Rows.historyNextSpec) v7 started (by kernel_rfl) Tryz.func5
  (witness_row_atRef (enc:=enc) (C:=Tryz.checked) false (Pi.wL os) _ (World.laidAll_os _ _ _) (by kernel_rfl) (by kernel_rfl) (by kernel_rfl) (qF os enc)) ?_
 intro W base args ds gs before qhu hW _ _ _ hL hS _
 have hval: ∀(j:Nat) t v,Tryz.f5.params[j]?=some t->args[j]?=some v->Value.okWide Tryz.prog W .any base t v:=qhu
 refine Pi.CO (Q:=Tryz.prog) (kp:=Pi.Ir Pi.LI) (s:=Rows.historyNextSpec) (m:=8) (tb:=4) (by kernel_rfl) Tryz.func5 (by kernel_rfl) (by kernel_rfl) qE ?_ ?_ rfl (by kernel_rfl) Tryz.underlying4 (Pi.UO (Pi.qeH hL hS)) hval hW ?_ Pi.UU
 ·rw[Tryz.params5];exact Pi.qbT [26,5] _ (by kernel_rfl)
 ·rw[Tryz.params5];exact Pi.Wp [26,5] _ (by kernel_rfl)
 ·rw[Tryz.params5];intro ds h;match ds,h with | [d0,d1],_=>rfl
theorem tu:Rows.HistoryNextSaid:=
 OpenClaim.holds_of_cond 5 Tryz.f5 rfl rfl rfl rfl rfl rfl rfl ⟨rfl,rfl,rfl,rfl,rfl⟩ rfl rfl rfl rfl rfl (by kernel_rfl) Tryz.func5 (by kernel_rfl)
  (of_decide_eq_true (by kernel_rfl)) (by unfold Func.isWrapper;first | (rw[if_pos (by decide+kernel)];kernel_rfl)| (rw[if_neg (by decide+kernel)];exact⟨rfl,rfl⟩))
  (fun os started H enc _ F=>by rw[OpenClaim.pre_eq_preRow];exact rW os started H enc F)
theorem historyNext_card_holds:Rows.HistoryNextCardSaid:=
 Claim7.holds_tied_plain_at .later [] [.data,.pinned] true (true, "264adaf13f57e276748cb0d74e56198ae19cf09491782a7a9721014bc23c5865") false
  tu (fun _ h=>by cases h) (by kernel_rfl) (fun _ h=>by cases h) historyNext_row_tie rfl ⟨rfl,rfl⟩ (by kernel_rfl) rfl
  (fun f fn hf fX=>by
   obtain rfl:f=5:=Option.some.inj ((show Tryz.prog.funcNamed "recension/recensionlaw20.HistoryNext" =some 5 by kernel_rfl).symm.trans hf)|>.symm
   obtain rfl:fn=Tryz.f5:=(Option.some.inj (Tryz.func5.symm.trans fX)).symm
   exact⟨by kernel_rfl,fun j t ht=>by
    rw[Tryz.params5] at ht
    have hm:t∈[26,5]:=by simpa using Array.mem_of_getElem? ht
    have il:([26,5].all fun u=> !Tryz.prog.wantsStandIn u)=true:=by kernel_rfl
    have:=List.all_eq_true.1 il t hm
    exact(show Tryz.prog.wantsStandIn t=false by simpa using this)⟩)
  (by kernel_rfl)
#print axioms historyNext_card_holds
end Go.Proofs.YtngoddkencoalaaGreatDoor
