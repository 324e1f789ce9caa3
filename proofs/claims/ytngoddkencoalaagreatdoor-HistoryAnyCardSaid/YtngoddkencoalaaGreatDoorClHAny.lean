/- For every input the law HistoryAny returns true, and its arguments read as before: the row, and its tied card. There are no conditions. -/
import Derived.Test.YtngoddkencoalaaGreatDoorEca
import Derived.Deep.DeepWitnessRowRef
import Derived.Test.YtngoddkencoalaaGreatDoorTie
import Derived.Test.YtngoddkencoalaaGreatDoorCards
namespace Go.Proofs.YtngoddkencoalaaGreatDoor
open Go.ChangeShapes Go.WideShapes Go.ChangeAt Go.RowKit
theorem yp:ownKnob Tryz.prog.godebug=none:=by kernel_rfl
theorem rK:laidOutB Tryz.prog=true:=by kernel_rfl
set_option maxRecDepth 100000 in
theorem rL (os:Os) {H:Type} (enc:TypeId×Value->H):
  (OpenSpec.ofChange Rows.historyAnySpec).preRow enc Tryz.prog Tryz.f3 Rows.historyAnyRow.domain false Rows.historyAnyRow.laid ((Pi.wL os).forCall (fun _ _=>0) ⟨#[], #[.slice none 0 0,.int .i64 0],[]⟩).memory #[.slice none 0 0,.int .i64 0]:=by
 have hw:(DataW.whole enc Tryz.prog ((Pi.wL os).forCall (fun _ _=>0) ⟨#[], #[.slice none 0 0,.int .i64 0],[]⟩).memory Tryz.f3.params.toList (OpenSpec.ofChange Rows.historyAnySpec).vars false (#[.slice none 0 0,.int .i64 0]:Array Value).toList 8).isSome=true:=by kernel_rfl
 obtain⟨x,hx⟩:=Option.isSome_iff_exists.1 hw
 exact OpenSpec.preRow_of_cond 8 hx (by kernel_rfl) (fun k hk=>by cases hk) (by kernel_rfl) (Pi.WI _ (Pi.qcY os _))
set_option maxRecDepth 100000 in
theorem sL (os:Os) (started:os.Started) (H:Type) (enc:TypeId×Value->H) (F:Stop.Interp):
  ReturnsInHanded {} Tryz.checked os 3 .any ((OpenSpec.ofChange Rows.historyAnySpec).preRow enc Tryz.prog Tryz.f3 Rows.historyAnyRow.domain false Rows.historyAnyRow.laid) (((OpenSpec.ofChange Rows.historyAnySpec).at F).post enc Tryz.prog Tryz.f3 false true false false):=by
 refine returnsInHanded_of_row (C:=Tryz.checked) (s:=OpenSpec.ofChange Rows.historyAnySpec) yp started (by kernel_rfl) Tryz.func3
  (witness_row_atRef (enc:=enc) (C:=Tryz.checked) false (Pi.wL os) _ (World.laidAll_os _ _ _) (by kernel_rfl) (by kernel_rfl) (by kernel_rfl) (rL os enc)) ?_
 intro W base args ds gs before qfI hW _ _ _ hL hS _
 have hval: ∀(j:Nat) t v,Tryz.f3.params[j]?=some t->args[j]?=some v->Value.okWide Tryz.prog W .any base t v:=qfI
 refine Pi.BQ (Q:=Tryz.prog) (kp:=Pi.GV Pi.JY) (s:=Rows.historyAnySpec) (m:=8) (tb:=4) (by kernel_rfl) Tryz.func3 (by kernel_rfl) (by kernel_rfl) rK ?_ ?_ rfl (by kernel_rfl) Tryz.underlying4 (Pi.RZ (Pi.qcX hL hS)) hval hW ?_ Pi.Ml
 ·rw[Tryz.params3];exact Pi.qaj [22,3] _ (by kernel_rfl)
 ·rw[Tryz.params3];exact Pi.TP [22,3] _ (by kernel_rfl)
 ·rw[Tryz.params3];intro ds h;match ds,h with | [d0,d1],_=>rfl
theorem tM:Rows.HistoryAnySaid:=
 OpenClaim.holds_of_cond 3 Tryz.f3 rfl rfl rfl rfl rfl rfl rfl ⟨rfl,rfl,rfl,rfl,rfl⟩ rfl rfl rfl rfl rfl (by kernel_rfl) Tryz.func3 (by kernel_rfl)
  (of_decide_eq_true (by kernel_rfl)) (by unfold Func.isWrapper;first | (rw[if_pos (by decide+kernel)];kernel_rfl)| (rw[if_neg (by decide+kernel)];exact⟨rfl,rfl⟩))
  (fun os started H enc _ F=>by rw[OpenClaim.pre_eq_preRow];exact sL os started H enc F)
theorem historyAny_card_holds:Rows.HistoryAnyCardSaid:=
 Claim7.holds_tied_plain_at .later [] [.data,.pinned] true (true, "264adaf13f57e276748cb0d74e56198ae19cf09491782a7a9721014bc23c5865") false
  tM (fun _ h=>by cases h) (by kernel_rfl) (fun _ h=>by cases h) historyAny_row_tie rfl ⟨rfl,rfl⟩ (by kernel_rfl) rfl
  (fun f fn hf eJ=>by
   obtain rfl:f=3:=Option.some.inj ((show Tryz.prog.funcNamed "recension/recensionlaw20.HistoryAny" =some 3 by kernel_rfl).symm.trans hf)|>.symm
   obtain rfl:fn=Tryz.f3:=(Option.some.inj (Tryz.func3.symm.trans eJ)).symm
   exact⟨by kernel_rfl,fun j t ht=>by
    rw[Tryz.params3] at ht
    have hm:t∈[22,3]:=by simpa using Array.mem_of_getElem? ht
    have gB:([22,3].all fun u=> !Tryz.prog.wantsStandIn u)=true:=by kernel_rfl
    have:=List.all_eq_true.1 gB t hm
    exact(show Tryz.prog.wantsStandIn t=false by simpa using this)⟩)
  (by kernel_rfl)
#print axioms historyAny_card_holds
end Go.Proofs.YtngoddkencoalaaGreatDoor
