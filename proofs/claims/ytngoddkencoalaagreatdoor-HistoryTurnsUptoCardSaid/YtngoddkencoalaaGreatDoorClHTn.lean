/- For every input the law HistoryTurns returns true, and its arguments read as before: the row, and its tied card. What it reads is of a bulk of at most 1048576. -/
import Derived.Test.YtngoddkencoalaaGreatDoorEbx
import Derived.Deep.DeepWitnessRowRef
import Derived.Test.YtngoddkencoalaaGreatDoorTie
import Derived.Test.YtngoddkencoalaaGreatDoorCards
namespace Go.Proofs.YtngoddkencoalaaGreatDoor
open Go.ChangeShapes Go.WideShapes Go.ChangeAt Go.RowKit
theorem wh:ownKnob Tryz.prog.godebug=none:=by kernel_rfl
theorem qQ:laidOutB Tryz.prog=true:=by kernel_rfl
set_option maxRecDepth 100000 in
theorem qR(os:Os){H:Type}(enc:TypeId×Value->H):
  (Rows.OpenSpec.upto Rows.historyTurnsSpec).preRow enc Tryz.prog Tryz.f6 Rows.historyTurnsUptoRow.domain false Rows.historyTurnsUptoRow.laid ((Pi.wL os).forCall (λ_ _=>0) ⟨#[], #[.slice none 0 0,.int .u8 0],[]⟩).memory #[.slice none 0 0,.int .u8 0]:=by
 have hw:(DataW.whole enc Tryz.prog ((Pi.wL os).forCall (λ_ _=>0) ⟨#[], #[.slice none 0 0,.int .u8 0],[]⟩).memory Tryz.f6.params.toList (Rows.OpenSpec.upto Rows.historyTurnsSpec).vars false (#[.slice none 0 0,.int .u8 0]:Array Value).toList 8).isSome=true:=by kernel_rfl
 obtain⟨x,hx⟩:=Option.isSome_iff_exists.1 hw;have hu:(match DataW.whole enc Tryz.prog ((Pi.wL os).forCall (λ_ _=>0) ⟨#[], #[.slice none 0 0,.int .u8 0],[]⟩).memory Tryz.f6.params.toList (Rows.OpenSpec.upto Rows.historyTurnsSpec).vars false (#[.slice none 0 0,.int .u8 0]:Array Value).toList 8 with |some x=>Rows.uptoSmall H (x.1++x.2.1)|none=>false)=true:=by kernel_rfl
 rw[hx] at hu;exact OpenSpec.preRow_of_cond 8 hx (by kernel_rfl) (λk hk=>by cases hk;exact hu) (by kernel_rfl) (Pi.qcM _ (Pi.qhE os _))
set_option maxRecDepth 100000 in
theorem rK(os:Os)(started:os.Started)(H:Type)(enc:TypeId×Value->H)(F:Stop.Interp):
  ReturnsInHanded {} Tryz.checked os 6 .any ((Rows.OpenSpec.upto Rows.historyTurnsSpec).preRow enc Tryz.prog Tryz.f6 Rows.historyTurnsUptoRow.domain false Rows.historyTurnsUptoRow.laid) (((Rows.OpenSpec.upto Rows.historyTurnsSpec).at F).post enc Tryz.prog Tryz.f6 false true false false):=by
 refine returnsInHanded_of_row (C:=Tryz.checked) (s:=Rows.OpenSpec.upto Rows.historyTurnsSpec) wh started (by kernel_rfl) Tryz.func6
  (witness_row_atRef (enc:=enc) (C:=Tryz.checked) false (Pi.wL os) _ (World.laidAll_os _ _ _) (by kernel_rfl) (by kernel_rfl) (by kernel_rfl) (qR os enc)) ?_
 intro W base args ds gs before qkG hW _ eP _ hL hS _;have hval: ∀(j:Nat) t v,Tryz.f6.params[j]?=some t->args[j]?=some v->Value.okWide Tryz.prog W .any base t v:=qkG;refine Pi.uc (Q:=Tryz.prog) (kp:=Pi.MT Pi.Oe) (s:=Rows.historyTurnsSpec) (m:=8) (tb:=4) (by kernel_rfl) Tryz.func6 (by kernel_rfl) (by kernel_rfl) qQ ?_ ?_ rfl (by kernel_rfl) Tryz.underlying4 (Pi.XG (Pi.qhD hL hS)) hval hW ?_ (λxs hf hb=>Pi.Jo xs hf (Nat.le_trans hb (Pi.QK (eP _ rfl))))
 ·rw[Tryz.params6];exact Pi.qeE [26,5] _ (by kernel_rfl)
 ·rw[Tryz.params6];exact Pi.qaq [26,5] _ (by kernel_rfl)
 rw[Tryz.params6];intro ds h;match ds,h with | [d0,d1],_=>rfl
theorem s8:Rows.HistoryTurnsUptoSaid:=
 OpenClaim.holds_of_cond 6 Tryz.f6 rfl rfl rfl rfl rfl rfl rfl ⟨rfl,rfl,rfl,rfl,rfl⟩ rfl rfl rfl rfl rfl (by kernel_rfl) Tryz.func6 (by kernel_rfl)
  (of_decide_eq_true (by kernel_rfl)) (by unfold Func.isWrapper;first | (rw[if_pos (by decide+kernel)];kernel_rfl)| (rw[if_neg (by decide+kernel)];exact⟨rfl,rfl⟩))
  (λos started H enc _ F=>by rw[OpenClaim.pre_eq_preRow];exact rK os started H enc F)
theorem historyTurnsUpto_card_holds:Rows.HistoryTurnsUptoCardSaid:=
 Claim7.holds_tied_plain_at .later [] [.data,.pinned] true (true, "264adaf13f57e276748cb0d74e56198ae19cf09491782a7a9721014bc23c5865") false
  s8 (λ_ h=>by cases h) (by kernel_rfl) (λ_ h=>by cases h) historyTurnsUpto_row_tie rfl ⟨rfl,rfl⟩ (by kernel_rfl) rfl
  (λf fn hf gg=>by
   obtain rfl:f=6:=Option.some.inj ((show Tryz.prog.funcNamed "recension/recensionlaw20.HistoryTurns" =some 6 by kernel_rfl).symm.trans hf)|>.symm
   obtain rfl:fn=Tryz.f6:=(Option.some.inj (Tryz.func6.symm.trans gg)).symm;exact⟨by kernel_rfl,λj t ht=>by
    rw[Tryz.params6] at ht;have hm:t∈[26,5]:=by simpa using Array.mem_of_getElem? ht
    have gU:([26,5].all λu=> !Tryz.prog.wantsStandIn u)=true:=by kernel_rfl
    have:=List.all_eq_true.1 gU t hm;exact(show Tryz.prog.wantsStandIn t=false by simpa using this)⟩)
  (by kernel_rfl)
#print axioms historyTurnsUpto_card_holds
end Go.Proofs.YtngoddkencoalaaGreatDoor
