/- For every input the law ViewNothing returns true, and its arguments read as before: the row, and its tied card. There are no conditions. -/
import Derived.Test.YtdgkdigdflkjhaaGreatDoorEbx
import Derived.Deep.DeepWitnessRowRef
import Derived.Test.YtdgkdigdflkjhaaGreatDoorTie
import Derived.Test.YtdgkdigdflkjhaaGreatDoorCards
namespace Go.Proofs.YtdgkdigdflkjhaaGreatDoor
open Go.ChangeShapes Go.WideShapes Go.ChangeAt Go.RowKit
theorem yA:ownKnob Tryz.prog.godebug=none:=by kernel_rfl
theorem sd:laidOutB Tryz.prog=true:=by kernel_rfl
set_option maxRecDepth 100000 in
theorem se(os:Os){H:Type}(enc:TypeId×Value->H):
  (OpenSpec.ofChange Rows.viewNothingSpec).preRow enc Tryz.prog Tryz.f5 Rows.viewNothingRow.domain false Rows.viewNothingRow.laid ((Pi.wL os).forCall (λ_ _=>0) ⟨#[], #[.slice none 0 0],[]⟩).memory #[.slice none 0 0]:=by
 have hw:(DataW.whole enc Tryz.prog ((Pi.wL os).forCall (λ_ _=>0) ⟨#[], #[.slice none 0 0],[]⟩).memory Tryz.f5.params.toList (OpenSpec.ofChange Rows.viewNothingSpec).vars false (#[.slice none 0 0]:Array Value).toList 8).isSome=true:=by kernel_rfl
 obtain⟨x,hx⟩:=Option.isSome_iff_exists.1 hw;exact OpenSpec.preRow_of_cond 8 hx (by kernel_rfl) (λk hk=>by cases hk) (by kernel_rfl) (Pi.qdy _ (Pi.qia os _))
set_option maxRecDepth 100000 in
theorem uc(os:Os)(started:os.Started)(H:Type)(enc:TypeId×Value->H)(F:Stop.Interp):
  ReturnsInHanded {} Tryz.checked os 5 .any ((OpenSpec.ofChange Rows.viewNothingSpec).preRow enc Tryz.prog Tryz.f5 Rows.viewNothingRow.domain false Rows.viewNothingRow.laid) (((OpenSpec.ofChange Rows.viewNothingSpec).at F).post enc Tryz.prog Tryz.f5 false true false false):=by
 refine returnsInHanded_of_row (C:=Tryz.checked) (s:=OpenSpec.ofChange Rows.viewNothingSpec) yA started (by kernel_rfl) Tryz.func5
  (witness_row_atRef (enc:=enc) (C:=Tryz.checked) false (Pi.wL os) _ (World.laidAll_os _ _ _) (by kernel_rfl) (by kernel_rfl) (by kernel_rfl) (se os enc)) ?_
 intro W base args ds gs before qm5 hW _ _ _ hL hS _;have hval: ∀(j:Nat) t v,Tryz.f5.params[j]?=some t->args[j]?=some v->Value.okWide Tryz.prog W .any base t v:=qm5;refine Pi.FI (Q:=Tryz.prog) (kp:=Pi.Oh Pi.xV6) (s:=Rows.viewNothingSpec) (m:=8) (tb:=4) (by kernel_rfl) Tryz.func5 (by kernel_rfl) (by kernel_rfl) sd ?_ ?_ rfl (by kernel_rfl) Tryz.underlying4 (Pi.qii (Pi.qh9 hL hS)) hval hW ?_ Pi.Ss
 ·rw[Tryz.params5];exact Pi.qfP [22] _ (by kernel_rfl)
 ·rw[Tryz.params5];exact Pi.qaI [22] _ (by kernel_rfl)
 rw[Tryz.params5];intro ds h;match ds,h with | [d0],_=>rfl
set_option maxHeartbeats 0 in
theorem vJ:Rows.ViewNothingSaid:=
 OpenClaim.holds_of_cond 5 Tryz.f5 rfl rfl rfl rfl rfl rfl rfl ⟨rfl,rfl,rfl,rfl,rfl⟩ rfl rfl rfl rfl rfl (by as_aux_lemma=>kernel_rfl) Tryz.func5 (by simp only[joinedFacts,Bool.and_eq_true];(repeat' refine And.intro ?_ ?_)<;>(as_aux_lemma=>kernel_rfl))
  (of_decide_eq_true (by as_aux_lemma=>kernel_rfl)) (by unfold Func.isWrapper;first | (rw[if_pos (by decide+kernel)];kernel_rfl)| (rw[if_neg (by decide+kernel)];exact⟨rfl,rfl⟩))
  (λos started H enc _ F=>by rw[OpenClaim.pre_eq_preRow];exact uc os started H enc F)
theorem viewNothing_card_holds:Rows.ViewNothingCardSaid:=
 Claim7.holds_tied_plain_at .later [] [.data,.data,.data,.data,.pinned] true (true, "dc282b4bcb442580b74d133591fb4f187d08e9304dc1e74d5d138f2201d2280e") false
  vJ (λ_ h=>by cases h) (by as_aux_lemma=>kernel_rfl) (λ_ h=>by cases h) viewNothing_row_tie rfl ⟨rfl,rfl⟩ (by as_aux_lemma=>kernel_rfl) rfl
  (λf fn hf gC=>by
   obtain rfl:f=5:=Option.some.inj ((show Tryz.prog.funcNamed "recension/recensionlaw16.ViewNothing" =some 5 by as_aux_lemma=>kernel_rfl).symm.trans hf)|>.symm
   obtain rfl:fn=Tryz.f5:=(Option.some.inj (Tryz.func5.symm.trans gC)).symm;exact⟨by as_aux_lemma=>kernel_rfl,λj t ht=>by
    rw[Tryz.params5] at ht;have hm:t∈[22]:=by simpa using Array.mem_of_getElem? ht
    have ix:([22].all λu=> !Tryz.prog.wantsStandIn u)=true:=by as_aux_lemma=>kernel_rfl
    have:=List.all_eq_true.1 ix t hm;exact(show Tryz.prog.wantsStandIn t=false by simpa using this)⟩)
  (by as_aux_lemma=>kernel_rfl)
#print axioms viewNothing_card_holds
end Go.Proofs.YtdgkdigdflkjhaaGreatDoor
