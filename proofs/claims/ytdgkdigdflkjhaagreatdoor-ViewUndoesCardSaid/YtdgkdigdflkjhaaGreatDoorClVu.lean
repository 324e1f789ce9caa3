/- For every input the law ViewUndoes returns true, and its arguments read as before: the row, and its tied card. There are no conditions. -/
import Derived.Test.YtdgkdigdflkjhaaGreatDoorEag
import Derived.Deep.DeepWitnessRowRef
import Derived.Test.YtdgkdigdflkjhaaGreatDoorTie
import Derived.Test.YtdgkdigdflkjhaaGreatDoorCards
namespace Go.Proofs.YtdgkdigdflkjhaaGreatDoor
open Go.ChangeShapes Go.WideShapes Go.ChangeAt Go.RowKit
theorem C5:ownKnob Tryz.prog.godebug=none:=by kernel_rfl
theorem uI:laidOutB Tryz.prog=true:=by kernel_rfl
set_option maxRecDepth 100000 in
theorem uJ(os:Os){H:Type}(enc:TypeId×Value->H):
  (OpenSpec.ofChange Rows.viewUndoesSpec).preRow enc Tryz.prog Tryz.f4 Rows.viewUndoesRow.domain false Rows.viewUndoesRow.laid ((Pi.wL os).forCall (λ_ _=>0) ⟨#[], #[.slice none 0 0,.int .u8 0],[]⟩).memory #[.slice none 0 0,.int .u8 0]:=by
 have hw:(DataW.whole enc Tryz.prog ((Pi.wL os).forCall (λ_ _=>0) ⟨#[], #[.slice none 0 0,.int .u8 0],[]⟩).memory Tryz.f4.params.toList (OpenSpec.ofChange Rows.viewUndoesSpec).vars false (#[.slice none 0 0,.int .u8 0]:Array Value).toList 8).isSome=true:=by kernel_rfl
 obtain⟨x,hx⟩:=Option.isSome_iff_exists.1 hw;exact OpenSpec.preRow_of_cond 8 hx (by kernel_rfl) (λk hk=>by cases hk) (by kernel_rfl) (Pi.qfR _ (Pi.qk2 os _))
set_option maxRecDepth 100000 in
theorem wM(os:Os)(started:os.Started)(H:Type)(enc:TypeId×Value->H)(F:Stop.Interp):
  ReturnsInHanded {} Tryz.checked os 4 .any ((OpenSpec.ofChange Rows.viewUndoesSpec).preRow enc Tryz.prog Tryz.f4 Rows.viewUndoesRow.domain false Rows.viewUndoesRow.laid) (((OpenSpec.ofChange Rows.viewUndoesSpec).at F).post enc Tryz.prog Tryz.f4 false true false false):=by
 refine returnsInHanded_of_row (C:=Tryz.checked) (s:=OpenSpec.ofChange Rows.viewUndoesSpec) C5 started (by kernel_rfl) Tryz.func4
  (witness_row_atRef (enc:=enc) (C:=Tryz.checked) false (Pi.wL os) _ (World.laidAll_os _ _ _) (by kernel_rfl) (by kernel_rfl) (by kernel_rfl) (uJ os enc)) ?_
 intro W base args ds gs before qqY hW _ _ _ hL hS _;have hval: ∀(j:Nat) t v,Tryz.f4.params[j]?=some t->args[j]?=some v->Value.okWide Tryz.prog W .any base t v:=qqY;refine Pi.Hm (Q:=Tryz.prog) (kp:=Pi.yP Pi.xV6) (s:=Rows.viewUndoesSpec) (m:=8) (tb:=4) (by kernel_rfl) Tryz.func4 (by kernel_rfl) (by kernel_rfl) uI ?_ ?_ rfl (by kernel_rfl) Tryz.underlying4 (Pi.qlb (Pi.qk1 hL hS)) hval hW ?_ Pi.qcb
 ·rw[Tryz.params4];exact Pi.qhZ [22,5] _ (by kernel_rfl)
 ·rw[Tryz.params4];exact Pi.qcH [22,5] _ (by kernel_rfl)
 rw[Tryz.params4];intro ds h;match ds,h with | [d0,d1],_=>rfl
set_option maxHeartbeats 0 in
theorem yb:Rows.ViewUndoesSaid:=
 OpenClaim.holds_of_cond 4 Tryz.f4 rfl rfl rfl rfl rfl rfl rfl ⟨rfl,rfl,rfl,rfl,rfl⟩ rfl rfl rfl rfl rfl (by as_aux_lemma=>kernel_rfl) Tryz.func4 (by simp only[joinedFacts,Bool.and_eq_true];(repeat' refine And.intro ?_ ?_)<;>(as_aux_lemma=>kernel_rfl))
  (of_decide_eq_true (by as_aux_lemma=>kernel_rfl)) (by unfold Func.isWrapper;first | (rw[if_pos (by decide+kernel)];kernel_rfl)| (rw[if_neg (by decide+kernel)];exact⟨rfl,rfl⟩))
  (λos started H enc _ F=>by rw[OpenClaim.pre_eq_preRow];exact wM os started H enc F)
theorem viewUndoes_card_holds:Rows.ViewUndoesCardSaid:=
 Claim7.holds_tied_plain_at .later [] [.data,.data,.data,.data,.pinned] true (true, "dc282b4bcb442580b74d133591fb4f187d08e9304dc1e74d5d138f2201d2280e") false
  yb (λ_ h=>by cases h) (by as_aux_lemma=>kernel_rfl) (λ_ h=>by cases h) viewUndoes_row_tie rfl ⟨rfl,rfl⟩ (by as_aux_lemma=>kernel_rfl) rfl
  (λf fn hf fj=>by
   obtain rfl:f=4:=Option.some.inj ((show Tryz.prog.funcNamed "recension/recensionlaw16.ViewUndoes" =some 4 by as_aux_lemma=>kernel_rfl).symm.trans hf)|>.symm
   obtain rfl:fn=Tryz.f4:=(Option.some.inj (Tryz.func4.symm.trans fj)).symm;exact⟨by as_aux_lemma=>kernel_rfl,λj t ht=>by
    rw[Tryz.params4] at ht;have hm:t∈[22,5]:=by simpa using Array.mem_of_getElem? ht
    have jE:([22,5].all λu=> !Tryz.prog.wantsStandIn u)=true:=by as_aux_lemma=>kernel_rfl
    have:=List.all_eq_true.1 jE t hm;exact(show Tryz.prog.wantsStandIn t=false by simpa using this)⟩)
  (by as_aux_lemma=>kernel_rfl)
#print axioms viewUndoes_card_holds
end Go.Proofs.YtdgkdigdflkjhaaGreatDoor
