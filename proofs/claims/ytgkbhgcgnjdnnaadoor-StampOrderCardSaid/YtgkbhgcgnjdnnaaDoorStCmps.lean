/- StampCmps: the law. -/
import Derived.Test.YtgkbhgcgnjdnnaaDoorStCmpsV
namespace Pi
open Go Go.Proofs
set_option maxRecDepth 100000

theorem fitE_id {m : Nat} {x : D} (h : FitE PR (m + 3) 25 x) : ∃ t r i, x = .agg [.int .i64 t, .int .i64 r, .int .i64 i] ∧ (Lit.int .i64 t).wf = true ∧ (Lit.int .i64 r).wf = true ∧ (Lit.int .i64 i).wf = true := by
  obtain ⟨cs, rfl, hl, hf⟩ := fitE_struct (k := 3) Tryd.underlying25 (by kernel_rfl) h
  obtain ⟨a, b, c, rfl⟩ : ∃ a b c, cs = [a, b, c] := by
    match cs, hl with
    | [a, b, c], _ => exact ⟨a, b, c, rfl⟩
  have c23 : PR.cellsOf 23 = 2 := by kernel_rfl
  have c3 : PR.cellsOf 3 = 1 := by kernel_rfl
  have h1 := hf _ (List.mem_cons_self ..)
  have h2 := hf _ (List.mem_cons_of_mem _ (List.mem_cons_self ..))
  simp only [c23, List.drop_zero, List.take_succ_cons, List.take_zero] at h1
  simp only [c3, List.drop_succ_cons, List.drop_zero, List.take_succ_cons, List.take_zero] at h2
  unfold Fit at h1
  rw [Tryd.underlying23] at h1
  obtain ⟨_, hf1⟩ := h1
  have h3 := hf1 _ (List.mem_cons_self ..)
  have h4 := hf1 _ (List.mem_cons_of_mem _ (List.mem_cons_self ..))
  simp only [c3, List.drop_zero, List.take_succ_cons, List.take_zero] at h3
  simp only [c3, List.drop_succ_cons, List.drop_zero, List.take_succ_cons, List.take_zero] at h4
  obtain ⟨t, rfl, wt⟩ := fit_int Tryd.underlying3 h3
  obtain ⟨r, rfl, wr⟩ := fit_int Tryd.underlying3 h4
  obtain ⟨i, rfl, wi⟩ := fit_int Tryd.underlying3 h2
  exact ⟨t, r, i, rfl, wt, wr, wi⟩

def hCmpsLaw : KF1 := fun ps R post => ∃ t r i t' r' i', ps = [.d (idD t r i), .d (idD t' r' i')] ∧ R = [] ∧ post (.d (.bool true), [])
theorem okCmps : FD 8 hCmpsLaw := FD.mk (H := [(12, hAwake), (31, hCmp), (32, hCmp), (33, hCmpId), (34, hCmpId), (35, hRight), (36, hRight), (15, hRightId), (37, hRightId)]) (by kernel_rfl)
  (.cons okAwake (.cons okCmp (.cons okCmpR (.cons okCmpId (.cons okCmpIdR (.cons okRight (.cons okRightR (.cons okRightId (.cons okRightIdR .nil))))))))) .nil (by
  intro ps R post hh
  obtain ⟨t, r, i, t', r', i', rfl, rfl, hp⟩ := hh
  rw [← vcCmps]
  refine ⟨rfl, rfl, _, _, _, _, rfl, rfl, _, _, _, _, rfl, rfl, condT (by simp) ⟨_, _, _, _, _, _, rfl, rfl, _, _, _, _, _, _, rfl, rfl, condT (by simp) ⟨_, _, rfl, rfl, _, _, rfl, rfl, condT (by simp) ⟨_, _, _, rfl, rfl, _, _, _, rfl, rfl, ?_⟩⟩⟩⟩
  exact leafB hp (by simp))
theorem okCmpsLaw (xs : List D) (h : FitAll PR 8 [25, 25] xs) : ∃ lf k R, runF PR kpT lf k 8 (xs.map P.d) [] = some (.d (.bool true), R) := by
  obtain ⟨x, r, rfl, hx, h⟩ := fitAll_cons h
  obtain ⟨y, r, rfl, hy, h⟩ := fitAll_cons h
  have e := fitAll_nil h
  subst e
  obtain ⟨t, r, i, rfl, _⟩ := fitE_id hx
  obtain ⟨t', r', i', rfl, _⟩ := fitE_id hy
  obtain ⟨lf, k, hr⟩ := okCmps.run (y := (.d (.bool true), [])) ⟨t, r, i, t', r', i', rfl, rfl, rfl⟩
  exact ⟨lf, k, [], hr⟩
end Pi
