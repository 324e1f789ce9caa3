/- DiskKeeps: its loop, its run, its statement. -/
import Derived.Test.YtidkdllppldopaaKeeps
import Derived.ProofKit
import Derived.Test.YtidkdllppldopaaRows
namespace Pi
open Go Go.Proofs
set_option maxRecDepth 100000

theorem loopKeeps : LD 3 9 (loopHook (kpT 3 9) gKeeps) := LD.mk (H := HDisk) (hk := []) (by kernel_rfl) (by kernel_rfl) okDisk .nil
  (fun _ n s => ∃ es safe i c k sf, s = kHead es safe i c k (Int.ofNat sf) ∧ (KInv i safe c k sf ∧ ∀ x ∈ es, El x) ∧ n = (200 - i).toNat)
  (fun _ x => ∃ i safe c n sf, KInv i safe c n sf ∧ (x = (.ret, kRet safe c n (Int.ofNat sf)) ∨ x = (.exit 0, kOut safe c n (Int.ofNat sf))))
  (by
    rintro _ n s ⟨es, safe, i, c, k, sf, rfl, ⟨h1, h2⟩, rfl⟩
    exact roundKeeps es h2 h1 (fun safe' c' n' sf' hi hk => ⟨_, by omega, es, safe', i + 1, c', n', sf', rfl, ⟨hk, h2⟩, rfl⟩) ⟨i, safe, c, k, sf, h1, .inl rfl⟩ ⟨i, safe, c, k, sf, h1, .inr rfl⟩)
  (by
    rintro s post ⟨es, safe, i, c, n, sf, rfl, h, hp⟩
    refine ⟨_, ⟨es, safe, i, c, n, sf, rfl, h, rfl⟩, ?_⟩
    rintro x ⟨i, safe, c, n, sf, h1, rfl | rfl⟩
    · exact (hp i safe c n sf h1).1
    · exact (hp i safe c n sf h1).2)

def hKeeps : KF1 := fun ps R post => ∃ es, ps = [.d (.sl 3 es)] ∧ R = [] ∧ (∀ x ∈ es, El x) ∧ post (.d (.bool true), [])
theorem okKeeps : FD 3 hKeeps := FD.mk (H := HDisk) (hk := [(9, loopHook (kpT 3 9) gKeeps)]) (by kernel_rfl) okDisk (.cons loopKeeps .nil) (by
  intro ps R post hh
  obtain ⟨es, rfl, rfl, he, hp⟩ := hh
  rw [← vcKeeps]
  refine ⟨rfl, rfl, es, [], 0, [], 0, 0, rfl, ⟨⟨by omega, by omega, by simp, by simp, by simp, by simp⟩, he⟩, ?_⟩
  rintro i safe c n sf ⟨i0, i1, n1, n2, s1, hsf⟩
  refine ⟨hp, ?_⟩
  refine ⟨_, _, _, _, _, rfl, rfl, s1, by omega, ?_⟩
  refine ⟨_, _, _, _, rfl, rfl, ?_⟩
  have e : left n sf 0 = sf := by simp only [left]; omega
  rw [e, ← hsf]
  simpa using hp)

theorem el_of {m : Nat} {x : D} (h : FitE PR (m + 2) 29 x) : El x := by
  obtain ⟨cs, rfl, hl, hf⟩ := fitE_struct (k := 3) Try.underlying29 (by kernel_rfl) h
  match cs, hl with
  | [a, b, c], _ =>
    obtain ⟨n1, rfl, _⟩ := fit_int Try.underlying3 (hf _ (.head _))
    obtain ⟨n2, rfl, _⟩ := fit_int Try.underlying3 (hf _ (.tail _ (.head _)))
    obtain ⟨s, rfl, _⟩ := fit_str Try.underlying9 (hf _ (.tail _ (.tail _ (.head _))))
    exact ⟨n1, n2, s, rfl⟩

theorem okLaw (xs : List D) (h : FitAll PR 8 [22] xs) : ∃ lf k R, runF PR kpT lf k 3 (xs.map P.d) [] = some (.d (.bool true), R) := by
  match xs, h with
  | [x], h =>
    obtain ⟨es, rfl, _, hy⟩ := fitE_slice (k := 3) Try.underlying22 (by kernel_rfl) h.1
    obtain ⟨lf, k, hr⟩ := okKeeps.run (y := (.d (.bool true), [])) ⟨es, rfl, rfl, fun x hx => el_of (hy x hx), rfl⟩
    exact ⟨lf, k, [], hr⟩
end Pi
