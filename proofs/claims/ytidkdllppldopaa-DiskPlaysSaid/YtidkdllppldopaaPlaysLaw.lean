/- DiskPlays: its loop, its run. -/
import Derived.Test.YtidkdllppldopaaPlaysVc2
import Derived.ProofKit
import Derived.Test.YtidkdllppldopaaRows
namespace Pi
open Go Go.Proofs
set_option maxRecDepth 100000

def pIs (a : S) (room : Int) : Prop := ∃ es i c n sf sa lo, a = pHead es i c n (Int.ofNat sf) room sa lo
theorem loopPlays : LD 4 9 (loopHook (kpT 4 9) gPlays) := LD.mk (H := HDisk) (hk := []) (by kernel_rfl) (by kernel_rfl) okDisk .nil
  (fun a n s => (∃ es i, s = pNil es i ∧ (∃ es i, a = pNil es i) ∧ n = 0) ∨ ∃ es i c k sf room sa lo, s = pHead es i c k (Int.ofNat sf) room sa lo ∧ pIs a room ∧ ((0 ≤ i ∧ PInv c k sf room sa lo) ∧ ∀ x ∈ es, El x) ∧ n = (200 - i).toNat)
  (fun a x => ((∃ es i, a = pNil es i) ∧ x = (.exit 0, ⟨129, [(5, .d (.bool true)), (6, .d .nilp), (8, .d .nilp)], []⟩)) ∨
    ∃ c n sf room sa lo, pIs a room ∧ PInv c n sf room sa lo ∧ (x = (.ret, pOut (some true) c n (Int.ofNat sf) room sa lo) ∨ x = (.exit 0, pOut none c n (Int.ofNat sf) room sa lo)))
  (by
    rintro a n s (⟨es, i, rfl, ha, rfl⟩ | ⟨es, i, c, k, sf, room, sa, lo, rfl, ha, ⟨⟨i0, h1⟩, h2⟩, rfl⟩)
    · rw [← vcPlaysN]
      exact .inl ⟨ha, rfl⟩
    · exact roundPlays es h2 i0 h1 (fun {c' n' sf' sa' lo'} hi hk => ⟨_, by omega, .inr ⟨es, i + 1, c', n', sf', room, sa', lo', rfl, ha, ⟨⟨by omega, hk⟩, h2⟩, rfl⟩⟩)
        (.inr ⟨c, k, sf, room, sa, lo, ha, h1, .inl rfl⟩) (.inr ⟨c, k, sf, room, sa, lo, ha, h1, .inr rfl⟩))
  (by
    intro s post hp
    rcases hp with ⟨es, i, rfl, hp⟩ | ⟨es, i, c, n, sf, room, sa, lo, rfl, h, hp⟩
    · refine ⟨0, .inl ⟨es, i, rfl, ⟨es, i, rfl⟩, rfl⟩, ?_⟩
      rintro x (⟨_, rfl⟩ | ⟨c, n, sf, room, sa, lo, ⟨es', i', c', n', sf', sa', lo', ha⟩, _⟩)
      · exact hp
      · simp at ha
    · refine ⟨_, .inr ⟨es, i, c, n, sf, room, sa, lo, rfl, ⟨es, i, c, n, sf, sa, lo, rfl⟩, h, rfl⟩, ?_⟩
      rintro x (⟨⟨es', i', ha⟩, _⟩ | ⟨c2, n2, sf2, room2, sa2, lo2, ⟨es', i', c', n', sf', sa', lo', ha⟩, h1, h2⟩)
      · simp at ha
      · have e : room2 = room := by simp at ha; omega
        subst e
        rcases h2 with rfl | rfl
        · exact (hp c2 n2 sf2 sa2 lo2 h1).1
        · exact (hp c2 n2 sf2 sa2 lo2 h1).2)

def hPlays : KF1 := fun ps R post => ∃ room es, ps = [.d (.int .i64 room), .d (.sl 3 es)] ∧ R = [] ∧ (∀ x ∈ es, El x) ∧ post (.d (.bool true), [])
theorem okPlays : FD 4 hPlays := FD.mk (H := HDisk) (hk := [(9, loopHook (kpT 4 9) gPlays)]) (by kernel_rfl) okDisk (.cons loopPlays .nil) (by
  intro ps R post hh
  obtain ⟨room, es, rfl, rfl, he, hp⟩ := hh
  rw [← vcPlays]
  refine ⟨rfl, rfl, ?_⟩
  by_cases h0 : room < 0
  · refine condT (by simpa using h0) (condT (by simpa using h0) (.inl ⟨_, _, rfl, hp⟩))
  · refine condF (by simpa using h0) ?_
    by_cases h1 : room > 16777216
    · refine condT (by simpa using h1) (condF (by simpa using h0) (condT (by simpa using h1) (.inl ⟨_, _, rfl, hp⟩)))
    · refine condF (by simpa using h1) (condF (by simpa using h0) (condF (by simpa using h1) (.inr ?_)))
      refine ⟨es, 0, [], 0, 0, room, [], [], rfl, ⟨⟨by omega, ⟨by simp, by simp, by simp, by omega, by omega⟩⟩, he⟩, ?_⟩
      intro c n sf sa lo h
      refine ⟨hp, _, _, _, _, rfl, rfl, oblI (by have := h.len; have := h.r0; have := h.r1; simp; omega) ?_⟩
      rw [h.eq]
      simpa using hp)

theorem okPlaysLaw (xs : List D) (h : FitAll PR 8 [3, 22] xs) : ∃ lf k R, runF PR kpT lf k 4 (xs.map P.d) [] = some (.d (.bool true), R) := by
  obtain ⟨x, r, rfl, hx, h⟩ := fitAll_cons h
  obtain ⟨y, r, rfl, hy, h⟩ := fitAll_cons h
  have e := fitAll_nil h
  subst e
  obtain ⟨room, rfl, _⟩ := fitE_int Try.underlying3 hx
  obtain ⟨es, rfl, _, hy⟩ := fitE_slice (k := 3) Try.underlying22 (by kernel_rfl) hy
  obtain ⟨lf, k, hr⟩ := okPlays.run (y := (.d (.bool true), [])) ⟨room, es, rfl, rfl, fun x hx => el_of (hy x hx), rfl⟩
  exact ⟨lf, k, [], hr⟩
end Pi
