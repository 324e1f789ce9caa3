/- The texts T7H T8 T8H T9 T9H T10 TrE TrF W15 T10H T11 T11H T12. -/
import Derived.Test.YtccffeofkhkbcaaGreatDoorEbx
import Derived.Lib.IndexAny
import Derived.Lib.LaidTab
import Derived.Lib.LaidU8T
import Derived.Stop.LaidErr
import Derived.Shelf.Vars
import Derived.Lay
import Derived.Deep.DeepHandedRow
import Derived.SevenTiedAt
import Derived.ProofKit
import Derived.Test.YtccffeofkhkbcaaGreatDoorRows
/- Tree: finding. -/
namespace Pi
open Go Go.Proofs
set_option maxRecDepth 100000
theorem idxI_yes {α : Type} {f : α → Bool} {l : List α} {i : Nat} {x : α} (h : l[i]? = some x) (hf : f x = true) (hb : ∀ y ∈ l.take i, f y = false) : idxI f l = (i : Int) := by
  have hi : i < l.length := (List.getElem?_eq_some_iff.1 h).1
  have : l.findIdx? f = some i := by
    rw [List.findIdx?_eq_some_iff_getElem]
    refine ⟨hi, by rw [(List.getElem?_eq_some_iff.1 h).2]; exact hf, fun j hj => ?_⟩
    rw [hb _ (List.mem_take_iff_getElem.2 ⟨j, by omega, rfl⟩)]
    simp
  unfold idxI
  rw [this]
theorem idxI_no {α : Type} {f : α → Bool} {l : List α} (h : ∀ x ∈ l, f x = false) : idxI f l = -1 := by
  have : l.findIdx? f = none := by
    rw [List.findIdx?_eq_none_iff]
    exact h
  unfold idxI
  rw [this]
theorem idxI_cases {α : Type} (f : α → Bool) (l : List α) : (∃ (i : Nat) (x : α), l[i]? = some x ∧ f x = true ∧ idxI f l = (i : Int)) ∨ (idxI f l = -1 ∧ ∀ x ∈ l, f x = false) := by
  cases h : l.findIdx? f with
  | some i =>
    obtain ⟨hi, hf, _⟩ := List.findIdx?_eq_some_iff_getElem.1 h
    exact .inl ⟨i, l[i], List.getElem?_eq_getElem hi, hf, by unfold idxI; rw [h]⟩
  | none => exact .inr ⟨by unfold idxI; rw [h], List.findIdx?_eq_none_iff.1 h⟩
theorem getD_some {α : Type} {l : List α} {k : Nat} (h : k < l.length) (d : α) : l[k]? = some (l.getD k d) := by
  rw [List.getD_eq_getElem?_getD, List.getElem?_eq_getElem h]
  rfl
section
variable {X : XF}
/-- A loop that looks for the first one of which something is so. -/
theorem LD.scan {H : List (FuncId × KF1)} {hk : List (Nat × (S → K (PX × S)))} {f id : Nat} {g : S → K (PX × S)} (hu : uniq PR f = true) (hc : clsOK (dcT f) (loopOf PR f id) = true) (hH : HD X H) (hl : LDs X f hk)
    {A α : Type} (hd : A → Int → S) (lst : A → List α) (d : α) (t : A → α → Bool) (C : A → Prop) (rt : A → Int → S) (ex : A → S)
    (hr : ∀ a (k : Int) post, C a → (lst a).length ≤ 1000000 → 0 ≤ k → (k < (lst a).length → k.toNat < (lst a).length → (t a ((lst a).getD k.toNat d) = true → post (.ret, rt a k)) → (t a ((lst a).getD k.toNat d) = false → post (.normal, hd a (k + 1))) → roundL H hk f id (hd a k) post))
    (hx : ∀ a (k : Int) post, C a → ¬ k < (lst a).length → post (.exit 0, ex a) → roundL H hk f id (hd a k) post)
    (hg : ∀ s post, g s post → ∃ a, s = hd a 0 ∧ C a ∧ (lst a).length ≤ 1000000 ∧ (∀ i : Int, i = idxI (t a) (lst a) → 0 ≤ i → post (.ret, rt a i)) ∧ (idxI (t a) (lst a) = -1 → post (.exit 0, ex a))) : LD X f id (loopHook (kpF f id) g) :=
  LD.par hu hc hH hl (A := A) (B := Int) hd (fun a k => C a ∧ (lst a).length ≤ 1000000 ∧ 0 ≤ k ∧ k.toNat ≤ (lst a).length ∧ ∀ y ∈ (lst a).take k.toNat, t a y = false) (fun a k => ((lst a).length - k).toNat)
    (fun a x => (∃ i : Int, i = idxI (t a) (lst a) ∧ 0 ≤ i ∧ x = (.ret, rt a i)) ∨ (idxI (t a) (lst a) = -1 ∧ x = (.exit 0, ex a)))
    (by
      rintro a k ⟨h1, h2, h3, h4, h5⟩
      by_cases hk : k < (lst a).length
      · have hkn : k.toNat < (lst a).length := by omega
        refine hr a k _ h1 h2 h3 hk hkn (fun ht => .inl ⟨k, ?_, h3, rfl⟩) fun ht => ⟨((lst a).length - (k + 1)).toNat, by omega, k + 1, rfl, ⟨h1, h2, by omega, by omega, fun y hy => ?_⟩, rfl⟩
        · rw [idxI_yes (getD_some hkn d) ht h5]
          omega
        · rw [show (k + 1).toNat = k.toNat + 1 by omega, List.take_add_one, getD_some hkn d] at hy
          rcases List.mem_append.1 hy with hy | hy
          · exact h5 y hy
          · simp at hy
            rw [hy]
            simpa using ht
      · refine hx a k _ h1 hk (.inr ⟨idxI_no fun y hy => h5 y ?_, rfl⟩)
        rw [List.take_of_length_le (by omega)]
        exact hy)
    (by
      intro s post h
      obtain ⟨a, rfl, h1, h2, h3, h4⟩ := hg s post h
      refine ⟨a, 0, rfl, ⟨h1, h2, by simp, by simp, by simp⟩, ?_⟩
      rintro x (⟨i, h5, h6, rfl⟩ | ⟨h5, rfl⟩)
      · exact h3 i h5 h6
      · exact h4 h5)
theorem it_nth {l : List It} {i : Nat} (h : i < l.length) (d : It) : D.nth (l.map itmD) i = itmD (l.getD i d) := by
  rw [nth_map itmD l i h]
  simp [List.getD_eq_getElem?_getD, h]
def it0 : It := ((0, 0, 0), [], false, false)
theorem okFind1 : FD X 36 hFind1 := FD.mk (H := []) (hk := []) (by kernel_rfl) .nil .nil (by
  intro ps R post hh
  obtain ⟨x, p, rfl, rfl, hp⟩ := hh
  rw [← vcFind1]
  exact hp)
theorem loopIxF : LD X 35 2 (loopHook (kpF 35 2) gIxF) :=
  LD.scan (H := [(36, hFind1)]) (hk := []) (by kernel_rfl) (by kernel_rfl) (.cons okFind1 .nil) .nil
    (A := List It × List UInt8) (fun a k => ixH a.1 (.fn 36 [.ref 0 0 0]) (a.1.length : Int) k (bxS a.2)) (·.1) it0 (fun a x => x.2.1 == a.2) (fun _ => True)
    (fun a i => ⟨19, [(1, .fn 36 [.ref 0 0 0]), (4, iD i)], bxS a.2⟩) (fun a => ⟨19, [(1, .fn 36 [.ref 0 0 0])], bxS a.2⟩)
    (by
      rintro ⟨l, p⟩ k post _ hm h0 hk hkn ht hf
      dsimp only at *
      rw [← vcIxF]
      simp only [List.length_map]
      rw [it_nth hkn it0]
      exact condT (decT hk) (oblP ⟨h0, hk⟩ (oblI (isIt _) ⟨_, p, rfl, rfl, condI (fun h => ht h) fun h => oblI (incI (by omega) (by omega)) (hf h)⟩)))
    (by
      rintro ⟨l, p⟩ k post _ hk hp
      dsimp only at *
      rw [← vcIxF]
      exact condF (decF hk) hp)
    (by
      rintro s post ⟨l, p, rfl, hm, h1, h2⟩
      exact ⟨(l, p), rfl, trivial, hm, h1, h2⟩)
theorem okIxF : FD X 35 hIxF := FD.mk (H := []) (hk := [(2, loopHook (kpF 35 2) gIxF)]) (by kernel_rfl) .nil (.cons loopIxF .nil) (by
  intro ps R post hh
  obtain ⟨l, p, rfl, rfl, hm, hp⟩ := hh
  rw [← vcIxFB]
  refine ⟨l, p, by rw [List.length_map], hm, fun i hi h0 => ?_, fun h => ?_⟩
  · rw [hi]; exact hp
  · rw [h] at hp; exact hp)
theorem okFindT : FD X 14 hFindT := FD.mk (H := [(35, hIxF)]) (hk := []) (by kernel_rfl) (.cons okIxF .nil) .nil (by
  intro ps R post hh
  obtain ⟨l, p, rfl, rfl, hm, hp⟩ := hh
  rw [← vcFind]
  exact ⟨l, p, rfl, rfl, hm, hp⟩)
theorem okCont : FD X 39 hCont := FD.ofX Tryz.func39 (by kernel_rfl) (by kernel_rfl) (by
  intro ps R post hh
  obtain ⟨s, c, rfl, rfl, hp⟩ := hh
  refine ⟨_, rfl, ?_⟩
  have e : decide (0 ≤ Lib.indexByte s c) = s.contains c := by
    exact (Go.Lib.contains_iff_indexByte s c).symm
  rw [← e] at hp
  exact hp)
theorem okSet1 : FD X 38 hSet1 := FD.mk (H := [(39, hCont)]) (hk := []) (by kernel_rfl) (.cons okCont .nil) .nil (by
  intro ps R post hh
  obtain ⟨x, rfl, rfl, hp⟩ := hh
  rw [← vcSet1]
  refine condI (fun h => leafBc hp ?_) fun h => ⟨_, _, rfl, rfl, leafBc hp ?_⟩
  · unfold unset; rw [h]; rfl
  · unfold unset; rw [h]; rfl)
theorem loopIxS : LD X 35 2 (loopHook (kpF 35 2) gIxS) :=
  LD.scan (H := [(38, hSet1)]) (hk := []) (by kernel_rfl) (by kernel_rfl) (.cons okSet1 .nil) .nil
    (A := List It) (fun a k => ixH a (.fn 38 []) (a.length : Int) k []) id it0 (fun _ x => unset x) (fun _ => True)
    (fun _ i => ⟨19, [(1, .fn 38 []), (4, iD i)], []⟩) (fun _ => ⟨19, [(1, .fn 38 [])], []⟩)
    (by
      rintro l k post _ hm h0 hk hkn ht hf
      simp only [id] at *
      rw [← vcIxS]
      simp only [List.length_map]
      rw [it_nth hkn it0]
      exact condT (decT hk) (oblP ⟨h0, hk⟩ (oblI (isIt _) ⟨_, rfl, rfl, condI (fun h => ht h) fun h => oblI (incI (by omega) (by omega)) (hf h)⟩)))
    (by
      rintro l k post _ hk hp
      simp only [id] at *
      rw [← vcIxS]
      exact condF (decF hk) hp)
    (by
      rintro s post ⟨l, rfl, hm, h1, h2⟩
      exact ⟨l, rfl, trivial, hm, h1, h2⟩)
theorem okIxS : FD X 35 hIxS := FD.mk (H := []) (hk := [(2, loopHook (kpF 35 2) gIxS)]) (by kernel_rfl) .nil (.cons loopIxS .nil) (by
  intro ps R post hh
  obtain ⟨l, rfl, rfl, hm, hp⟩ := hh
  rw [← vcIxSB]
  refine ⟨l, by rw [List.length_map], hm, fun i hi h0 => ?_, fun h => ?_⟩
  · rw [hi]; exact hp
  · rw [h] at hp; exact hp)
theorem idx_any {α : Type} (f : α → Bool) (l : List α) : decide (idxI f l ≥ 0) = l.any f := by
  rcases idxI_cases f l with ⟨i, x, h1, h2, h3⟩ | ⟨h1, h2⟩
  · rw [h3, List.any_eq_true.2 ⟨x, List.mem_of_getElem? h1, h2⟩]
    simp
  · rw [h1]
    cases h : l.any f with
    | false => rfl
    | true =>
      obtain ⟨x, hx, hf⟩ := List.any_eq_true.1 h
      rw [h2 x hx] at hf
      cases hf
theorem okCnS : FD X 37 hCnS := FD.mk (H := [(35, hIxS)]) (hk := []) (by kernel_rfl) (.cons okIxS .nil) .nil (by
  intro ps R post hh
  obtain ⟨l, rfl, rfl, hm, hp⟩ := hh
  rw [← vcCnS]
  exact ⟨l, rfl, rfl, hm, leafBc hp (idx_any unset l).symm⟩)
theorem okSettled : FD X 16 hSettled := FD.mk (H := [(37, hCnS)]) (hk := []) (by kernel_rfl) (.cons okCnS .nil) .nil (by
  intro ps R post hh
  obtain ⟨l, rfl, rfl, hm, hp⟩ := hh
  rw [← vcSet]
  exact ⟨l, rfl, rfl, hm, hp⟩)
theorem loopFdR : LD X 15 2 (loopHook (kpF 15 2) gFdR) :=
  LD.scan (H := []) (hk := []) (by kernel_rfl) (by kernel_rfl) .nil .nil
    (A := List It × List UInt8) (fun a k => fdH a.1 a.2 k) (·.1) it0 (fun a x => x.2.1 == a.2) (fun _ => True)
    (fun a i => ⟨20, [(4, iD i)], []⟩) (fun a => ⟨20, [], []⟩)
    (by
      rintro ⟨l, p⟩ k post _ hm h0 hk hkn ht hf
      dsimp only at *
      rw [← vcFdR]
      simp only [List.length_map]
      rw [it_nth hkn it0]
      exact condT (decT hk) (oblP ⟨h0, hk⟩ (oblI (isIt _) (condI (fun h => ht h) fun h => oblI (incI (by omega) (by omega)) (hf h)))))
    (by
      rintro ⟨l, p⟩ k post _ hk hp
      dsimp only at *
      rw [← vcFdR]
      simp only [List.length_map]
      exact condF (decF hk) hp)
    (by
      rintro s post ⟨l, p, rfl, hm, h1, h2⟩
      exact ⟨(l, p), rfl, trivial, hm, h1, h2⟩)
theorem okFindR : FD X 15 hFindT := FD.mk (H := []) (hk := [(2, loopHook (kpF 15 2) gFdR)]) (by kernel_rfl) .nil (.cons loopFdR .nil) (by
  intro ps R post hh
  obtain ⟨l, p, rfl, rfl, hm, hp⟩ := hh
  rw [← vcFdRB]
  refine ⟨l, p, rfl, hm, fun i hi h0 => ?_, fun h => ?_⟩
  · rw [hi]; exact hp
  · rw [h] at hp; exact hp)
theorem eqIx (x y : Id3) : (x.1 == y.1 && (x.2.1 == y.2.1 && true) && (x.2.2 == y.2.2 && true)) = (x == y) := by
  rw [Bool.eq_iff_iff]
  obtain ⟨a, b, c⟩ := x
  obtain ⟨d, e, f⟩ := y
  simp [and_assoc]
theorem loopF13 : LD X 22 2 (loopHook (kpF 22 2) gF13) :=
  LD.scan (H := []) (hk := []) (by kernel_rfl) (by kernel_rfl) .nil .nil
    (A := List Pl × Id3) (fun a k => f13H a.1 a.2 k) (·.1) pl0 (fun a p => p.1 == a.2) (fun _ => True)
    (fun a i => ⟨20, [(0, plsP a.1), (4, iD i)], []⟩) (fun a => ⟨20, [(0, plsP a.1)], []⟩)
    (by
      rintro ⟨l, x⟩ k post _ hm h0 hk hkn ht hf
      dsimp only at *
      rw [← vcF13]
      simp only [List.length_map]
      rw [pl_nth hkn]
      refine condT (decT hk) (oblP ⟨h0, hk⟩ (oblI (isPl _) (condI (fun h => ht ?_) fun h => oblI (incI (by omega) (by omega)) (hf ?_))))
      · rw [← eqIx]; exact h
      · rw [← eqIx]; exact h)
    (by
      rintro ⟨l, p⟩ k post _ hk hp
      dsimp only at *
      rw [← vcF13]
      simp only [List.length_map]
      exact condF (decF hk) hp)
    (by
      rintro s post ⟨l, p, rfl, hm, h1, h2⟩
      exact ⟨(l, p), rfl, trivial, hm, h1, h2⟩)
theorem okF13 : FD X 22 hF13 := FD.mk (H := []) (hk := [(2, loopHook (kpF 22 2) gF13)]) (by kernel_rfl) .nil (.cons loopF13 .nil) (by
  intro ps R post hh
  obtain ⟨l, x, rfl, rfl, hm, hp⟩ := hh
  rw [← vcF13B]
  refine ⟨l, x, rfl, hm, fun i hi h0 => ?_, fun h => ?_⟩
  · rw [hi]; exact hp
  · rw [h] at hp; exact hp)
theorem loopF13L : LD X 22 2 (loopHook (kpF 22 2) gF13L) :=
  LD.scan (H := []) (hk := []) (by kernel_rfl) (by kernel_rfl) .nil .nil
    (A := List Pl × Id3 × Bool) (fun a k => f13L a.2.2 a.1 a.1.length a.2.1 k) (·.1) pl0 (fun a p => p.1 == a.2.1) (fun _ => True)
    (fun a i => ⟨20, [(0, .sl 0 0 a.1.length), (4, iD i)], arL a.2.2 a.1⟩) (fun a => ⟨20, [(0, .sl 0 0 a.1.length)], arL a.2.2 a.1⟩)
    (by
      rintro ⟨l, x, z⟩ k post _ hm h0 hk hkn ht hf
      dsimp only at *
      rw [← vcF13L]
      rw [pl_nth hkn]
      refine condT (decT hk) (oblP ⟨h0, hk⟩ (oblI (decT (by rw [List.length_map]; exact hkn)) (oblI (isPl _) (condI (fun h => ht ?_) fun h => oblI (incI (by omega) (by omega)) (hf ?_)))))
      · rw [← eqIx]; exact h
      · rw [← eqIx]; exact h)
    (by
      rintro ⟨l, p, z⟩ k post _ hk hp
      dsimp only at *
      rw [← vcF13L]
      exact condF (decF hk) hp)
    (by
      rintro s post ⟨z, l, p, rfl, hm, h1, h2⟩
      exact ⟨(l, p, z), rfl, trivial, hm, h1, h2⟩)
theorem okF13L : FD X 22 hF13L := FD.mk (H := []) (hk := [(2, loopHook (kpF 22 2) gF13L)]) (by kernel_rfl) .nil (.cons loopF13L .nil) (by
  intro ps R post hh
  obtain ⟨z, l, x, rfl, rfl, hm, hp⟩ := hh
  rw [← vcF13LB]
  refine ⟨z, l, x, rfl, hm, fun i hi h0 => ?_, fun h => ?_⟩
  · rw [hi]; exact hp
  · rw [h] at hp; exact hp)
theorem idx_mem {α : Type} {f : α → Bool} {l : List α} : 0 ≤ idxI f l ↔ ∃ x ∈ l, f x = true := by
  rcases idxI_cases f l with ⟨i, x, h1, h2, h3⟩ | ⟨h1, h2⟩
  · rw [h3]
    exact ⟨fun _ => ⟨x, List.mem_of_getElem? h1, h2⟩, fun _ => by omega⟩
  · rw [h1]
    exact ⟨fun h => by omega, fun ⟨x, hx, hf⟩ => by rw [h2 x hx] at hf; cases hf⟩
theorem loopHas : LD X 21 2 (loopHook (kpF 21 2) gHas) :=
  LD.scan (H := []) (hk := []) (by kernel_rfl) (by kernel_rfl) .nil .nil
    (A := List Id3 × Id3) (fun a k => hsH a.1 a.2 k) (·.1) (0, 0, 0) (fun a p => p == a.2) (fun _ => True)
    (fun a i => ⟨18, [(4, .d (.bool true))], []⟩) (fun a => ⟨18, [], []⟩)
    (by
      rintro ⟨l, x⟩ k post _ hm h0 hk hkn ht hf
      dsimp only at *
      rw [← vcHas]
      simp only [List.length_map]
      rw [ix_nth hkn]
      refine condT (decT hk) (oblP ⟨h0, hk⟩ (oblI (isIx _) (condI (fun h => ht ?_) fun h => oblI (incI (by omega) (by omega)) (hf ?_))))
      · rw [← eqIx]; exact h
      · rw [← eqIx]; exact h)
    (by
      rintro ⟨l, p⟩ k post _ hk hp
      dsimp only at *
      rw [← vcHas]
      simp only [List.length_map]
      exact condF (decF hk) hp)
    (by
      rintro s post ⟨l, x, rfl, hm, h1, h2⟩
      refine ⟨(l, x), rfl, trivial, hm, fun i hi h0 => h1 ?_, fun h => h2 fun hx => ?_⟩
      · rw [hi] at h0
        obtain ⟨y, hy, he⟩ := idx_mem.1 h0
        have : y = x := by simpa using he
        exact this ▸ hy
      · have : 0 ≤ idxI (fun p => p == x) l := idx_mem.2 ⟨x, hx, by simp⟩
        dsimp only at h
        omega)
theorem okHas : FD X 21 hHas := FD.mk (H := []) (hk := [(2, loopHook (kpF 21 2) gHas)]) (by kernel_rfl) .nil (.cons loopHas .nil) (by
  intro ps R post hh
  obtain ⟨l, x, rfl, rfl, hm, hp⟩ := hh
  rw [← vcHasB]
  exact ⟨l, x, rfl, hm, fun h => leafBc hp (by simp [h]), fun h => leafBc hp (by simp [h])⟩)
theorem eqIt (x y : It) : (x.1.1 == y.1.1 && (x.1.2.1 == y.1.2.1 && true) && (x.1.2.2 == y.1.2.2 && true) && (x.2.1 == y.2.1 && (x.2.2.1 == y.2.2.1 && (x.2.2.2 == y.2.2.2 && true)))) = decide (x = y) := by
  rw [Bool.eq_iff_iff]
  obtain ⟨⟨a, b, c⟩, d, e, f⟩ := x
  obtain ⟨⟨a', b', c'⟩, d', e', f'⟩ := y
  simp [and_assoc]
theorem loopSmI : LD X 11 4 (loopHook (kpF 11 4) gSmI) :=
  LD.scan (H := []) (hk := []) (by kernel_rfl) (by kernel_rfl) .nil .nil
    (A := List It × List It) (fun a k => smH a.1 a.2 k) (fun a => a.1.zip a.2) (it0, it0) (fun _ p => decide (p.1 ≠ p.2)) (fun a => a.1.length = a.2.length)
    (fun a i => ⟨26, [(4, .d (.bool false))], []⟩) (fun a => ⟨26, [], []⟩)
    (by
      rintro ⟨l, m⟩ k post he hm h0 hk hkn ht hf
      dsimp only at *
      rw [← vcSmI]
      rw [List.length_zip] at hk hkn hm
      have hz : (l.zip m).getD k.toNat (it0, it0) = (l.getD k.toNat it0, m.getD k.toNat it0) := by
        simp only [List.getD_eq_getElem?_getD]
        rw [List.getElem?_eq_getElem (by rw [List.length_zip]; omega), List.getElem?_eq_getElem (by omega), List.getElem?_eq_getElem (by omega), List.getElem_zip]
        rfl
      rw [hz] at ht hf
      simp only [List.length_map]
      rw [it_nth (by omega) it0, it_nth (by omega) it0]
      refine condT (decT (by omega)) (oblP ⟨h0, by omega⟩ (oblI (isIt _) (oblP ⟨h0, by omega⟩ (oblI (isIt _) (condI (fun h => ht ?_) fun h => oblI (incI (by omega) (by omega)) (hf ?_))))))
      · have := eqIt (l.getD k.toNat it0) (m.getD k.toNat it0)
        have h' : (!decide (l.getD k.toNat it0 = m.getD k.toNat it0)) = true := by rw [← this]; exact h
        simpa using h'
      · have := eqIt (l.getD k.toNat it0) (m.getD k.toNat it0)
        have h' : (!decide (l.getD k.toNat it0 = m.getD k.toNat it0)) = false := by rw [← this]; exact h
        simpa using h')
    (by
      rintro ⟨l, m⟩ k post he hk hp
      dsimp only at *
      rw [← vcSmI]
      rw [List.length_zip] at hk
      simp only [List.length_map]
      exact condF (decF (by omega)) hp)
    (by
      rintro s post ⟨l, m, rfl, ⟨he, hm⟩, h1, h2⟩
      refine ⟨(l, m), rfl, he, by show (l.zip m).length ≤ _; rw [List.length_zip]; omega, fun i hi h0 => h1 ?_, fun h => h2 ?_⟩
      · rw [hi] at h0
        obtain ⟨y, hy, hne⟩ := idx_mem.1 h0
        rintro rfl
        obtain ⟨j, hj, hjy⟩ := List.getElem_of_mem hy
        rw [List.getElem_zip] at hjy
        rw [← hjy] at hne
        simp at hne
      · refine List.ext_getElem he fun j hj hj' => ?_
        have hz : (l.zip m)[j]'(by rw [List.length_zip]; omega) ∈ l.zip m := List.getElem_mem _
        rw [List.getElem_zip] at hz
        have hno : ¬ 0 ≤ idxI (fun p : It × It => decide (p.1 ≠ p.2)) (l.zip m) := by dsimp only at h; omega
        refine Classical.byContradiction fun hc => hno (idx_mem.2 ⟨_, hz, by simpa using hc⟩))
theorem okSameI : FD X 11 hSameI := FD.mk (H := []) (hk := [(4, loopHook (kpF 11 4) gSmI)]) (by kernel_rfl) .nil (.cons loopSmI .nil) (by
  intro ps R post hh
  obtain ⟨l, m, rfl, rfl, hm, hp⟩ := hh
  rw [← vcSmIB]
  simp only [List.length_map]
  refine condN (fun h => leafBc hp ?_) fun h => ⟨l, m, rfl, ⟨by omega, hm⟩, fun hne => leafBc hp (by simp [hne]), fun he => leafBc hp (by simp [he])⟩
  rw [decide_eq_false]
  rintro rfl
  exact h rfl)
end
end Pi

/- Tree: the document's answer: what the runs ask. -/
namespace Pi
open Go Go.Proofs
set_option maxRecDepth 100000
set_option maxHeartbeats 0
/-! within -/
abbrev wiH (l : List Pl) (x y : Id3) (k : Int) : S := ⟨28, [(0, plsP l), (4, .ref 0 0 0), (5, .ref 1 0 0), (7, iD k)], bxI 0 x ++ bxI 1 y⟩
def gWi : S → K (PX × S) := fun s post => ∃ l x y, s = wiH l x y 0 ∧ l.length ≤ 1000000 ∧ (∀ b, b = within l x y → post (.ret, ⟨28, [(0, plsP l), (6, .d (.bool b))], []⟩)) ∧ (within l x y = true → post (.exit 0, ⟨28, [(0, plsP l)], []⟩))
theorem vcWi (l : List Pl) (x y : Id3) (k : Int) (post : PX × S → Prop) : (bif decide (k ≤ (↑(List.length (List.map plD l)) : Int)) then bif Prod.fst x == Prod.fst y && (Prod.fst (Prod.snd x) == Prod.fst (Prod.snd y) && true) && (Prod.snd (Prod.snd x) == Prod.snd (Prod.snd y) && true) then post (PX.ret, S.mk 28 [(0, P.d (D.sl 8 (List.map plD l))), (6, P.d (D.bool true))] []) else ∃ (l_1 : List Pl), ∃ (x_1 : Id3), [P.d (D.sl 8 (List.map plD l)), P.d (D.agg [D.int IntKind.i64 (Prod.fst x), D.int IntKind.i64 (Prod.fst (Prod.snd x)), D.int IntKind.i64 (Prod.snd (Prod.snd x))])] = [P.d (D.sl 8 (List.map plD l_1)), P.d (D.agg [D.int IntKind.i64 (Prod.fst x_1), D.int IntKind.i64 (Prod.fst (Prod.snd x_1)), D.int IntKind.i64 (Prod.snd (Prod.snd x_1))])] ∧ EqR [] [] ∧ List.length l_1 ≤ 1000000 ∧ bif decide (at13 l_1 x_1 < (0 : Int)) then post (PX.ret, S.mk 28 [(0, P.d (D.sl 8 (List.map plD l))), (6, P.d (D.bool false))] []) else bif decide ((0 : Int) ≤ at13 l_1 x_1 ∧ at13 l_1 x_1 < (↑(List.length (List.map plD l)) : Int)) then bif isD PR 47 (D.nth (List.map plD l) (Int.toNat (at13 l_1 x_1))) then bif decide ((-9223372036854775808 : Int) ≤ k + (1 : Int) ∧ k + (1 : Int) ≤ (9223372036854775807 : Int)) then post (PX.normal, S.mk 28 [(0, P.d (D.sl 8 (List.map plD l))), (4, P.ref 0 0 0), (5, P.ref 1 0 0), (7, P.d (D.int IntKind.i64 (k + (1 : Int))))] [(0, En.mk 0 none (Obj.box 41 [P.d (D.int IntKind.i64 (D.iVal (D.cAt (D.nth (List.map plD l) (Int.toNat (at13 l_1 x_1))) 3))), P.d (D.int IntKind.i64 (D.iVal (D.cAt (D.nth (List.map plD l) (Int.toNat (at13 l_1 x_1))) 4))), P.d (D.int IntKind.i64 (D.iVal (D.cAt (D.nth (List.map plD l) (Int.toNat (at13 l_1 x_1))) 5)))])), (1, En.mk 0 none (Obj.box 41 [P.d (D.int IntKind.i64 (Prod.fst y)), P.d (D.int IntKind.i64 (Prod.fst (Prod.snd y))), P.d (D.int IntKind.i64 (Prod.snd (Prod.snd y)))]))]) else False else False else False else post (PX.exit 0, S.mk 28 [(0, P.d (D.sl 8 (List.map plD l)))] [])) = (roundL [(22, hF13)] [] 57 2 (wiH l x y k)) post := by kernel_rfl
theorem vcWiB (l : List Pl) (x y : Id3) (post : P × List (Nat × En) → Prop) : (∃ (l_1 : List Pl), ∃ (x_1 : Id3), ∃ (y_1 : Id3), S.mk 28 [(0, P.d (D.sl 8 (List.map plD l))), (4, P.ref 0 0 0), (5, P.ref 1 0 0), (7, P.d (D.int IntKind.i64 (0 : Int)))] [(0, En.mk 0 none (Obj.box 41 [P.d (D.int IntKind.i64 (Prod.fst x)), P.d (D.int IntKind.i64 (Prod.fst (Prod.snd x))), P.d (D.int IntKind.i64 (Prod.snd (Prod.snd x)))])), (1, En.mk 0 none (Obj.box 41 [P.d (D.int IntKind.i64 (Prod.fst y)), P.d (D.int IntKind.i64 (Prod.fst (Prod.snd y))), P.d (D.int IntKind.i64 (Prod.snd (Prod.snd y)))]))] = S.mk 28 [(0, P.d (D.sl 8 (List.map plD l_1))), (4, P.ref 0 0 0), (5, P.ref 1 0 0), (7, P.d (D.int IntKind.i64 (0 : Int)))] [(0, En.mk 0 none (Obj.box 41 [P.d (D.int IntKind.i64 (Prod.fst x_1)), P.d (D.int IntKind.i64 (Prod.fst (Prod.snd x_1))), P.d (D.int IntKind.i64 (Prod.snd (Prod.snd x_1)))])), (1, En.mk 0 none (Obj.box 41 [P.d (D.int IntKind.i64 (Prod.fst y_1)), P.d (D.int IntKind.i64 (Prod.fst (Prod.snd y_1))), P.d (D.int IntKind.i64 (Prod.snd (Prod.snd y_1)))]))] ∧ List.length l_1 ≤ 1000000 ∧ (∀ (b : Bool), b = within l_1 x_1 y_1 → post (P.d (D.bool b), [])) ∧ (within l_1 x_1 y_1 = true → post (P.d (D.bool true), []))) = (bodyF [] [(2, loopHook (kpF 57 2) gWi)] 57 [plsP l, .d (ixD x), .d (ixD y)] []) post := by kernel_rfl
def hWi : KF1 := fun ps R post => ∃ l x y, ps = [plsP l, .d (ixD x), .d (ixD y)] ∧ R = [] ∧ l.length ≤ 1000000 ∧ ∀ b, b = within l x y → post (.d (.bool b), [])
abbrev wiL (z : Bool) (l : List Pl) (n : Nat) (x y : Id3) (k : Int) : S := ⟨28, [(0, .sl 0 0 n), (4, .ref 1 0 0), (5, .ref 2 0 0), (7, iD k)], arL z l ++ bxI 1 x ++ bxI 2 y⟩
def gWiL : S → K (PX × S) := fun s post => ∃ z l x y, s = wiL z l l.length x y 0 ∧ l.length ≤ 1000000 ∧ (∀ b, b = within l x y → post (.ret, ⟨28, [(0, .sl 0 0 l.length), (6, .d (.bool b))], arL z l⟩)) ∧ (within l x y = true → post (.exit 0, ⟨28, [(0, .sl 0 0 l.length)], arL z l⟩))
theorem vcWiL (z : Bool) (l : List Pl) (n : Nat) (x y : Id3) (k : Int) (post : PX × S → Prop) : (bif decide (k ≤ (↑n : Int)) then bif Prod.fst x == Prod.fst y && (Prod.fst (Prod.snd x) == Prod.fst (Prod.snd y) && true) && (Prod.snd (Prod.snd x) == Prod.snd (Prod.snd y) && true) then post (PX.ret, S.mk 28 [(0, P.sl 0 0 n), (6, P.d (D.bool true))] [(0, En.mk 0 (some 0) (Obj.arr 47 z (List.map plD l)))]) else ∃ (z_1 : Bool), ∃ (l_1 : List Pl), ∃ (x_1 : Id3), [P.sl 0 0 n, P.d (D.agg [D.int IntKind.i64 (Prod.fst x), D.int IntKind.i64 (Prod.fst (Prod.snd x)), D.int IntKind.i64 (Prod.snd (Prod.snd x))])] = [P.sl 0 0 (List.length l_1), P.d (D.agg [D.int IntKind.i64 (Prod.fst x_1), D.int IntKind.i64 (Prod.fst (Prod.snd x_1)), D.int IntKind.i64 (Prod.snd (Prod.snd x_1))])] ∧ [(0, En.mk 0 (some 0) (Obj.arr 47 z (List.map plD l)))] = [(0, En.mk 0 (some 0) (Obj.arr 47 z_1 (List.map plD l_1)))] ∧ List.length l_1 ≤ 1000000 ∧ bif decide (at13 l_1 x_1 < (0 : Int)) then post (PX.ret, S.mk 28 [(0, P.sl 0 0 n), (6, P.d (D.bool false))] [(0, En.mk 0 (some 0) (Obj.arr 47 z_1 (List.map plD l_1)))]) else bif decide ((0 : Int) ≤ at13 l_1 x_1 ∧ at13 l_1 x_1 < (↑n : Int)) then bif decide (Int.toNat (at13 l_1 x_1) < List.length (List.map plD l_1)) then bif isD PR (47 : TypeId) (D.nth (List.map plD l_1) (Int.toNat (at13 l_1 x_1))) then bif decide ((-9223372036854775808 : Int) ≤ k + (1 : Int) ∧ k + (1 : Int) ≤ (9223372036854775807 : Int)) then post (PX.normal, S.mk 28 [(0, P.sl 0 0 n), (4, P.ref 1 0 0), (5, P.ref 2 0 0), (7, P.d (D.int IntKind.i64 (k + (1 : Int))))] [(0, En.mk 0 (some 0) (Obj.arr 47 z_1 (List.map plD l_1))), (1, En.mk 0 none (Obj.box 41 [P.d (D.int IntKind.i64 (D.iVal (D.cAt (D.nth (List.map plD l_1) (Int.toNat (at13 l_1 x_1))) 3))), P.d (D.int IntKind.i64 (D.iVal (D.cAt (D.nth (List.map plD l_1) (Int.toNat (at13 l_1 x_1))) 4))), P.d (D.int IntKind.i64 (D.iVal (D.cAt (D.nth (List.map plD l_1) (Int.toNat (at13 l_1 x_1))) 5)))])), (2, En.mk 0 none (Obj.box 41 [P.d (D.int IntKind.i64 (Prod.fst y)), P.d (D.int IntKind.i64 (Prod.fst (Prod.snd y))), P.d (D.int IntKind.i64 (Prod.snd (Prod.snd y)))]))]) else False else False else False else False else post (PX.exit 0, S.mk 28 [(0, P.sl 0 0 n)] [(0, En.mk 0 (some 0) (Obj.arr 47 z (List.map plD l)))])) = (roundL [(22, hF13L)] [] 57 2 (wiL z l n x y k)) post := by kernel_rfl
theorem vcWiLB (z : Bool) (l : List Pl) (n : Nat) (x y : Id3) (post : P × List (Nat × En) → Prop) : (∃ (z_1 : Bool), ∃ (l_1 : List Pl), ∃ (x_1 : Id3), ∃ (y_1 : Id3), S.mk 28 [(0, P.sl 0 0 n), (4, P.ref 1 0 0), (5, P.ref 2 0 0), (7, P.d (D.int IntKind.i64 (0 : Int)))] [(0, En.mk 0 (some 0) (Obj.arr 47 z (List.map plD l))), (1, En.mk 0 none (Obj.box 41 [P.d (D.int IntKind.i64 (Prod.fst x)), P.d (D.int IntKind.i64 (Prod.fst (Prod.snd x))), P.d (D.int IntKind.i64 (Prod.snd (Prod.snd x)))])), (2, En.mk 0 none (Obj.box 41 [P.d (D.int IntKind.i64 (Prod.fst y)), P.d (D.int IntKind.i64 (Prod.fst (Prod.snd y))), P.d (D.int IntKind.i64 (Prod.snd (Prod.snd y)))]))] = S.mk 28 [(0, P.sl 0 0 (List.length l_1)), (4, P.ref 1 0 0), (5, P.ref 2 0 0), (7, P.d (D.int IntKind.i64 (0 : Int)))] [(0, En.mk 0 (some 0) (Obj.arr 47 z_1 (List.map plD l_1))), (1, En.mk 0 none (Obj.box 41 [P.d (D.int IntKind.i64 (Prod.fst x_1)), P.d (D.int IntKind.i64 (Prod.fst (Prod.snd x_1))), P.d (D.int IntKind.i64 (Prod.snd (Prod.snd x_1)))])), (2, En.mk 0 none (Obj.box 41 [P.d (D.int IntKind.i64 (Prod.fst y_1)), P.d (D.int IntKind.i64 (Prod.fst (Prod.snd y_1))), P.d (D.int IntKind.i64 (Prod.snd (Prod.snd y_1)))]))] ∧ List.length l_1 ≤ 1000000 ∧ (∀ (b : Bool), b = within l_1 x_1 y_1 → post (P.d (D.bool b), [(0, En.mk 0 (some 0) (Obj.arr 47 z_1 (List.map plD l_1)))])) ∧ (within l_1 x_1 y_1 = true → post (P.d (D.bool true), [(0, En.mk 0 (some 0) (Obj.arr 47 z_1 (List.map plD l_1)))]))) = (bodyF [] [(2, loopHook (kpF 57 2) gWiL)] 57 [.sl 0 0 n, .d (ixD x), .d (ixD y)] (arL z l)) post := by kernel_rfl
def hWiL : KF1 := fun ps R post => ∃ z l x y, ps = [.sl 0 0 l.length, .d (ixD x), .d (ixD y)] ∧ R = arL z l ∧ l.length ≤ 1000000 ∧ ∀ b, b = within l x y → post (.d (.bool b), arL z l)
/-! rooted -/
abbrev roH (l : List Pl) (x : Id3) (k : Int) : S := ⟨39, [(0, plsP l), (3, .ref 0 0 0), (5, iD k)], bxI 0 x⟩
def gRo : S → K (PX × S) := fun s post => ∃ l x, s = roH l x 0 ∧ l.length ≤ 1000000 ∧ (∀ b, b = rooted l x → post (.ret, ⟨39, [(4, .d (.bool b))], []⟩)) ∧ (rooted l x = false → post (.exit 0, ⟨39, [], []⟩))
theorem vcRo (l : List Pl) (x : Id3) (k : Int) (post : PX × S → Prop) : (bif decide (k ≤ (↑(List.length (List.map plD l)) : Int)) then ∃ (l_1 : List Pl), ∃ (x_1 : Id3), [P.d (D.sl 8 (List.map plD l)), P.d (D.agg [D.int IntKind.i64 (Prod.fst x), D.int IntKind.i64 (Prod.fst (Prod.snd x)), D.int IntKind.i64 (Prod.snd (Prod.snd x))])] = [P.d (D.sl 8 (List.map plD l_1)), P.d (D.agg [D.int IntKind.i64 (Prod.fst x_1), D.int IntKind.i64 (Prod.fst (Prod.snd x_1)), D.int IntKind.i64 (Prod.snd (Prod.snd x_1))])] ∧ EqR [] [] ∧ List.length l_1 ≤ 1000000 ∧ bif decide (at13 l_1 x_1 < (0 : Int)) then post (PX.ret, S.mk 39 [(4, P.d (D.bool false))] []) else bif decide ((0 : Int) ≤ at13 l_1 x_1 ∧ at13 l_1 x_1 < (↑(List.length (List.map plD l)) : Int)) then bif isD PR 47 (D.nth (List.map plD l) (Int.toNat (at13 l_1 x_1))) then bif D.iVal (D.cAt (D.nth (List.map plD l) (Int.toNat (at13 l_1 x_1))) 3) == (0 : Int) && (D.iVal (D.cAt (D.nth (List.map plD l) (Int.toNat (at13 l_1 x_1))) 4) == (0 : Int) && true) && (D.iVal (D.cAt (D.nth (List.map plD l) (Int.toNat (at13 l_1 x_1))) 5) == (0 : Int) && true) then post (PX.ret, S.mk 39 [(4, P.d (D.bool true))] []) else ∃ (l_2 : List Pl), ∃ (x : Id3), [P.d (D.sl 8 (List.map plD l)), P.d (D.agg [D.int IntKind.i64 (D.iVal (D.cAt (D.nth (List.map plD l) (Int.toNat (at13 l_1 x_1))) 3)), D.int IntKind.i64 (D.iVal (D.cAt (D.nth (List.map plD l) (Int.toNat (at13 l_1 x_1))) 4)), D.int IntKind.i64 (D.iVal (D.cAt (D.nth (List.map plD l) (Int.toNat (at13 l_1 x_1))) 5))])] = [P.d (D.sl 8 (List.map plD l_2)), P.d (D.agg [D.int IntKind.i64 (Prod.fst x), D.int IntKind.i64 (Prod.fst (Prod.snd x)), D.int IntKind.i64 (Prod.snd (Prod.snd x))])] ∧ EqR [] [] ∧ List.length l_2 ≤ 1000000 ∧ bif decide (at13 l_2 x < (0 : Int)) then post (PX.ret, S.mk 39 [(4, P.d (D.bool false))] []) else bif decide ((0 : Int) ≤ at13 l_2 x ∧ at13 l_2 x < (↑(List.length (List.map plD l)) : Int)) then bif isD PR 47 (D.nth (List.map plD l) (Int.toNat (at13 l_2 x))) then bif !D.bVal (D.cAt (D.nth (List.map plD l) (Int.toNat (at13 l_2 x))) 7) then post (PX.ret, S.mk 39 [(4, P.d (D.bool false))] []) else bif decide ((-9223372036854775808 : Int) ≤ k + (1 : Int) ∧ k + (1 : Int) ≤ (9223372036854775807 : Int)) then post (PX.normal, S.mk 39 [(0, P.d (D.sl 8 (List.map plD l))), (3, P.ref 0 0 0), (5, P.d (D.int IntKind.i64 (k + (1 : Int))))] [(0, En.mk 0 none (Obj.box 41 [P.d (D.int IntKind.i64 (D.iVal (D.cAt (D.nth (List.map plD l) (Int.toNat (at13 l_1 x_1))) 3))), P.d (D.int IntKind.i64 (D.iVal (D.cAt (D.nth (List.map plD l) (Int.toNat (at13 l_1 x_1))) 4))), P.d (D.int IntKind.i64 (D.iVal (D.cAt (D.nth (List.map plD l) (Int.toNat (at13 l_1 x_1))) 5)))]))]) else False else False else False else False else False else post (PX.exit 0, S.mk 39 [] [])) = (roundL [(22, hF13)] [] 20 2 (roH l x k)) post := by kernel_rfl
theorem vcRoB (l : List Pl) (x : Id3) (post : P × List (Nat × En) → Prop) : (∃ (l_1 : List Pl), ∃ (x_1 : Id3), S.mk 39 [(0, P.d (D.sl 8 (List.map plD l))), (3, P.ref 0 0 0), (5, P.d (D.int IntKind.i64 (0 : Int)))] [(0, En.mk 0 none (Obj.box 41 [P.d (D.int IntKind.i64 (Prod.fst x)), P.d (D.int IntKind.i64 (Prod.fst (Prod.snd x))), P.d (D.int IntKind.i64 (Prod.snd (Prod.snd x)))]))] = S.mk 39 [(0, P.d (D.sl 8 (List.map plD l_1))), (3, P.ref 0 0 0), (5, P.d (D.int IntKind.i64 (0 : Int)))] [(0, En.mk 0 none (Obj.box 41 [P.d (D.int IntKind.i64 (Prod.fst x_1)), P.d (D.int IntKind.i64 (Prod.fst (Prod.snd x_1))), P.d (D.int IntKind.i64 (Prod.snd (Prod.snd x_1)))]))] ∧ List.length l_1 ≤ 1000000 ∧ (∀ (b : Bool), b = rooted l_1 x_1 → post (P.d (D.bool b), [])) ∧ (rooted l_1 x_1 = false → post (P.d (D.bool false), []))) = (bodyF [] [(2, loopHook (kpF 20 2) gRo)] 20 [plsP l, .d (ixD x)] []) post := by kernel_rfl
def hRo : KF1 := fun ps R post => ∃ l x, ps = [plsP l, .d (ixD x)] ∧ R = [] ∧ l.length ≤ 1000000 ∧ ∀ b, b = rooted l x → post (.d (.bool b), [])
/-! right -/
/-- Of a row that is not frozen. -/
def hF13F : KF1 := fun ps R post => ∃ l x, ps = [.sl 0 0 l.length, .d (ixD x)] ∧ R = arL false l ∧ l.length ≤ 1000000 ∧ post (iD (at13 l x), arL false l)
abbrev riH (l o : List Pl) (n : Nat) (k : Int) : S := ⟨43, [(0, plsP l), (3, .sl 0 0 n), (4, iD k)], [(0, ⟨0, none, .arr 47 false (o.map plD)⟩)]⟩
def gRi : S → K (PX × S) := fun s post => ∃ l, s = riH l [] 0 0 ∧ l.length ≤ 1000000 ∧ post (.exit 0, ⟨43, [(3, .sl 0 0 (tkL l).length)], [(0, ⟨0, none, .arr 47 false ((tkL l).map plD)⟩)]⟩)
theorem vcRi (l o : List Pl) (n : Nat) (k : Int) (post : PX × S → Prop) : (bif decide (k < (↑(List.length (List.map plD l)) : Int)) then bif decide ((0 : Int) ≤ k ∧ k < (↑(List.length (List.map plD l)) : Int)) then bif isD PR 47 (D.nth (List.map plD l) (Int.toNat k)) then ∃ (t : Int), ∃ (r : Int), ∃ (i : Int), [P.d (D.agg [D.int IntKind.i64 (D.iVal (D.cAt (D.nth (List.map plD l) (Int.toNat k)) 0)), D.int IntKind.i64 (D.iVal (D.cAt (D.nth (List.map plD l) (Int.toNat k)) 1)), D.int IntKind.i64 (D.iVal (D.cAt (D.nth (List.map plD l) (Int.toNat k)) 2))])] = [P.d (D.agg [D.int IntKind.i64 t, D.int IntKind.i64 r, D.int IntKind.i64 i])] ∧ EqR [] [] ∧ bif rightId t r i then bif decide ((0 : Int) ≤ k ∧ k < (↑(List.length (List.map plD l)) : Int)) then bif isD PR 47 (D.nth (List.map plD l) (Int.toNat k)) then ∃ (s : List UInt8), [P.d (D.str (D.sVal (D.cAt (D.nth (List.map plD l) (Int.toNat k)) 6)))] = [P.d (D.str s)] ∧ EqR [] [] ∧ bif nameOk s then bif decide ((0 : Int) ≤ k ∧ k < (↑(List.length (List.map plD l)) : Int)) then bif isD PR 47 (D.nth (List.map plD l) (Int.toNat k)) then ∃ (l_1 : List Pl), ∃ (x : Id3), [P.sl 0 0 n, P.d (D.agg [D.int IntKind.i64 (D.iVal (D.cAt (D.nth (List.map plD l) (Int.toNat k)) 0)), D.int IntKind.i64 (D.iVal (D.cAt (D.nth (List.map plD l) (Int.toNat k)) 1)), D.int IntKind.i64 (D.iVal (D.cAt (D.nth (List.map plD l) (Int.toNat k)) 2))])] = [P.sl 0 0 (List.length l_1), P.d (D.agg [D.int IntKind.i64 (Prod.fst x), D.int IntKind.i64 (Prod.fst (Prod.snd x)), D.int IntKind.i64 (Prod.snd (Prod.snd x))])] ∧ [(0, En.mk 0 (some 0) (Obj.arr 47 false (List.map plD o)))] = [(0, En.mk 0 (some 0) (Obj.arr 47 false (List.map plD l_1)))] ∧ List.length l_1 ≤ 1000000 ∧ bif decide (at13 l_1 x < (0 : Int)) then bif decide ((0 : Int) ≤ k ∧ k < (↑(List.length (List.map plD l)) : Int)) then bif isD PR 47 (D.nth (List.map plD l) (Int.toNat k)) then bif Nat.ble n (List.length (List.map plD l_1)) && roomOk (n + List.length [D.agg [D.int IntKind.i64 (D.iVal (D.cAt (D.nth (List.map plD l) (Int.toNat k)) 0)), D.int IntKind.i64 (D.iVal (D.cAt (D.nth (List.map plD l) (Int.toNat k)) 1)), D.int IntKind.i64 (D.iVal (D.cAt (D.nth (List.map plD l) (Int.toNat k)) 2)), D.int IntKind.i64 (D.iVal (D.cAt (D.nth (List.map plD l) (Int.toNat k)) 3)), D.int IntKind.i64 (D.iVal (D.cAt (D.nth (List.map plD l) (Int.toNat k)) 4)), D.int IntKind.i64 (D.iVal (D.cAt (D.nth (List.map plD l) (Int.toNat k)) 5)), D.str (D.sVal (D.cAt (D.nth (List.map plD l) (Int.toNat k)) 6)), D.bool (D.bVal (D.cAt (D.nth (List.map plD l) (Int.toNat k)) 7))]]) 72 then bif decide ((-9223372036854775808 : Int) ≤ k + (1 : Int) ∧ k + (1 : Int) ≤ (9223372036854775807 : Int)) then post (PX.normal, S.mk 43 [(0, P.d (D.sl 8 (List.map plD l))), (3, P.sl 0 0 (n + List.length [D.agg [D.int IntKind.i64 (D.iVal (D.cAt (D.nth (List.map plD l) (Int.toNat k)) 0)), D.int IntKind.i64 (D.iVal (D.cAt (D.nth (List.map plD l) (Int.toNat k)) 1)), D.int IntKind.i64 (D.iVal (D.cAt (D.nth (List.map plD l) (Int.toNat k)) 2)), D.int IntKind.i64 (D.iVal (D.cAt (D.nth (List.map plD l) (Int.toNat k)) 3)), D.int IntKind.i64 (D.iVal (D.cAt (D.nth (List.map plD l) (Int.toNat k)) 4)), D.int IntKind.i64 (D.iVal (D.cAt (D.nth (List.map plD l) (Int.toNat k)) 5)), D.str (D.sVal (D.cAt (D.nth (List.map plD l) (Int.toNat k)) 6)), D.bool (D.bVal (D.cAt (D.nth (List.map plD l) (Int.toNat k)) 7))]])), (4, P.d (D.int IntKind.i64 (k + (1 : Int))))] [(0, En.mk 0 none (Obj.arr 47 false (List.take n (List.map plD l_1) ++ [D.agg [D.int IntKind.i64 (D.iVal (D.cAt (D.nth (List.map plD l) (Int.toNat k)) 0)), D.int IntKind.i64 (D.iVal (D.cAt (D.nth (List.map plD l) (Int.toNat k)) 1)), D.int IntKind.i64 (D.iVal (D.cAt (D.nth (List.map plD l) (Int.toNat k)) 2)), D.int IntKind.i64 (D.iVal (D.cAt (D.nth (List.map plD l) (Int.toNat k)) 3)), D.int IntKind.i64 (D.iVal (D.cAt (D.nth (List.map plD l) (Int.toNat k)) 4)), D.int IntKind.i64 (D.iVal (D.cAt (D.nth (List.map plD l) (Int.toNat k)) 5)), D.str (D.sVal (D.cAt (D.nth (List.map plD l) (Int.toNat k)) 6)), D.bool (D.bVal (D.cAt (D.nth (List.map plD l) (Int.toNat k)) 7))]])))]) else False else False else False else False else bif decide ((-9223372036854775808 : Int) ≤ k + (1 : Int) ∧ k + (1 : Int) ≤ (9223372036854775807 : Int)) then post (PX.normal, S.mk 43 [(0, P.d (D.sl 8 (List.map plD l))), (3, P.sl 0 0 n), (4, P.d (D.int IntKind.i64 (k + (1 : Int))))] [(0, En.mk 0 none (Obj.arr 47 false (List.map plD l_1)))]) else False else False else False else bif decide ((-9223372036854775808 : Int) ≤ k + (1 : Int) ∧ k + (1 : Int) ≤ (9223372036854775807 : Int)) then post (PX.normal, S.mk 43 [(0, P.d (D.sl 8 (List.map plD l))), (3, P.sl 0 0 n), (4, P.d (D.int IntKind.i64 (k + (1 : Int))))] [(0, En.mk 0 none (Obj.arr 47 false (List.map plD o)))]) else False else False else False else bif decide ((-9223372036854775808 : Int) ≤ k + (1 : Int) ∧ k + (1 : Int) ≤ (9223372036854775807 : Int)) then post (PX.normal, S.mk 43 [(0, P.d (D.sl 8 (List.map plD l))), (3, P.sl 0 0 n), (4, P.d (D.int IntKind.i64 (k + (1 : Int))))] [(0, En.mk 0 none (Obj.arr 47 false (List.map plD o)))]) else False else False else False else post (PX.exit 0, S.mk 43 [(3, P.sl 0 0 n)] [(0, En.mk 0 none (Obj.arr 47 false (List.map plD o)))])) = (roundL [(25, hRightId), (44, hName), (22, hF13F)] [] 56 3 (riH l o n k)) post := by kernel_rfl
theorem vcRiB (l : List Pl) (post : P × List (Nat × En) → Prop) : (∃ (l_1 : List Pl), S.mk 43 [(0, P.d (D.sl 8 (List.map plD l))), (3, P.sl 0 0 0), (4, P.d (D.int IntKind.i64 (0 : Int)))] [(0, En.mk 0 none (Obj.arr 47 false []))] = S.mk 43 [(0, P.d (D.sl 8 (List.map plD l_1))), (3, P.sl 0 0 0), (4, P.d (D.int IntKind.i64 (0 : Int)))] [(0, En.mk 0 none (Obj.arr 47 false []))] ∧ List.length l_1 ≤ 1000000 ∧ post (P.sl 0 0 (List.length (tkL l_1)), [(0, En.mk 0 none (Obj.arr 47 false (List.map plD (tkL l_1))))])) = (bodyF [] [(3, loopHook (kpF 56 3) gRi)] 56 [plsP l] []) post := by kernel_rfl
def hRi : KF1 := fun ps R post => ∃ l, ps = [plsP l] ∧ R = [] ∧ l.length ≤ 1000000 ∧ post (.sl 0 0 (tkL l).length, [(0, ⟨0, none, .arr 47 false ((tkL l).map plD)⟩)])
/-! name -/
abbrev bxP (n : Nat) (p : Pl) : List (Nat × En) := [(n, ⟨0, none, .box 47 [.d (.int .i64 p.1.1), .d (.int .i64 p.1.2.1), .d (.int .i64 p.1.2.2), .d (.int .i64 p.2.1.1), .d (.int .i64 p.2.1.2.1), .d (.int .i64 p.2.1.2.2), .d (.str p.2.2.1), .d (.bool p.2.2.2)]⟩)]
abbrev naH (l : List Pl) (p : Pl) (k : Int) : S := ⟨54, [(0, plsP l), (3, .ref 0 0 0), (5, iD k)], bxP 0 p⟩
def nmB (p q : Pl) : Bool := decide (q.2.1 = p.2.1) && (q.2.2.1 == p.2.2.1) && ltX q.1 p.1
def gNa : S → K (PX × S) := fun s post => ∃ l p, s = naH l p 0 ∧ l.length ≤ 1000000 ∧ (l.any (nmB p) = true → post (.ret, ⟨54, [(3, .ref 0 0 0), (4, sD (clashP p.2.2.1 p.1.1 p.1.2.1 p.1.2.2).1)], bxP 0 p⟩)) ∧ (l.any (nmB p) = false → post (.exit 0, ⟨54, [(3, .ref 0 0 0)], bxP 0 p⟩))
theorem vcNa (l : List Pl) (p : Pl) (k : Int) (post : PX × S → Prop) : (bif decide (k < (↑(List.length (List.map plD l)) : Int)) then bif decide ((0 : Int) ≤ k ∧ k < (↑(List.length (List.map plD l)) : Int)) then bif isD PR 47 (D.nth (List.map plD l) (Int.toNat k)) then bif D.iVal (D.cAt (D.nth (List.map plD l) (Int.toNat k)) 3) == Prod.fst (Prod.fst (Prod.snd p)) && (D.iVal (D.cAt (D.nth (List.map plD l) (Int.toNat k)) 4) == Prod.fst (Prod.snd (Prod.fst (Prod.snd p))) && true) && (D.iVal (D.cAt (D.nth (List.map plD l) (Int.toNat k)) 5) == Prod.snd (Prod.snd (Prod.fst (Prod.snd p))) && true) then bif decide ((0 : Int) ≤ k ∧ k < (↑(List.length (List.map plD l)) : Int)) then bif isD PR 47 (D.nth (List.map plD l) (Int.toNat k)) then bif D.sVal (D.cAt (D.nth (List.map plD l) (Int.toNat k)) 6) == Prod.fst (Prod.snd (Prod.snd p)) then bif decide ((0 : Int) ≤ k ∧ k < (↑(List.length (List.map plD l)) : Int)) then bif isD PR 47 (D.nth (List.map plD l) (Int.toNat k)) then ∃ (t : Int), ∃ (r : Int), ∃ (i : Int), ∃ (t' : Int), ∃ (r' : Int), ∃ (i' : Int), [P.d (D.agg [D.int IntKind.i64 (D.iVal (D.cAt (D.nth (List.map plD l) (Int.toNat k)) 0)), D.int IntKind.i64 (D.iVal (D.cAt (D.nth (List.map plD l) (Int.toNat k)) 1)), D.int IntKind.i64 (D.iVal (D.cAt (D.nth (List.map plD l) (Int.toNat k)) 2))]), P.d (D.agg [D.int IntKind.i64 (Prod.fst (Prod.fst p)), D.int IntKind.i64 (Prod.fst (Prod.snd (Prod.fst p))), D.int IntKind.i64 (Prod.snd (Prod.snd (Prod.fst p)))])] = [P.d (D.agg [D.int IntKind.i64 t, D.int IntKind.i64 r, D.int IntKind.i64 i]), P.d (D.agg [D.int IntKind.i64 t', D.int IntKind.i64 r', D.int IntKind.i64 i'])] ∧ EqR [] [] ∧ bif decide (cmpId t r i t' r' i' < (0 : Int)) then ∃ (s : List UInt8), ∃ (t : Int), ∃ (r : Int), ∃ (i : Int), [P.d (D.str (Prod.fst (Prod.snd (Prod.snd p)))), P.d (D.agg [D.int IntKind.i64 (Prod.fst (Prod.fst p)), D.int IntKind.i64 (Prod.fst (Prod.snd (Prod.fst p))), D.int IntKind.i64 (Prod.snd (Prod.snd (Prod.fst p)))])] = [P.d (D.str s), P.d (D.agg [D.int IntKind.i64 t, D.int IntKind.i64 r, D.int IntKind.i64 i])] ∧ EqR [] [] ∧ post (PX.ret, S.mk 54 [(3, P.ref 0 0 0), (4, P.d (D.str (Prod.fst (clashP s t r i))))] [(0, En.mk 0 none (Obj.box 47 [P.d (D.int IntKind.i64 (Prod.fst (Prod.fst p))), P.d (D.int IntKind.i64 (Prod.fst (Prod.snd (Prod.fst p)))), P.d (D.int IntKind.i64 (Prod.snd (Prod.snd (Prod.fst p)))), P.d (D.int IntKind.i64 (Prod.fst (Prod.fst (Prod.snd p)))), P.d (D.int IntKind.i64 (Prod.fst (Prod.snd (Prod.fst (Prod.snd p))))), P.d (D.int IntKind.i64 (Prod.snd (Prod.snd (Prod.fst (Prod.snd p))))), P.d (D.str (Prod.fst (Prod.snd (Prod.snd p)))), P.d (D.bool (Prod.snd (Prod.snd (Prod.snd p))))]))]) else bif decide ((-9223372036854775808 : Int) ≤ k + (1 : Int) ∧ k + (1 : Int) ≤ (9223372036854775807 : Int)) then post (PX.normal, S.mk 54 [(0, P.d (D.sl 8 (List.map plD l))), (3, P.ref 0 0 0), (5, P.d (D.int IntKind.i64 (k + (1 : Int))))] [(0, En.mk 0 none (Obj.box 47 [P.d (D.int IntKind.i64 (Prod.fst (Prod.fst p))), P.d (D.int IntKind.i64 (Prod.fst (Prod.snd (Prod.fst p)))), P.d (D.int IntKind.i64 (Prod.snd (Prod.snd (Prod.fst p)))), P.d (D.int IntKind.i64 (Prod.fst (Prod.fst (Prod.snd p)))), P.d (D.int IntKind.i64 (Prod.fst (Prod.snd (Prod.fst (Prod.snd p))))), P.d (D.int IntKind.i64 (Prod.snd (Prod.snd (Prod.fst (Prod.snd p))))), P.d (D.str (Prod.fst (Prod.snd (Prod.snd p)))), P.d (D.bool (Prod.snd (Prod.snd (Prod.snd p))))]))]) else False else False else False else bif decide ((-9223372036854775808 : Int) ≤ k + (1 : Int) ∧ k + (1 : Int) ≤ (9223372036854775807 : Int)) then post (PX.normal, S.mk 54 [(0, P.d (D.sl 8 (List.map plD l))), (3, P.ref 0 0 0), (5, P.d (D.int IntKind.i64 (k + (1 : Int))))] [(0, En.mk 0 none (Obj.box 47 [P.d (D.int IntKind.i64 (Prod.fst (Prod.fst p))), P.d (D.int IntKind.i64 (Prod.fst (Prod.snd (Prod.fst p)))), P.d (D.int IntKind.i64 (Prod.snd (Prod.snd (Prod.fst p)))), P.d (D.int IntKind.i64 (Prod.fst (Prod.fst (Prod.snd p)))), P.d (D.int IntKind.i64 (Prod.fst (Prod.snd (Prod.fst (Prod.snd p))))), P.d (D.int IntKind.i64 (Prod.snd (Prod.snd (Prod.fst (Prod.snd p))))), P.d (D.str (Prod.fst (Prod.snd (Prod.snd p)))), P.d (D.bool (Prod.snd (Prod.snd (Prod.snd p))))]))]) else False else False else False else bif decide ((-9223372036854775808 : Int) ≤ k + (1 : Int) ∧ k + (1 : Int) ≤ (9223372036854775807 : Int)) then post (PX.normal, S.mk 54 [(0, P.d (D.sl 8 (List.map plD l))), (3, P.ref 0 0 0), (5, P.d (D.int IntKind.i64 (k + (1 : Int))))] [(0, En.mk 0 none (Obj.box 47 [P.d (D.int IntKind.i64 (Prod.fst (Prod.fst p))), P.d (D.int IntKind.i64 (Prod.fst (Prod.snd (Prod.fst p)))), P.d (D.int IntKind.i64 (Prod.snd (Prod.snd (Prod.fst p)))), P.d (D.int IntKind.i64 (Prod.fst (Prod.fst (Prod.snd p)))), P.d (D.int IntKind.i64 (Prod.fst (Prod.snd (Prod.fst (Prod.snd p))))), P.d (D.int IntKind.i64 (Prod.snd (Prod.snd (Prod.fst (Prod.snd p))))), P.d (D.str (Prod.fst (Prod.snd (Prod.snd p)))), P.d (D.bool (Prod.snd (Prod.snd (Prod.snd p))))]))]) else False else False else False else post (PX.exit 0, S.mk 54 [(3, P.ref 0 0 0)] [(0, En.mk 0 none (Obj.box 47 [P.d (D.int IntKind.i64 (Prod.fst (Prod.fst p))), P.d (D.int IntKind.i64 (Prod.fst (Prod.snd (Prod.fst p)))), P.d (D.int IntKind.i64 (Prod.snd (Prod.snd (Prod.fst p)))), P.d (D.int IntKind.i64 (Prod.fst (Prod.fst (Prod.snd p)))), P.d (D.int IntKind.i64 (Prod.fst (Prod.snd (Prod.fst (Prod.snd p))))), P.d (D.int IntKind.i64 (Prod.snd (Prod.snd (Prod.fst (Prod.snd p))))), P.d (D.str (Prod.fst (Prod.snd (Prod.snd p)))), P.d (D.bool (Prod.snd (Prod.snd (Prod.snd p))))]))])) = (roundL [(62, hCmpId), (24, hClash)] [] 58 2 (naH l p k)) post := by kernel_rfl
theorem vcNaB (l : List Pl) (p : Pl) (post : P × List (Nat × En) → Prop) : (∃ (l_1 : List Pl), ∃ (p_1 : Pl), S.mk 54 [(0, P.d (D.sl 8 (List.map plD l))), (3, P.ref 0 0 0), (5, P.d (D.int IntKind.i64 (0 : Int)))] [(0, En.mk 0 none (Obj.box 47 [P.d (D.int IntKind.i64 (Prod.fst (Prod.fst p))), P.d (D.int IntKind.i64 (Prod.fst (Prod.snd (Prod.fst p)))), P.d (D.int IntKind.i64 (Prod.snd (Prod.snd (Prod.fst p)))), P.d (D.int IntKind.i64 (Prod.fst (Prod.fst (Prod.snd p)))), P.d (D.int IntKind.i64 (Prod.fst (Prod.snd (Prod.fst (Prod.snd p))))), P.d (D.int IntKind.i64 (Prod.snd (Prod.snd (Prod.fst (Prod.snd p))))), P.d (D.str (Prod.fst (Prod.snd (Prod.snd p)))), P.d (D.bool (Prod.snd (Prod.snd (Prod.snd p))))]))] = S.mk 54 [(0, P.d (D.sl 8 (List.map plD l_1))), (3, P.ref 0 0 0), (5, P.d (D.int IntKind.i64 (0 : Int)))] [(0, En.mk 0 none (Obj.box 47 [P.d (D.int IntKind.i64 (Prod.fst (Prod.fst p_1))), P.d (D.int IntKind.i64 (Prod.fst (Prod.snd (Prod.fst p_1)))), P.d (D.int IntKind.i64 (Prod.snd (Prod.snd (Prod.fst p_1)))), P.d (D.int IntKind.i64 (Prod.fst (Prod.fst (Prod.snd p_1)))), P.d (D.int IntKind.i64 (Prod.fst (Prod.snd (Prod.fst (Prod.snd p_1))))), P.d (D.int IntKind.i64 (Prod.snd (Prod.snd (Prod.fst (Prod.snd p_1))))), P.d (D.str (Prod.fst (Prod.snd (Prod.snd p_1)))), P.d (D.bool (Prod.snd (Prod.snd (Prod.snd p_1))))]))] ∧ List.length l_1 ≤ 1000000 ∧ (List.any l_1 (nmB p_1) = true → post (P.d (D.str (Prod.fst (clashP (Prod.fst (Prod.snd (Prod.snd p_1))) (Prod.fst (Prod.fst p_1)) (Prod.fst (Prod.snd (Prod.fst p_1))) (Prod.snd (Prod.snd (Prod.fst p_1)))))), [])) ∧ (List.any l_1 (nmB p_1) = false → post (P.d (D.str (Prod.fst (Prod.snd (Prod.snd p_1)))), []))) = (bodyF [] [(2, loopHook (kpF 58 2) gNa)] 58 [plsP l, .d (plD p)] []) post := by kernel_rfl
def hNa : KF1 := fun ps R post => ∃ l p, ps = [plsP l, .d (plD p)] ∧ R = [] ∧ l.length ≤ 1000000 ∧ ∀ s, s = nmP l p → post (sD s, [])
/-! path -/
abbrev paH (l : List Pl) (p : Pl) (s : List UInt8) : S := ⟨28, [(0, plsP l), (3, .ref 0 0 0), (5, sD s)], bxP 0 p⟩
inductive SeenAt (T : List Pl) (V : List Id3) (x : Id3) (p : Pl) : Prop
  | mk (h1 : marked T V x = true) (h2 : atPl T x = some p)
def gPa : S → K (PX × S) := fun s post => ∃ T V x p w, s = paH (seenL T V) p ([47] ++ nmP (seenL T V) p) ∧ (T.length ≤ 1000 ∧ Rt T ∧ SeenAt T V x p ∧ Up T x w) ∧ post (.exit 0, ⟨28, [(5, sD (joinR (w.reverse.map (nmX T V))))], []⟩)
theorem vcPa (l : List Pl) (p : Pl) (s : List UInt8) (post : PX × S → Prop) : (bif !(Prod.fst (Prod.fst (Prod.snd p)) == (0 : Int) && (Prod.fst (Prod.snd (Prod.fst (Prod.snd p))) == (0 : Int) && true) && (Prod.snd (Prod.snd (Prod.fst (Prod.snd p))) == (0 : Int) && true)) then ∃ (l_1 : List Pl), ∃ (x : Id3), [P.d (D.sl 8 (List.map plD l)), P.d (D.agg [D.int IntKind.i64 (Prod.fst (Prod.fst (Prod.snd p))), D.int IntKind.i64 (Prod.fst (Prod.snd (Prod.fst (Prod.snd p)))), D.int IntKind.i64 (Prod.snd (Prod.snd (Prod.fst (Prod.snd p))))])] = [P.d (D.sl 8 (List.map plD l_1)), P.d (D.agg [D.int IntKind.i64 (Prod.fst x), D.int IntKind.i64 (Prod.fst (Prod.snd x)), D.int IntKind.i64 (Prod.snd (Prod.snd x))])] ∧ EqR [] [] ∧ List.length l_1 ≤ 1000000 ∧ bif decide ((0 : Int) ≤ at13 l_1 x ∧ at13 l_1 x < (↑(List.length (List.map plD l)) : Int)) then bif isD PR 47 (D.nth (List.map plD l) (Int.toNat (at13 l_1 x))) then ∃ (l_2 : List Pl), ∃ (p : Pl), [P.d (D.sl 8 (List.map plD l)), P.d (D.agg [D.int IntKind.i64 (D.iVal (D.cAt (D.nth (List.map plD l) (Int.toNat (at13 l_1 x))) 0)), D.int IntKind.i64 (D.iVal (D.cAt (D.nth (List.map plD l) (Int.toNat (at13 l_1 x))) 1)), D.int IntKind.i64 (D.iVal (D.cAt (D.nth (List.map plD l) (Int.toNat (at13 l_1 x))) 2)), D.int IntKind.i64 (D.iVal (D.cAt (D.nth (List.map plD l) (Int.toNat (at13 l_1 x))) 3)), D.int IntKind.i64 (D.iVal (D.cAt (D.nth (List.map plD l) (Int.toNat (at13 l_1 x))) 4)), D.int IntKind.i64 (D.iVal (D.cAt (D.nth (List.map plD l) (Int.toNat (at13 l_1 x))) 5)), D.str (D.sVal (D.cAt (D.nth (List.map plD l) (Int.toNat (at13 l_1 x))) 6)), D.bool (D.bVal (D.cAt (D.nth (List.map plD l) (Int.toNat (at13 l_1 x))) 7))])] = [P.d (D.sl 8 (List.map plD l_2)), P.d (D.agg [D.int IntKind.i64 (Prod.fst (Prod.fst p)), D.int IntKind.i64 (Prod.fst (Prod.snd (Prod.fst p))), D.int IntKind.i64 (Prod.snd (Prod.snd (Prod.fst p))), D.int IntKind.i64 (Prod.fst (Prod.fst (Prod.snd p))), D.int IntKind.i64 (Prod.fst (Prod.snd (Prod.fst (Prod.snd p)))), D.int IntKind.i64 (Prod.snd (Prod.snd (Prod.fst (Prod.snd p)))), D.str (Prod.fst (Prod.snd (Prod.snd p))), D.bool (Prod.snd (Prod.snd (Prod.snd p)))])] ∧ EqR [] [] ∧ List.length l_2 ≤ 1000000 ∧ ∀ (s_1 : List UInt8), s_1 = nmP l_2 p → bif decide (1 + List.length s_1 ≤ 9223372036854775807) then bif decide (List.length ([(47 : UInt8)] ++ s_1) + List.length s ≤ 9223372036854775807) then post (PX.normal, S.mk 28 [(0, P.d (D.sl 8 (List.map plD l))), (3, P.ref 0 0 0), (5, P.d (D.str ([(47 : UInt8)] ++ s_1 ++ s)))] [(0, En.mk 0 none (Obj.box 47 [P.d (D.int IntKind.i64 (D.iVal (D.cAt (D.nth (List.map plD l) (Int.toNat (at13 l_1 x))) 0))), P.d (D.int IntKind.i64 (D.iVal (D.cAt (D.nth (List.map plD l) (Int.toNat (at13 l_1 x))) 1))), P.d (D.int IntKind.i64 (D.iVal (D.cAt (D.nth (List.map plD l) (Int.toNat (at13 l_1 x))) 2))), P.d (D.int IntKind.i64 (D.iVal (D.cAt (D.nth (List.map plD l) (Int.toNat (at13 l_1 x))) 3))), P.d (D.int IntKind.i64 (D.iVal (D.cAt (D.nth (List.map plD l) (Int.toNat (at13 l_1 x))) 4))), P.d (D.int IntKind.i64 (D.iVal (D.cAt (D.nth (List.map plD l) (Int.toNat (at13 l_1 x))) 5))), P.d (D.str (D.sVal (D.cAt (D.nth (List.map plD l) (Int.toNat (at13 l_1 x))) 6))), P.d (D.bool (D.bVal (D.cAt (D.nth (List.map plD l) (Int.toNat (at13 l_1 x))) 7)))]))]) else False else False else False else False else post (PX.exit 0, S.mk 28 [(5, P.d (D.str s))] [])) = (roundL [(58, hNa), (22, hF13)] [] 34 2 (paH l p s)) post := by kernel_rfl
theorem vcPaB (l : List Pl) (p : Pl) (post : P × List (Nat × En) → Prop) : (∃ (l_1 : List Pl), ∃ (p_1 : Pl), [P.d (D.sl 8 (List.map plD l)), P.d (D.agg [D.int IntKind.i64 (Prod.fst (Prod.fst p)), D.int IntKind.i64 (Prod.fst (Prod.snd (Prod.fst p))), D.int IntKind.i64 (Prod.snd (Prod.snd (Prod.fst p))), D.int IntKind.i64 (Prod.fst (Prod.fst (Prod.snd p))), D.int IntKind.i64 (Prod.fst (Prod.snd (Prod.fst (Prod.snd p)))), D.int IntKind.i64 (Prod.snd (Prod.snd (Prod.fst (Prod.snd p)))), D.str (Prod.fst (Prod.snd (Prod.snd p))), D.bool (Prod.snd (Prod.snd (Prod.snd p)))])] = [P.d (D.sl 8 (List.map plD l_1)), P.d (D.agg [D.int IntKind.i64 (Prod.fst (Prod.fst p_1)), D.int IntKind.i64 (Prod.fst (Prod.snd (Prod.fst p_1))), D.int IntKind.i64 (Prod.snd (Prod.snd (Prod.fst p_1))), D.int IntKind.i64 (Prod.fst (Prod.fst (Prod.snd p_1))), D.int IntKind.i64 (Prod.fst (Prod.snd (Prod.fst (Prod.snd p_1)))), D.int IntKind.i64 (Prod.snd (Prod.snd (Prod.fst (Prod.snd p_1)))), D.str (Prod.fst (Prod.snd (Prod.snd p_1))), D.bool (Prod.snd (Prod.snd (Prod.snd p_1)))])] ∧ EqR [] [] ∧ List.length l_1 ≤ 1000000 ∧ ∀ (s : List UInt8), s = nmP l_1 p_1 → bif decide (1 + List.length s ≤ 9223372036854775807) then ∃ (T : List Pl), ∃ (V : List Id3), ∃ (x : Id3), ∃ (p_2 : Pl), ∃ (w : List Id3), S.mk 28 [(0, P.d (D.sl 8 (List.map plD l))), (3, P.ref 0 0 0), (5, P.d (D.str ([(47 : UInt8)] ++ s)))] [(0, En.mk 0 none (Obj.box 47 [P.d (D.int IntKind.i64 (Prod.fst (Prod.fst p))), P.d (D.int IntKind.i64 (Prod.fst (Prod.snd (Prod.fst p)))), P.d (D.int IntKind.i64 (Prod.snd (Prod.snd (Prod.fst p)))), P.d (D.int IntKind.i64 (Prod.fst (Prod.fst (Prod.snd p)))), P.d (D.int IntKind.i64 (Prod.fst (Prod.snd (Prod.fst (Prod.snd p))))), P.d (D.int IntKind.i64 (Prod.snd (Prod.snd (Prod.fst (Prod.snd p))))), P.d (D.str (Prod.fst (Prod.snd (Prod.snd p)))), P.d (D.bool (Prod.snd (Prod.snd (Prod.snd p))))]))] = S.mk 28 [(0, P.d (D.sl 8 (List.map plD (seenL T V)))), (3, P.ref 0 0 0), (5, P.d (D.str ([(47 : UInt8)] ++ nmP (seenL T V) p_2)))] [(0, En.mk 0 none (Obj.box 47 [P.d (D.int IntKind.i64 (Prod.fst (Prod.fst p_2))), P.d (D.int IntKind.i64 (Prod.fst (Prod.snd (Prod.fst p_2)))), P.d (D.int IntKind.i64 (Prod.snd (Prod.snd (Prod.fst p_2)))), P.d (D.int IntKind.i64 (Prod.fst (Prod.fst (Prod.snd p_2)))), P.d (D.int IntKind.i64 (Prod.fst (Prod.snd (Prod.fst (Prod.snd p_2))))), P.d (D.int IntKind.i64 (Prod.snd (Prod.snd (Prod.fst (Prod.snd p_2))))), P.d (D.str (Prod.fst (Prod.snd (Prod.snd p_2)))), P.d (D.bool (Prod.snd (Prod.snd (Prod.snd p_2))))]))] ∧ (List.length T ≤ 1000 ∧ Rt T ∧ SeenAt T V x p_2 ∧ Up T x w) ∧ post (P.d (D.str (joinR (List.map (nmX T V) (List.reverse w)))), []) else False) = (bodyF [(58, hNa)] [(2, loopHook (kpF 34 2) gPa)] 34 [plsP l, .d (plD p)] []) post := by kernel_rfl
def hPa : KF1 := fun ps R post => ∃ T V p, ps = [plsP (seenL T V), .d (plD p)] ∧ R = [] ∧ (T.length ≤ 1000 ∧ Rt T ∧ p ∈ seenL T V) ∧ post (sD (pathX T V p.1), [])
end Pi

/- Tree: the document's answer. -/
namespace Pi
open Go Go.Proofs
set_option maxRecDepth 100000
theorem at13_none {l : List Pl} {x : Id3} (h : atPl l x = none) : at13 l x = -1 := by
  refine idxI_no fun p hp => ?_
  unfold atPl at h
  simpa using List.find?_eq_none.1 h p hp
theorem at13_some {l : List Pl} {x : Id3} {p : Pl} (h : atPl l x = some p) : ∃ i : Nat, at13 l x = (i : Int) ∧ i < l.length ∧ l.getD i pl0 = p := by
  unfold atPl at h
  obtain ⟨h1, i, hi, h2, h3⟩ := List.find?_eq_some_iff_getElem.1 h
  refine ⟨i, idxI_yes (x := p) (by rw [List.getElem?_eq_getElem hi, h2]) h1 fun y hy => ?_, hi, ?_⟩
  · obtain ⟨j, hj, rfl⟩ := List.getElem_of_mem hy
    rw [List.getElem_take]
    rw [List.length_take] at hj
    simpa using h3 j (by omega)
  · rw [List.getD_eq_getElem?_getD, List.getElem?_eq_getElem hi]
    exact h2
section
variable {X : XF}
theorem ixEq {x y : Id3} (h : (x.1 == y.1 && (x.2.1 == y.2.1 && true) && (x.2.2 == y.2.2 && true)) = true) : x = y := by
  rw [eqIx] at h
  simpa using h
theorem ixNe {x y : Id3} (h : (x.1 == y.1 && (x.2.1 == y.2.1 && true) && (x.2.2 == y.2.2 && true)) = false) : x ≠ y := by
  rw [eqIx] at h
  simpa using h
theorem loopWi : LD X 57 2 (loopHook (kpF 57 2) gWi) := LD.par (H := [(22, hF13)]) (hk := []) (by kernel_rfl) (by kernel_rfl) (.cons okF13 .nil) .nil
  (A := List Pl × Id3 × Id3) (B := Id3 × Int) (fun a b => wiH a.1 b.1 a.2.2 b.2)
  (fun a b => a.1.length ≤ 1000000 ∧ 0 ≤ b.2 ∧ b.2 ≤ a.1.length + 1 ∧ withinF a.1 (a.1.length + 1 - b.2.toNat) b.1 a.2.2 = within a.1 a.2.1 a.2.2)
  (fun a b => a.1.length + 1 - b.2.toNat)
  (fun a r => (r = (.ret, ⟨28, [(0, plsP a.1), (6, .d (.bool (within a.1 a.2.1 a.2.2)))], []⟩)) ∨ (within a.1 a.2.1 a.2.2 = true ∧ r = (.exit 0, ⟨28, [(0, plsP a.1)], []⟩)))
  (by
    rintro ⟨l, x0, y⟩ ⟨x, k⟩ ⟨hm, h0, hk, hw⟩
    dsimp only at *
    rw [← vcWi]
    simp only [List.length_map]
    refine condP (fun h => ?_) fun h => ?_
    · obtain ⟨n, hn⟩ : ∃ n, l.length + 1 - k.toNat = n + 1 := ⟨l.length - k.toNat, by omega⟩
      rw [hn] at hw
      simp only [withinF] at hw
      refine condI (fun he => ?_) fun he => ⟨l, x, rfl, rfl, hm, ?_⟩
      · rw [if_pos (ixEq he)] at hw
        left
        rw [← hw]
      · rw [if_neg (ixNe he)] at hw
        cases hp : atPl l x with
        | none =>
          rw [hp] at hw
          rw [at13_none hp]
          refine condT (decT (by decide)) (.inl ?_)
          simp only at hw
          rw [← hw]
        | some p =>
          rw [hp] at hw
          obtain ⟨i, hi, hil, hip⟩ := at13_some hp
          rw [hi]
          simp only [Int.toNat_natCast]
          rw [pl_nth hil, hip]
          refine condF (decF (by omega)) (oblP ⟨by omega, by omega⟩ (oblI (isPl p) (oblI (incI (by omega) (by omega)) ⟨l.length + 1 - (k + 1).toNat, by omega, (p.2.1, k + 1), rfl, ⟨hm, by simp only; omega, by simp only; omega, ?_⟩, rfl⟩)))
          simp only
          rw [show l.length + 1 - (k + 1).toNat = n by omega]
          exact hw
    · have : l.length + 1 - k.toNat = 0 := by omega
      rw [this] at hw
      exact .inr ⟨hw.symm, rfl⟩)
  (by
    rintro s post ⟨l, x, y, rfl, hm, h1, h2⟩
    refine ⟨(l, x, y), (x, 0), rfl, ⟨hm, by simp, by simp only; omega, rfl⟩, ?_⟩
    rintro r (rfl | ⟨h3, rfl⟩)
    · exact h1 _ rfl
    · exact h2 h3)
theorem okWi : FD X 57 hWi := FD.mk (H := []) (hk := [(2, loopHook (kpF 57 2) gWi)]) (by kernel_rfl) .nil (.cons loopWi .nil) (by
  intro ps R post hh
  obtain ⟨l, x, y, rfl, rfl, hm, hp⟩ := hh
  rw [← vcWiB]
  exact ⟨l, x, y, rfl, hm, fun b hb => hp b hb, fun h => hp true h.symm⟩)
theorem loopWiL : LD X 57 2 (loopHook (kpF 57 2) gWiL) := LD.par (H := [(22, hF13L)]) (hk := []) (by kernel_rfl) (by kernel_rfl) (.cons okF13L .nil) .nil
  (A := List Pl × Id3 × Id3 × Bool) (B := Id3 × Int) (fun a b => wiL a.2.2.2 a.1 a.1.length b.1 a.2.2.1 b.2)
  (fun a b => a.1.length ≤ 1000000 ∧ 0 ≤ b.2 ∧ b.2 ≤ a.1.length + 1 ∧ withinF a.1 (a.1.length + 1 - b.2.toNat) b.1 a.2.2.1 = within a.1 a.2.1 a.2.2.1)
  (fun a b => a.1.length + 1 - b.2.toNat)
  (fun a r => (r = (.ret, ⟨28, [(0, .sl 0 0 a.1.length), (6, .d (.bool (within a.1 a.2.1 a.2.2.1)))], arL a.2.2.2 a.1⟩)) ∨ (within a.1 a.2.1 a.2.2.1 = true ∧ r = (.exit 0, ⟨28, [(0, .sl 0 0 a.1.length)], arL a.2.2.2 a.1⟩)))
  (by
    rintro ⟨l, x0, y, z⟩ ⟨x, k⟩ ⟨hm, h0, hk, hw⟩
    dsimp only at *
    rw [← vcWiL]
    refine condP (fun h => ?_) fun h => ?_
    · obtain ⟨n, hn⟩ : ∃ n, l.length + 1 - k.toNat = n + 1 := ⟨l.length - k.toNat, by omega⟩
      rw [hn] at hw
      simp only [withinF] at hw
      refine condI (fun he => ?_) fun he => ⟨z, l, x, rfl, rfl, hm, ?_⟩
      · rw [if_pos (ixEq he)] at hw
        left
        rw [← hw]
      · rw [if_neg (ixNe he)] at hw
        cases hp : atPl l x with
        | none =>
          rw [hp] at hw
          rw [at13_none hp]
          refine condT (decT (by decide)) (.inl ?_)
          simp only at hw
          rw [← hw]
        | some p =>
          rw [hp] at hw
          obtain ⟨i, hi, hil, hip⟩ := at13_some hp
          rw [hi]
          simp only [Int.toNat_natCast]
          rw [pl_nth hil, hip]
          refine condF (decF (by omega)) (oblP ⟨by omega, by omega⟩ (oblI (decT (by rw [List.length_map]; exact hil)) (oblI (isPl p) (oblI (incI (by omega) (by omega)) ⟨l.length + 1 - (k + 1).toNat, by omega, (p.2.1, k + 1), rfl, ⟨hm, by simp only; omega, by simp only; omega, ?_⟩, rfl⟩))))
          simp only
          rw [show l.length + 1 - (k + 1).toNat = n by omega]
          exact hw
    · have : l.length + 1 - k.toNat = 0 := by omega
      rw [this] at hw
      exact .inr ⟨hw.symm, rfl⟩)
  (by
    rintro s post ⟨z, l, x, y, rfl, hm, h1, h2⟩
    refine ⟨(l, x, y, z), (x, 0), rfl, ⟨hm, by simp, by simp only; omega, rfl⟩, ?_⟩
    rintro r (rfl | ⟨h3, rfl⟩)
    · exact h1 _ rfl
    · exact h2 h3)
theorem okWiL : FD X 57 hWiL := FD.mk (H := []) (hk := [(2, loopHook (kpF 57 2) gWiL)]) (by kernel_rfl) .nil (.cons loopWiL .nil) (by
  intro ps R post hh
  obtain ⟨z, l, x, y, rfl, rfl, hm, hp⟩ := hh
  rw [← vcWiLB]
  exact ⟨z, l, x, y, rfl, hm, fun b hb => hp b hb, fun h => hp true h.symm⟩)
theorem loopRo : LD X 20 2 (loopHook (kpF 20 2) gRo) := LD.par (H := [(22, hF13)]) (hk := []) (by kernel_rfl) (by kernel_rfl) (.cons okF13 .nil) .nil
  (A := List Pl × Id3) (B := Id3 × Int) (fun a b => roH a.1 b.1 b.2)
  (fun a b => a.1.length ≤ 1000000 ∧ 0 ≤ b.2 ∧ b.2 ≤ a.1.length + 1 ∧ rootF a.1 (a.1.length + 1 - b.2.toNat) b.1 = rooted a.1 a.2)
  (fun a b => a.1.length + 1 - b.2.toNat)
  (fun a r => (r = (.ret, ⟨39, [(4, .d (.bool (rooted a.1 a.2)))], []⟩)) ∨ (rooted a.1 a.2 = false ∧ r = (.exit 0, ⟨39, [], []⟩)))
  (by
    rintro ⟨l, x0⟩ ⟨x, k⟩ ⟨hm, h0, hk, hw⟩
    dsimp only at *
    rw [← vcRo]
    simp only [List.length_map]
    refine condP (fun h => ?_) fun h => ?_
    · obtain ⟨n, hn⟩ : ∃ n, l.length + 1 - k.toNat = n + 1 := ⟨l.length - k.toNat, by omega⟩
      rw [hn] at hw
      simp only [rootF] at hw
      refine ⟨l, x, rfl, rfl, hm, ?_⟩
      cases hp : atPl l x with
      | none =>
        rw [hp] at hw
        rw [at13_none hp]
        refine condT (decT (by decide)) (.inl ?_)
        simp only at hw
        rw [← hw]
      | some p =>
        rw [hp] at hw
        simp only at hw
        obtain ⟨i, hi, hil, hip⟩ := at13_some hp
        rw [hi]
        simp only [Int.toNat_natCast]
        rw [pl_nth hil, hip]
        refine condF (decF (by omega)) (oblP ⟨by omega, by omega⟩ (oblI (isPl p) (condI (fun he => ?_) fun he => ⟨l, p.2.1, rfl, rfl, hm, ?_⟩)))
        · rw [if_pos (ixEq (y := rootId) he)] at hw
          left
          rw [← hw]
        · rw [if_neg (ixNe (y := rootId) he)] at hw
          cases hq : atPl l p.2.1 with
          | none =>
            rw [hq] at hw
            rw [at13_none hq]
            refine condT (decT (by decide)) (.inl ?_)
            simp only at hw
            rw [← hw]
          | some q =>
            rw [hq] at hw
            simp only at hw
            obtain ⟨j, hj, hjl, hjq⟩ := at13_some hq
            rw [hj]
            simp only [Int.toNat_natCast]
            rw [pl_nth hjl, hjq]
            refine condF (decF (by omega)) (oblP ⟨by omega, by omega⟩ (oblI (isPl q) (condI (fun hd => ?_) fun hd => oblI (incI (by omega) (by omega)) ⟨l.length + 1 - (k + 1).toNat, by omega, (p.2.1, k + 1), rfl, ⟨hm, by simp only; omega, by simp only; omega, ?_⟩, rfl⟩)))
            · have hd' : (!q.2.2.2) = true := hd
              rw [if_pos (by simpa using hd')] at hw
              left
              rw [← hw]
            · have hd' : (!q.2.2.2) = false := hd
              rw [if_neg (by simpa using hd')] at hw
              simp only
              rw [show l.length + 1 - (k + 1).toNat = n by omega]
              exact hw
    · have : l.length + 1 - k.toNat = 0 := by omega
      rw [this] at hw
      exact .inr ⟨hw.symm, rfl⟩)
  (by
    rintro s post ⟨l, x, rfl, hm, h1, h2⟩
    refine ⟨(l, x), (x, 0), rfl, ⟨hm, by simp, by simp only; omega, rfl⟩, ?_⟩
    rintro r (rfl | ⟨h3, rfl⟩)
    · exact h1 _ rfl
    · exact h2 h3)
theorem okRo : FD X 20 hRo := FD.mk (H := []) (hk := [(2, loopHook (kpF 20 2) gRo)]) (by kernel_rfl) .nil (.cons loopRo .nil) (by
  intro ps R post hh
  obtain ⟨l, x, rfl, rfl, hm, hp⟩ := hh
  rw [← vcRoB]
  exact ⟨l, x, rfl, hm, fun b hb => hp b hb, fun h => hp false h.symm⟩)
theorem okF13F : FD X 22 hF13F := okF13L.weaken fun ps R post h => by
  obtain ⟨l, x, h1, h2, h3, h4⟩ := h
  exact ⟨false, l, x, h1, h2, h3, h4⟩
theorem at13_neg {l : List Pl} {x : Id3} : at13 l x < 0 ↔ (atPl l x).isSome = false := by
  cases h : atPl l x with
  | none => rw [at13_none h]; simp
  | some p =>
    obtain ⟨i, hi, _⟩ := at13_some h
    rw [hi]
    simp
theorem pl_take (l : List Pl) : (l.map plD).take l.length = l.map plD := List.take_of_length_le (by simp)
theorem loopRi : LD X 56 3 (loopHook (kpF 56 3) gRi) := LD.par (H := [(25, hRightId), (44, hName), (22, hF13F)]) (hk := []) (by kernel_rfl) (by kernel_rfl) (.cons okRightIdR (.cons okNameR (.cons okF13F .nil))) .nil
  (A := List Pl) (B := Int) (fun a k => riH a (tkL (a.take k.toNat)) (tkL (a.take k.toNat)).length k)
  (fun a k => a.length ≤ 1000000 ∧ 0 ≤ k ∧ k.toNat ≤ a.length)
  (fun a k => (a.length - k).toNat)
  (fun a x => x = (.exit 0, ⟨43, [(3, .sl 0 0 (tkL a).length)], [(0, ⟨0, none, .arr 47 false ((tkL a).map plD)⟩)]⟩))
  (by
    rintro l k ⟨hm, h0, h1⟩
    rw [← vcRi]
    simp only [List.length_map]
    refine condP (fun h => ?_) fun h => ?_
    · have hk : k.toNat < l.length := by omega
      rw [pl_nth hk]
      have e : tkL (l.take (k + 1).toNat) = tkS (tkL (l.take k.toNat)) (l.getD k.toNat pl0) := by
        rw [show (k + 1).toNat = k.toNat + 1 by omega]
        exact foldl_take tkS [] l _ k.toNat hk
      have htl := tkL_len (l.take k.toNat)
      rw [List.length_take] at htl
      generalize l.getD k.toNat pl0 = p at e
      generalize tkL (l.take k.toNat) = T at e htl
      have go : ∀ T', tkS T p = T' → ∃ m, m < ((l.length : Int) - k).toNat ∧ ∃ b, (riH l T' T'.length (k + 1) : S) = riH l (tkL (l.take b.toNat)) (tkL (l.take b.toNat)).length b ∧ (l.length ≤ 1000000 ∧ 0 ≤ b ∧ b.toNat ≤ l.length) ∧ m = ((l.length : Int) - b).toNat := fun T' hT => ⟨((l.length : Int) - (k + 1)).toNat, by omega, k + 1, by rw [e, hT], ⟨hm, by omega, by omega⟩, rfl⟩
      have fit : decide ((-9223372036854775808 : Int) ≤ k + (1 : Int) ∧ k + (1 : Int) ≤ (9223372036854775807 : Int)) = true := incI (by omega) (by omega)
      refine oblP ⟨h0, by omega⟩ (oblI (isPl _) ⟨p.1.1, p.1.2.1, p.1.2.2, rfl, rfl, condI (fun h3 => oblP ⟨h0, by omega⟩ (oblI (isPl _) ⟨p.2.2.1, rfl, rfl, condI (fun h4 => oblP ⟨h0, by omega⟩ (oblI (isPl _) ⟨T, p.1, rfl, rfl, by omega, condI (fun h5 => oblP ⟨h0, by omega⟩ (oblI (isPl _) (oblI ?_ (oblI fit ?_)))) fun h5 => oblI fit ?_⟩)) fun h4 => oblI fit ?_⟩)) fun h3 => oblI fit ?_⟩)
      · simp [roomOk]
        omega
      · have hs : (atPl T p.1).isSome = false := at13_neg.1 (of_decide_eq_true h5)
        have := go (T ++ [p]) (by unfold tkS; simp [hs, okPl, h3, h4])
        rw [pl_take]
        have e1 : (T ++ [p]).length = T.length + 1 := by simp
        have e2 : (T ++ [p]).map plD = T.map plD ++ [plD p] := by simp
        simp only [riH, e1, e2] at this
        exact this
      · have hs : (atPl T p.1).isSome = true := by
          cases hs : (atPl T p.1).isSome with
          | true => rfl
          | false => exact absurd (at13_neg.2 hs) (of_decide_eq_false h5)
        exact go T (by unfold tkS; simp [hs])
      · refine go T ?_
        unfold tkS
        split
        · rfl
        · rw [if_neg (by simp [okPl, h4])]
      · refine go T ?_
        unfold tkS
        split
        · rfl
        · rw [if_neg (by simp [okPl, h3])]
    · rw [List.take_of_length_le (by omega)]; rfl)
  (by
    rintro s post ⟨l, rfl, hm, hp⟩
    refine ⟨l, 0, rfl, ⟨hm, by decide, by simp⟩, ?_⟩
    rintro x rfl
    exact hp)
theorem okRi : FD X 56 hRi := FD.mk (H := []) (hk := [(3, loopHook (kpF 56 3) gRi)]) (by kernel_rfl) .nil (.cons loopRi .nil) (by
  intro ps R post hh
  obtain ⟨l, rfl, rfl, hm, hp⟩ := hh
  rw [← vcRiB]
  exact ⟨l, rfl, hm, hp⟩)
theorem loopNa : LD X 58 2 (loopHook (kpF 58 2) gNa) :=
  LD.scan (H := [(62, hCmpId), (24, hClash)]) (hk := []) (by kernel_rfl) (by kernel_rfl) (.cons okCmpIdR (.cons okClashR .nil)) .nil
    (A := List Pl × Pl) (fun a k => naH a.1 a.2 k) (·.1) pl0 (fun a q => nmB a.2 q) (fun _ => True)
    (fun a _ => ⟨54, [(3, .ref 0 0 0), (4, sD (clashP a.2.2.2.1 a.2.1.1 a.2.1.2.1 a.2.1.2.2).1)], bxP 0 a.2⟩) (fun a => ⟨54, [(3, .ref 0 0 0)], bxP 0 a.2⟩)
    (by
      rintro ⟨l, p⟩ k post _ hm h0 hk hkn ht hf
      dsimp only at *
      rw [← vcNa]
      simp only [List.length_map]
      rw [pl_nth hkn]
      generalize l.getD k.toNat pl0 = q at ht hf
      have fit : decide ((-9223372036854775808 : Int) ≤ k + (1 : Int) ∧ k + (1 : Int) ≤ (9223372036854775807 : Int)) = true := incI (by omega) (by omega)
      refine condT (decT hk) (oblP ⟨h0, hk⟩ (oblI (isPl _) (condI (fun h1 => oblP ⟨h0, hk⟩ (oblI (isPl _) (condI (fun h2 => oblP ⟨h0, hk⟩ (oblI (isPl _) ⟨_, _, _, _, _, _, rfl, rfl, condI (fun h3 => ⟨_, _, _, _, rfl, rfl, ht ?_⟩) fun h3 => oblI fit (hf ?_)⟩)) fun h2 => oblI fit (hf ?_)))) fun h1 => oblI fit (hf ?_))))
      · have h1' : q.2.1 = p.2.1 := ixEq h1
        have h3' := (cmpX_lt q.1 p.1).1 (of_decide_eq_true h3)
        have h2' : (q.2.2.1 == p.2.2.1) = true := h2
        simp [nmB, h1', h2', h3']
      · have h3' : ¬ ltX q.1 p.1 = true := fun h => of_decide_eq_false h3 ((cmpX_lt q.1 p.1).2 h)
        simp [nmB, h3']
      · have h2' : (q.2.2.1 == p.2.2.1) = false := h2
        simp [nmB, h2']
      · have h1' : q.2.1 ≠ p.2.1 := ixNe h1
        simp [nmB, h1'])
    (by
      rintro ⟨l, p⟩ k post _ hk hp
      dsimp only at *
      rw [← vcNa]
      simp only [List.length_map]
      exact condF (decF hk) hp)
    (by
      rintro s post ⟨l, p, rfl, hm, h1, h2⟩
      refine ⟨(l, p), rfl, trivial, hm, fun i hi h0 => h1 ?_, fun h => h2 ?_⟩
      · rw [← idx_any (nmB p) l, ← hi]
        exact decT h0
      · rw [← idx_any (nmB p) l]
        dsimp only at h
        rw [h]
        rfl)
theorem okNa : FD X 58 hNa := FD.mk (H := []) (hk := [(2, loopHook (kpF 58 2) gNa)]) (by kernel_rfl) .nil (.cons loopNa .nil) (by
  intro ps R post hh
  obtain ⟨l, p, rfl, rfl, hm, hp⟩ := hh
  rw [← vcNaB]
  have e : nmP l p = if l.any (nmB p) = true then (clashP p.2.2.1 p.1.1 p.1.2.1 p.1.2.2).1 else p.2.2.1 := rfl
  exact ⟨l, p, rfl, hm, fun h => hp _ (by rw [e, if_pos h]), fun h => hp _ (by rw [e, h]; rfl)⟩)
theorem seenL_uq {T : List Pl} {V : List Id3} (hu : Uq T) : Uq (seenL T V) := by
  unfold Uq
  exact seenI_nodup hu V
theorem atPl_seen {T : List Pl} {V : List Id3} (hu : Uq T) {x : Id3} {p : Pl} (h : marked T V x = true) (hp : atPl T x = some p) : atPl (seenL T V) x = some p := by
  have := atPl_of (seenL_uq (V := V) hu) (seen_mem h hp)
  rwa [(atPl_mem hp).2] at this
theorem loopPa : LD X 34 2 (loopHook (kpF 34 2) gPa) := LD.par (H := [(58, hNa), (22, hF13)]) (hk := []) (by kernel_rfl) (by kernel_rfl) (.cons okNa (.cons okF13 .nil)) .nil
  (A := List Pl × List Id3 × List Id3) (B := Pl × List UInt8 × Id3 × List Id3 × List Id3) (fun a b => paH (seenL a.1 a.2.1) b.1 b.2.1)
  (fun ⟨T, V, w0⟩ ⟨p, s, x, v, w⟩ => T.length ≤ 1000 ∧ Rt T ∧ w0.length ≤ T.length ∧ marked T V x = true ∧ atPl T x = some p ∧ Up T x w ∧ w0 = v ++ w ∧ s = joinR ((v ++ [x]).reverse.map (nmX T V)) ∧ (∀ u ∈ w, marked T V u = true) ∧ (joinR (w0.reverse.map (nmX T V))).length ≤ 201 * T.length ∧ s.length ≤ 201 * (v.length + 1))
  (fun _ b => b.2.2.2.2.length)
  (fun ⟨T, V, w0⟩ r => r = (.exit 0, ⟨28, [(5, sD (joinR (w0.reverse.map (nmX T V))))], []⟩))
  (by
    rintro ⟨T, V, w0⟩ ⟨p, s, x, v, w⟩ ⟨hm, hT, hw0, hmx, hpx, hw, hsp, hs, hmw, hlen, hsl⟩
    dsimp only at *
    have hsL : (seenL T V).length ≤ T.length := List.length_filter_le _ _
    rw [← vcPa]
    simp only [List.length_map]
    cases hw with
    | top h h0 =>
      rw [hpx] at h
      cases h
      refine condF ?_ ?_
      · rw [h0]; rfl
      · show _ = _
        rw [hsp, hs]
    | @step _ p' q w' h h0 hq hd hw' =>
      rw [hpx] at h
      cases h
      obtain ⟨r, hr⟩ := hw'.hd
      have hmq : marked T V p.2.1 = true := hmw _ (by rw [hr]; simp)
      have hqs := atPl_seen hT.1 hmq hq
      obtain ⟨i, hi, hil, hiq⟩ := at13_some hqs
      have hnl := nmP_len (seenL T V) (hT.2 q (atPl_mem hq).1)
      have hnx : nmX T V p.2.1 = nmP (seenL T V) q := by unfold nmX; rw [hq]
      have hvl : v.length + 1 ≤ T.length := by
        have := congrArg List.length hsp
        simp at this
        omega
      refine condT ?_ ⟨seenL T V, p.2.1, rfl, rfl, by omega, ?_⟩
      · have := eqIx p.2.1 (0, 0, 0)
        rw [show (p.2.1 == (0, 0, 0)) = false by simpa using h0] at this
        simp only at this
        show (!_) = true
        rw [this]
        rfl
      rw [hi]
      simp only [Int.toNat_natCast]
      rw [pl_nth hil, hiq]
      refine oblP ⟨by omega, by omega⟩ (oblI (isPl q) ⟨seenL T V, q, rfl, rfl, by omega, fun s1 hs1 => ?_⟩)
      subst hs1
      refine oblP (by omega) (oblP (by simp; omega) ⟨w'.length, by simp, (q, [47] ++ nmP (seenL T V) q ++ s, p.2.1, v ++ [x], w'), rfl, ⟨hm, hT, hw0, hmq, hq, hw', by rw [hsp]; simp, ?_, fun u hu => hmw u (by simp [hu]), hlen, ?_⟩, rfl⟩)
      · simp only
        rw [hs, ← hnx]
        simp [joinR]
      · simp only
        simp
        omega)
  (by
    rintro s post ⟨T, V, x, p, w, rfl, ⟨hm, hT, ⟨hmx, hpx⟩, hw⟩, hp⟩
    obtain ⟨w2, hw2, mw⟩ := marked_up hmx
    have := hw.one hw2
    subst this
    have hnx : nmX T V x = nmP (seenL T V) p := by unfold nmX; rw [hpx]
    have hnl := nmP_len (seenL T V) (hT.2 p (atPl_mem hpx).1)
    refine ⟨(T, V, w), (p, [47] ++ nmP (seenL T V) p, x, [], w), rfl, ⟨hm, hT, hw.len, hmx, hpx, hw, rfl, by rw [← hnx]; simp [joinR], mw, names_len hT hw, by simp; omega⟩, ?_⟩
    rintro r rfl
    exact hp)
theorem okPa : FD X 34 hPa := FD.mk (H := [(58, hNa)]) (hk := [(2, loopHook (kpF 34 2) gPa)]) (by kernel_rfl) (.cons okNa .nil) (.cons loopPa .nil) (by
  intro ps R post hh
  obtain ⟨T, V, p, rfl, rfl, ⟨hm, hT, hp0⟩, hp⟩ := hh
  obtain ⟨hpT, hpm⟩ := seen_pl hp0
  have hat := atPl_of hT.1 hpT
  obtain ⟨w, hw, _⟩ := marked_up hpm
  have hsL : (seenL T V).length ≤ T.length := List.length_filter_le _ _
  have hnl := nmP_len (seenL T V) (hT.2 p hpT)
  rw [← vcPaB]
  refine ⟨seenL T V, p, rfl, rfl, by omega, fun s hs => ?_⟩
  subst hs
  refine oblP (by omega) ⟨T, V, p.1, p, w, rfl, ⟨hm, hT, ⟨hpm, hat⟩, hw⟩, ?_⟩
  unfold pathX at hp
  rw [pathX_up hw] at hp
  exact hp)
end
end Pi

/- Tree: the document's answer: who is seen, the items: what the runs ask. -/
namespace Pi
open Go Go.Proofs
set_option maxRecDepth 100000
set_option maxHeartbeats 0
abbrev arP (n : Nat) (z : Bool) (l : List Pl) : List (Nat × En) := [(n, ⟨0, none, .arr 47 z (l.map plD)⟩)]
abbrev arI (n : Nat) (l : List It) : List (Nat × En) := [(n, ⟨0, none, .arr 43 false (l.map itmD)⟩)]
abbrev skH (z : Bool) (l : List Pl) (n : Nat) (v : List Id3) (o : List Pl) (m : Nat) (i : Int) : S := ⟨62, [(0, .sl 0 0 n), (1, idsP v), (5, .sl 1 0 m), (6, iD i)], arP 0 z l ++ arP 1 false o⟩
abbrev skI (z : Bool) (l : List Pl) (n : Nat) (v : List Id3) (o : List Pl) (m : Nat) (i : Int) (b : Bool) (k : Int) : S := ⟨62, [(0, .sl 0 0 n), (1, idsP v), (5, .sl 1 0 m), (6, iD i), (7, .d (.bool b)), (8, iD k)], arP 0 z l ++ arP 1 false o⟩
def seB (l : List Pl) (v : List Id3) (p q : Pl) : Bool := decide (q.1 ∈ v) && rooted l q.1 && within l q.1 p.1
def gSkI : S → K (PX × S) := fun s post => ∃ z l v o m i b, s = skI z l l.length v o m i b 0 ∧ (l.length ≤ 1000000 ∧ v.length ≤ 1000000 ∧ 0 ≤ i ∧ i < l.length) ∧
  ∀ z' b', b' = (b || l.any (seB l v (l.getD i.toNat pl0))) → post (.exit 2, ⟨62, [(0, .sl 0 0 l.length), (1, idsP v), (5, .sl 1 0 m), (6, iD i), (7, .d (.bool b'))], arP 0 z' l ++ arP 1 false o⟩)
theorem vcSkI (z : Bool) (l : List Pl) (n : Nat) (v : List Id3) (o : List Pl) (m : Nat) (i : Int) (b : Bool) (k : Int) (post : PX × S → Prop) : (bif decide (k < (↑n : Int)) then bif decide ((0 : Int) ≤ k ∧ k < (↑n : Int)) then bif decide (Int.toNat k < List.length (List.map plD l)) then bif isD PR (47 : TypeId) (D.nth (List.map plD l) (Int.toNat k)) then ∃ (l_1 : List Id3), ∃ (x : Id3), [P.d (D.sl 3 (List.map ixD v)), P.d (D.agg [D.int IntKind.i64 (D.iVal (D.cAt (D.nth (List.map plD l) (Int.toNat k)) 0)), D.int IntKind.i64 (D.iVal (D.cAt (D.nth (List.map plD l) (Int.toNat k)) 1)), D.int IntKind.i64 (D.iVal (D.cAt (D.nth (List.map plD l) (Int.toNat k)) 2))])] = [P.d (D.sl 3 (List.map ixD l_1)), P.d (D.agg [D.int IntKind.i64 (Prod.fst x), D.int IntKind.i64 (Prod.fst (Prod.snd x)), D.int IntKind.i64 (Prod.snd (Prod.snd x))])] ∧ EqR [] [] ∧ List.length l_1 ≤ 1000000 ∧ bif decide (x ∈ l_1) then bif decide ((0 : Int) ≤ k ∧ k < (↑n : Int)) then bif decide (Int.toNat k < List.length (List.map plD l)) then bif isD PR (47 : TypeId) (D.nth (List.map plD l) (Int.toNat k)) then ∃ (l_2 : List Pl), ∃ (x : Id3), [P.d (D.sl 8 (List.take n (List.map plD l))), P.d (D.agg [D.int IntKind.i64 (D.iVal (D.cAt (D.nth (List.map plD l) (Int.toNat k)) 0)), D.int IntKind.i64 (D.iVal (D.cAt (D.nth (List.map plD l) (Int.toNat k)) 1)), D.int IntKind.i64 (D.iVal (D.cAt (D.nth (List.map plD l) (Int.toNat k)) 2))])] = [P.d (D.sl 8 (List.map plD l_2)), P.d (D.agg [D.int IntKind.i64 (Prod.fst x), D.int IntKind.i64 (Prod.fst (Prod.snd x)), D.int IntKind.i64 (Prod.snd (Prod.snd x))])] ∧ EqR [] [] ∧ List.length l_2 ≤ 1000000 ∧ ∀ (b_1 : Bool), b_1 = rooted l_2 x → bif b_1 then bif decide ((0 : Int) ≤ k ∧ k < (↑n : Int)) then bif decide (Int.toNat k < List.length (List.map plD l)) then bif isD PR (47 : TypeId) (D.nth (List.map plD l) (Int.toNat k)) then bif decide ((0 : Int) ≤ i ∧ i < (↑n : Int)) then bif decide (Int.toNat i < List.length (List.map plD l)) then bif isD PR (47 : TypeId) (D.nth (List.map plD l) (Int.toNat i)) then ∃ (z : Bool), ∃ (l_3 : List Pl), ∃ (x : Id3), ∃ (y : Id3), [P.sl 0 0 n, P.d (D.agg [D.int IntKind.i64 (D.iVal (D.cAt (D.nth (List.map plD l) (Int.toNat k)) 0)), D.int IntKind.i64 (D.iVal (D.cAt (D.nth (List.map plD l) (Int.toNat k)) 1)), D.int IntKind.i64 (D.iVal (D.cAt (D.nth (List.map plD l) (Int.toNat k)) 2))]), P.d (D.agg [D.int IntKind.i64 (D.iVal (D.cAt (D.nth (List.map plD l) (Int.toNat i)) 0)), D.int IntKind.i64 (D.iVal (D.cAt (D.nth (List.map plD l) (Int.toNat i)) 1)), D.int IntKind.i64 (D.iVal (D.cAt (D.nth (List.map plD l) (Int.toNat i)) 2))])] = [P.sl 0 0 (List.length l_3), P.d (D.agg [D.int IntKind.i64 (Prod.fst x), D.int IntKind.i64 (Prod.fst (Prod.snd x)), D.int IntKind.i64 (Prod.snd (Prod.snd x))]), P.d (D.agg [D.int IntKind.i64 (Prod.fst y), D.int IntKind.i64 (Prod.fst (Prod.snd y)), D.int IntKind.i64 (Prod.snd (Prod.snd y))])] ∧ [(0, En.mk 0 (some 0) (Obj.arr 47 true (List.map plD l)))] = [(0, En.mk 0 (some 0) (Obj.arr 47 z (List.map plD l_3)))] ∧ List.length l_3 ≤ 1000000 ∧ ∀ (b_2 : Bool), b_2 = within l_3 x y → bif b_2 then bif decide ((-9223372036854775808 : Int) ≤ k + (1 : Int) ∧ k + (1 : Int) ≤ (9223372036854775807 : Int)) then post (PX.normal, S.mk 62 [(0, P.sl 0 0 n), (1, P.d (D.sl 3 (List.map ixD v))), (5, P.sl 1 0 m), (6, P.d (D.int IntKind.i64 i)), (7, P.d (D.bool true)), (8, P.d (D.int IntKind.i64 (k + (1 : Int))))] [(0, En.mk 0 none (Obj.arr 47 z (List.map plD l_3))), (1, En.mk 0 none (Obj.arr 47 false (List.map plD o)))]) else False else bif decide ((-9223372036854775808 : Int) ≤ k + (1 : Int) ∧ k + (1 : Int) ≤ (9223372036854775807 : Int)) then post (PX.normal, S.mk 62 [(0, P.sl 0 0 n), (1, P.d (D.sl 3 (List.map ixD v))), (5, P.sl 1 0 m), (6, P.d (D.int IntKind.i64 i)), (7, P.d (D.bool b)), (8, P.d (D.int IntKind.i64 (k + (1 : Int))))] [(0, En.mk 0 none (Obj.arr 47 z (List.map plD l_3))), (1, En.mk 0 none (Obj.arr 47 false (List.map plD o)))]) else False else False else False else False else False else False else False else bif decide ((-9223372036854775808 : Int) ≤ k + (1 : Int) ∧ k + (1 : Int) ≤ (9223372036854775807 : Int)) then post (PX.normal, S.mk 62 [(0, P.sl 0 0 n), (1, P.d (D.sl 3 (List.map ixD v))), (5, P.sl 1 0 m), (6, P.d (D.int IntKind.i64 i)), (7, P.d (D.bool b)), (8, P.d (D.int IntKind.i64 (k + (1 : Int))))] [(0, En.mk 0 none (Obj.arr 47 true (List.map plD l))), (1, En.mk 0 none (Obj.arr 47 false (List.map plD o)))]) else False else False else False else False else bif decide ((-9223372036854775808 : Int) ≤ k + (1 : Int) ∧ k + (1 : Int) ≤ (9223372036854775807 : Int)) then post (PX.normal, S.mk 62 [(0, P.sl 0 0 n), (1, P.d (D.sl 3 (List.map ixD v))), (5, P.sl 1 0 m), (6, P.d (D.int IntKind.i64 i)), (7, P.d (D.bool b)), (8, P.d (D.int IntKind.i64 (k + (1 : Int))))] [(0, En.mk 0 none (Obj.arr 47 z (List.map plD l))), (1, En.mk 0 none (Obj.arr 47 false (List.map plD o)))]) else False else False else False else False else post (PX.exit 2, S.mk 62 [(0, P.sl 0 0 n), (1, P.d (D.sl 3 (List.map ixD v))), (5, P.sl 1 0 m), (6, P.d (D.int IntKind.i64 i)), (7, P.d (D.bool b))] [(0, En.mk 0 none (Obj.arr 47 z (List.map plD l))), (1, En.mk 0 none (Obj.arr 47 false (List.map plD o)))])) = (roundL [(21, hHas), (20, hRo), (57, hWiL)] [] 33 8 (skI z l n v o m i b k)) post := by kernel_rfl
theorem vcSkH (z : Bool) (l : List Pl) (n : Nat) (v : List Id3) (o : List Pl) (m : Nat) (i : Int) (post : PX × S → Prop) : (bif decide (i < (↑n : Int)) then ∃ (z_1 : Bool), ∃ (l_1 : List Pl), ∃ (v_1 : List Id3), ∃ (o_1 : List Pl), ∃ (m_1 : Nat), ∃ (i_1 : Int), ∃ (b : Bool), S.mk 62 [(0, P.sl 0 0 n), (1, P.d (D.sl 3 (List.map ixD v))), (5, P.sl 1 0 m), (6, P.d (D.int IntKind.i64 i)), (7, P.d (D.bool false)), (8, P.d (D.int IntKind.i64 (0 : Int)))] [(0, En.mk 0 none (Obj.arr 47 z (List.map plD l))), (1, En.mk 0 none (Obj.arr 47 false (List.map plD o)))] = S.mk 62 [(0, P.sl 0 0 (List.length l_1)), (1, P.d (D.sl 3 (List.map ixD v_1))), (5, P.sl 1 0 m_1), (6, P.d (D.int IntKind.i64 i_1)), (7, P.d (D.bool b)), (8, P.d (D.int IntKind.i64 (0 : Int)))] [(0, En.mk 0 none (Obj.arr 47 z_1 (List.map plD l_1))), (1, En.mk 0 none (Obj.arr 47 false (List.map plD o_1)))] ∧ (List.length l_1 ≤ 1000000 ∧ List.length v_1 ≤ 1000000 ∧ (0 : Int) ≤ i_1 ∧ i_1 < (↑(List.length l_1) : Int)) ∧ ∀ (z' b' : Bool), b' = (b || List.any l_1 (seB l_1 v_1 (List.getD l_1 (Int.toNat i_1) pl0))) → bif b' then bif decide ((0 : Int) ≤ i_1 ∧ i_1 < (↑(List.length l_1) : Int)) then bif decide (Int.toNat i_1 < List.length (List.map plD l_1)) then bif isD PR (47 : TypeId) (D.nth (List.map plD l_1) (Int.toNat i_1)) then bif Nat.ble m_1 (List.length (List.map plD o_1)) && roomOk (m_1 + List.length [D.agg [D.int IntKind.i64 (D.iVal (D.cAt (D.nth (List.map plD l_1) (Int.toNat i_1)) 0)), D.int IntKind.i64 (D.iVal (D.cAt (D.nth (List.map plD l_1) (Int.toNat i_1)) 1)), D.int IntKind.i64 (D.iVal (D.cAt (D.nth (List.map plD l_1) (Int.toNat i_1)) 2)), D.int IntKind.i64 (D.iVal (D.cAt (D.nth (List.map plD l_1) (Int.toNat i_1)) 3)), D.int IntKind.i64 (D.iVal (D.cAt (D.nth (List.map plD l_1) (Int.toNat i_1)) 4)), D.int IntKind.i64 (D.iVal (D.cAt (D.nth (List.map plD l_1) (Int.toNat i_1)) 5)), D.str (D.sVal (D.cAt (D.nth (List.map plD l_1) (Int.toNat i_1)) 6)), D.bool (D.bVal (D.cAt (D.nth (List.map plD l_1) (Int.toNat i_1)) 7))]]) 72 then bif decide ((-9223372036854775808 : Int) ≤ i_1 + (1 : Int) ∧ i_1 + (1 : Int) ≤ (9223372036854775807 : Int)) then post (PX.normal, S.mk 62 [(0, P.sl 0 0 (List.length l_1)), (1, P.d (D.sl 3 (List.map ixD v_1))), (5, P.sl 1 0 (m_1 + List.length [D.agg [D.int IntKind.i64 (D.iVal (D.cAt (D.nth (List.map plD l_1) (Int.toNat i_1)) 0)), D.int IntKind.i64 (D.iVal (D.cAt (D.nth (List.map plD l_1) (Int.toNat i_1)) 1)), D.int IntKind.i64 (D.iVal (D.cAt (D.nth (List.map plD l_1) (Int.toNat i_1)) 2)), D.int IntKind.i64 (D.iVal (D.cAt (D.nth (List.map plD l_1) (Int.toNat i_1)) 3)), D.int IntKind.i64 (D.iVal (D.cAt (D.nth (List.map plD l_1) (Int.toNat i_1)) 4)), D.int IntKind.i64 (D.iVal (D.cAt (D.nth (List.map plD l_1) (Int.toNat i_1)) 5)), D.str (D.sVal (D.cAt (D.nth (List.map plD l_1) (Int.toNat i_1)) 6)), D.bool (D.bVal (D.cAt (D.nth (List.map plD l_1) (Int.toNat i_1)) 7))]])), (6, P.d (D.int IntKind.i64 (i_1 + (1 : Int))))] [(0, En.mk 0 none (Obj.arr 47 z' (List.map plD l_1))), (1, En.mk 0 none (Obj.arr 47 false (List.take m_1 (List.map plD o_1) ++ [D.agg [D.int IntKind.i64 (D.iVal (D.cAt (D.nth (List.map plD l_1) (Int.toNat i_1)) 0)), D.int IntKind.i64 (D.iVal (D.cAt (D.nth (List.map plD l_1) (Int.toNat i_1)) 1)), D.int IntKind.i64 (D.iVal (D.cAt (D.nth (List.map plD l_1) (Int.toNat i_1)) 2)), D.int IntKind.i64 (D.iVal (D.cAt (D.nth (List.map plD l_1) (Int.toNat i_1)) 3)), D.int IntKind.i64 (D.iVal (D.cAt (D.nth (List.map plD l_1) (Int.toNat i_1)) 4)), D.int IntKind.i64 (D.iVal (D.cAt (D.nth (List.map plD l_1) (Int.toNat i_1)) 5)), D.str (D.sVal (D.cAt (D.nth (List.map plD l_1) (Int.toNat i_1)) 6)), D.bool (D.bVal (D.cAt (D.nth (List.map plD l_1) (Int.toNat i_1)) 7))]])))]) else False else False else False else False else False else bif decide ((-9223372036854775808 : Int) ≤ i_1 + (1 : Int) ∧ i_1 + (1 : Int) ≤ (9223372036854775807 : Int)) then post (PX.normal, S.mk 62 [(0, P.sl 0 0 (List.length l_1)), (1, P.d (D.sl 3 (List.map ixD v_1))), (5, P.sl 1 0 m_1), (6, P.d (D.int IntKind.i64 (i_1 + (1 : Int))))] [(0, En.mk 0 none (Obj.arr 47 z' (List.map plD l_1))), (1, En.mk 0 none (Obj.arr 47 false (List.map plD o_1)))]) else False else post (PX.exit 0, S.mk 62 [(5, P.sl 0 0 m)] [(0, En.mk 0 none (Obj.arr 47 false (List.map plD o)))])) = (roundL [] [(8, loopHook (kpF 33 8) gSkI)] 33 4 (skH z l n v o m i)) post := by kernel_rfl
def gSkH : S → K (PX × S) := fun s post => ∃ l v, s = skH false (tkL l) (tkL l).length v [] 0 0 ∧ (l.length ≤ 1000000 ∧ v.length ≤ 1000000) ∧ post (.exit 0, ⟨62, [(5, .sl 0 0 (seenL (tkL l) v).length)], arP 0 false (seenL (tkL l) v)⟩)
theorem vcSk (l : List Pl) (v : List Id3) (post : P × List (Nat × En) → Prop) : (∃ (l_1 : List Pl), [P.d (D.sl 8 (List.map plD l))] = [P.d (D.sl 8 (List.map plD l_1))] ∧ EqR [] [] ∧ List.length l_1 ≤ 1000000 ∧ ∃ (l : List Pl), ∃ (v_1 : List Id3), S.mk 62 [(0, P.sl 0 0 (List.length (tkL l_1))), (1, P.d (D.sl 3 (List.map ixD v))), (5, P.sl 1 0 0), (6, P.d (D.int IntKind.i64 (0 : Int)))] [(0, En.mk 0 none (Obj.arr 47 false (List.map plD (tkL l_1)))), (1, En.mk 0 none (Obj.arr 47 false []))] = S.mk 62 [(0, P.sl 0 0 (List.length (tkL l))), (1, P.d (D.sl 3 (List.map ixD v_1))), (5, P.sl 1 0 0), (6, P.d (D.int IntKind.i64 (0 : Int)))] [(0, En.mk 0 none (Obj.arr 47 false (List.map plD (tkL l)))), (1, En.mk 0 none (Obj.arr 47 false []))] ∧ (List.length l ≤ 1000000 ∧ List.length v_1 ≤ 1000000) ∧ post (P.sl 0 0 (List.length (seenL (tkL l) v_1)), [(0, En.mk 0 none (Obj.arr 47 false (List.map plD (seenL (tkL l) v_1))))])) = (bodyF [(56, hRi)] [(4, loopHook (kpF 33 4) gSkH)] 33 [plsP l, idsP v] []) post := by kernel_rfl
def hSeenR : KF1 := fun ps R post => ∃ l v, ps = [plsP l, idsP v] ∧ R = [] ∧ (l.length ≤ 1000000 ∧ v.length ≤ 1000000) ∧ post (.sl 0 0 (seenL (tkL l) v).length, arP 0 false (seenL (tkL l) v))
abbrev imH (z : Bool) (l : List Pl) (n : Nat) (v : List Id3) (o : List It) (m : Nat) (i : Int) : S := ⟨77, [(1, idsP v), (5, .sl 0 0 n), (6, .sl 1 0 m), (7, iD i)], arP 0 z l ++ arI 1 o⟩
abbrev imI (z : Bool) (l : List Pl) (n : Nat) (v : List Id3) (o : List It) (m : Nat) (i k : Int) : S := ⟨77, [(1, idsP v), (5, .sl 0 0 n), (6, .sl 1 0 m), (7, iD i), (9, iD k)], arP 0 z l ++ arI 1 o⟩
def gImI : S → K (PX × S) := fun s post => ∃ z l n v o a i k, s = imI z l n v (o ++ [a]) (o.length + 1) i k ∧ (k = (o.length : Int) ∧ o.length ≤ 1000000) ∧ post (.exit 2, imH z l n v (insR ltP o a) (o.length + 1) i)
theorem vcImI (z : Bool) (l : List Pl) (n : Nat) (v : List Id3) (o : List It) (m : Nat) (i k : Int) (post : PX × S → Prop) : (bif decide (k > (0 : Int)) then bif decide ((0 : Int) ≤ k ∧ k < (↑m : Int)) then bif decide (Int.toNat k < List.length (List.map itmD o)) then bif isD PR (43 : TypeId) (D.nth (List.map itmD o) (Int.toNat k)) then bif decide ((-9223372036854775808 : Int) ≤ k - (1 : Int) ∧ k - (1 : Int) ≤ (9223372036854775807 : Int)) then bif decide ((0 : Int) ≤ k - (1 : Int) ∧ k - (1 : Int) < (↑m : Int)) then bif decide (Int.toNat (k - (1 : Int)) < List.length (List.map itmD o)) then bif isD PR (43 : TypeId) (D.nth (List.map itmD o) (Int.toNat (k - (1 : Int)))) then bif Op.bytesLess (D.sVal (D.cAt (D.nth (List.map itmD o) (Int.toNat k)) 3)) (D.sVal (D.cAt (D.nth (List.map itmD o) (Int.toNat (k - (1 : Int)))) 3)) then bif decide ((-9223372036854775808 : Int) ≤ k - (1 : Int) ∧ k - (1 : Int) ≤ (9223372036854775807 : Int)) then bif decide ((-9223372036854775808 : Int) ≤ k - (1 : Int) ∧ k - (1 : Int) ≤ (9223372036854775807 : Int)) then bif decide ((0 : Int) ≤ k - (1 : Int) ∧ k - (1 : Int) < (↑m : Int)) then bif decide (Int.toNat (k - (1 : Int)) < List.length (List.map itmD o)) then bif isD PR (43 : TypeId) (D.nth (List.map itmD o) (Int.toNat (k - (1 : Int)))) then bif decide ((0 : Int) ≤ k ∧ k < (↑m : Int)) then bif decide (Int.toNat k < List.length (List.map itmD o)) then bif isD PR (43 : TypeId) (D.nth (List.map itmD o) (Int.toNat k)) then bif decide ((0 : Int) ≤ k ∧ k < (↑m : Int)) then bif decide (Int.toNat k < List.length (List.map itmD o)) then bif isD PR (43 : TypeId) (D.nth (List.map itmD o) (Int.toNat k)) then bif decide ((0 : Int) ≤ k - (1 : Int) ∧ k - (1 : Int) < (↑m : Int)) then bif decide (Int.toNat (k - (1 : Int)) < List.length (List.set (List.map itmD o) (Int.toNat k) (D.withCells (D.agg [D.int IntKind.i64 (D.iVal (D.cAt (D.nth (List.map itmD o) (Int.toNat k)) 0)), D.int IntKind.i64 (D.iVal (D.cAt (D.nth (List.map itmD o) (Int.toNat k)) 1)), D.int IntKind.i64 (D.iVal (D.cAt (D.nth (List.map itmD o) (Int.toNat k)) 2)), D.str (D.sVal (D.cAt (D.nth (List.map itmD o) (Int.toNat k)) 3)), D.bool (D.bVal (D.cAt (D.nth (List.map itmD o) (Int.toNat k)) 4)), D.bool (D.bVal (D.cAt (D.nth (List.map itmD o) (Int.toNat k)) 5))]) [D.int IntKind.i64 (D.iVal (D.cAt (D.nth (List.map itmD o) (Int.toNat (k - (1 : Int)))) 0)), D.int IntKind.i64 (D.iVal (D.cAt (D.nth (List.map itmD o) (Int.toNat (k - (1 : Int)))) 1)), D.int IntKind.i64 (D.iVal (D.cAt (D.nth (List.map itmD o) (Int.toNat (k - (1 : Int)))) 2)), D.str (D.sVal (D.cAt (D.nth (List.map itmD o) (Int.toNat (k - (1 : Int)))) 3)), D.bool (D.bVal (D.cAt (D.nth (List.map itmD o) (Int.toNat (k - (1 : Int)))) 4)), D.bool (D.bVal (D.cAt (D.nth (List.map itmD o) (Int.toNat (k - (1 : Int)))) 5))]))) then bif isD PR (43 : TypeId) (D.nth (List.set (List.map itmD o) (Int.toNat k) (D.withCells (D.agg [D.int IntKind.i64 (D.iVal (D.cAt (D.nth (List.map itmD o) (Int.toNat k)) 0)), D.int IntKind.i64 (D.iVal (D.cAt (D.nth (List.map itmD o) (Int.toNat k)) 1)), D.int IntKind.i64 (D.iVal (D.cAt (D.nth (List.map itmD o) (Int.toNat k)) 2)), D.str (D.sVal (D.cAt (D.nth (List.map itmD o) (Int.toNat k)) 3)), D.bool (D.bVal (D.cAt (D.nth (List.map itmD o) (Int.toNat k)) 4)), D.bool (D.bVal (D.cAt (D.nth (List.map itmD o) (Int.toNat k)) 5))]) [D.int IntKind.i64 (D.iVal (D.cAt (D.nth (List.map itmD o) (Int.toNat (k - (1 : Int)))) 0)), D.int IntKind.i64 (D.iVal (D.cAt (D.nth (List.map itmD o) (Int.toNat (k - (1 : Int)))) 1)), D.int IntKind.i64 (D.iVal (D.cAt (D.nth (List.map itmD o) (Int.toNat (k - (1 : Int)))) 2)), D.str (D.sVal (D.cAt (D.nth (List.map itmD o) (Int.toNat (k - (1 : Int)))) 3)), D.bool (D.bVal (D.cAt (D.nth (List.map itmD o) (Int.toNat (k - (1 : Int)))) 4)), D.bool (D.bVal (D.cAt (D.nth (List.map itmD o) (Int.toNat (k - (1 : Int)))) 5))])) (Int.toNat (k - (1 : Int)))) then bif decide ((-9223372036854775808 : Int) ≤ k - (1 : Int) ∧ k - (1 : Int) ≤ (9223372036854775807 : Int)) then post (PX.normal, S.mk 77 [(1, P.d (D.sl 3 (List.map ixD v))), (5, P.sl 0 0 n), (6, P.sl 1 0 m), (7, P.d (D.int IntKind.i64 i)), (9, P.d (D.int IntKind.i64 (k - (1 : Int))))] [(0, En.mk 0 none (Obj.arr 47 z (List.map plD l))), (1, En.mk 0 none (Obj.arr 43 false (List.set (List.set (List.map itmD o) (Int.toNat k) (D.withCells (D.agg [D.int IntKind.i64 (D.iVal (D.cAt (D.nth (List.map itmD o) (Int.toNat k)) 0)), D.int IntKind.i64 (D.iVal (D.cAt (D.nth (List.map itmD o) (Int.toNat k)) 1)), D.int IntKind.i64 (D.iVal (D.cAt (D.nth (List.map itmD o) (Int.toNat k)) 2)), D.str (D.sVal (D.cAt (D.nth (List.map itmD o) (Int.toNat k)) 3)), D.bool (D.bVal (D.cAt (D.nth (List.map itmD o) (Int.toNat k)) 4)), D.bool (D.bVal (D.cAt (D.nth (List.map itmD o) (Int.toNat k)) 5))]) [D.int IntKind.i64 (D.iVal (D.cAt (D.nth (List.map itmD o) (Int.toNat (k - (1 : Int)))) 0)), D.int IntKind.i64 (D.iVal (D.cAt (D.nth (List.map itmD o) (Int.toNat (k - (1 : Int)))) 1)), D.int IntKind.i64 (D.iVal (D.cAt (D.nth (List.map itmD o) (Int.toNat (k - (1 : Int)))) 2)), D.str (D.sVal (D.cAt (D.nth (List.map itmD o) (Int.toNat (k - (1 : Int)))) 3)), D.bool (D.bVal (D.cAt (D.nth (List.map itmD o) (Int.toNat (k - (1 : Int)))) 4)), D.bool (D.bVal (D.cAt (D.nth (List.map itmD o) (Int.toNat (k - (1 : Int)))) 5))])) (Int.toNat (k - (1 : Int))) (D.withCells (D.agg [D.int IntKind.i64 (D.iVal (D.cAt (D.nth (List.set (List.map itmD o) (Int.toNat k) (D.withCells (D.agg [D.int IntKind.i64 (D.iVal (D.cAt (D.nth (List.map itmD o) (Int.toNat k)) 0)), D.int IntKind.i64 (D.iVal (D.cAt (D.nth (List.map itmD o) (Int.toNat k)) 1)), D.int IntKind.i64 (D.iVal (D.cAt (D.nth (List.map itmD o) (Int.toNat k)) 2)), D.str (D.sVal (D.cAt (D.nth (List.map itmD o) (Int.toNat k)) 3)), D.bool (D.bVal (D.cAt (D.nth (List.map itmD o) (Int.toNat k)) 4)), D.bool (D.bVal (D.cAt (D.nth (List.map itmD o) (Int.toNat k)) 5))]) [D.int IntKind.i64 (D.iVal (D.cAt (D.nth (List.map itmD o) (Int.toNat (k - (1 : Int)))) 0)), D.int IntKind.i64 (D.iVal (D.cAt (D.nth (List.map itmD o) (Int.toNat (k - (1 : Int)))) 1)), D.int IntKind.i64 (D.iVal (D.cAt (D.nth (List.map itmD o) (Int.toNat (k - (1 : Int)))) 2)), D.str (D.sVal (D.cAt (D.nth (List.map itmD o) (Int.toNat (k - (1 : Int)))) 3)), D.bool (D.bVal (D.cAt (D.nth (List.map itmD o) (Int.toNat (k - (1 : Int)))) 4)), D.bool (D.bVal (D.cAt (D.nth (List.map itmD o) (Int.toNat (k - (1 : Int)))) 5))])) (Int.toNat (k - (1 : Int)))) 0)), D.int IntKind.i64 (D.iVal (D.cAt (D.nth (List.set (List.map itmD o) (Int.toNat k) (D.withCells (D.agg [D.int IntKind.i64 (D.iVal (D.cAt (D.nth (List.map itmD o) (Int.toNat k)) 0)), D.int IntKind.i64 (D.iVal (D.cAt (D.nth (List.map itmD o) (Int.toNat k)) 1)), D.int IntKind.i64 (D.iVal (D.cAt (D.nth (List.map itmD o) (Int.toNat k)) 2)), D.str (D.sVal (D.cAt (D.nth (List.map itmD o) (Int.toNat k)) 3)), D.bool (D.bVal (D.cAt (D.nth (List.map itmD o) (Int.toNat k)) 4)), D.bool (D.bVal (D.cAt (D.nth (List.map itmD o) (Int.toNat k)) 5))]) [D.int IntKind.i64 (D.iVal (D.cAt (D.nth (List.map itmD o) (Int.toNat (k - (1 : Int)))) 0)), D.int IntKind.i64 (D.iVal (D.cAt (D.nth (List.map itmD o) (Int.toNat (k - (1 : Int)))) 1)), D.int IntKind.i64 (D.iVal (D.cAt (D.nth (List.map itmD o) (Int.toNat (k - (1 : Int)))) 2)), D.str (D.sVal (D.cAt (D.nth (List.map itmD o) (Int.toNat (k - (1 : Int)))) 3)), D.bool (D.bVal (D.cAt (D.nth (List.map itmD o) (Int.toNat (k - (1 : Int)))) 4)), D.bool (D.bVal (D.cAt (D.nth (List.map itmD o) (Int.toNat (k - (1 : Int)))) 5))])) (Int.toNat (k - (1 : Int)))) 1)), D.int IntKind.i64 (D.iVal (D.cAt (D.nth (List.set (List.map itmD o) (Int.toNat k) (D.withCells (D.agg [D.int IntKind.i64 (D.iVal (D.cAt (D.nth (List.map itmD o) (Int.toNat k)) 0)), D.int IntKind.i64 (D.iVal (D.cAt (D.nth (List.map itmD o) (Int.toNat k)) 1)), D.int IntKind.i64 (D.iVal (D.cAt (D.nth (List.map itmD o) (Int.toNat k)) 2)), D.str (D.sVal (D.cAt (D.nth (List.map itmD o) (Int.toNat k)) 3)), D.bool (D.bVal (D.cAt (D.nth (List.map itmD o) (Int.toNat k)) 4)), D.bool (D.bVal (D.cAt (D.nth (List.map itmD o) (Int.toNat k)) 5))]) [D.int IntKind.i64 (D.iVal (D.cAt (D.nth (List.map itmD o) (Int.toNat (k - (1 : Int)))) 0)), D.int IntKind.i64 (D.iVal (D.cAt (D.nth (List.map itmD o) (Int.toNat (k - (1 : Int)))) 1)), D.int IntKind.i64 (D.iVal (D.cAt (D.nth (List.map itmD o) (Int.toNat (k - (1 : Int)))) 2)), D.str (D.sVal (D.cAt (D.nth (List.map itmD o) (Int.toNat (k - (1 : Int)))) 3)), D.bool (D.bVal (D.cAt (D.nth (List.map itmD o) (Int.toNat (k - (1 : Int)))) 4)), D.bool (D.bVal (D.cAt (D.nth (List.map itmD o) (Int.toNat (k - (1 : Int)))) 5))])) (Int.toNat (k - (1 : Int)))) 2)), D.str (D.sVal (D.cAt (D.nth (List.set (List.map itmD o) (Int.toNat k) (D.withCells (D.agg [D.int IntKind.i64 (D.iVal (D.cAt (D.nth (List.map itmD o) (Int.toNat k)) 0)), D.int IntKind.i64 (D.iVal (D.cAt (D.nth (List.map itmD o) (Int.toNat k)) 1)), D.int IntKind.i64 (D.iVal (D.cAt (D.nth (List.map itmD o) (Int.toNat k)) 2)), D.str (D.sVal (D.cAt (D.nth (List.map itmD o) (Int.toNat k)) 3)), D.bool (D.bVal (D.cAt (D.nth (List.map itmD o) (Int.toNat k)) 4)), D.bool (D.bVal (D.cAt (D.nth (List.map itmD o) (Int.toNat k)) 5))]) [D.int IntKind.i64 (D.iVal (D.cAt (D.nth (List.map itmD o) (Int.toNat (k - (1 : Int)))) 0)), D.int IntKind.i64 (D.iVal (D.cAt (D.nth (List.map itmD o) (Int.toNat (k - (1 : Int)))) 1)), D.int IntKind.i64 (D.iVal (D.cAt (D.nth (List.map itmD o) (Int.toNat (k - (1 : Int)))) 2)), D.str (D.sVal (D.cAt (D.nth (List.map itmD o) (Int.toNat (k - (1 : Int)))) 3)), D.bool (D.bVal (D.cAt (D.nth (List.map itmD o) (Int.toNat (k - (1 : Int)))) 4)), D.bool (D.bVal (D.cAt (D.nth (List.map itmD o) (Int.toNat (k - (1 : Int)))) 5))])) (Int.toNat (k - (1 : Int)))) 3)), D.bool (D.bVal (D.cAt (D.nth (List.set (List.map itmD o) (Int.toNat k) (D.withCells (D.agg [D.int IntKind.i64 (D.iVal (D.cAt (D.nth (List.map itmD o) (Int.toNat k)) 0)), D.int IntKind.i64 (D.iVal (D.cAt (D.nth (List.map itmD o) (Int.toNat k)) 1)), D.int IntKind.i64 (D.iVal (D.cAt (D.nth (List.map itmD o) (Int.toNat k)) 2)), D.str (D.sVal (D.cAt (D.nth (List.map itmD o) (Int.toNat k)) 3)), D.bool (D.bVal (D.cAt (D.nth (List.map itmD o) (Int.toNat k)) 4)), D.bool (D.bVal (D.cAt (D.nth (List.map itmD o) (Int.toNat k)) 5))]) [D.int IntKind.i64 (D.iVal (D.cAt (D.nth (List.map itmD o) (Int.toNat (k - (1 : Int)))) 0)), D.int IntKind.i64 (D.iVal (D.cAt (D.nth (List.map itmD o) (Int.toNat (k - (1 : Int)))) 1)), D.int IntKind.i64 (D.iVal (D.cAt (D.nth (List.map itmD o) (Int.toNat (k - (1 : Int)))) 2)), D.str (D.sVal (D.cAt (D.nth (List.map itmD o) (Int.toNat (k - (1 : Int)))) 3)), D.bool (D.bVal (D.cAt (D.nth (List.map itmD o) (Int.toNat (k - (1 : Int)))) 4)), D.bool (D.bVal (D.cAt (D.nth (List.map itmD o) (Int.toNat (k - (1 : Int)))) 5))])) (Int.toNat (k - (1 : Int)))) 4)), D.bool (D.bVal (D.cAt (D.nth (List.set (List.map itmD o) (Int.toNat k) (D.withCells (D.agg [D.int IntKind.i64 (D.iVal (D.cAt (D.nth (List.map itmD o) (Int.toNat k)) 0)), D.int IntKind.i64 (D.iVal (D.cAt (D.nth (List.map itmD o) (Int.toNat k)) 1)), D.int IntKind.i64 (D.iVal (D.cAt (D.nth (List.map itmD o) (Int.toNat k)) 2)), D.str (D.sVal (D.cAt (D.nth (List.map itmD o) (Int.toNat k)) 3)), D.bool (D.bVal (D.cAt (D.nth (List.map itmD o) (Int.toNat k)) 4)), D.bool (D.bVal (D.cAt (D.nth (List.map itmD o) (Int.toNat k)) 5))]) [D.int IntKind.i64 (D.iVal (D.cAt (D.nth (List.map itmD o) (Int.toNat (k - (1 : Int)))) 0)), D.int IntKind.i64 (D.iVal (D.cAt (D.nth (List.map itmD o) (Int.toNat (k - (1 : Int)))) 1)), D.int IntKind.i64 (D.iVal (D.cAt (D.nth (List.map itmD o) (Int.toNat (k - (1 : Int)))) 2)), D.str (D.sVal (D.cAt (D.nth (List.map itmD o) (Int.toNat (k - (1 : Int)))) 3)), D.bool (D.bVal (D.cAt (D.nth (List.map itmD o) (Int.toNat (k - (1 : Int)))) 4)), D.bool (D.bVal (D.cAt (D.nth (List.map itmD o) (Int.toNat (k - (1 : Int)))) 5))])) (Int.toNat (k - (1 : Int)))) 5))]) [D.int IntKind.i64 (D.iVal (D.cAt (D.nth (List.map itmD o) (Int.toNat k)) 0)), D.int IntKind.i64 (D.iVal (D.cAt (D.nth (List.map itmD o) (Int.toNat k)) 1)), D.int IntKind.i64 (D.iVal (D.cAt (D.nth (List.map itmD o) (Int.toNat k)) 2)), D.str (D.sVal (D.cAt (D.nth (List.map itmD o) (Int.toNat k)) 3)), D.bool (D.bVal (D.cAt (D.nth (List.map itmD o) (Int.toNat k)) 4)), D.bool (D.bVal (D.cAt (D.nth (List.map itmD o) (Int.toNat k)) 5))]))))]) else False else False else False else False else False else False else False else False else False else False else False else False else False else False else False else post (PX.exit 2, S.mk 77 [(1, P.d (D.sl 3 (List.map ixD v))), (5, P.sl 0 0 n), (6, P.sl 1 0 m), (7, P.d (D.int IntKind.i64 i))] [(0, En.mk 0 none (Obj.arr 47 z (List.map plD l))), (1, En.mk 0 none (Obj.arr 43 false (List.map itmD o)))]) else False else False else False else False else False else False else False else post (PX.exit 2, S.mk 77 [(1, P.d (D.sl 3 (List.map ixD v))), (5, P.sl 0 0 n), (6, P.sl 1 0 m), (7, P.d (D.int IntKind.i64 i))] [(0, En.mk 0 none (Obj.arr 47 z (List.map plD l))), (1, En.mk 0 none (Obj.arr 43 false (List.map itmD o)))])) = (roundL [] [] 13 9 (imI z l n v o m i k)) post := by kernel_rfl
theorem vcImH (z : Bool) (l : List Pl) (n : Nat) (v : List Id3) (o : List It) (m : Nat) (i : Int) (post : PX × S → Prop) : (bif decide (i < (↑n : Int)) then bif decide ((0 : Int) ≤ i ∧ i < (↑n : Int)) then bif decide (Int.toNat i < List.length (List.map plD l)) then bif isD PR (47 : TypeId) (D.nth (List.map plD l) (Int.toNat i)) then ∃ (T : List Pl), ∃ (V : List Id3), ∃ (p : Pl), [P.d (D.sl 8 (List.take n (List.map plD l))), P.d (D.agg [D.int IntKind.i64 (D.iVal (D.cAt (D.nth (List.map plD l) (Int.toNat i)) 0)), D.int IntKind.i64 (D.iVal (D.cAt (D.nth (List.map plD l) (Int.toNat i)) 1)), D.int IntKind.i64 (D.iVal (D.cAt (D.nth (List.map plD l) (Int.toNat i)) 2)), D.int IntKind.i64 (D.iVal (D.cAt (D.nth (List.map plD l) (Int.toNat i)) 3)), D.int IntKind.i64 (D.iVal (D.cAt (D.nth (List.map plD l) (Int.toNat i)) 4)), D.int IntKind.i64 (D.iVal (D.cAt (D.nth (List.map plD l) (Int.toNat i)) 5)), D.str (D.sVal (D.cAt (D.nth (List.map plD l) (Int.toNat i)) 6)), D.bool (D.bVal (D.cAt (D.nth (List.map plD l) (Int.toNat i)) 7))])] = [P.d (D.sl 8 (List.map plD (seenL T V))), P.d (D.agg [D.int IntKind.i64 (Prod.fst (Prod.fst p)), D.int IntKind.i64 (Prod.fst (Prod.snd (Prod.fst p))), D.int IntKind.i64 (Prod.snd (Prod.snd (Prod.fst p))), D.int IntKind.i64 (Prod.fst (Prod.fst (Prod.snd p))), D.int IntKind.i64 (Prod.fst (Prod.snd (Prod.fst (Prod.snd p)))), D.int IntKind.i64 (Prod.snd (Prod.snd (Prod.fst (Prod.snd p)))), D.str (Prod.fst (Prod.snd (Prod.snd p))), D.bool (Prod.snd (Prod.snd (Prod.snd p)))])] ∧ EqR [] [] ∧ (List.length T ≤ 1000 ∧ Rt T ∧ p ∈ seenL T V) ∧ ∃ (l_1 : List Id3), ∃ (x : Id3), [P.d (D.sl 3 (List.map ixD v)), P.d (D.agg [D.int IntKind.i64 (D.iVal (D.cAt (D.nth (List.map plD l) (Int.toNat i)) 0)), D.int IntKind.i64 (D.iVal (D.cAt (D.nth (List.map plD l) (Int.toNat i)) 1)), D.int IntKind.i64 (D.iVal (D.cAt (D.nth (List.map plD l) (Int.toNat i)) 2))])] = [P.d (D.sl 3 (List.map ixD l_1)), P.d (D.agg [D.int IntKind.i64 (Prod.fst x), D.int IntKind.i64 (Prod.fst (Prod.snd x)), D.int IntKind.i64 (Prod.snd (Prod.snd x))])] ∧ EqR [] [] ∧ List.length l_1 ≤ 1000000 ∧ bif Nat.ble m (List.length (List.map itmD o)) && roomOk (m + List.length [D.agg [D.int IntKind.i64 (D.iVal (D.cAt (D.nth (List.map plD l) (Int.toNat i)) 0)), D.int IntKind.i64 (D.iVal (D.cAt (D.nth (List.map plD l) (Int.toNat i)) 1)), D.int IntKind.i64 (D.iVal (D.cAt (D.nth (List.map plD l) (Int.toNat i)) 2)), D.str (pathX T V (Prod.fst p)), D.bool (D.bVal (D.cAt (D.nth (List.map plD l) (Int.toNat i)) 7)), D.bool !decide (x ∈ l_1)]]) 48 then bif decide ((-9223372036854775808 : Int) ≤ (↑(m + List.length [D.agg [D.int IntKind.i64 (D.iVal (D.cAt (D.nth (List.map plD l) (Int.toNat i)) 0)), D.int IntKind.i64 (D.iVal (D.cAt (D.nth (List.map plD l) (Int.toNat i)) 1)), D.int IntKind.i64 (D.iVal (D.cAt (D.nth (List.map plD l) (Int.toNat i)) 2)), D.str (pathX T V (Prod.fst p)), D.bool (D.bVal (D.cAt (D.nth (List.map plD l) (Int.toNat i)) 7)), D.bool !decide (x ∈ l_1)]]) : Int) - (1 : Int) ∧ (↑(m + List.length [D.agg [D.int IntKind.i64 (D.iVal (D.cAt (D.nth (List.map plD l) (Int.toNat i)) 0)), D.int IntKind.i64 (D.iVal (D.cAt (D.nth (List.map plD l) (Int.toNat i)) 1)), D.int IntKind.i64 (D.iVal (D.cAt (D.nth (List.map plD l) (Int.toNat i)) 2)), D.str (pathX T V (Prod.fst p)), D.bool (D.bVal (D.cAt (D.nth (List.map plD l) (Int.toNat i)) 7)), D.bool !decide (x ∈ l_1)]]) : Int) - (1 : Int) ≤ (9223372036854775807 : Int)) then ∃ (z : Bool), ∃ (l_2 : List Pl), ∃ (n_1 : Nat), ∃ (v_1 : List Id3), ∃ (o_1 : List It), ∃ (a : It), ∃ (i_1 : Int), ∃ (k : Int), S.mk 77 [(1, P.d (D.sl 3 (List.map ixD v))), (5, P.sl 0 0 n), (6, P.sl 1 0 (m + List.length [D.agg [D.int IntKind.i64 (D.iVal (D.cAt (D.nth (List.map plD l) (Int.toNat i)) 0)), D.int IntKind.i64 (D.iVal (D.cAt (D.nth (List.map plD l) (Int.toNat i)) 1)), D.int IntKind.i64 (D.iVal (D.cAt (D.nth (List.map plD l) (Int.toNat i)) 2)), D.str (pathX T V (Prod.fst p)), D.bool (D.bVal (D.cAt (D.nth (List.map plD l) (Int.toNat i)) 7)), D.bool !decide (x ∈ l_1)]])), (7, P.d (D.int IntKind.i64 i)), (9, P.d (D.int IntKind.i64 ((↑(m + List.length [D.agg [D.int IntKind.i64 (D.iVal (D.cAt (D.nth (List.map plD l) (Int.toNat i)) 0)), D.int IntKind.i64 (D.iVal (D.cAt (D.nth (List.map plD l) (Int.toNat i)) 1)), D.int IntKind.i64 (D.iVal (D.cAt (D.nth (List.map plD l) (Int.toNat i)) 2)), D.str (pathX T V (Prod.fst p)), D.bool (D.bVal (D.cAt (D.nth (List.map plD l) (Int.toNat i)) 7)), D.bool !decide (x ∈ l_1)]]) : Int) - (1 : Int))))] [(0, En.mk 0 none (Obj.arr 47 true (List.map plD l))), (1, En.mk 0 none (Obj.arr 43 false (List.take m (List.map itmD o) ++ [D.agg [D.int IntKind.i64 (D.iVal (D.cAt (D.nth (List.map plD l) (Int.toNat i)) 0)), D.int IntKind.i64 (D.iVal (D.cAt (D.nth (List.map plD l) (Int.toNat i)) 1)), D.int IntKind.i64 (D.iVal (D.cAt (D.nth (List.map plD l) (Int.toNat i)) 2)), D.str (pathX T V (Prod.fst p)), D.bool (D.bVal (D.cAt (D.nth (List.map plD l) (Int.toNat i)) 7)), D.bool !decide (x ∈ l_1)]])))] = S.mk 77 [(1, P.d (D.sl 3 (List.map ixD v_1))), (5, P.sl 0 0 n_1), (6, P.sl 1 0 (List.length o_1 + 1)), (7, P.d (D.int IntKind.i64 i_1)), (9, P.d (D.int IntKind.i64 k))] [(0, En.mk 0 none (Obj.arr 47 z (List.map plD l_2))), (1, En.mk 0 none (Obj.arr 43 false (List.map itmD (o_1 ++ [a]))))] ∧ (k = (↑(List.length o_1) : Int) ∧ List.length o_1 ≤ 1000000) ∧ bif decide ((-9223372036854775808 : Int) ≤ i_1 + (1 : Int) ∧ i_1 + (1 : Int) ≤ (9223372036854775807 : Int)) then post (PX.normal, S.mk 77 [(1, P.d (D.sl 3 (List.map ixD v_1))), (5, P.sl 0 0 n_1), (6, P.sl 1 0 (List.length o_1 + 1)), (7, P.d (D.int IntKind.i64 (i_1 + (1 : Int))))] [(0, En.mk 0 none (Obj.arr 47 z (List.map plD l_2))), (1, En.mk 0 none (Obj.arr 43 false (List.map itmD (insR ltP o_1 a))))]) else False else False else False else False else False else False else post (PX.exit 0, S.mk 77 [(6, P.sl 0 0 m)] [(0, En.mk 0 none (Obj.arr 43 false (List.map itmD o)))])) = (roundL [(34, hPa), (21, hHas)] [(9, loopHook (kpF 13 9) gImI)] 13 4 (imH z l n v o m i)) post := by kernel_rfl
def gImH : S → K (PX × S) := fun s post => ∃ T v, s = imH false (seenL T v) (seenL T v).length v [] 0 0 ∧ (T.length ≤ 1000 ∧ Rt T ∧ v.length ≤ 1000000) ∧ post (.exit 0, ⟨77, [(6, .sl 0 0 (itemsX T v).length)], arI 0 (itemsX T v)⟩)
theorem vcIm (l : List Pl) (v : List Id3) (post : P × List (Nat × En) → Prop) : (∃ (l_1 : List Pl), ∃ (v_1 : List Id3), [P.d (D.sl 8 (List.map plD l)), P.d (D.sl 3 (List.map ixD v))] = [P.d (D.sl 8 (List.map plD l_1)), P.d (D.sl 3 (List.map ixD v_1))] ∧ EqR [] [] ∧ (List.length l_1 ≤ 1000000 ∧ List.length v_1 ≤ 1000000) ∧ ∃ (T : List Pl), ∃ (v_2 : List Id3), S.mk 77 [(1, P.d (D.sl 3 (List.map ixD v))), (5, P.sl 0 0 (List.length (seenL (tkL l_1) v_1))), (6, P.sl 1 0 0), (7, P.d (D.int IntKind.i64 (0 : Int)))] [(0, En.mk 0 none (Obj.arr 47 false (List.map plD (seenL (tkL l_1) v_1)))), (1, En.mk 0 none (Obj.arr 43 false []))] = S.mk 77 [(1, P.d (D.sl 3 (List.map ixD v_2))), (5, P.sl 0 0 (List.length (seenL T v_2))), (6, P.sl 1 0 0), (7, P.d (D.int IntKind.i64 (0 : Int)))] [(0, En.mk 0 none (Obj.arr 47 false (List.map plD (seenL T v_2)))), (1, En.mk 0 none (Obj.arr 43 false []))] ∧ (List.length T ≤ 1000 ∧ Rt T ∧ List.length v_2 ≤ 1000000) ∧ post (P.sl 0 0 (List.length (itemsX T v_2)), [(0, En.mk 0 none (Obj.arr 43 false (List.map itmD (itemsX T v_2))))])) = (bodyF [(33, hSeenR)] [(4, loopHook (kpF 13 4) gImH)] 13 [plsP l, idsP v] []) post := by kernel_rfl
def hItemsR : KF1 := fun ps R post => ∃ l v, ps = [plsP l, idsP v] ∧ R = [] ∧ (l.length ≤ 1000 ∧ v.length ≤ 1000000) ∧ post (.sl 0 0 (itemsX (tkL l) v).length, arI 0 (itemsX (tkL l) v))
end Pi

/- Tree: the document's answer: who is seen, the items. -/
namespace Pi
open Go Go.Proofs
set_option maxRecDepth 100000
theorem rt_root {T : List Pl} (hT : Rt T) : atPl T rootId = none := by
  cases h : atPl T rootId with
  | none => rfl
  | some p =>
    obtain ⟨h1, h2⟩ := atPl_mem h
    have := hT.2 p h1
    simp [okPl, h2, rightId] at this
theorem seB_marked {T : List Pl} {V : List Id3} (hT : Rt T) {p : Pl} (hp : p ∈ T) : T.any (seB T V p) = marked T V p.1 := by
  have hne : p.1 ≠ rootId := fun e => by
    have := hT.2 p hp
    simp [okPl, e, rightId] at this
  have hw : ∀ {x w}, Up T x w → within T x p.1 = decide (p.1 ∈ w) := fun {x w} h => withinF_up h hne (rt_root hT) _ (by have := h.len; omega)
  rw [Bool.eq_iff_iff, List.any_eq_true, marked_iff]
  constructor
  · rintro ⟨q, hq, h⟩
    simp only [seB, Bool.and_eq_true, decide_eq_true_eq] at h
    obtain ⟨⟨h1, h2⟩, h3⟩ := h
    obtain ⟨w, hw'⟩ := rooted_iff.1 h2
    rw [hw hw'] at h3
    exact ⟨q.1, h1, w, hw', by simpa using h3⟩
  · rintro ⟨x, hx, w, hw', hm⟩
    obtain ⟨q, hq⟩ := hw'.at
    obtain ⟨q1, q2⟩ := atPl_mem hq
    refine ⟨q, q1, ?_⟩
    simp only [seB, Bool.and_eq_true, decide_eq_true_eq, q2]
    exact ⟨⟨hx, rooted_iff.2 ⟨w, hw'⟩⟩, by rw [hw hw']; simpa using hm⟩
theorem any_take {α : Type} (f : α → Bool) (l : List α) (d : α) {k : Nat} (h : k < l.length) : (l.take (k + 1)).any f = ((l.take k).any f || f (l.getD k d)) := by
  rw [List.take_add_one, getD_some h d]
  simp
theorem filter_take {α : Type} (f : α → Bool) (l : List α) (d : α) {k : Nat} (h : k < l.length) : (l.take (k + 1)).filter f = (l.take k).filter f ++ (if f (l.getD k d) then [l.getD k d] else []) := by
  rw [List.take_add_one, getD_some h d, List.filter_append]
  simp only [Option.toList_some, List.filter_cons, List.filter_nil]
/-- Two that change places. -/
theorem swap_set {α β : Type} (f : α → β) (pre suf : List α) (b a : α) (u v : β) (hu : u = f b) (hv : v = f a) : (((pre ++ b :: a :: suf).map f).set (pre.length + 1) u).set pre.length v = (pre ++ a :: b :: suf).map f := by
  subst hu
  subst hv
  simp
section
variable {X : XF}
theorem loopSkI : LD X 33 8 (loopHook (kpF 33 8) gSkI) := LD.par (H := [(21, hHas), (20, hRo), (57, hWiL)]) (hk := []) (by kernel_rfl) (by kernel_rfl) (.cons okHas (.cons okRo (.cons okWiL .nil))) .nil
  (A := List Pl × List Id3 × List Pl × Nat × Int × Bool) (B := Bool × Bool × Int) (fun ⟨l, v, o, m, i, _⟩ ⟨z, b, k⟩ => skI z l l.length v o m i b k)
  (fun ⟨l, v, _, _, i, b0⟩ ⟨_, b, k⟩ => l.length ≤ 1000000 ∧ v.length ≤ 1000000 ∧ 0 ≤ i ∧ i < l.length ∧ 0 ≤ k ∧ k ≤ l.length ∧ b = (b0 || (l.take k.toNat).any (seB l v (l.getD i.toNat pl0))))
  (fun ⟨l, _⟩ ⟨_, _, k⟩ => (l.length - k).toNat)
  (fun ⟨l, v, o, m, i, b0⟩ x => ∃ z' b', b' = (b0 || l.any (seB l v (l.getD i.toNat pl0))) ∧ x = (.exit 2, ⟨62, [(0, .sl 0 0 l.length), (1, idsP v), (5, .sl 1 0 m), (6, iD i), (7, .d (.bool b'))], arP 0 z' l ++ arP 1 false o⟩))
  (by
    rintro ⟨l, v, o, m, i, b0⟩ ⟨z, b, k⟩ ⟨hm, hv, hi0, hi, h0, hk, hb⟩
    dsimp only at *
    rw [← vcSkI]
    refine condP (fun h => ?_) fun h => ?_
    · have hkn : k.toNat < l.length := by omega
      have hin : i.toNat < l.length := by omega
      have hany := any_take (seB l v (l.getD i.toNat pl0)) l pl0 hkn
      rw [pl_nth hkn, pl_nth hin]
      generalize l.getD k.toNat pl0 = q at hany
      generalize l.getD i.toNat pl0 = p at hany hb
      have fit : decide ((-9223372036854775808 : Int) ≤ k + (1 : Int) ∧ k + (1 : Int) ≤ (9223372036854775807 : Int)) = true := incI (by omega) (by omega)
      have go : ∀ z' b', b' = (b || seB l v p q) → ∃ m', m' < ((l.length : Int) - k).toNat ∧ ∃ b2 : Bool × Bool × Int, (skI z' l l.length v o m i b' (k + 1) : S) = skI b2.1 l l.length v o m i b2.2.1 b2.2.2 ∧
          (l.length ≤ 1000000 ∧ v.length ≤ 1000000 ∧ 0 ≤ i ∧ i < l.length ∧ 0 ≤ b2.2.2 ∧ b2.2.2 ≤ l.length ∧ b2.2.1 = (b0 || (l.take b2.2.2.toNat).any (seB l v p))) ∧ m' = ((l.length : Int) - b2.2.2).toNat := fun z' b' hb' => ⟨((l.length : Int) - (k + 1)).toNat, by omega, (z', b', k + 1), rfl, ⟨hm, hv, hi0, hi, by simp only; omega, by simp only; omega, by
            simp only
            rw [show (k + 1).toNat = k.toNat + 1 by omega, hany, hb', hb, Bool.or_assoc]⟩, rfl⟩
      have dl : decide (k.toNat < (l.map plD).length) = true := decT (by rw [List.length_map]; exact hkn)
      have di : decide (i.toNat < (l.map plD).length) = true := decT (by rw [List.length_map]; exact hin)
      refine oblP ⟨h0, h⟩ (oblI dl (oblI (isPl q) ⟨v, q.1, rfl, rfl, hv, condI (fun h1 => oblP ⟨h0, h⟩ (oblI dl (oblI (isPl q) ⟨l, q.1, by rw [pl_take]; rfl, rfl, hm, fun b1 hb1 => condI (fun h2 => oblP ⟨h0, h⟩ (oblI dl (oblI (isPl q) (oblP ⟨hi0, hi⟩ (oblI di (oblI (isPl p) ⟨true, l, q.1, p.1, rfl, rfl, hm, fun b2 hb2 => condI (fun h3 => oblI fit (go _ _ ?_)) fun h3 => oblI fit (go _ _ ?_)⟩)))))) fun h2 => oblI fit (go _ _ ?_)⟩))) fun h1 => oblI fit (go _ _ ?_)⟩))
      · unfold seB
        rw [h1, ← hb1, h2, ← hb2, h3]
        simp
      · unfold seB
        rw [h1, ← hb1, h2, ← hb2, h3]
        simp
      · unfold seB
        rw [h1, ← hb1, h2]
        simp
      · unfold seB
        rw [h1]
        simp
    · refine ⟨z, b, ?_, rfl⟩
      rw [hb, List.take_of_length_le (by omega)])
  (by
    rintro s post ⟨z, l, v, o, m, i, b, rfl, ⟨hm, hv, hi0, hi⟩, hp⟩
    refine ⟨(l, v, o, m, i, b), (z, b, 0), rfl, ⟨hm, hv, hi0, hi, by simp, by simp, by simp⟩, ?_⟩
    rintro x ⟨z', b', h1, rfl⟩
    exact hp z' b' h1)
theorem loopSkH : LD X 33 4 (loopHook (kpF 33 4) gSkH) := LD.par (H := []) (hk := [(8, loopHook (kpF 33 8) gSkI)]) (by kernel_rfl) (by kernel_rfl) .nil (.cons loopSkI .nil)
  (A := List Pl × List Id3) (B := Bool × Int) (fun a b => skH b.1 a.1 a.1.length a.2 ((a.1.take b.2.toNat).filter fun p => marked a.1 a.2 p.1) ((a.1.take b.2.toNat).filter fun p => marked a.1 a.2 p.1).length b.2)
  (fun a b => a.1.length ≤ 1000000 ∧ a.2.length ≤ 1000000 ∧ Rt a.1 ∧ 0 ≤ b.2 ∧ b.2 ≤ a.1.length)
  (fun a b => (a.1.length - b.2).toNat)
  (fun a x => x = (.exit 0, ⟨62, [(5, .sl 0 0 (seenL a.1 a.2).length)], arP 0 false (seenL a.1 a.2)⟩))
  (by
    rintro ⟨l, v⟩ ⟨z, i⟩ ⟨hm, hv, hT, h0, hi⟩
    dsimp only at *
    rw [← vcSkH]
    refine condP (fun h => ?_) fun h => ?_
    · have hin : i.toNat < l.length := by omega
      have hft := filter_take (fun p : Pl => marked l v p.1) l pl0 hin
      have hpm : l.getD i.toNat pl0 ∈ l := List.mem_of_getElem? (getD_some hin pl0)
      have hfl : ((l.take i.toNat).filter fun p => marked l v p.1).length ≤ l.length := Nat.le_trans (List.length_filter_le _ _) (by rw [List.length_take]; omega)
      refine ⟨z, l, v, _, _, i, false, rfl, ⟨hm, hv, h0, h⟩, fun z' b' hb' => ?_⟩
      rw [seB_marked hT hpm] at hb'
      rw [pl_nth hin]
      generalize l.getD i.toNat pl0 = p at hft hb'
      generalize hoo : ((l.take i.toNat).filter fun p => marked l v p.1) = o at hft hfl
      have fit : decide ((-9223372036854775808 : Int) ≤ i + (1 : Int) ∧ i + (1 : Int) ≤ (9223372036854775807 : Int)) = true := incI (by omega) (by omega)
      have go : ∀ o', ((l.take (i + 1).toNat).filter fun p => marked l v p.1) = o' → ∃ m', m' < ((l.length : Int) - i).toNat ∧ ∃ b2 : Bool × Int, (skH z' l l.length v o' o'.length (i + 1) : S) = skH b2.1 l l.length v ((l.take b2.2.toNat).filter fun p => marked l v p.1) ((l.take b2.2.toNat).filter fun p => marked l v p.1).length b2.2 ∧
          (l.length ≤ 1000000 ∧ v.length ≤ 1000000 ∧ Rt l ∧ 0 ≤ b2.2 ∧ b2.2 ≤ l.length) ∧ m' = ((l.length : Int) - b2.2).toNat := fun o' ho' => ⟨((l.length : Int) - (i + 1)).toNat, by omega, (z', i + 1), by simp only; rw [ho'], ⟨hm, hv, hT, by simp only; omega, by simp only; omega⟩, rfl⟩
      have hs : (i + 1).toNat = i.toNat + 1 := by omega
      refine condI (fun hb => oblP ⟨h0, h⟩ (oblI (decT (by rw [List.length_map]; exact hin)) (oblI (isPl p) (oblI ?_ (oblI fit ?_))))) fun hb => oblI fit ?_
      · simp [roomOk]
        omega
      · have := go (o ++ [p]) (by rw [hs, hft, if_pos (by rw [← hb, hb']; rfl)])
        rw [pl_take]
        have e1 : (o ++ [p]).length = o.length + 1 := by simp
        have e2 : (o ++ [p]).map plD = o.map plD ++ [plD p] := by simp
        simp only [skH, arP, e1, e2] at this
        exact this
      · exact go o (by
          have : marked l v p.1 = false := by rw [← hb, hb']; rfl
          rw [hs, hft, this]
          simp)
    · rw [List.take_of_length_le (by omega)]
      rfl)
  (by
    rintro s post ⟨l, v, rfl, ⟨hm, hv⟩, hp⟩
    have htl := tkL_len l
    refine ⟨(tkL l, v), (false, 0), rfl, ⟨by simp only; omega, hv, tkL_rt l, by simp, by simp⟩, ?_⟩
    rintro x rfl
    exact hp)
theorem okSeen15 : FD X 33 hSeenR := FD.mk (H := [(56, hRi)]) (hk := [(4, loopHook (kpF 33 4) gSkH)]) (by kernel_rfl) (.cons okRi .nil) (.cons loopSkH .nil) (by
  intro ps R post hh
  obtain ⟨l, v, rfl, rfl, ⟨hm, hv⟩, hp⟩ := hh
  rw [← vcSk]
  exact ⟨l, rfl, rfl, hm, l, v, rfl, ⟨hm, hv⟩, hp⟩)
theorem it_nth' {l : List It} {i : Nat} (h : i < l.length) (x : It) (hx : l[i]? = some x) : D.nth (l.map itmD) i = itmD x := by
  rw [it_nth h it0]
  congr 1
  rw [List.getD_eq_getElem?_getD, hx]
  rfl
theorem loopImI : LD X 13 9 (loopHook (kpF 13 9) gImI) := LD.par (H := []) (hk := []) (by kernel_rfl) (by kernel_rfl) .nil .nil
  (A := Bool × List Pl × Nat × List Id3 × List It × It × Int) (B := List It × List It) (fun ⟨z, l, n, v, o, a, i⟩ ⟨pre, suf⟩ => imI z l n v (pre ++ a :: suf) (o.length + 1) i (pre.length : Int))
  (fun ⟨_, _, _, _, o, a, _⟩ ⟨pre, suf⟩ => o.length ≤ 1000000 ∧ pre.length + suf.length = o.length ∧ (insE ltP a pre.reverse).reverse ++ suf = insR ltP o a)
  (fun _ ⟨pre, _⟩ => pre.length)
  (fun ⟨z, l, n, v, o, a, i⟩ x => x = (.exit 2, imH z l n v (insR ltP o a) (o.length + 1) i))
  (by
    rintro ⟨z, l, n, v, o, a, i⟩ ⟨pre, suf⟩ ⟨hm, hl, hr⟩
    dsimp only at *
    rw [← vcImI]
    rcases List.eq_nil_or_concat pre with rfl | ⟨pre, b, rfl⟩
    · refine condF (decF (by simp)) ?_
      show _ = _
      rw [← hr]
      rfl
    · simp only [List.concat_eq_append] at *
      rw [List.length_append, List.length_singleton] at hl
      have hk1 : (((pre ++ [b]).length : Int)).toNat = pre.length + 1 := by simp
      have hk2 : (((pre ++ [b]).length : Int) - 1).toNat = pre.length := by simp
      rw [hk1, hk2]
      have hlen : (((pre ++ [b]) ++ a :: suf).map itmD).length = pre.length + suf.length + 2 := by simp; omega
      have n1 : D.nth (((pre ++ [b]) ++ a :: suf).map itmD) (pre.length + 1) = itmD a := it_nth' (by simp) _ (by simp)
      have n2 : D.nth (((pre ++ [b]) ++ a :: suf).map itmD) pre.length = itmD b := it_nth' (by simp) _ (by simp)
      have n3 : ∀ u, D.nth ((((pre ++ [b]) ++ a :: suf).map itmD).set (pre.length + 1) u) pre.length = itmD b := fun u => by
        rw [← n2]
        simp only [D.nth, List.getD_eq_getElem?_getD]
        rw [List.getElem?_set_ne (by omega)]
      have hc : (((pre ++ [b]).length : Nat) : Int) = (pre.length : Int) + 1 := by simp
      rw [hc]
      rw [n1, n2]
      simp only [List.length_set, hlen, n3]
      have dl : ∀ x, x < pre.length + suf.length + 2 → decide (x < pre.length + suf.length + 2) = true := fun x h => decT h
      refine condT (decT (by omega)) ?_
      repeat (first
        | refine oblI (decT (show _ ∧ _ from ⟨by omega, by omega⟩)) ?_
        | refine oblI (decT (show _ < _ by omega)) ?_
        | refine oblI (isIt _) ?_)
      refine condI (fun hlt => ?_) fun hlt => ?_
      · repeat (first
          | refine oblI (decT (show _ ∧ _ from ⟨by omega, by omega⟩)) ?_
          | refine oblI (decT (show _ < _ by omega)) ?_
          | refine oblI (isIt _) ?_)
        have hl' : ltP a b = true := hlt
        refine ⟨pre.length, by simp, (pre, b :: suf), ?_, ⟨hm, by simp only [List.length_cons]; omega, ?_⟩, rfl⟩
        · have hsw := swap_set itmD pre suf b a (itmD b) (itmD a) rfl rfl
          show _ = imI z l n v (pre ++ a :: b :: suf) (o.length + 1) i (pre.length : Int)
          have hk3 : (pre.length : Int) + 1 - 1 = (pre.length : Int) := by omega
          rw [hk3]
          simp only [imI, arI]
          rw [← hsw]
          simp only [List.append_assoc, List.singleton_append]
          rfl
        · simp only
          rw [← hr, List.reverse_append, List.reverse_singleton, List.singleton_append, insE, if_pos hl']
          simp
      · have hl' : ¬ ltP a b = true := by rw [show ltP a b = false from hlt]; simp
        show _ = _
        rw [List.reverse_append, List.reverse_singleton, List.singleton_append, insE, if_neg hl'] at hr
        rw [← hr]
        simp)
  (by
    rintro s post ⟨z, l, n, v, o, a, i, k, rfl, ⟨hk, hm⟩, hp⟩
    subst hk
    refine ⟨(z, l, n, v, o, a, i), (o, []), rfl, ⟨hm, by simp, by simp [insR]⟩, ?_⟩
    rintro x rfl
    exact hp)
theorem loopImH : LD X 13 4 (loopHook (kpF 13 4) gImH) := LD.par (H := [(34, hPa), (21, hHas)]) (hk := [(9, loopHook (kpF 13 9) gImI)]) (by kernel_rfl) (by kernel_rfl) (.cons okPa (.cons okHas .nil)) (.cons loopImI .nil)
  (A := List Pl × List Id3) (B := Bool × Int) (fun ⟨T, v⟩ ⟨z, i⟩ => imH z (seenL T v) (seenL T v).length v (sortI ltP (((seenL T v).take i.toNat).map (itemX T v))) (sortI ltP (((seenL T v).take i.toNat).map (itemX T v))).length i)
  (fun ⟨T, v⟩ ⟨_, i⟩ => T.length ≤ 1000 ∧ Rt T ∧ v.length ≤ 1000000 ∧ 0 ≤ i ∧ i ≤ (seenL T v).length)
  (fun ⟨T, v⟩ ⟨_, i⟩ => ((seenL T v).length - i).toNat)
  (fun ⟨T, v⟩ x => x = (.exit 0, ⟨77, [(6, .sl 0 0 (itemsX T v).length)], arI 0 (itemsX T v)⟩))
  (by
    rintro ⟨T, v⟩ ⟨z, i⟩ ⟨hm, hT, hv, h0, hi⟩
    dsimp only at *
    have hsL : (seenL T v).length ≤ T.length := List.length_filter_le _ _
    rw [← vcImH]
    refine condP (fun h => ?_) fun h => ?_
    · have hin : i.toNat < (seenL T v).length := by omega
      have hpm : (seenL T v).getD i.toNat pl0 ∈ seenL T v := List.mem_of_getElem? (getD_some hin pl0)
      have htk : ((seenL T v).take (i + 1).toNat).map (itemX T v) = ((seenL T v).take i.toNat).map (itemX T v) ++ [itemX T v ((seenL T v).getD i.toNat pl0)] := by
        rw [show (i + 1).toNat = i.toNat + 1 by omega, List.take_add_one, getD_some hin pl0]
        simp
      have hol : (sortI ltP (((seenL T v).take i.toNat).map (itemX T v))).length = i.toNat := by
        rw [(sortI_perm _).length_eq, List.length_map, List.length_take]
        omega
      have hso : sortI ltP (((seenL T v).take (i + 1).toNat).map (itemX T v)) = insR ltP (sortI ltP (((seenL T v).take i.toNat).map (itemX T v))) (itemX T v ((seenL T v).getD i.toNat pl0)) := by
        rw [htk]
        unfold sortI
        rw [List.foldl_append]
        rfl
      rw [pl_nth hin]
      generalize (seenL T v).getD i.toNat pl0 = p at hpm hso
      generalize sortI ltP (((seenL T v).take i.toNat).map (itemX T v)) = o at hol hso
      have hnext : (sortI ltP (((seenL T v).take (i + 1).toNat).map (itemX T v))).length = o.length + 1 := by
        rw [hso, (insR_perm _ _).length_eq]
        simp
      have fit : decide ((-9223372036854775808 : Int) ≤ i + (1 : Int) ∧ i + (1 : Int) ≤ (9223372036854775807 : Int)) = true := incI (by omega) (by omega)
      refine oblP ⟨h0, h⟩ (oblI (decT (by rw [List.length_map]; exact hin)) (oblI (isPl p) ⟨T, v, p, by rw [pl_take]; rfl, rfl, ⟨hm, hT, hpm⟩, v, p.1, rfl, rfl, hv, oblI ?_ (oblI ?_ ⟨true, seenL T v, (seenL T v).length, v, o, itemX T v p, i, ((o.length + 1 : Nat) : Int) - 1, ?_, ⟨by omega, by omega⟩, oblI fit ⟨((seenL T v).length - (i + 1)).toNat, by omega, (true, i + 1), ?_, ⟨hm, hT, hv, by simp only; omega, by simp only; omega⟩, rfl⟩⟩)⟩))
      · simp [roomOk]
        omega
      · refine decT (show (-9223372036854775808 : Int) ≤ ((o.length + 1 : Nat) : Int) - 1 ∧ ((o.length + 1 : Nat) : Int) - 1 ≤ 9223372036854775807 from ⟨by omega, by omega⟩)
      · have e2 : (o ++ [itemX T v p]).map itmD = (o.map itmD).take o.length ++ [itmD (itemX T v p)] := by
          rw [List.take_of_length_le (by simp)]
          simp
        rw [e2]
        rfl
      · simp only
        rw [hnext, hso]
        rfl
    · have hseen : (seenL T v).take i.toNat = seenL T v := List.take_of_length_le (by omega)
      rw [hseen]
      rfl)
  (by
    rintro s post ⟨T, v, rfl, ⟨hm, hT, hv⟩, hp⟩
    refine ⟨(T, v), (false, 0), rfl, ⟨hm, hT, hv, by simp, by simp⟩, ?_⟩
    rintro x rfl
    exact hp)
theorem okItemsR : FD X 13 hItemsR := FD.mk (H := [(33, hSeenR)]) (hk := [(4, loopHook (kpF 13 4) gImH)]) (by kernel_rfl) (.cons okSeen15 .nil) (.cons loopImH .nil) (by
  intro ps R post hh
  obtain ⟨l, v, rfl, rfl, ⟨hm, hv⟩, hp⟩ := hh
  rw [← vcIm]
  have htl := tkL_len l
  exact ⟨l, v, rfl, rfl, ⟨by omega, hv⟩, tkL l, v, rfl, ⟨by omega, tkL_rt l, hv⟩, hp⟩)
end
end Pi

/- Tree: the laws: what the runs ask. -/
namespace Pi
open Go Go.Proofs
set_option maxRecDepth 100000
set_option maxHeartbeats 0
def hAwake15 : KF1 := fun ps R post => ps = [] ∧ R = [] ∧ post (.d (.bool true), [])
theorem vcAw15  (post : P × List (Nat × En) → Prop) : (∃ (l : List Pl), ∃ (live : List Id3), [P.d (D.sl 8 [D.agg [D.int IntKind.i64 (1 : Int), D.int IntKind.i64 (1 : Int), D.int IntKind.i64 (0 : Int), D.int IntKind.i64 (0 : Int), D.int IntKind.i64 (0 : Int), D.int IntKind.i64 (0 : Int), D.str [(100 : UInt8)], D.bool true], D.agg [D.int IntKind.i64 (2 : Int), D.int IntKind.i64 (1 : Int), D.int IntKind.i64 (0 : Int), D.int IntKind.i64 (1 : Int), D.int IntKind.i64 (1 : Int), D.int IntKind.i64 (0 : Int), D.str [(102 : UInt8)], D.bool false], D.agg [D.int IntKind.i64 (3 : Int), D.int IntKind.i64 (1 : Int), D.int IntKind.i64 (0 : Int), D.int IntKind.i64 (1 : Int), D.int IntKind.i64 (1 : Int), D.int IntKind.i64 (0 : Int), D.str [(102 : UInt8)], D.bool false]]), P.d (D.sl 3 [D.agg [D.int IntKind.i64 (2 : Int), D.int IntKind.i64 (1 : Int), D.int IntKind.i64 (0 : Int)], D.agg [D.int IntKind.i64 (3 : Int), D.int IntKind.i64 (1 : Int), D.int IntKind.i64 (0 : Int)]])] = [P.d (D.sl 8 (List.map plD l)), P.d (D.sl 3 (List.map ixD live))] ∧ EqR [] [] ∧ (List.length l ≤ 1000 ∧ List.length live ≤ 1000) ∧ ∃ (l_1 : List It), ∃ (m : List It), [P.d (D.sl 6 (List.take (List.length (itemsX (tkL l) (lvL live))) (List.map itmD (itemsX (tkL l) (lvL live))))), P.d (D.sl 6 [D.agg [D.int IntKind.i64 (1 : Int), D.int IntKind.i64 (1 : Int), D.int IntKind.i64 (0 : Int), D.str [(47 : UInt8), (100 : UInt8)], D.bool true, D.bool true], D.agg [D.int IntKind.i64 (2 : Int), D.int IntKind.i64 (1 : Int), D.int IntKind.i64 (0 : Int), D.str [(47 : UInt8), (100 : UInt8), (47 : UInt8), (102 : UInt8)], D.bool false, D.bool false], D.agg [D.int IntKind.i64 (3 : Int), D.int IntKind.i64 (1 : Int), D.int IntKind.i64 (0 : Int), D.str [(47 : UInt8), (100 : UInt8), (47 : UInt8), (102 : UInt8), (126 : UInt8), (51 : UInt8), (46 : UInt8), (49 : UInt8), (46 : UInt8), (48 : UInt8)], D.bool false, D.bool false]])] = [P.d (D.sl 6 (List.map itmD l_1)), P.d (D.sl 6 (List.map itmD m))] ∧ EqR [] [] ∧ List.length l_1 ≤ 1000000 ∧ bif decide (l_1 = m) then ∃ (l_2 : List It), ∃ (p : List UInt8), [P.d (D.sl 6 (List.take (List.length (itemsX (tkL l) (lvL live))) (List.map itmD (itemsX (tkL l) (lvL live))))), P.d (D.str [(47 : UInt8), (100 : UInt8), (47 : UInt8), (102 : UInt8)])] = [P.d (D.sl 6 (List.map itmD l_2)), P.d (D.str p)] ∧ EqR [] [] ∧ List.length l_2 ≤ 1000000 ∧ bif idxI (fun (x : It) => Prod.fst (Prod.snd x) == p) l_2 == (1 : Int) then ∃ (l_3 : List It), [P.d (D.sl 6 (List.take (List.length (itemsX (tkL l) (lvL live))) (List.map itmD (itemsX (tkL l) (lvL live)))))] = [P.d (D.sl 6 (List.map itmD l_3))] ∧ EqR [] [] ∧ List.length l_3 ≤ 1000000 ∧ post (P.d (D.bool !!List.any l_3 unset), []) else post (P.d (D.bool false), []) else post (P.d (D.bool false), [])) = (bodyF [(12, hItems), (11, hSameI), (14, hFindT), (16, hSettled)] [] 10 [] []) post := by kernel_rfl
theorem vcLawI (l : List Pl) (v : List Id3) (post : P × List (Nat × En) → Prop) : (bif decide ((↑(List.length (List.map plD l)) : Int) > (40 : Int)) then EqP [] [] ∧ EqR [] [] ∧ post (P.d (D.bool true), []) else bif decide ((↑(List.length (List.map ixD v)) : Int) > (60 : Int)) then EqP [] [] ∧ EqR [] [] ∧ post (P.d (D.bool true), []) else EqP [] [] ∧ EqR [] [] ∧ ∃ (l_1 : List Pl), ∃ (live : List Id3), [P.d (D.sl 8 (List.map plD l)), P.d (D.sl 3 (List.map ixD v))] = [P.d (D.sl 8 (List.map plD l_1)), P.d (D.sl 3 (List.map ixD live))] ∧ EqR [] [] ∧ (List.length l_1 ≤ 1000 ∧ List.length live ≤ 1000) ∧ ∃ (l_2 : List Pl), ∃ (v_1 : List Id3), [P.d (D.sl 8 (List.map plD l)), P.d (D.sl 3 (List.map ixD v))] = [P.d (D.sl 8 (List.map plD l_2)), P.d (D.sl 3 (List.map ixD v_1))] ∧ EqR [] [] ∧ (List.length l_2 ≤ 1000 ∧ List.length v_1 ≤ 1000000) ∧ ∃ (l : List It), ∃ (m : List It), [P.d (D.sl 6 (List.take (List.length (itemsX (tkL l_1) (lvL live))) (List.map itmD (itemsX (tkL l_1) (lvL live))))), P.d (D.sl 6 (List.take (List.length (itemsX (tkL l_2) v_1)) (List.map itmD (itemsX (tkL l_2) v_1))))] = [P.d (D.sl 6 (List.map itmD l)), P.d (D.sl 6 (List.map itmD m))] ∧ EqR [] [] ∧ List.length l ≤ 1000000 ∧ post (P.d (D.bool (decide (l = m))), [])) = (bodyF [(10, hAwake15), (12, hItems), (11, hSameI), (13, hItemsR)] [] 3 [plsP l, idsP v] []) post := by kernel_rfl
/-! the document's Settled -/
abbrev slO (l : List It) (k : Int) : S := ⟨34, [(0, itsP l), (3, iD k)], []⟩
abbrev slI (l : List It) (i k : Int) : S := ⟨34, [(0, itsP l), (3, iD i), (4, iD k)], []⟩
def gSlI : S → K (PX × S) := fun s post => ∃ l i, s = slI l i 0 ∧ (l.length ≤ 1000000 ∧ 0 ≤ i ∧ i < l.length ∧ (l.getD i.toNat it0).2.1.length ≤ 9223372036854775807) ∧ ((l.getD i.toNat it0).2.1.contains 126 = true → post (.ret, ⟨34, [(0, itsP l), (2, .d (.bool false)), (3, iD i)], []⟩)) ∧ ((l.getD i.toNat it0).2.1.contains 126 = false → post (.exit 2, ⟨34, [(0, itsP l), (3, iD i)], []⟩))
theorem vcSlI (l : List It) (i k : Int) (post : PX × S → Prop) : (bif decide ((0 : Int) ≤ i ∧ i < (↑(List.length (List.map itmD l)) : Int)) then bif isD PR 43 (D.nth (List.map itmD l) (Int.toNat i)) then bif decide (k < (↑(List.length (D.sVal (D.cAt (D.nth (List.map itmD l) (Int.toNat i)) 3))) : Int)) then bif decide ((0 : Int) ≤ i ∧ i < (↑(List.length (List.map itmD l)) : Int)) then bif isD PR 43 (D.nth (List.map itmD l) (Int.toNat i)) then bif decide ((0 : Int) ≤ k ∧ k < (↑(List.length (D.sVal (D.cAt (D.nth (List.map itmD l) (Int.toNat i)) 3))) : Int)) then bif (↑(UInt8.toNat (List.getD (D.sVal (D.cAt (D.nth (List.map itmD l) (Int.toNat i)) 3)) (Int.toNat k) (0 : UInt8))) : Int) == (126 : Int) then post (PX.ret, S.mk 34 [(0, P.d (D.sl 6 (List.map itmD l))), (2, P.d (D.bool false)), (3, P.d (D.int IntKind.i64 i))] []) else bif decide ((-9223372036854775808 : Int) ≤ k + (1 : Int) ∧ k + (1 : Int) ≤ (9223372036854775807 : Int)) then post (PX.normal, S.mk 34 [(0, P.d (D.sl 6 (List.map itmD l))), (3, P.d (D.int IntKind.i64 i)), (4, P.d (D.int IntKind.i64 (k + (1 : Int))))] []) else False else False else False else False else post (PX.exit 2, S.mk 34 [(0, P.d (D.sl 6 (List.map itmD l))), (3, P.d (D.int IntKind.i64 i))] []) else False else False) = (roundL [] [] 17 7 (slI l i k)) post := by kernel_rfl
theorem vcSlO (l : List It) (k : Int) (post : PX × S → Prop) : (bif decide (k < (↑(List.length (List.map itmD l)) : Int)) then bif decide ((0 : Int) ≤ k ∧ k < (↑(List.length (List.map itmD l)) : Int)) then bif isD PR 43 (D.nth (List.map itmD l) (Int.toNat k)) then bif D.bVal (D.cAt (D.nth (List.map itmD l) (Int.toNat k)) 5) then post (PX.ret, S.mk 34 [(2, P.d (D.bool false))] []) else ∃ (l_1 : List It), ∃ (i : Int), S.mk 34 [(0, P.d (D.sl 6 (List.map itmD l))), (3, P.d (D.int IntKind.i64 k)), (4, P.d (D.int IntKind.i64 (0 : Int)))] [] = S.mk 34 [(0, P.d (D.sl 6 (List.map itmD l_1))), (3, P.d (D.int IntKind.i64 i)), (4, P.d (D.int IntKind.i64 (0 : Int)))] [] ∧ (List.length l_1 ≤ 1000000 ∧ (0 : Int) ≤ i ∧ i < (↑(List.length l_1) : Int) ∧ List.length (Prod.fst (Prod.snd (List.getD l_1 (Int.toNat i) it0))) ≤ 9223372036854775807) ∧ (List.contains (Prod.fst (Prod.snd (List.getD l_1 (Int.toNat i) it0))) (126 : UInt8) = true → post (PX.ret, S.mk 34 [(2, P.d (D.bool false))] [])) ∧ (List.contains (Prod.fst (Prod.snd (List.getD l_1 (Int.toNat i) it0))) (126 : UInt8) = false → bif decide ((-9223372036854775808 : Int) ≤ i + (1 : Int) ∧ i + (1 : Int) ≤ (9223372036854775807 : Int)) then post (PX.normal, S.mk 34 [(0, P.d (D.sl 6 (List.map itmD l_1))), (3, P.d (D.int IntKind.i64 (i + (1 : Int))))] []) else False) else False else False else post (PX.exit 0, S.mk 34 [] [])) = (roundL [] [(7, loopHook (kpF 17 7) gSlI)] 17 2 (slO l k)) post := by kernel_rfl
def gSlO : S → K (PX × S) := fun s post => ∃ l, s = slO l 0 ∧ (l.length ≤ 1000000 ∧ ∀ x ∈ l, x.2.1.length ≤ 9223372036854775807) ∧ (l.any unset = true → post (.ret, ⟨34, [(2, .d (.bool false))], []⟩)) ∧ (l.any unset = false → post (.exit 0, ⟨34, [], []⟩))
theorem vcSl (l : List It) (post : P × List (Nat × En) → Prop) : (∃ (l_1 : List It), S.mk 34 [(0, P.d (D.sl 6 (List.map itmD l))), (3, P.d (D.int IntKind.i64 (0 : Int)))] [] = S.mk 34 [(0, P.d (D.sl 6 (List.map itmD l_1))), (3, P.d (D.int IntKind.i64 (0 : Int)))] [] ∧ (List.length l_1 ≤ 1000000 ∧ ∀ (x : It), x ∈ l_1 → List.length (Prod.fst (Prod.snd x)) ≤ 9223372036854775807) ∧ (List.any l_1 unset = true → post (P.d (D.bool false), [])) ∧ (List.any l_1 unset = false → post (P.d (D.bool true), []))) = (bodyF [] [(2, loopHook (kpF 17 2) gSlO)] 17 [itsP l] []) post := by kernel_rfl
def hSettledR : KF1 := fun ps R post => ∃ l : List It, ps = [itsP l] ∧ R = [] ∧ (l.length ≤ 1000000 ∧ ∀ x ∈ l, x.2.1.length ≤ 9223372036854775807) ∧ ∀ b, b = !l.any unset → post (.d (.bool b), [])
theorem vcLawF (l : List It) (p : List UInt8) (post : P × List (Nat × En) → Prop) : (bif decide ((↑(List.length (List.map itmD l)) : Int) > (200 : Int)) then EqP [] [] ∧ EqR [] [] ∧ post (P.d (D.bool true), []) else EqP [] [] ∧ EqR [] [] ∧ ∃ (l_1 : List It), ∃ (p_1 : List UInt8), [P.d (D.sl 6 (List.map itmD l)), P.d (D.str p)] = [P.d (D.sl 6 (List.map itmD l_1)), P.d (D.str p_1)] ∧ EqR [] [] ∧ List.length l_1 ≤ 1000000 ∧ ∃ (l_2 : List It), ∃ (p_2 : List UInt8), [P.d (D.sl 6 (List.map itmD l)), P.d (D.str p)] = [P.d (D.sl 6 (List.map itmD l_2)), P.d (D.str p_2)] ∧ EqR [] [] ∧ List.length l_2 ≤ 1000000 ∧ bif idxI (fun (x : It) => Prod.fst (Prod.snd x) == p_1) l_1 == idxI (fun (x : It) => Prod.fst (Prod.snd x) == p_2) l_2 then ∃ (l_3 : List It), [P.d (D.sl 6 (List.map itmD l))] = [P.d (D.sl 6 (List.map itmD l_3))] ∧ EqR [] [] ∧ List.length l_3 ≤ 1000000 ∧ ∃ (l_4 : List It), [P.d (D.sl 6 (List.map itmD l))] = [P.d (D.sl 6 (List.map itmD l_4))] ∧ EqR [] [] ∧ (List.length l_4 ≤ 1000000 ∧ ∀ (x : It), x ∈ l_4 → List.length (Prod.fst (Prod.snd x)) ≤ 9223372036854775807) ∧ ∀ (b : Bool), b = !List.any l_4 unset → post (P.d (D.bool ((!List.any l_3 unset) == b)), []) else post (P.d (D.bool false), [])) = (bodyF [(10, hAwake15), (14, hFindT), (15, hFindT), (16, hSettled), (17, hSettledR)] [] 4 [itsP l, sD p] []) post := by kernel_rfl
/-! parent, paths -/
abbrev prH (s : List UInt8) (k : Int) : S := ⟨18, [(0, sD s), (3, iD k)], []⟩
theorem vcPrH (s : List UInt8) (k : Int) (post : PX × S → Prop) : (bif decide (k > (0 : Int)) then bif decide ((0 : Int) ≤ k ∧ k < (↑(List.length s) : Int)) then bif (↑(UInt8.toNat (List.getD s (Int.toNat k) (0 : UInt8))) : Int) == (47 : Int) then bif decide ((0 : Int) ≤ k ∧ k ≤ (↑(List.length s) : Int)) then post (PX.ret, S.mk 18 [(2, P.d (D.str (List.drop 0 (List.take (Int.toNat k) s))))] []) else False else bif decide ((-9223372036854775808 : Int) ≤ k - (1 : Int) ∧ k - (1 : Int) ≤ (9223372036854775807 : Int)) then post (PX.normal, S.mk 18 [(0, P.d (D.str s)), (3, P.d (D.int IntKind.i64 (k - (1 : Int))))] []) else False else False else post (PX.exit 0, S.mk 18 [] [])) = (roundL [] [] 42 2 (prH s k)) post := by kernel_rfl
def gPr : S → K (PX × S) := fun s post => ∃ (q b : List UInt8) (k : Int), s = prH (q ++ 47 :: b) k ∧ (47 ∉ b ∧ k = (q.length + b.length : Int) ∧ q.length + b.length ≤ 4000000) ∧ (q ≠ [] → post (.ret, ⟨18, [(2, sD q)], []⟩)) ∧ (q = [] → post (.exit 0, ⟨18, [], []⟩))
theorem vcPr (s : List UInt8) (post : P × List (Nat × En) → Prop) : (bif decide ((-9223372036854775808 : Int) ≤ (↑(List.length s) : Int) - (1 : Int) ∧ (↑(List.length s) : Int) - (1 : Int) ≤ (9223372036854775807 : Int)) then ∃ (q : List UInt8), ∃ (b : List UInt8), ∃ (k : Int), S.mk 18 [(0, P.d (D.str s)), (3, P.d (D.int IntKind.i64 ((↑(List.length s) : Int) - (1 : Int))))] [] = S.mk 18 [(0, P.d (D.str (q ++ (47 : UInt8) :: b))), (3, P.d (D.int IntKind.i64 k))] [] ∧ (¬(47 : UInt8) ∈ b ∧ k = (↑(List.length q) : Int) + (↑(List.length b) : Int) ∧ List.length q + List.length b ≤ 4000000) ∧ (q ≠ [] → post (P.d (D.str q), [])) ∧ (q = [] → post (P.d (D.str []), [])) else False) = (bodyF [] [(2, loopHook (kpF 42 2) gPr)] 42 [sD s] []) post := by kernel_rfl
def hPar : KF1 := fun ps R post => ∃ q b : List UInt8, ps = [sD (q ++ 47 :: b)] ∧ R = [] ∧ (47 ∉ b ∧ q.length + b.length ≤ 4000000) ∧ post (sD q, [])
/-- Is it so of items? -/
def Good (x : List It) : Prop := ∀ i, i < x.length → (0 < i → Op.bytesLess (x.getD (i - 1) it0).2.1 (x.getD i it0).2.1 = true) ∧
  ∃ q b : List UInt8, (x.getD i it0).2.1 = q ++ 47 :: b ∧ seenOk b = true ∧ (q = [] ∨ (q.headD 0 = 47 ∧ ∃ j : Nat, j < x.length ∧ idxI (fun y : It => y.2.1 == q) x = (j : Int) ∧ (x.getD j it0).2.2.1 = true)) ∧ q.length + b.length ≤ 1000000
end Pi

/- Tree: what holds of the items. -/
namespace Pi
open Go Go.Proofs
set_option maxRecDepth 100000
section
variable {T : List Pl} {V V' : List Id3}
theorem itemsX_ext (h : ∀ z, z ∈ V ↔ z ∈ V') : itemsX T V = itemsX T V' := by
  have hs : seenL T V = seenL T V' := List.filter_congr fun p _ => marked_ext h p.1
  have hn : nmX T V = nmX T V' := by
    funext x
    unfold nmX
    rw [hs]
  have hi : itemX T V = itemX T V' := by
    funext p
    unfold itemX pathX namesX
    rw [hn]
    have : decide (p.1 ∈ V) = decide (p.1 ∈ V') := by simp [h]
    rw [this]
  unfold itemsX
  rw [hs, hi]
theorem joinR_snoc (a : List (List UInt8)) (b : List UInt8) : joinR (a ++ [b]) = joinR a ++ 47 :: b := by simp [joinR]
theorem items_mem {x : It} : x ∈ itemsX T V ↔ ∃ p ∈ seenL T V, x = itemX T V p := by
  rw [itemsX_perm.mem_iff, List.mem_map]
  exact ⟨fun ⟨p, h1, h2⟩ => ⟨p, h1, h2.symm⟩, fun ⟨p, h1, h2⟩ => ⟨p, h1, h2.symm⟩⟩
theorem items_len : (itemsX T V).length ≤ T.length := by
  rw [itemsX_perm.length_eq, List.length_map]
  exact List.length_filter_le _ _
theorem joinR_head {l : List (List UInt8)} (h : l ≠ []) : (joinR l).headD 0 = 47 := by
  cases l with
  | nil => exact absurd rfl h
  | cons a r => simp [joinR]
end
end Pi

/- Tree: arguments that fit. -/
namespace Pi
open Go Go.Proofs
set_option maxRecDepth 100000
theorem fit_id {m : Nat} {a b c : D} (h : Fit PR (m + 3) 41 [a, b, c]) : ∃ x : Id3, a = .int .i64 x.1 ∧ b = .int .i64 x.2.1 ∧ c = .int .i64 x.2.2 := by
  obtain ⟨t, r, i, he, _⟩ := fitId (m := m) (x := .agg [a, b, c]) ⟨h, .inl ⟨by kernel_rfl, _, rfl⟩⟩
  simp only [idD, D.agg.injEq, List.cons.injEq, and_true] at he
  exact ⟨(t, r, i), he.1, he.2.1, he.2.2⟩
theorem fit_list {α : Type} (f : α → D) (P : D → Prop) (h1 : ∀ y, P y → ∃ x, y = f x) : ∀ es : List D, (∀ y ∈ es, P y) → ∃ l : List α, es = l.map f
  | [], _ => ⟨[], rfl⟩
  | y :: es, hy => by
    obtain ⟨l, rfl⟩ := fit_list f P h1 es fun y h => hy y (.tail _ h)
    obtain ⟨x, rfl⟩ := h1 y (hy y (.head _))
    exact ⟨x :: l, rfl⟩
theorem fitIds {m : Nat} {x : D} (h : FitE PR (m + 4) 23 x) : ∃ l : List Id3, x = .sl 3 (l.map ixD) := by
  obtain ⟨es, rfl, _, hy⟩ := fitE_slice (k := 3) Tryz.underlying23 (by kernel_rfl) h
  obtain ⟨l, rfl⟩ := fit_list ixD _ (fun y hy => by
    obtain ⟨t, r, i, rfl, _⟩ := fitId hy
    exact ⟨(t, r, i), rfl⟩) es hy
  exact ⟨l, rfl⟩
theorem fitPl {m : Nat} {x : D} (h : FitE PR (m + 4) 47 x) : ∃ p : Pl, x = plD p := by
  obtain ⟨cs, rfl, hl, hf⟩ := fitE_struct (k := 8) Tryz.underlying47 (by kernel_rfl) h
  obtain ⟨a, b, c, d, e, f, g, i, rfl⟩ : ∃ a b c d e f g i, cs = [a, b, c, d, e, f, g, i] := by
    match cs, hl with
    | [a, b, c, d, e, f, g, i], _ => exact ⟨a, b, c, d, e, f, g, i, rfl⟩
  have c1 : PR.cellsOf 9 = 1 := by kernel_rfl
  have c2 : PR.cellsOf 4 = 1 := by kernel_rfl
  have c3 : PR.cellsOf 41 = 3 := by kernel_rfl
  have g1 := hf _ (List.mem_cons_self ..)
  have g2 := hf _ (List.mem_cons_of_mem _ (List.mem_cons_self ..))
  have g3 := hf _ (List.mem_cons_of_mem _ (List.mem_cons_of_mem _ (List.mem_cons_self ..)))
  have g4 := hf _ (List.mem_cons_of_mem _ (List.mem_cons_of_mem _ (List.mem_cons_of_mem _ (List.mem_cons_self ..))))
  simp only [c1, c2, c3, List.drop_zero, List.drop_succ_cons, List.take_succ_cons, List.take_zero] at g1 g2 g3 g4
  obtain ⟨x1, rfl, rfl, rfl⟩ := fit_id g1
  obtain ⟨x2, rfl, rfl, rfl⟩ := fit_id g2
  obtain ⟨s1, rfl, _⟩ := fit_str Tryz.underlying9 g3
  obtain ⟨b1, rfl⟩ := fit_bool Tryz.underlying4 g4
  exact ⟨(x1, x2, s1, b1), rfl⟩
theorem fitPls {m : Nat} {x : D} (h : FitE PR (m + 5) 22 x) : ∃ l : List Pl, x = .sl 8 (l.map plD) := by
  obtain ⟨es, rfl, _, hy⟩ := fitE_slice (k := 8) Tryz.underlying22 (by kernel_rfl) h
  obtain ⟨l, rfl⟩ := fit_list plD _ (fun y hy => fitPl hy) es hy
  exact ⟨l, rfl⟩
theorem fitIt {m : Nat} {x : D} (h : FitE PR (m + 4) 43 x) : ∃ p : It, x = itmD p ∧ p.2.1.length ≤ maxLen := by
  obtain ⟨cs, rfl, hl, hf⟩ := fitE_struct (k := 6) Tryz.underlying43 (by kernel_rfl) h
  obtain ⟨a, b, c, d, e, f, rfl⟩ : ∃ a b c d e f, cs = [a, b, c, d, e, f] := by
    match cs, hl with
    | [a, b, c, d, e, f], _ => exact ⟨a, b, c, d, e, f, rfl⟩
  have c1 : PR.cellsOf 9 = 1 := by kernel_rfl
  have c2 : PR.cellsOf 4 = 1 := by kernel_rfl
  have c3 : PR.cellsOf 41 = 3 := by kernel_rfl
  have g1 := hf _ (List.mem_cons_self ..)
  have g2 := hf _ (List.mem_cons_of_mem _ (List.mem_cons_self ..))
  have g3 := hf _ (List.mem_cons_of_mem _ (List.mem_cons_of_mem _ (List.mem_cons_self ..)))
  have g4 := hf _ (List.mem_cons_of_mem _ (List.mem_cons_of_mem _ (List.mem_cons_of_mem _ (List.mem_cons_self ..))))
  simp only [c1, c2, c3, List.drop_zero, List.drop_succ_cons, List.take_succ_cons, List.take_zero] at g1 g2 g3 g4
  obtain ⟨x1, rfl, rfl, rfl⟩ := fit_id g1
  obtain ⟨s1, rfl, hs⟩ := fit_str Tryz.underlying9 g2
  obtain ⟨b1, rfl⟩ := fit_bool Tryz.underlying4 g3
  obtain ⟨b2, rfl⟩ := fit_bool Tryz.underlying4 g4
  exact ⟨(x1, s1, b1, b2), rfl, hs⟩
theorem fitIts {m : Nat} {x : D} (h : FitE PR (m + 5) 26 x) : ∃ l : List It, x = .sl 6 (l.map itmD) ∧ ∀ p ∈ l, p.2.1.length ≤ maxLen := by
  obtain ⟨es, rfl, _, hy⟩ := fitE_slice (k := 6) Tryz.underlying26 (by kernel_rfl) h
  have : ∀ es : List D, (∀ y ∈ es, FitE PR (m + 4) 43 y) → ∃ l : List It, es = l.map itmD ∧ ∀ p ∈ l, p.2.1.length ≤ maxLen := by
    intro es
    induction es with
    | nil => intro _; exact ⟨[], rfl, by simp⟩
    | cons y es ih =>
      intro hy
      obtain ⟨l, rfl, hl⟩ := ih fun y h => hy y (.tail _ h)
      obtain ⟨s, rfl, hs⟩ := fitIt (hy y (.head _))
      exact ⟨s :: l, rfl, fun p hp => by rcases List.mem_cons.1 hp with rfl | hp; exact hs; exact hl p hp⟩
  obtain ⟨l, rfl, hl⟩ := this es hy
  exact ⟨l, rfl, hl⟩
end Pi

/- Tree: the world that a row's condition gives; Items as a told function. -/
namespace Pi
open Go Go.Proofs Go.RowKit Go.Proofs.YtccffeofkhkbcaaGreatDoor
set_option maxRecDepth 100000
abbrev laidL : List (String × DataW Unit) := [("math/bits.deBruijn32tab", Rows.laid_math_bits_deBruijn32tab), ("math/bits.deBruijn64tab", Rows.laid_math_bits_deBruijn64tab), ("internal/strconv.uint64pow10", Rows.laid_internal_strconv_uint64pow10), ("unicode/utf8.acceptRanges", Rows.laid_unicode_utf8_acceptRanges), ("unicode/utf8.first", Rows.laid_unicode_utf8_first)]
theorem gP : Tryz.prog.globalNamed "internal/strconv.uint64pow10" = some 3 := by kernel_rfl
theorem tP : (Tryz.prog.globals[3]?).map (·.type) = some 186 := by kernel_rfl
theorem laidL_plain (w : World) (h : laidMetH Tryz.prog laidL w) : laidMet Tryz.prog laidL w := by
  unfold laidMetH at h
  have e : (laidL.filter fun x => x.2.handleName?.isSome) = [] := by kernel_rfl
  rw [e] at h
  exact h
theorem laidL_H (w : World) (h : laidMet Tryz.prog laidL w) : laidMetH Tryz.prog laidL w := by
  unfold laidMetH
  have e : (laidL.filter fun x => x.2.handleName?.isSome) = [] := by kernel_rfl
  rw [e]
  exact h
theorem laidP : (Rows.laid_internal_strconv_uint64pow10 : DataW Unit) = Lib.tabData .u64 Lib.pow10Tab := by kernel_rfl
theorem laidF : (Rows.laid_unicode_utf8_first : DataW Unit) = Lib.firstData := by kernel_rfl
theorem laidA : (Rows.laid_unicode_utf8_acceptRanges : DataW Unit) = Lib.acceptData := by kernel_rfl
def renU : Go.Shelf.Ren := ⟨fun n => n, fun | 5 => 5 | 119 => 175 | 138 => 177 | 139 => 178 | n => n, fun | 3 => 1 | 4 => 2 | n => n⟩
theorem u8_of {W : World} (h : laidMet Tryz.prog laidL W) : Lib.Utf8Tabs 1 2 W :=
  utf8Tabs_of_readsT (ρ := renU) ⟨by kernel_rfl, by kernel_rfl, by kernel_rfl, by kernel_rfl⟩ ⟨by kernel_rfl, by kernel_rfl, by kernel_rfl, by kernel_rfl, by kernel_rfl, by kernel_rfl, by kernel_rfl⟩
    (by rw [← laidF]; exact Lib.laidMet.reads h (.tail _ (.tail _ (.tail _ (.tail _ (.head _))))))
    (by rw [← laidA]; exact Lib.laidMet.reads h (.tail _ (.tail _ (.tail _ (.head _)))))
theorem stW_of {W : World} (h0 : laidMetH Tryz.prog laidL W) (hs : W.ShapedOpen Tryz.prog) : StW W := by
  have h := laidL_plain W h0
  have h3 := h.tail.tail
  have htab : Lib.TabIs Tryz.prog W "internal/strconv.uint64pow10" .u64 Lib.pow10Tab :=
    Lib.tabIs_of_head (k := .u64) (zs := Lib.pow10Tab) gP tP Tryz.underlying186 Tryz.underlying119 (by kernel_rfl) (by kernel_rfl) (by rw [← laidP]; exact h3)
  refine ⟨?_, fun w hw => ?_, u8_of h⟩
  · exact cell_of_shapedOpen_int (zero := #[.int .i64 0]) (t := 3) hs (Nat.le_of_ble_eq_true (by kernel_rfl)) (by kernel_rfl) rfl (by kernel_rfl) (by kernel_rfl) Tryz.underlying3
  · unfold Lib.TabIs World.var? at htab ⊢
    rw [gP] at htab ⊢
    simp only [Option.bind_some] at htab ⊢
    by_cases hb : 3 < W.heap.size
    · rw [hw 3 hb]
      exact htab
    · rw [Array.getElem?_eq_none (by omega)] at htab
      cases htab
/-- A world that meets the condition. -/
noncomputable def wL (os : Os) : World := World.laidAll Tryz.prog os laidL
theorem wL_met (os : Os) (args : Array Value) : laidMet Tryz.prog laidL ((wL os).forCall (fun _ _ => 0) ⟨#[], args, []⟩).memory :=
  laidMet_laidAll _ (by kernel_rfl) (by kernel_rfl)
/-! Items, told -/
open Classical in
noncomputable def gItems : TF := fun ps R => if h : ∃ a : List Pl × List Id3, ps = [plsP a.1, idsP a.2] ∧ R = [] ∧ (a.1.length ≤ 1000 ∧ a.2.length ≤ 1000) then
  some (.sl 0 0 (itemsX (tkL h.choose.1) (lvL h.choose.2)).length, [(0, ⟨0, none, .arr 43 false ((itemsX (tkL h.choose.1) (lvL h.choose.2)).map itmD)⟩)]) else none
theorem gItems_hook {ps : List P} {R : List (Nat × En)} {y : P × List (Nat × En)} (h : gItems ps R = some y) : hItems ps R (fun z => z = y) := by
  unfold gItems at h
  split at h
  · rename_i e
    obtain ⟨h1, h2, h3⟩ := e.choose_spec
    exact ⟨e.choose.1, e.choose.2, h1, h2, h3, Option.some.inj h⟩
  · cases h
def unPl : D → Pl
  | .agg [.int .i64 a, .int .i64 b, .int .i64 c, .int .i64 d, .int .i64 e, .int .i64 f, .str s, .bool g] => ((a, b, c), (d, e, f), s, g)
  | _ => pl0
theorem unmap_inj {α β : Type} (f : α → β) (g : β → α) (hg : ∀ x, g (f x) = x) {a b : List α} (h : a.map f = b.map f) : a = b := by
  have := congrArg (List.map g) h
  rw [List.map_map, List.map_map] at this
  rwa [show (g ∘ f) = id from funext hg, List.map_id, List.map_id] at this
theorem hItems_told {ps : List P} {R : List (Nat × En)} {post : P × List (Nat × En) → Prop} (h : hItems ps R post) : ∃ x, gItems ps R = some x ∧ post x := by
  obtain ⟨l, v, h1, h2, h3, hp⟩ := h
  have e : ∃ a : List Pl × List Id3, ps = [plsP a.1, idsP a.2] ∧ R = [] ∧ (a.1.length ≤ 1000 ∧ a.2.length ≤ 1000) := ⟨(l, v), h1, h2, h3⟩
  obtain ⟨c1, _, _⟩ := e.choose_spec
  have c1 := h1.symm.trans c1
  have c2 : l.map plD = e.choose.1.map plD ∧ v.map ixD = e.choose.2.map ixD := by simpa [plsP, idsP] using c1
  have e1 := unmap_inj plD unPl (fun _ => rfl) c2.1
  have e2 := unmap_inj ixD unIx (fun _ => rfl) c2.2
  refine ⟨_, ?_, hp⟩
  unfold gItems
  rw [dif_pos e, ← e1, ← e2]
/-- Those that tell Items. -/
structure XT (X : XF) : Prop where
  items : ∀ ps R, X.cf 12 ps R = gItems ps R
theorem okItems {X : XF} (hX : XT X) : FD X 12 hItems := FOK.ofX Tryz.func12 (by kernel_rfl) fun ps R post h => by
  obtain ⟨x, h1, h2⟩ := hItems_told h
  exact ⟨x, by rw [← h1]; exact hX.items ps R, h2⟩
noncomputable def xTree : XF := ⟨xOf ((12, gItems) :: xL), fun f hf ps R => by
  show (if Nat.beq 12 f then gItems ps R else xB f ps R) = _
  split
  · rename_i he
    have := Nat.eq_of_beq_eq_true he
    subst this
    have h0 : memN 12 xsB = false := by kernel_rfl
    rw [h0] at hf
    cases hf
  · rfl⟩
theorem xTree_t : XT xTree := ⟨fun _ _ => rfl⟩
theorem xTree_ok {w1 : World} (hw1 : StW w1) : CFOK Tryz.prog { w1 with drawn := 0 } xTree.cf := by
  have h0 := xB_ok hw1
  have hI : XOK Tryz.prog { w1 with drawn := 0 } 12 gItems := XOK.ofN (ndItems (X := xBase) h0) fun ps R y h => gItems_hook h
  intro f ps R p R1 h'
  have h' : (if Nat.beq 12 f then gItems ps R else xB f ps R) = some (p, R1) := h'
  split at h'
  · rename_i hf
    have hf := Nat.eq_of_beq_eq_true hf
    subst hf
    exact hI rfl ps R p R1 h'
  · exact h0 f ps R p R1 h'
end Pi

/- Tree: the laws. -/
namespace Pi
open Go Go.Proofs
set_option maxRecDepth 100000
theorem it_take (l : List It) : (l.map itmD).take l.length = l.map itmD := List.take_of_length_le (by simp)
theorem items_good {T : List Pl} {V : List Id3} (hT : Rt T) (hm : T.length ≤ 1000) : Good (itemsX T V) := by
  intro i hi
  have hx : (itemsX T V)[i]? = some ((itemsX T V).getD i it0) := getD_some hi it0
  refine ⟨fun h0 => ?_, ?_⟩
  · have h1 : (itemsX T V)[i - 1]? = some ((itemsX T V).getD (i - 1) it0) := getD_some (by omega) it0
    have := List.pairwise_iff_getElem.1 (itemsX_lt (live := V) hT) (i - 1) i (by omega) hi (by omega)
    rw [(List.getElem?_eq_some_iff.1 h1).2, (List.getElem?_eq_some_iff.1 hx).2] at this
    exact this
  · obtain ⟨p, hp, he⟩ := items_mem.1 (List.mem_of_getElem? hx)
    obtain ⟨pT, pm⟩ := seen_pl hp
    obtain ⟨w, hw, mw⟩ := marked_up pm
    have hat := atPl_of hT.1 pT
    have hpath : ((itemsX T V).getD i it0).2.1 = joinR (w.reverse.map (nmX T V)) := by
      rw [he]
      show pathX T V p.1 = _
      unfold pathX
      rw [pathX_up hw]
    have hlen := names_len (V := V) hT hw
    have hseen : seenOk (nmX T V p.1) = true := by
      unfold nmX
      rw [hat]
      exact nmP_seen (hT.2 p pT)
    cases hw with
    | top h h0 =>
      refine ⟨[], nmX T V p.1, ?_, hseen, .inl rfl, ?_⟩
      · rw [hpath]; simp [joinR]
      · simp [sumL, joinR] at hlen
        simp
        omega
    | @step _ p' q w' h h0 hq hd hw' =>
      rw [hat] at h
      cases h
      have e : ((p.1 :: w').reverse.map (nmX T V)) = w'.reverse.map (nmX T V) ++ [nmX T V p.1] := by simp
      have hmq : marked T V p.2.1 = true := by
        obtain ⟨r, hr⟩ := hw'.hd
        exact mw _ (by rw [hr]; simp)
      have hqs := seen_mem hmq hq
      have hqx : itemX T V q ∈ itemsX T V := items_mem.2 ⟨q, hqs, rfl⟩
      have hq1 : q.1 = p.2.1 := (atPl_mem hq).2
      have hqp : (itemX T V q).2.1 = joinR (w'.reverse.map (nmX T V)) := by
        show pathX T V q.1 = _
        unfold pathX
        rw [hq1, pathX_up hw']
      have hne : w'.reverse.map (nmX T V) ≠ [] := by
        obtain ⟨r, hr⟩ := hw'.hd
        rw [hr]
        simp
      refine ⟨joinR (w'.reverse.map (nmX T V)), nmX T V p.1, ?_, hseen, .inr ⟨joinR_head hne, ?_⟩, ?_⟩
      · rw [hpath, e, joinR_snoc]
      · rcases idxI_cases (fun y : It => y.2.1 == joinR (w'.reverse.map (nmX T V))) (itemsX T V) with ⟨j, y, h1, h2, h3⟩ | ⟨h1, h2⟩
        · have hj : j < (itemsX T V).length := (List.getElem?_eq_some_iff.1 h1).1
          refine ⟨j, hj, h3, ?_⟩
          have hy : (itemsX T V).getD j it0 = y := by
            rw [List.getD_eq_getElem?_getD, h1]
            rfl
          have := items_key hT y (itemsX_perm.mem_iff.1 (List.mem_of_getElem? h1)) _ (itemsX_perm.mem_iff.1 hqx) (by rw [hqp]; simpa using h2)
          rw [hy, this]
          exact hd
        · have := h2 _ hqx
          simp [hqp] at this
      · rw [e] at hlen
        unfold sumL at hlen
        rw [joinR_snoc, List.length_append, List.length_cons] at hlen
        omega
def lA : List Pl := [((1, 1, 0), (0, 0, 0), [100], true), ((2, 1, 0), (1, 1, 0), [102], false), ((3, 1, 0), (1, 1, 0), [102], false)]
def vA : List Id3 := [(2, 1, 0), (3, 1, 0)]
def mA : List It := [((1, 1, 0), [47, 100], true, true), ((2, 1, 0), [47, 100, 47, 102], false, false), ((3, 1, 0), [47, 100, 47, 102, 126, 51, 46, 49, 46, 48], false, false)]
theorem itemsA : itemsX (tkL lA) (lvL vA) = mA := by kernel_rfl
section
variable {X : XF} (hX : XT X)
include hX
theorem okAwake15 : FD X 10 hAwake15 := FD.mk (H := [(12, hItems), (11, hSameI), (14, hFindT), (16, hSettled)]) (hk := []) (by kernel_rfl) (.cons (okItems hX) (.cons okSameI (.cons okFindT (.cons okSettled .nil)))) .nil (by
  intro ps R post hh
  obtain ⟨rfl, rfl, hp⟩ := hh
  rw [← vcAw15]
  refine ⟨lA, vA, rfl, rfl, ⟨by decide, by decide⟩, mA, mA, by rw [itemsA, it_take]; rfl, rfl, by decide, condT (decT rfl) ⟨mA, [47, 100, 47, 102], by rw [itemsA, it_take], rfl, by decide, condT (by decide) ⟨mA, by rw [itemsA, it_take], rfl, by decide, ?_⟩⟩⟩
  exact leafBc hp (by decide))
def hLawI : KF1 := fun ps R post => ∃ l v, ps = [plsP l, idsP v] ∧ R = [] ∧ post (.d (.bool true), [])
theorem okLawI : FD X 3 hLawI := FD.mk (H := [(10, hAwake15), (12, hItems), (11, hSameI), (13, hItemsR)]) (hk := []) (by kernel_rfl) (.cons (okAwake15 hX) (.cons (okItems hX) (.cons okSameI (.cons okItemsR .nil)))) .nil (by
  intro ps R post hh
  obtain ⟨l, v, rfl, rfl, hp⟩ := hh
  rw [← vcLawI]
  simp only [List.length_map]
  refine condP (fun h => ⟨rfl, rfl, hp⟩) fun h => condP (fun h' => ⟨rfl, rfl, hp⟩) fun h' => ⟨rfl, rfl, l, v, rfl, rfl, ⟨by omega, by omega⟩, l, v, rfl, rfl, ⟨by omega, by omega⟩, itemsX (tkL l) (lvL v), itemsX (tkL l) v, by rw [it_take, it_take], rfl, ?_, ?_⟩
  · have := items_len (T := tkL l) (V := lvL v)
    have := tkL_len l
    omega
  · exact leafBc hp (by rw [itemsX_ext (V := lvL v) (V' := v) fun z => lvL_mem]; simp))
end
theorem okItemsLaw {X : XF} (hX : XT X) (xs : List D) (h : FitAll PR 8 [22, 23] xs) : ∃ lf k R, runF PR (kpT X) lf k 3 (xs.map P.d) [] = some (.d (.bool true), R) := by
  obtain ⟨x, r, rfl, hx, h⟩ := fitAll_cons h
  obtain ⟨y, r, rfl, hy, h⟩ := fitAll_cons h
  have e := fitAll_nil h
  subst e
  obtain ⟨l, rfl⟩ := fitPls hx
  obtain ⟨v, rfl⟩ := fitIds hy
  obtain ⟨lf, k, hr⟩ := (okLawI hX).run (y := (.d (.bool true), [])) ⟨l, v, rfl, rfl, rfl⟩
  exact ⟨lf, k, [], hr⟩
theorem okItemsLawX (xs : List D) (h : FitAll PR 8 [22, 23] xs) : ∃ lf k R, runF PR (kpT xTree) lf k 3 (xs.map P.d) [] = some (.d (.bool true), R) := okItemsLaw xTree_t xs h
end Pi

/- Tree: paths: what the runs ask. -/
namespace Pi
open Go Go.Proofs
set_option maxRecDepth 100000
set_option maxHeartbeats 0
abbrev ptsH (x : List It) (k : Int) : S := ⟨82, [(0, itsP x), (3, iD k)], []⟩
theorem vcPts (x : List It) (k : Int) (post : PX × S → Prop) : (bif decide (k < (↑(List.length (List.map itmD x)) : Int)) then bif decide (k > (0 : Int)) then bif decide ((-9223372036854775808 : Int) ≤ k - (1 : Int) ∧ k - (1 : Int) ≤ (9223372036854775807 : Int)) then bif decide ((0 : Int) ≤ k - (1 : Int) ∧ k - (1 : Int) < (↑(List.length (List.map itmD x)) : Int)) then bif isD PR 43 (D.nth (List.map itmD x) (Int.toNat (k - (1 : Int)))) then bif decide ((0 : Int) ≤ k ∧ k < (↑(List.length (List.map itmD x)) : Int)) then bif isD PR 43 (D.nth (List.map itmD x) (Int.toNat k)) then bif !Op.bytesLess (D.sVal (D.cAt (D.nth (List.map itmD x) (Int.toNat (k - (1 : Int)))) 3)) (D.sVal (D.cAt (D.nth (List.map itmD x) (Int.toNat k)) 3)) then post (PX.ret, S.mk 82 [(2, P.d (D.bool false))] []) else bif decide ((0 : Int) ≤ k ∧ k < (↑(List.length (List.map itmD x)) : Int)) then bif isD PR 43 (D.nth (List.map itmD x) (Int.toNat k)) then bif decide ((↑(List.length (D.sVal (D.cAt (D.nth (List.map itmD x) (Int.toNat k)) 3))) : Int) < (2 : Int)) then post (PX.ret, S.mk 82 [(2, P.d (D.bool false))] []) else bif decide ((0 : Int) ≤ k ∧ k < (↑(List.length (List.map itmD x)) : Int)) then bif isD PR 43 (D.nth (List.map itmD x) (Int.toNat k)) then bif decide ((0 : Int) ≤ (0 : Int) ∧ (0 : Int) < (↑(List.length (D.sVal (D.cAt (D.nth (List.map itmD x) (Int.toNat k)) 3))) : Int)) then bif (↑(UInt8.toNat (List.getD (D.sVal (D.cAt (D.nth (List.map itmD x) (Int.toNat k)) 3)) 0 (0 : UInt8))) : Int) != (47 : Int) then post (PX.ret, S.mk 82 [(2, P.d (D.bool false))] []) else bif decide ((0 : Int) ≤ k ∧ k < (↑(List.length (List.map itmD x)) : Int)) then bif isD PR 43 (D.nth (List.map itmD x) (Int.toNat k)) then ∃ (q : List UInt8), ∃ (b : List UInt8), [P.d (D.str (D.sVal (D.cAt (D.nth (List.map itmD x) (Int.toNat k)) 3)))] = [P.d (D.str (q ++ (47 : UInt8) :: b))] ∧ EqR [] [] ∧ (¬(47 : UInt8) ∈ b ∧ List.length q + List.length b ≤ 4000000) ∧ ∃ (l : List It), ∃ (p : List UInt8), [P.d (D.sl 6 (List.map itmD x)), P.d (D.str q)] = [P.d (D.sl 6 (List.map itmD l)), P.d (D.str p)] ∧ EqR [] [] ∧ List.length l ≤ 1000000 ∧ bif !q == [] then bif decide (idxI (fun (x : It) => Prod.fst (Prod.snd x) == p) l < (0 : Int)) then post (PX.ret, S.mk 82 [(2, P.d (D.bool false))] []) else bif decide ((0 : Int) ≤ idxI (fun (x : It) => Prod.fst (Prod.snd x) == p) l ∧ idxI (fun (x : It) => Prod.fst (Prod.snd x) == p) l < (↑(List.length (List.map itmD x)) : Int)) then bif isD PR 43 (D.nth (List.map itmD x) (Int.toNat (idxI (fun (x : It) => Prod.fst (Prod.snd x) == p) l))) then bif !D.bVal (D.cAt (D.nth (List.map itmD x) (Int.toNat (idxI (fun (x : It) => Prod.fst (Prod.snd x) == p) l))) 4) then post (PX.ret, S.mk 82 [(2, P.d (D.bool false))] []) else bif decide ((0 : Int) ≤ k ∧ k < (↑(List.length (List.map itmD x)) : Int)) then bif isD PR 43 (D.nth (List.map itmD x) (Int.toNat k)) then ∀ (c : Int), c = (↑(List.length q) : Int) → bif decide ((-9223372036854775808 : Int) ≤ c + (1 : Int) ∧ c + (1 : Int) ≤ (9223372036854775807 : Int)) then bif decide ((0 : Int) ≤ c + (1 : Int) ∧ c + (1 : Int) ≤ (↑(List.length (D.sVal (D.cAt (D.nth (List.map itmD x) (Int.toNat k)) 3))) : Int)) then ∃ (s : List UInt8), [P.d (D.str (List.drop (Int.toNat (c + (1 : Int))) (List.take (List.length (D.sVal (D.cAt (D.nth (List.map itmD x) (Int.toNat k)) 3))) (D.sVal (D.cAt (D.nth (List.map itmD x) (Int.toNat k)) 3)))))] = [P.d (D.str s)] ∧ EqR [] [] ∧ List.length s ≤ 2000000 ∧ bif !seenOk s then post (PX.ret, S.mk 82 [(2, P.d (D.bool false))] []) else bif decide ((-9223372036854775808 : Int) ≤ k + (1 : Int) ∧ k + (1 : Int) ≤ (9223372036854775807 : Int)) then post (PX.normal, S.mk 82 [(0, P.d (D.sl 6 (List.map itmD x))), (3, P.d (D.int IntKind.i64 (k + (1 : Int))))] []) else False else False else False else False else False else False else False else bif decide ((0 : Int) ≤ k ∧ k < (↑(List.length (List.map itmD x)) : Int)) then bif isD PR 43 (D.nth (List.map itmD x) (Int.toNat k)) then ∀ (c : Int), c = (↑(List.length q) : Int) → bif decide ((-9223372036854775808 : Int) ≤ c + (1 : Int) ∧ c + (1 : Int) ≤ (9223372036854775807 : Int)) then bif decide ((0 : Int) ≤ c + (1 : Int) ∧ c + (1 : Int) ≤ (↑(List.length (D.sVal (D.cAt (D.nth (List.map itmD x) (Int.toNat k)) 3))) : Int)) then ∃ (s : List UInt8), [P.d (D.str (List.drop (Int.toNat (c + (1 : Int))) (List.take (List.length (D.sVal (D.cAt (D.nth (List.map itmD x) (Int.toNat k)) 3))) (D.sVal (D.cAt (D.nth (List.map itmD x) (Int.toNat k)) 3)))))] = [P.d (D.str s)] ∧ EqR [] [] ∧ List.length s ≤ 2000000 ∧ bif !seenOk s then post (PX.ret, S.mk 82 [(2, P.d (D.bool false))] []) else bif decide ((-9223372036854775808 : Int) ≤ k + (1 : Int) ∧ k + (1 : Int) ≤ (9223372036854775807 : Int)) then post (PX.normal, S.mk 82 [(0, P.d (D.sl 6 (List.map itmD x))), (3, P.d (D.int IntKind.i64 (k + (1 : Int))))] []) else False else False else False else False else False else False else False else False else False else False else False else False else False else False else False else False else False else bif decide ((0 : Int) ≤ k ∧ k < (↑(List.length (List.map itmD x)) : Int)) then bif isD PR 43 (D.nth (List.map itmD x) (Int.toNat k)) then bif decide ((↑(List.length (D.sVal (D.cAt (D.nth (List.map itmD x) (Int.toNat k)) 3))) : Int) < (2 : Int)) then post (PX.ret, S.mk 82 [(2, P.d (D.bool false))] []) else bif decide ((0 : Int) ≤ k ∧ k < (↑(List.length (List.map itmD x)) : Int)) then bif isD PR 43 (D.nth (List.map itmD x) (Int.toNat k)) then bif decide ((0 : Int) ≤ (0 : Int) ∧ (0 : Int) < (↑(List.length (D.sVal (D.cAt (D.nth (List.map itmD x) (Int.toNat k)) 3))) : Int)) then bif (↑(UInt8.toNat (List.getD (D.sVal (D.cAt (D.nth (List.map itmD x) (Int.toNat k)) 3)) 0 (0 : UInt8))) : Int) != (47 : Int) then post (PX.ret, S.mk 82 [(2, P.d (D.bool false))] []) else bif decide ((0 : Int) ≤ k ∧ k < (↑(List.length (List.map itmD x)) : Int)) then bif isD PR 43 (D.nth (List.map itmD x) (Int.toNat k)) then ∃ (q : List UInt8), ∃ (b : List UInt8), [P.d (D.str (D.sVal (D.cAt (D.nth (List.map itmD x) (Int.toNat k)) 3)))] = [P.d (D.str (q ++ (47 : UInt8) :: b))] ∧ EqR [] [] ∧ (¬(47 : UInt8) ∈ b ∧ List.length q + List.length b ≤ 4000000) ∧ ∃ (l : List It), ∃ (p : List UInt8), [P.d (D.sl 6 (List.map itmD x)), P.d (D.str q)] = [P.d (D.sl 6 (List.map itmD l)), P.d (D.str p)] ∧ EqR [] [] ∧ List.length l ≤ 1000000 ∧ bif !q == [] then bif decide (idxI (fun (x : It) => Prod.fst (Prod.snd x) == p) l < (0 : Int)) then post (PX.ret, S.mk 82 [(2, P.d (D.bool false))] []) else bif decide ((0 : Int) ≤ idxI (fun (x : It) => Prod.fst (Prod.snd x) == p) l ∧ idxI (fun (x : It) => Prod.fst (Prod.snd x) == p) l < (↑(List.length (List.map itmD x)) : Int)) then bif isD PR 43 (D.nth (List.map itmD x) (Int.toNat (idxI (fun (x : It) => Prod.fst (Prod.snd x) == p) l))) then bif !D.bVal (D.cAt (D.nth (List.map itmD x) (Int.toNat (idxI (fun (x : It) => Prod.fst (Prod.snd x) == p) l))) 4) then post (PX.ret, S.mk 82 [(2, P.d (D.bool false))] []) else bif decide ((0 : Int) ≤ k ∧ k < (↑(List.length (List.map itmD x)) : Int)) then bif isD PR 43 (D.nth (List.map itmD x) (Int.toNat k)) then ∀ (c : Int), c = (↑(List.length q) : Int) → bif decide ((-9223372036854775808 : Int) ≤ c + (1 : Int) ∧ c + (1 : Int) ≤ (9223372036854775807 : Int)) then bif decide ((0 : Int) ≤ c + (1 : Int) ∧ c + (1 : Int) ≤ (↑(List.length (D.sVal (D.cAt (D.nth (List.map itmD x) (Int.toNat k)) 3))) : Int)) then ∃ (s : List UInt8), [P.d (D.str (List.drop (Int.toNat (c + (1 : Int))) (List.take (List.length (D.sVal (D.cAt (D.nth (List.map itmD x) (Int.toNat k)) 3))) (D.sVal (D.cAt (D.nth (List.map itmD x) (Int.toNat k)) 3)))))] = [P.d (D.str s)] ∧ EqR [] [] ∧ List.length s ≤ 2000000 ∧ bif !seenOk s then post (PX.ret, S.mk 82 [(2, P.d (D.bool false))] []) else bif decide ((-9223372036854775808 : Int) ≤ k + (1 : Int) ∧ k + (1 : Int) ≤ (9223372036854775807 : Int)) then post (PX.normal, S.mk 82 [(0, P.d (D.sl 6 (List.map itmD x))), (3, P.d (D.int IntKind.i64 (k + (1 : Int))))] []) else False else False else False else False else False else False else False else bif decide ((0 : Int) ≤ k ∧ k < (↑(List.length (List.map itmD x)) : Int)) then bif isD PR 43 (D.nth (List.map itmD x) (Int.toNat k)) then ∀ (c : Int), c = (↑(List.length q) : Int) → bif decide ((-9223372036854775808 : Int) ≤ c + (1 : Int) ∧ c + (1 : Int) ≤ (9223372036854775807 : Int)) then bif decide ((0 : Int) ≤ c + (1 : Int) ∧ c + (1 : Int) ≤ (↑(List.length (D.sVal (D.cAt (D.nth (List.map itmD x) (Int.toNat k)) 3))) : Int)) then ∃ (s : List UInt8), [P.d (D.str (List.drop (Int.toNat (c + (1 : Int))) (List.take (List.length (D.sVal (D.cAt (D.nth (List.map itmD x) (Int.toNat k)) 3))) (D.sVal (D.cAt (D.nth (List.map itmD x) (Int.toNat k)) 3)))))] = [P.d (D.str s)] ∧ EqR [] [] ∧ List.length s ≤ 2000000 ∧ bif !seenOk s then post (PX.ret, S.mk 82 [(2, P.d (D.bool false))] []) else bif decide ((-9223372036854775808 : Int) ≤ k + (1 : Int) ∧ k + (1 : Int) ≤ (9223372036854775807 : Int)) then post (PX.normal, S.mk 82 [(0, P.d (D.sl 6 (List.map itmD x))), (3, P.d (D.int IntKind.i64 (k + (1 : Int))))] []) else False else False else False else False else False else False else False else False else False else False else False else False else post (PX.exit 0, S.mk 82 [] [])) = (roundL [(42, hPar), (15, hFindT), (43, hSeen)] [] 19 2 (ptsH x k)) post := by kernel_rfl
def gPts : S → K (PX × S) := fun s post => ∃ x, s = ptsH x 0 ∧ (x.length ≤ 1000000 ∧ Good x) ∧ post (.exit 0, ⟨82, [], []⟩)
theorem vcPtsB (x : List It) (post : P × List (Nat × En) → Prop) : (∃ (x_1 : List It), S.mk 82 [(0, P.d (D.sl 6 (List.map itmD x))), (3, P.d (D.int IntKind.i64 (0 : Int)))] [] = S.mk 82 [(0, P.d (D.sl 6 (List.map itmD x_1))), (3, P.d (D.int IntKind.i64 (0 : Int)))] [] ∧ (List.length x_1 ≤ 1000000 ∧ Good x_1) ∧ post (P.d (D.bool true), [])) = (bodyF [] [(2, loopHook (kpF 19 2) gPts)] 19 [itsP x] []) post := by kernel_rfl
def hPaths : KF1 := fun ps R post => ∃ x, ps = [itsP x] ∧ R = [] ∧ (x.length ≤ 1000000 ∧ Good x) ∧ post (.d (.bool true), [])
theorem vcLawTP (l : List Pl) (v : List Id3) (post : P × List (Nat × En) → Prop) : (EqP [] [] ∧ EqR [] [] ∧ bif decide ((↑(List.length (List.map plD l)) : Int) > (60 : Int)) then post (P.d (D.bool true), []) else bif decide ((↑(List.length (List.map ixD v)) : Int) > (60 : Int)) then post (P.d (D.bool true), []) else ∃ (l_1 : List Pl), ∃ (live : List Id3), [P.d (D.sl 8 (List.map plD l)), P.d (D.sl 3 (List.map ixD v))] = [P.d (D.sl 8 (List.map plD l_1)), P.d (D.sl 3 (List.map ixD live))] ∧ EqR [] [] ∧ (List.length l_1 ≤ 1000 ∧ List.length live ≤ 1000) ∧ ∃ (x : List It), [P.d (D.sl 6 (List.take (List.length (itemsX (tkL l_1) (lvL live))) (List.map itmD (itemsX (tkL l_1) (lvL live)))))] = [P.d (D.sl 6 (List.map itmD x))] ∧ EqR [] [] ∧ (List.length x ≤ 1000000 ∧ Good x) ∧ post (P.d (D.bool true), [])) = (bodyF [(10, hAwake15), (12, hItems), (19, hPaths)] [] 6 [plsP l, idsP v] []) post := by kernel_rfl
end Pi

/- Tree: paths: their law. -/
namespace Pi
open Go Go.Proofs
set_option maxRecDepth 100000
section
variable {X : XF}
theorem loopPr : LD X 42 2 (loopHook (kpF 42 2) gPr) :=
  LD.par (H := []) (hk := []) (by kernel_rfl) (by kernel_rfl) .nil .nil
    (A := List UInt8 × List UInt8) (B := Int) (fun a k => prH (a.1 ++ 47 :: a.2) k)
    (fun a k => 47 ∉ a.2 ∧ a.1.length + a.2.length ≤ 4000000 ∧ (a.1.length : Int) ≤ k ∧ k ≤ a.1.length + a.2.length)
    (fun _ k => k.toNat)
    (fun a x => (a.1 ≠ [] ∧ x = (.ret, ⟨18, [(2, sD a.1)], []⟩)) ∨ (a.1 = [] ∧ x = (.exit 0, ⟨18, [], []⟩)))
    (by
      rintro ⟨q, b⟩ k ⟨h1, h2, h3, h4⟩
      dsimp only at *
      rw [← vcPrH]
      have hl : ((q ++ 47 :: b).length : Int) = q.length + b.length + 1 := by simp; omega
      refine condP (fun h => oblP ⟨by omega, by omega⟩ ?_) fun h => .inr ⟨List.eq_nil_of_length_eq_zero (by omega), rfl⟩
      by_cases hk : k = q.length
      · subst hk
        have e : (q ++ 47 :: b).getD ((q.length : Int)).toNat (0 : UInt8) = 47 := by simp [List.getD_eq_getElem?_getD]
        rw [e]
        refine condT rfl (oblP ⟨by omega, by omega⟩ (.inl ⟨?_, ?_⟩))
        · rintro rfl
          simp at h
        · simp
      · have hj : k.toNat - q.length - 1 < b.length := by omega
        have e : (q ++ 47 :: b).getD k.toNat (0 : UInt8) = b.getD (k.toNat - q.length - 1) 0 := by
          simp only [List.getD_eq_getElem?_getD]
          rw [List.getElem?_append_right (by omega), show k.toNat - q.length = (k.toNat - q.length - 1) + 1 by omega, List.getElem?_cons_succ]
          rfl
        have hne : b.getD (k.toNat - q.length - 1) 0 ≠ 47 := fun he => h1 (by
          rw [← he]
          exact List.mem_of_getElem? (getD_some hj 0))
        rw [e]
        refine condF ?_ (oblP ⟨by omega, by omega⟩ ⟨(k - 1).toNat, by omega, k - 1, rfl, ⟨h1, h2, by omega, by omega⟩, rfl⟩)
        rw [beq_eq_false_iff_ne]
        exact fun he => hne (UInt8.toNat_inj.1 (by show _ = 47; omega)))
    (by
      rintro s post ⟨q, b, k, rfl, ⟨h1, rfl, h2⟩, h3, h4⟩
      refine ⟨(q, b), _, rfl, ⟨h1, h2, by dsimp only; omega, by dsimp only; omega⟩, ?_⟩
      rintro x (⟨h5, rfl⟩ | ⟨h5, rfl⟩)
      · exact h3 h5
      · exact h4 h5)
theorem okPar : FD X 42 hPar := FD.mk (H := []) (hk := [(2, loopHook (kpF 42 2) gPr)]) (by kernel_rfl) .nil (.cons loopPr .nil) (by
  intro ps R post hh
  obtain ⟨q, b, rfl, rfl, ⟨h1, h2⟩, hp⟩ := hh
  rw [← vcPr]
  have hl : ((q ++ 47 :: b).length : Int) = q.length + b.length + 1 := by simp; omega
  refine oblP ⟨by omega, by omega⟩ ⟨q, b, (q.length + b.length : Int), ?_, ⟨h1, rfl, h2⟩, fun _ => hp, fun h => by rw [h] at hp; exact hp⟩
  rw [hl, show ((q.length : Int) + b.length + 1 - 1) = q.length + b.length by omega])
theorem loopPts : LD X 19 2 (loopHook (kpF 19 2) gPts) :=
  LD.par (H := [(42, hPar), (15, hFindT), (43, hSeen)]) (hk := []) (by kernel_rfl) (by kernel_rfl) (.cons okPar (.cons okFindR (.cons okSeenR .nil))) .nil
    (A := List It) (B := Int) (fun x k => ptsH x k) (fun x k => x.length ≤ 1000000 ∧ Good x ∧ 0 ≤ k) (fun x k => (x.length - k).toNat) (fun _ y => y = (.exit 0, ⟨82, [], []⟩))
    (by
      rintro x k ⟨hm, hg, h0⟩
      rw [← vcPts]
      simp only [List.length_map]
      refine condP (fun hk => ?_) fun hk => rfl
      have hkn : k.toNat < x.length := by omega
      obtain ⟨hord, q, b, hp, hs, hdir, hlen⟩ := hg k.toNat hkn
      have e : D.sVal (D.cAt (itmD (x.getD k.toNat it0)) 3) = q ++ 47 :: b := hp
      have hl : ((q ++ 47 :: b).length : Int) = q.length + b.length + 1 := by simp; omega
      have hb : 0 < b.length := by
        rcases b with _ | ⟨c, b⟩
        · exact absurd rfl (seen_ne hs)
        · simp
      have hhd : (q ++ 47 :: b).getD 0 (0 : UInt8) = 47 := by
        rcases hdir with rfl | ⟨h, _⟩
        · rfl
        · rcases q with _ | ⟨c, q⟩
          · rfl
          · exact h
      have hdr : List.drop ((q.length : Int) + 1).toNat (List.take (q ++ 47 :: b).length (q ++ 47 :: b)) = b := by
        rw [List.take_length, show ((q.length : Int) + 1).toNat = q.length + 1 by omega]
        simp
      have hn : roundPost (x.length - k).toNat (fun m s => ∃ b', s = ptsH x b' ∧ (x.length ≤ 1000000 ∧ Good x ∧ 0 ≤ b') ∧ m = (x.length - b').toNat) (fun y => y = (.exit 0, ⟨82, [], []⟩)) (.normal, ptsH x (k + 1)) :=
        ⟨(x.length - (k + 1)).toNat, by omega, k + 1, rfl, ⟨hm, hg, by omega⟩, rfl⟩
      rw [it_nth hkn it0]
      simp only [e]
      refine condP (fun hpos => ?_) fun hpos => ?_
      · have hk1 : (k - 1).toNat < x.length := by omega
        rw [it_nth hk1 it0]
        refine oblP ⟨by omega, by omega⟩ (oblP ⟨by omega, by omega⟩ (oblI (isIt _) (oblP ⟨h0, hk⟩ (oblI (isIt _) (condF ?_ ?_)))))
        · have := hord (by omega)
          rw [hp] at this
          show (!Op.bytesLess (x.getD (k - 1).toNat it0).2.1 (q ++ 47 :: b)) = false
          rw [show (k - 1).toNat = k.toNat - 1 by omega, this]
          rfl
        · refine oblP ⟨h0, hk⟩ (oblI (isIt _) (condF (decF (by omega)) (oblP ⟨h0, hk⟩ (oblI (isIt _) (oblP ⟨by omega, by omega⟩ (condF ?_ (oblP ⟨h0, hk⟩ (oblI (isIt _) ⟨q, b, rfl, rfl, ⟨seen_no hs, by omega⟩, x, q, rfl, rfl, hm, ?_⟩)))))))) 
          · rw [hhd]; rfl
          have nx : (decide ((0 : Int) ≤ k ∧ k < (↑x.length : Int)) = true) := decT ⟨h0, hk⟩
          refine condI (fun hq => ?_) fun hq => ?_
          · rcases hdir with rfl | ⟨_, j, hj, hji, hjd⟩
            · simp at hq
            have hjn : (j : Int).toNat < x.length := by omega
            rw [hji, it_nth hjn it0]
            refine condF (decF (by omega)) (oblP ⟨by omega, by omega⟩ (oblI (isIt _) (condF ?_ (oblI nx (oblI (isIt _) fun c hc => ?_)))))
            · show (!(x.getD (j : Int).toNat it0).2.2.1) = false
              rw [show (j : Int).toNat = j by omega, hjd]
              rfl
            · refine oblP ⟨by omega, by omega⟩ (oblP ⟨by omega, by omega⟩ ⟨b, ?_, rfl, by omega, condF (by rw [hs]; rfl) (oblI (incI (by omega) (by omega)) hn)⟩)
              rw [hc, hdr]
          · refine oblI nx (oblI (isIt _) fun c hc => ?_)
            refine oblP ⟨by omega, by omega⟩ (oblP ⟨by omega, by omega⟩ ⟨b, ?_, rfl, by omega, condF (by rw [hs]; rfl) (oblI (incI (by omega) (by omega)) hn)⟩)
            rw [hc, hdr]
      · refine oblP ⟨h0, hk⟩ (oblI (isIt _) (condF (decF (by omega)) (oblP ⟨h0, hk⟩ (oblI (isIt _) (oblP ⟨by omega, by omega⟩ (condF ?_ (oblP ⟨h0, hk⟩ (oblI (isIt _) ⟨q, b, rfl, rfl, ⟨seen_no hs, by omega⟩, x, q, rfl, rfl, hm, ?_⟩)))))))) 
        · rw [hhd]; rfl
        have nx : (decide ((0 : Int) ≤ k ∧ k < (↑x.length : Int)) = true) := decT ⟨h0, hk⟩
        refine condI (fun hq => ?_) fun hq => ?_
        · rcases hdir with rfl | ⟨_, j, hj, hji, hjd⟩
          · simp at hq
          have hjn : (j : Int).toNat < x.length := by omega
          rw [hji, it_nth hjn it0]
          refine condF (decF (by omega)) (oblP ⟨by omega, by omega⟩ (oblI (isIt _) (condF ?_ (oblI nx (oblI (isIt _) fun c hc => ?_)))))
          · show (!(x.getD (j : Int).toNat it0).2.2.1) = false
            rw [show (j : Int).toNat = j by omega, hjd]
            rfl
          · refine oblP ⟨by omega, by omega⟩ (oblP ⟨by omega, by omega⟩ ⟨b, ?_, rfl, by omega, condF (by rw [hs]; rfl) (oblI (incI (by omega) (by omega)) hn)⟩)
            rw [hc, hdr]
        · refine oblI nx (oblI (isIt _) fun c hc => ?_)
          refine oblP ⟨by omega, by omega⟩ (oblP ⟨by omega, by omega⟩ ⟨b, ?_, rfl, by omega, condF (by rw [hs]; rfl) (oblI (incI (by omega) (by omega)) hn)⟩)
          rw [hc, hdr])
    (by
      rintro s post ⟨x, rfl, ⟨h1, h2⟩, hp⟩
      exact ⟨x, 0, rfl, ⟨h1, h2, by omega⟩, fun y hy => by rw [hy]; exact hp⟩)
theorem okPaths : FD X 19 hPaths := FD.mk (H := []) (hk := [(2, loopHook (kpF 19 2) gPts)]) (by kernel_rfl) .nil (.cons loopPts .nil) (by
  intro ps R post hh
  obtain ⟨x, rfl, rfl, hm, hp⟩ := hh
  rw [← vcPtsB]
  exact ⟨x, rfl, hm, hp⟩)
end
section
variable {X : XF} (hX : XT X)
include hX
def hLawTP : KF1 := fun ps R post => ∃ l v, ps = [plsP l, idsP v] ∧ R = [] ∧ post (.d (.bool true), [])
theorem okLawTP : FD X 6 hLawTP := FD.mk (H := [(10, hAwake15), (12, hItems), (19, hPaths)]) (hk := []) (by kernel_rfl) (.cons (okAwake15 hX) (.cons (okItems hX) (.cons okPaths .nil))) .nil (by
  intro ps R post hh
  obtain ⟨l, v, rfl, rfl, hp⟩ := hh
  rw [← vcLawTP]
  simp only [List.length_map]
  refine ⟨rfl, rfl, condP (fun _ => hp) fun h => condP (fun _ => hp) fun h' => ⟨l, v, rfl, rfl, ⟨by omega, by omega⟩, itemsX (tkL l) (lvL v), by rw [it_take], rfl, ⟨?_, items_good (tkL_rt l) ?_⟩, hp⟩⟩
  · have := items_len (T := tkL l) (V := lvL v)
    have := tkL_len l
    omega
  · have := tkL_len l
    omega)
end
theorem okTPathsLaw {X : XF} (hX : XT X) (xs : List D) (h : FitAll PR 8 [22, 23] xs) : ∃ lf k R, runF PR (kpT X) lf k 6 (xs.map P.d) [] = some (.d (.bool true), R) := by
  obtain ⟨x, r, rfl, hx, h⟩ := fitAll_cons h
  obtain ⟨y, r, rfl, hy, h⟩ := fitAll_cons h
  have e := fitAll_nil h
  subst e
  obtain ⟨l, rfl⟩ := fitPls hx
  obtain ⟨v, rfl⟩ := fitIds hy
  obtain ⟨lf, k, hr⟩ := (okLawTP hX).run (y := (.d (.bool true), [])) ⟨l, v, rfl, rfl, rfl⟩
  exact ⟨lf, k, [], hr⟩
theorem okTPathsLawX (xs : List D) (h : FitAll PR 8 [22, 23] xs) : ∃ lf k R, runF PR (kpT xTree) lf k 6 (xs.map P.d) [] = some (.d (.bool true), R) := okTPathsLaw xTree_t xs h
end Pi

/- Tree: clashes: what the runs ask. -/
namespace Pi
open Go Go.Proofs
set_option maxRecDepth 100000
set_option maxHeartbeats 0
abbrev idsB (l : List UInt8) : P := .d (.sl 1 (l.map bD))
abbrev clH (s : List UInt8) (l : List Pl) (v : List Id3) (n m : Nat) (a i : Int) : S := ⟨112, [(0, idsB s), (3, .d (.bool true)), (4, .sl 0 0 n), (5, .sl 1 0 m), (6, iD a), (7, iD i)], [(0, ⟨0, none, .arr 47 false (l.map plD)⟩), (1, ⟨0, none, .arr 41 false (v.map ixD)⟩)]⟩
def hF13C : KF1 := fun ps R post => ∃ l n x, ps = [.sl 0 0 n, .d (ixD x)] ∧ R = arL false l ∧ (n = l.length ∧ l.length ≤ 1000000) ∧ ∀ i, i = at13 l x → post (iD i, arL false l)
theorem vcClF (s : List UInt8) (l : List Pl) (v : List Id3) (n m : Nat) (a i : Int) (post : PX × S → Prop) : (bif decide (i < (↑(List.length (List.map bD s)) : Int)) then bif decide (i < (30 : Int)) then bif decide ((0 : Int) ≤ i ∧ i < (↑(List.length (List.map bD s)) : Int)) then bif isD PR 5 (D.nth (List.map bD s) (Int.toNat i)) then bif decide ((-9223372036854775808 : Int) ≤ D.iVal (D.nth (List.map bD s) (Int.toNat i)) ∧ D.iVal (D.nth (List.map bD s) (Int.toNat i)) ≤ (9223372036854775807 : Int)) then bif decide ((-9223372036854775808 : Int) ≤ (1 : Int) + D.iVal (D.nth (List.map bD s) (Int.toNat i)) ∧ (1 : Int) + D.iVal (D.nth (List.map bD s) (Int.toNat i)) ≤ (9223372036854775807 : Int)) then ∃ (l_1 : List Pl), ∃ (n_1 : Nat), ∃ (x : Id3), [P.sl 0 0 n, P.d (D.agg [D.int IntKind.i64 ((1 : Int) + D.iVal (D.nth (List.map bD s) (Int.toNat i))), D.int IntKind.i64 (1 : Int), D.int IntKind.i64 (0 : Int)])] = [P.sl 0 0 n_1, P.d (D.agg [D.int IntKind.i64 (Prod.fst x), D.int IntKind.i64 (Prod.fst (Prod.snd x)), D.int IntKind.i64 (Prod.snd (Prod.snd x))])] ∧ [(0, En.mk 0 (some 0) (Obj.arr 47 false (List.map plD l)))] = [(0, En.mk 0 (some 0) (Obj.arr 47 false (List.map plD l_1)))] ∧ (n_1 = List.length l_1 ∧ List.length l_1 ≤ 1000000) ∧ ∀ (i_1 : Int), i_1 = at13 l_1 x → bif decide (i_1 ≥ (0 : Int)) then bif decide ((-9223372036854775808 : Int) ≤ i + (1 : Int) ∧ i + (1 : Int) ≤ (9223372036854775807 : Int)) then post (PX.normal, S.mk 112 [(0, P.d (D.sl 1 (List.map bD s))), (3, P.d (D.bool true)), (4, P.sl 0 0 n), (5, P.sl 1 0 m), (6, P.d (D.int IntKind.i64 a)), (7, P.d (D.int IntKind.i64 (i + (1 : Int))))] [(0, En.mk 0 none (Obj.arr 47 false (List.map plD l_1))), (1, En.mk 0 none (Obj.arr 41 false (List.map ixD v)))]) else False else bif Nat.ble n (List.length (List.map plD l_1)) && roomOk (n + List.length [D.agg [D.int IntKind.i64 ((1 : Int) + D.iVal (D.nth (List.map bD s) (Int.toNat i))), D.int IntKind.i64 (1 : Int), D.int IntKind.i64 (0 : Int), D.int IntKind.i64 (0 : Int), D.int IntKind.i64 (0 : Int), D.int IntKind.i64 (0 : Int), D.str [(120 : UInt8)], D.bool false]]) 72 then bif Nat.ble m (List.length (List.map ixD v)) && roomOk (m + List.length [D.agg [D.int IntKind.i64 ((1 : Int) + D.iVal (D.nth (List.map bD s) (Int.toNat i))), D.int IntKind.i64 (1 : Int), D.int IntKind.i64 (0 : Int)]]) 24 then bif decide ((-9223372036854775808 : Int) ≤ i + (1 : Int) ∧ i + (1 : Int) ≤ (9223372036854775807 : Int)) then post (PX.normal, S.mk 112 [(0, P.d (D.sl 1 (List.map bD s))), (3, P.d (D.bool true)), (4, P.sl 0 0 (n + List.length [D.agg [D.int IntKind.i64 ((1 : Int) + D.iVal (D.nth (List.map bD s) (Int.toNat i))), D.int IntKind.i64 (1 : Int), D.int IntKind.i64 (0 : Int), D.int IntKind.i64 (0 : Int), D.int IntKind.i64 (0 : Int), D.int IntKind.i64 (0 : Int), D.str [(120 : UInt8)], D.bool false]])), (5, P.sl 1 0 (m + List.length [D.agg [D.int IntKind.i64 ((1 : Int) + D.iVal (D.nth (List.map bD s) (Int.toNat i))), D.int IntKind.i64 (1 : Int), D.int IntKind.i64 (0 : Int)]])), (6, P.d (D.int IntKind.i64 (min a ((1 : Int) + D.iVal (D.nth (List.map bD s) (Int.toNat i)))))), (7, P.d (D.int IntKind.i64 (i + (1 : Int))))] [(0, En.mk 0 none (Obj.arr 47 false (List.take n (List.map plD l_1) ++ [D.agg [D.int IntKind.i64 ((1 : Int) + D.iVal (D.nth (List.map bD s) (Int.toNat i))), D.int IntKind.i64 (1 : Int), D.int IntKind.i64 (0 : Int), D.int IntKind.i64 (0 : Int), D.int IntKind.i64 (0 : Int), D.int IntKind.i64 (0 : Int), D.str [(120 : UInt8)], D.bool false]]))), (1, En.mk 0 none (Obj.arr 41 false (List.take m (List.map ixD v) ++ [D.agg [D.int IntKind.i64 ((1 : Int) + D.iVal (D.nth (List.map bD s) (Int.toNat i))), D.int IntKind.i64 (1 : Int), D.int IntKind.i64 (0 : Int)]])))]) else False else False else False else False else False else False else False else post (PX.exit 0, S.mk 112 [(3, P.d (D.bool true)), (4, P.sl 0 0 n), (5, P.sl 1 0 m), (6, P.d (D.int IntKind.i64 a))] [(0, En.mk 0 none (Obj.arr 47 false (List.map plD l))), (1, En.mk 0 none (Obj.arr 41 false (List.map ixD v)))]) else post (PX.exit 0, S.mk 112 [(3, P.d (D.bool true)), (4, P.sl 0 0 n), (5, P.sl 1 0 m), (6, P.d (D.int IntKind.i64 a))] [(0, En.mk 0 none (Obj.arr 47 false (List.map plD l))), (1, En.mk 0 none (Obj.arr 41 false (List.map ixD v)))])) = (roundL [(22, hF13C)] [] 9 8 (clH s l v n m a i)) post := by kernel_rfl
abbrev plC (t : Int) : Pl := ((t, 1, 0), (0, 0, 0), [120], false)
abbrev idC (t : Int) : Id3 := (t, 1, 0)
/-- What the steps leave. -/
def ClR (l : List Pl) (v : List Id3) (n m : Nat) (a : Int) : Prop := ∃ L : List Int, L.Nodup ∧ (∀ t ∈ L, 1 ≤ t ∧ t ≤ 256) ∧ L.length ≤ 30 ∧ l = L.map plC ∧ v = L.map idC ∧ n = L.length ∧ m = L.length ∧ a = L.foldl min 1000
def gClF : S → K (PX × S) := fun s post => ∃ t, s = clH t [] [] 0 0 1000 0 ∧ ∀ l v n m a, ClR l v n m a → post (.exit 0, ⟨112, [(3, .d (.bool true)), (4, .sl 0 0 n), (5, .sl 1 0 m), (6, iD a)], [(0, ⟨0, none, .arr 47 false (l.map plD)⟩), (1, ⟨0, none, .arr 41 false (v.map ixD)⟩)]⟩)
abbrev clK (x : List It) (n : Nat) (a k : Int) : S := ⟨112, [(3, .d (.bool true)), (6, iD a), (9, .sl 0 0 n), (10, iD k)], [(0, ⟨0, none, .arr 43 false (x.map itmD)⟩)]⟩
theorem vcClK (x : List It) (n : Nat) (a k : Int) (post : PX × S → Prop) : (bif decide (k < (↑n : Int)) then bif decide ((0 : Int) ≤ k ∧ k < (↑n : Int)) then bif decide (Int.toNat k < List.length (List.map itmD x)) then bif isD PR (43 : TypeId) (D.nth (List.map itmD x) (Int.toNat k)) then ∃ (s : List UInt8), ∃ (t : Int), ∃ (r : Int), ∃ (i : Int), [P.d (D.str [(120 : UInt8)]), P.d (D.agg [D.int IntKind.i64 (D.iVal (D.cAt (D.nth (List.map itmD x) (Int.toNat k)) 0)), D.int IntKind.i64 (D.iVal (D.cAt (D.nth (List.map itmD x) (Int.toNat k)) 1)), D.int IntKind.i64 (D.iVal (D.cAt (D.nth (List.map itmD x) (Int.toNat k)) 2))])] = [P.d (D.str s), P.d (D.agg [D.int IntKind.i64 t, D.int IntKind.i64 r, D.int IntKind.i64 i])] ∧ EqR [] [] ∧ bif decide ((0 : Int) ≤ k ∧ k < (↑n : Int)) then bif decide (Int.toNat k < List.length (List.map itmD x)) then bif isD PR (43 : TypeId) (D.nth (List.map itmD x) (Int.toNat k)) then bif D.iVal (D.cAt (D.nth (List.map itmD x) (Int.toNat k)) 0) == a then bif decide ((0 : Int) ≤ k ∧ k < (↑n : Int)) then bif decide (Int.toNat k < List.length (List.map itmD x)) then bif isD PR (43 : TypeId) (D.nth (List.map itmD x) (Int.toNat k)) then bif !D.sVal (D.cAt (D.nth (List.map itmD x) (Int.toNat k)) 3) == [(47 : UInt8), (120 : UInt8)] then post (PX.ret, S.mk 112 [(2, P.d (D.bool false)), (3, P.d (D.bool true)), (9, P.sl 0 0 n)] [(0, En.mk 0 none (Obj.arr 43 false (List.map itmD x)))]) else bif decide ((-9223372036854775808 : Int) ≤ k + (1 : Int) ∧ k + (1 : Int) ≤ (9223372036854775807 : Int)) then post (PX.normal, S.mk 112 [(3, P.d (D.bool true)), (6, P.d (D.int IntKind.i64 a)), (9, P.sl 0 0 n), (10, P.d (D.int IntKind.i64 (k + (1 : Int))))] [(0, En.mk 0 none (Obj.arr 43 false (List.map itmD x)))]) else False else False else False else False else bif decide ((0 : Int) ≤ k ∧ k < (↑n : Int)) then bif decide (Int.toNat k < List.length (List.map itmD x)) then bif isD PR (43 : TypeId) (D.nth (List.map itmD x) (Int.toNat k)) then bif decide (1 + List.length (Prod.fst (clashP s t r i)) ≤ 9223372036854775807) then bif !D.sVal (D.cAt (D.nth (List.map itmD x) (Int.toNat k)) 3) == [(47 : UInt8)] ++ Prod.fst (clashP s t r i) then post (PX.ret, S.mk 112 [(2, P.d (D.bool false)), (3, P.d (D.bool true)), (9, P.sl 0 0 n)] [(0, En.mk 0 none (Obj.arr 43 false (List.map itmD x)))]) else bif decide ((-9223372036854775808 : Int) ≤ k + (1 : Int) ∧ k + (1 : Int) ≤ (9223372036854775807 : Int)) then post (PX.normal, S.mk 112 [(3, P.d (D.bool true)), (6, P.d (D.int IntKind.i64 a)), (9, P.sl 0 0 n), (10, P.d (D.int IntKind.i64 (k + (1 : Int))))] [(0, En.mk 0 none (Obj.arr 43 false (List.map itmD x)))]) else False else False else False else False else False else False else False else False else False else False else False else post (PX.exit 2, S.mk 112 [(3, P.d (D.bool true)), (9, P.sl 0 0 n)] [(0, En.mk 0 none (Obj.arr 43 false (List.map itmD x)))])) = (roundL [(24, hClash)] [] 9 19 (clK x n a k)) post := by kernel_rfl
def okC (a : Int) (y : It) : Prop := y.2.1 = 47 :: (if y.1.1 = a then [120] else (clashP [120] y.1.1 y.1.2.1 y.1.2.2).1)
def gClK : S → K (PX × S) := fun s post => ∃ x n a, s = clK x n a 0 ∧ (n = x.length ∧ x.length ≤ 1000 ∧ ∀ y ∈ x, okC a y) ∧ post (.exit 2, ⟨112, [(3, .d (.bool true)), (9, .sl 0 0 n)], [(0, ⟨0, none, .arr 43 false (x.map itmD)⟩)]⟩)
theorem vcClB (s : List UInt8) (post : P × List (Nat × En) → Prop) : (EqP [] [] ∧ EqR [] [] ∧ ∃ (t : List UInt8), S.mk 112 [(0, P.d (D.sl 1 (List.map bD s))), (3, P.d (D.bool true)), (4, P.sl 0 0 0), (5, P.sl 1 0 0), (6, P.d (D.int IntKind.i64 (1000 : Int))), (7, P.d (D.int IntKind.i64 (0 : Int)))] [(0, En.mk 0 none (Obj.arr 47 false [])), (1, En.mk 0 none (Obj.arr 41 false []))] = S.mk 112 [(0, P.d (D.sl 1 (List.map bD t))), (3, P.d (D.bool true)), (4, P.sl 0 0 0), (5, P.sl 1 0 0), (6, P.d (D.int IntKind.i64 (1000 : Int))), (7, P.d (D.int IntKind.i64 (0 : Int)))] [(0, En.mk 0 none (Obj.arr 47 false [])), (1, En.mk 0 none (Obj.arr 41 false []))] ∧ ∀ (l : List Pl) (v : List Id3) (n m : Nat) (a : Int), ClR l v n m a → ∃ (l_1 : List Pl), ∃ (live : List Id3), [P.d (D.sl 8 (List.take n (List.map plD l))), P.d (D.sl 3 (List.take m (List.map ixD v)))] = [P.d (D.sl 8 (List.map plD l_1)), P.d (D.sl 3 (List.map ixD live))] ∧ EqR [] [] ∧ (List.length l_1 ≤ 1000 ∧ List.length live ≤ 1000) ∧ bif (↑(List.length (itemsX (tkL l_1) (lvL live))) : Int) != (↑n : Int) then post (P.d (D.bool false), []) else ∃ (x : List It), ∃ (n : Nat), ∃ (a_2 : Int), S.mk 112 [(3, P.d (D.bool true)), (6, P.d (D.int IntKind.i64 a)), (9, P.sl 0 0 (List.length (itemsX (tkL l_1) (lvL live)))), (10, P.d (D.int IntKind.i64 (0 : Int)))] [(0, En.mk 0 none (Obj.arr 43 false (List.map itmD (itemsX (tkL l_1) (lvL live)))))] = S.mk 112 [(3, P.d (D.bool true)), (6, P.d (D.int IntKind.i64 a_2)), (9, P.sl 0 0 n), (10, P.d (D.int IntKind.i64 (0 : Int)))] [(0, En.mk 0 none (Obj.arr 43 false (List.map itmD x)))] ∧ (n = List.length x ∧ List.length x ≤ 1000 ∧ ∀ (y : It), y ∈ x → okC a_2 y) ∧ ∃ (l : List It), [P.d (D.sl 6 (List.take n (List.map itmD x)))] = [P.d (D.sl 6 (List.map itmD l))] ∧ EqR [] [] ∧ List.length l ≤ 1000000 ∧ bif (!List.any l unset) == decide ((↑n : Int) < (2 : Int)) then bif (↑n : Int) == (0 : Int) then post (P.d (D.bool true), []) else bif decide ((0 : Int) ≤ (0 : Int) ∧ (0 : Int) < (↑n : Int)) then bif decide (0 < List.length (List.map itmD x)) then bif isD PR (43 : TypeId) (D.nth (List.map itmD x) 0) then ∃ (t : Int), ∃ (r : Int), ∃ (i : Int), [P.d (D.agg [D.int IntKind.i64 (D.iVal (D.cAt (D.nth (List.map itmD x) 0) 0)), D.int IntKind.i64 (D.iVal (D.cAt (D.nth (List.map itmD x) 0) 1)), D.int IntKind.i64 (D.iVal (D.cAt (D.nth (List.map itmD x) 0) 2))])] = [P.d (D.agg [D.int IntKind.i64 t, D.int IntKind.i64 r, D.int IntKind.i64 i])] ∧ EqR [] [] ∧ post (P.d (D.bool (rightId t r i)), []) else False else False else False else post (P.d (D.bool false), [])) = (bodyF [(10, hAwake15), (12, hItems), (16, hSettled), (25, hRightId)] [(8, loopHook (kpF 9 8) gClF), (19, loopHook (kpF 9 19) gClK)] 9 [idsB s] []) post := by kernel_rfl
end Pi

