/- The text T12H. -/
import Derived.Test.YtccffeofkhkbcaaGreatDoorEby
/- Tree: the law of clashes. -/
namespace Pi
open Go Go.Proofs
set_option maxRecDepth 100000
theorem minF : ∀ (L : List Int) (b : Int), (L.foldl min b = b ∨ L.foldl min b ∈ L) ∧ L.foldl min b ≤ b ∧ ∀ t ∈ L, L.foldl min b ≤ t
  | [], b => ⟨.inl rfl, Int.le_refl _, by simp⟩
  | x :: L, b => by
    obtain ⟨h1, h2, h3⟩ := minF L (min b x)
    simp only [List.foldl_cons]
    refine ⟨?_, by omega, ?_⟩
    · rcases h1 with h1 | h1
      · rcases Int.le_total b x with h | h
        · left
          rw [h1]
          omega
        · right
          rw [h1, show min b x = x by omega]
          simp
      · exact .inr (.tail _ h1)
    · intro t ht
      rcases List.mem_cons.1 ht with rfl | ht
      · omega
      · exact h3 t ht
section
variable {L : List Int}
theorem plC_ok {t : Int} (h : 1 ≤ t ∧ t ≤ 256) : okPl (plC t) = true := by
  have h1 : rightId t 1 0 = true := by
    unfold rightId
    rw [decide_eq_true_eq]
    omega
  have h2 : nameOk [120] = true := by decide
  show (rightId t 1 0 && nameOk [120]) = true
  rw [h1, h2]
  rfl
theorem idC_nodup (hn : L.Nodup) : (L.map idC).Nodup := List.pairwise_map.2 (hn.imp fun h e => h (congrArg (·.1) e))
theorem plC_rt (hn : L.Nodup) (hr : ∀ t ∈ L, 1 ≤ t ∧ t ≤ 256) : Rt (L.map plC) := by
  refine ⟨?_, fun p hp => ?_⟩
  · unfold Uq
    rw [List.map_map]
    exact idC_nodup hn
  · obtain ⟨t, ht, rfl⟩ := List.mem_map.1 hp
    exact plC_ok (hr t ht)
theorem tkL_C (hn : L.Nodup) (hr : ∀ t ∈ L, 1 ≤ t ∧ t ≤ 256) : tkL (L.map plC) = L.map plC :=
  tkL_all (plC_rt hn hr).2 (plC_rt hn hr).1
theorem up_C (hn : L.Nodup) (hr : ∀ t ∈ L, 1 ≤ t ∧ t ≤ 256) {t : Int} (ht : t ∈ L) : Up (L.map plC) (idC t) [idC t] :=
  .top (atPl_of (plC_rt hn hr).1 (p := plC t) (List.mem_map_of_mem ht)) rfl
theorem seen_C (hn : L.Nodup) (hr : ∀ t ∈ L, 1 ≤ t ∧ t ≤ 256) : seenL (L.map plC) (lvL (L.map idC)) = L.map plC := by
  refine List.filter_eq_self.2 fun p hp => ?_
  obtain ⟨t, ht, rfl⟩ := List.mem_map.1 hp
  exact marked_iff.2 ⟨idC t, lvL_mem.2 (List.mem_map_of_mem ht), _, up_C hn hr ht, List.mem_singleton.2 rfl⟩
theorem any_C {t : Int} (hr : ∀ t ∈ L, 1 ≤ t ∧ t ≤ 256) (ht : t ∈ L) : (L.map plC).any (fun q => decide (q.2.1 = (plC t).2.1) && (q.2.2.1 == (plC t).2.2.1) && ltX q.1 (plC t).1) = !decide (t = L.foldl min 1000) := by
  obtain ⟨h1, h2, h3⟩ := minF L 1000
  have := hr t ht
  have := h3 t ht
  rw [Bool.eq_iff_iff, List.any_eq_true]
  constructor
  · rintro ⟨q, hq, h⟩
    obtain ⟨u, hu, rfl⟩ := List.mem_map.1 hq
    have := h3 u hu
    have hlt : u < t := by
      simp [ltX] at h
      exact h
    have : t ≠ L.foldl min 1000 := by omega
    simpa using this
  · intro h
    have hne : t ≠ L.foldl min 1000 := by simpa using h
    rcases h1 with h1 | h1
    · omega
    · refine ⟨plC (L.foldl min 1000), List.mem_map_of_mem h1, ?_⟩
      have hlt : L.foldl min 1000 < t := by omega
      simp [ltX, hlt]
def itC (a t : Int) : It := ((t, 1, 0), 47 :: (if t = a then [120] else (clashP [120] t 1 0).1), false, false)
theorem item_C (hn : L.Nodup) (hr : ∀ t ∈ L, 1 ≤ t ∧ t ≤ 256) {t : Int} (ht : t ∈ L) : itemX (L.map plC) (lvL (L.map idC)) (plC t) = itC (L.foldl min 1000) t := by
  have hp : pathX (L.map plC) (lvL (L.map idC)) (idC t) = 47 :: (if t = L.foldl min 1000 then [120] else (clashP [120] t 1 0).1) := by
    unfold pathX
    rw [pathX_up (up_C hn hr ht)]
    have e : nmX (L.map plC) (lvL (L.map idC)) (idC t) = (if t = L.foldl min 1000 then [120] else (clashP [120] t 1 0).1) := by
      unfold nmX
      rw [atPl_of (plC_rt hn hr).1 (p := plC t) (List.mem_map_of_mem ht)]
      show nmP (seenL (L.map plC) (lvL (L.map idC))) (plC t) = _
      rw [seen_C hn hr]
      unfold nmP
      rw [any_C hr ht]
      by_cases h : t = L.foldl min 1000
      · rw [if_pos h, h]
        simp
      · rw [if_neg h]
        simp [h]
    show joinR [nmX (L.map plC) (lvL (L.map idC)) (idC t)] = _
    rw [e]
    simp [joinR]
  have hb : (!decide (idC t ∈ lvL (L.map idC))) = false := by
    rw [decide_eq_true (lvL_mem.2 (List.mem_map_of_mem ht))]
    rfl
  show ((t, 1, 0), pathX _ _ (idC t), false, !decide (idC t ∈ lvL (L.map idC))) = itC (L.foldl min 1000) t
  rw [hp, hb]
  rfl
theorem itemsC_mem (hn : L.Nodup) (hr : ∀ t ∈ L, 1 ≤ t ∧ t ≤ 256) {y : It} : y ∈ itemsX (L.map plC) (lvL (L.map idC)) ↔ ∃ t ∈ L, y = itC (L.foldl min 1000) t := by
  rw [items_mem, seen_C hn hr]
  constructor
  · rintro ⟨p, hp, rfl⟩
    obtain ⟨t, ht, rfl⟩ := List.mem_map.1 hp
    exact ⟨t, ht, item_C hn hr ht⟩
  · rintro ⟨t, ht, rfl⟩
    exact ⟨plC t, List.mem_map_of_mem ht, (item_C hn hr ht).symm⟩
theorem itemsC_len (hn : L.Nodup) (hr : ∀ t ∈ L, 1 ≤ t ∧ t ≤ 256) : (itemsX (L.map plC) (lvL (L.map idC))).length = L.length := by
  rw [itemsX_perm.length_eq, seen_C hn hr]
  simp
theorem unset_C {a t : Int} (h : 1 ≤ t ∧ t ≤ 256) : unset (itC a t) = !decide (t = a) := by
  unfold unset itC
  by_cases e : t = a
  · rw [if_pos e, decide_eq_true e]
    rfl
  · rw [if_neg e, decide_eq_false e, show (clashP [120] t 1 0).1 = [120] ++ 126 :: textS t 1 0 from clashR (plC_ok h)]
    show (false || _) = true
    rw [List.contains_iff_mem.2 (by simp)]
    rfl
theorem settled_C (hn : L.Nodup) (hr : ∀ t ∈ L, 1 ≤ t ∧ t ≤ 256) : (!(itemsX (L.map plC) (lvL (L.map idC))).any unset) = decide ((L.length : Int) < 2) := by
  obtain ⟨h1, h2, h3⟩ := minF L 1000
  by_cases hl : (L.length : Int) < 2
  · rw [decide_eq_true hl]
    have : (itemsX (L.map plC) (lvL (L.map idC))).any unset = false := by
      rw [List.any_eq_false]
      intro y hy
      obtain ⟨t, ht, rfl⟩ := (itemsC_mem hn hr).1 hy
      rw [unset_C (hr t ht)]
      match L, hl, ht, hr with
      | [], _, ht, _ => cases ht
      | [u], _, ht, hr =>
        have hu := hr u (List.mem_singleton.2 rfl)
        have e : t = u := List.mem_singleton.1 ht
        subst e
        have e2 : decide (t = [t].foldl min 1000) = true := decide_eq_true (show t = min 1000 t by omega)
        rw [e2]
        simp
      | u :: v :: r, hl, _, _ => simp only [List.length_cons] at hl; omega
    rw [this]
    rfl
  · rw [decide_eq_false hl]
    have : (itemsX (L.map plC) (lvL (L.map idC))).any unset = true := by
      have hex : ∃ t ∈ L, t ≠ L.foldl min 1000 := by
        refine Classical.byContradiction fun hc => ?_
        have hall : ∀ t ∈ L, t = L.foldl min 1000 := fun t ht => Classical.byContradiction fun h => hc ⟨t, ht, h⟩
        match L, hl, hn, hall with
        | [], hl, _, _ => simp at hl
        | [u], hl, _, _ => simp at hl
        | u :: v :: r, _, hn, hall =>
          have a := hall u (List.mem_cons_self ..)
          have b := hall v (List.mem_cons_of_mem _ (List.mem_cons_self ..))
          have := (List.nodup_cons.1 hn).1
          rw [a.trans b.symm] at this
          exact this (List.mem_cons_self ..)
      obtain ⟨t, ht, hne⟩ := hex
      rw [List.any_eq_true]
      refine ⟨_, (itemsC_mem hn hr).2 ⟨t, ht, rfl⟩, ?_⟩
      rw [unset_C (hr t ht), decide_eq_false hne]
      rfl
    rw [this]
    rfl
end
section
variable {X : XF}
theorem isB5 (b : UInt8) : isD PR 5 (bD b) = true := rfl
theorem bD_nth' {l : List UInt8} {i : Nat} (h : i < l.length) : D.nth (l.map bD) i = bD (l.getD i 0) := by
  rw [nth_map bD l i h]
  simp [List.getD_eq_getElem?_getD, h]
theorem okF13C : FD X 22 hF13C := okF13L.weaken fun ps R post h => by
  obtain ⟨l, n, x, rfl, rfl, ⟨rfl, hm⟩, hp⟩ := h
  exact ⟨false, l, x, rfl, rfl, hm, hp _ rfl⟩
theorem at_C {L : List Int} {t : Int} : 0 ≤ at13 (L.map plC) (t, 1, 0) ↔ t ∈ L := by
  unfold at13
  rw [idx_mem]
  constructor
  · rintro ⟨p, hp, h⟩
    obtain ⟨u, hu, rfl⟩ := List.mem_map.1 hp
    have : u = t := by simpa using h
    exact this ▸ hu
  · exact fun h => ⟨plC t, List.mem_map_of_mem h, by simp⟩
theorem loopClF : LD X 9 8 (loopHook (kpF 9 8) gClF) :=
  LD.par (H := [(22, hF13C)]) (hk := []) (by kernel_rfl) (by kernel_rfl) (.cons okF13C .nil) .nil
    (A := List UInt8) (B := List Int × Int) (fun s b => clH s (b.1.map plC) (b.1.map idC) b.1.length b.1.length (b.1.foldl min 1000) b.2)
    (fun _ b => b.1.Nodup ∧ (∀ t ∈ b.1, 1 ≤ t ∧ t ≤ 256) ∧ (b.1.length : Int) ≤ b.2 ∧ b.2 ≤ 30) (fun _ b => (30 - b.2).toNat)
    (fun _ x => ∃ l v n m a, ClR l v n m a ∧ x = (.exit 0, ⟨112, [(3, .d (.bool true)), (4, .sl 0 0 n), (5, .sl 1 0 m), (6, iD a)], [(0, ⟨0, none, .arr 47 false (l.map plD)⟩), (1, ⟨0, none, .arr 41 false (v.map ixD)⟩)]⟩))
    (by
      rintro s ⟨L, i⟩ ⟨hn, hr, hl, hi⟩
      dsimp only at *
      rw [← vcClF]
      have out : ∃ l v n m a, ClR l v n m a ∧ ((PX.exit 0, (⟨112, [(3, .d (.bool true)), (4, .sl 0 0 L.length), (5, .sl 1 0 L.length), (6, iD (L.foldl min 1000))], [(0, ⟨0, none, .arr 47 false ((L.map plC).map plD)⟩), (1, ⟨0, none, .arr 41 false ((L.map idC).map ixD)⟩)]⟩ : S)) : PX × S) = (.exit 0, ⟨112, [(3, .d (.bool true)), (4, .sl 0 0 n), (5, .sl 1 0 m), (6, iD a)], [(0, ⟨0, none, .arr 47 false (l.map plD)⟩), (1, ⟨0, none, .arr 41 false (v.map ixD)⟩)]⟩) :=
        ⟨_, _, _, _, _, ⟨L, hn, hr, by omega, rfl, rfl, rfl, rfl, rfl⟩, rfl⟩
      refine condP (fun h1 => condP (fun h2 => ?_) fun _ => out) fun _ => out
      rw [List.length_map] at h1
      have hk : i.toNat < s.length := by omega
      rw [bD_nth' hk]
      generalize s.getD i.toNat 0 = b
      have hb : b.toNat < 256 := b.toNat_lt
      have e : D.iVal (bD b) = (b.toNat : Int) := rfl
      rw [e]
      rw [List.length_map]
      refine oblP ⟨by omega, h1⟩ (oblI (isB5 b) (oblP ⟨by omega, by omega⟩ (oblP ⟨by omega, by omega⟩ ⟨L.map plC, L.length, (1 + (b.toNat : Int), 1, 0), rfl, rfl, ⟨by simp, by simp; omega⟩, fun j hj => ?_⟩)))
      refine condP (fun hj0 => ?_) fun hj0 => ?_
      · exact oblP ⟨by omega, by omega⟩ ⟨(30 - (i + 1)).toNat, by omega, (L, i + 1), rfl, ⟨hn, hr, by dsimp only; omega, by dsimp only; omega⟩, rfl⟩
      · have hnot : (1 + (b.toNat : Int)) ∉ L := fun hm => hj0 (by rw [hj]; exact at_C.2 hm)
        have hsz : L.length ≤ 30 := by omega
        refine oblI ?_ (oblI ?_ (oblP ⟨by omega, by omega⟩ ⟨(30 - (i + 1)).toNat, by omega, (L ++ [1 + (b.toNat : Int)], i + 1), ?_, ⟨?_, ?_, by simp; omega, by dsimp only; omega⟩, rfl⟩))
        · simp [roomOk]
          omega
        · simp [roomOk]
          omega
        · rw [List.take_of_length_le (by simp), List.take_of_length_le (by simp)]
          simp
          exact ⟨rfl, rfl⟩
        · rw [List.nodup_append]
          exact ⟨hn, by simp, fun x hx y hy e => hnot (by rw [List.mem_singleton] at hy; rw [← hy, ← e]; exact hx)⟩
        · intro t ht
          rcases List.mem_append.1 ht with ht | ht
          · exact hr t ht
          · rw [List.mem_singleton.1 ht]
            omega)
    (by
      rintro s post ⟨t, rfl, h⟩
      refine ⟨t, ([], 0), rfl, ⟨by simp, by simp, by simp, by simp⟩, ?_⟩
      rintro x ⟨l, v, n, m, a, hc, rfl⟩
      exact h l v n m a hc)
theorem loopClK : LD X 9 19 (loopHook (kpF 9 19) gClK) :=
  LD.par (H := [(24, hClash)]) (hk := []) (by kernel_rfl) (by kernel_rfl) (.cons okClashR .nil) .nil
    (A := List It × Int) (B := Int) (fun a k => clK a.1 a.1.length a.2 k)
    (fun a k => a.1.length ≤ 1000 ∧ (∀ y ∈ a.1, okC a.2 y) ∧ 0 ≤ k) (fun a k => (a.1.length - k).toNat)
    (fun a x => x = (.exit 2, ⟨112, [(3, .d (.bool true)), (9, .sl 0 0 a.1.length)], [(0, ⟨0, none, .arr 43 false (a.1.map itmD)⟩)]⟩))
    (by
      rintro ⟨x, a⟩ k ⟨hm, ho, h0⟩
      dsimp only at *
      rw [← vcClK]
      refine condP (fun hk => ?_) fun hk => rfl
      have hkn : k.toNat < x.length := by omega
      have hy := ho _ (List.mem_of_getElem? (getD_some hkn it0))
      rw [it_nth hkn it0]
      generalize x.getD k.toNat it0 = y at hy
      have hin : (decide ((0 : Int) ≤ k ∧ k < (↑x.length : Int))) = true := decT ⟨h0, hk⟩
      have hln : decide (k.toNat < (x.map itmD).length) = true := decT (by rw [List.length_map]; exact hkn)
      have hs : D.sVal (D.cAt (itmD y) 3) = y.2.1 := rfl
      have h3 : D.iVal (D.cAt (itmD y) 0) = y.1.1 := rfl
      rw [hs, h3]
      refine oblI hin (oblI hln (oblI (isIt _) ⟨[120], y.1.1, y.1.2.1, y.1.2.2, rfl, rfl, oblI hin (oblI hln (oblI (isIt _) ?_))⟩))
      unfold okC at hy
      refine condI (fun h => oblI hin (oblI hln (oblI (isIt _) (condF ?_ (oblP ⟨by omega, by omega⟩ ⟨(x.length - (k + 1)).toNat, by omega, k + 1, rfl, ⟨hm, ho, by omega⟩, rfl⟩))))) fun h => oblI hin (oblI hln (oblI (isIt _) (oblP ?_ (condF ?_ (oblP ⟨by omega, by omega⟩ ⟨(x.length - (k + 1)).toNat, by omega, k + 1, rfl, ⟨hm, ho, by omega⟩, rfl⟩)))))
      · have h' : y.1.1 = a := by simpa using h
        rw [hy, if_pos h']
        rfl
      · have := clash_fst [120] y.1.1 y.1.2.1 y.1.2.2
        omega
      · have h' : ¬ y.1.1 = a := by simpa using h
        rw [hy, if_neg h']
        simp)
    (by
      rintro s post ⟨x, n, a, rfl, ⟨rfl, hm, ho⟩, hp⟩
      exact ⟨(x, a), 0, rfl, ⟨hm, ho, by simp⟩, fun y hy => by rw [hy]; exact hp⟩)
end
section
variable {X : XF} (hX : XT X)
include hX
def hLawTC : KF1 := fun ps R post => ∃ s : List UInt8, ps = [idsB s] ∧ R = [] ∧ post (.d (.bool true), [])
theorem okLawTC : FD X 9 hLawTC := FD.mk (H := [(10, hAwake15), (12, hItems), (16, hSettled), (25, hRightId)]) (hk := [(8, loopHook (kpF 9 8) gClF), (19, loopHook (kpF 9 19) gClK)]) (by kernel_rfl) (.cons (okAwake15 hX) (.cons (okItems hX) (.cons okSettled (.cons okRightIdR .nil)))) (.cons loopClF (.cons loopClK .nil)) (by
  intro ps R post hh
  obtain ⟨s, rfl, rfl, hp⟩ := hh
  rw [← vcClB]
  refine ⟨rfl, rfl, s, rfl, ?_⟩
  rintro _ _ _ _ _ ⟨L, hn, hr, hl, rfl, rfl, rfl, rfl, rfl⟩
  refine ⟨L.map plC, L.map idC, by rw [List.take_of_length_le (by simp), List.take_of_length_le (by simp)], rfl, ⟨by simp; omega, by simp; omega⟩, ?_⟩
  rw [tkL_C hn hr]
  have hlen := itemsC_len hn hr
  have hst := settled_C hn hr
  have hmem := fun y => itemsC_mem hn hr (y := y)
  generalize itemsX (L.map plC) (lvL (L.map idC)) = x at hlen hst hmem
  refine condF (by rw [hlen]; simp) ⟨x, _, _, rfl, ⟨rfl, by omega, fun y hy => ?_⟩, x, by rw [it_take], rfl, by omega, condT (by rw [hst, hlen]; simp) ?_⟩
  · obtain ⟨t, ht, rfl⟩ := (hmem y).1 hy
    rfl
  · refine condI (fun _ => hp) fun h0 => ?_
    have hpos : 0 < x.length := by
      have : x.length ≠ 0 := by simpa using h0
      omega
    rw [it_nth hpos it0]
    obtain ⟨t, ht, he⟩ := (hmem _).1 (List.mem_of_getElem? (getD_some hpos it0))
    rw [he]
    refine oblP ⟨by omega, by omega⟩ (oblI (decT (by rw [List.length_map]; exact hpos)) (oblI (isIt _) ⟨t, 1, 0, rfl, rfl, leafBc hp ?_⟩))
    unfold rightId
    have := hr t ht
    rw [eq_comm, decide_eq_true_eq]
    omega)
end
theorem fitB8 {m : Nat} {x : D} (h : FitE PR (m + 1) 5 x) : ∃ b, x = bD b := by
  obtain ⟨n, rfl, hw⟩ := fitE_int Tryz.underlying5 h
  have hb : 0 ≤ n ∧ n ≤ 255 := by
    have h1 : IntKind.min .u8 = 0 := by decide
    have h2 : IntKind.max .u8 = 255 := by decide
    replace hw : (decide (IntKind.min .u8 ≤ n) && decide (n ≤ IntKind.max .u8)) = true := hw
    rw [h1, h2, Bool.and_eq_true, decide_eq_true_eq, decide_eq_true_eq] at hw
    exact hw
  refine ⟨UInt8.ofNat n.toNat, ?_⟩
  show D.int .u8 n = D.int .u8 _
  have : ((UInt8.ofNat n.toNat).toNat : Int) = n := by
    rw [UInt8.toNat_ofNat']
    omega
  rw [this]
theorem fitBs {m : Nat} {x : D} (h : FitE PR (m + 2) 33 x) : ∃ l : List UInt8, x = .sl 1 (l.map bD) := by
  obtain ⟨es, rfl, _, hy⟩ := fitE_slice (k := 1) Tryz.underlying33 (by kernel_rfl) h
  obtain ⟨l, rfl⟩ := fit_list bD _ (fun y hy => fitB8 hy) es hy
  exact ⟨l, rfl⟩
theorem okClashLaw {X : XF} (hX : XT X) (xs : List D) (h : FitAll PR 8 [33] xs) : ∃ lf k R, runF PR (kpT X) lf k 9 (xs.map P.d) [] = some (.d (.bool true), R) := by
  obtain ⟨x, r, rfl, hx, h⟩ := fitAll_cons h
  have e := fitAll_nil h
  subst e
  obtain ⟨s, rfl⟩ := fitBs hx
  obtain ⟨lf, k, hr⟩ := (okLawTC hX).run (y := (.d (.bool true), [])) ⟨s, rfl, rfl, rfl⟩
  exact ⟨lf, k, [], hr⟩
theorem okClashLawX (xs : List D) (h : FitAll PR 8 [33] xs) : ∃ lf k R, runF PR (kpT xTree) lf k 9 (xs.map P.d) [] = some (.d (.bool true), R) := okClashLaw xTree_t xs h
end Pi

